/-
  The walk of LayoutTurns. Helper text; no statement is proved here.
-/
import Derived.Test.YtgedclbfednhlaaLayAwake
import Derived.Test.YtgedclbfednhlaaLayPlain
import Derived.Test.YtgedclbfednhlaaOpens
import Derived.OwnWalk
set_option linter.unusedVariables false
set_option linter.unusedSimpArgs false
namespace Go.Proofs.Ytgedclbfednhlaa.Lay
open Go.RowKit Go.Proofs.Ytgedclbfednhlaa.Base Go.Proofs.Ytgedclbfednhlaa.Laws Go.Proofs.Ytgedclbfednhlaa.Inv
theorem places_len (d c st off : Int) (n : Nat) : (placesTo d c st off n).length = 2 * n := by
  induction n with
  | zero => rfl
  | succ n ih => rw [places_succ, List.length_append, ih]; simp; omega
theorem places_get (d c st off : Int) (n k : Nat) (h : k < n) : (placesTo d c st off n)[2 * k]? = some (Value.int .i64 ((fst d st + k) % d)) ∧ (placesTo d c st off n)[2 * k + 1]? = some (Value.int .i64 (st * c + off)) := by
  induction n with
  | zero => omega
  | succ n ih =>
    have hl := places_len d c st off n
    rw [places_succ]
    by_cases e : k < n
    · rw [List.getElem?_append_left (by omega), List.getElem?_append_left (by omega)]
      exact ih e
    · obtain rfl : k = n := by omega
      rw [List.getElem?_append_right (by omega), List.getElem?_append_right (by omega), hl, Nat.sub_self, Nat.add_sub_cancel_left]
      exact ⟨rfl, rfl⟩
/-- a row of places lies at block g -/
def RowAt (w : World) (g : Nat) (d c st off : Int) : Prop := g < w.heap.size ∧ ∀ q : Nat, q < d.toNat → w.cell? ⟨g, q * 2, none⟩ = some (.int .i64 ((fst d st + q) % d)) ∧ w.cell? ⟨g, q * 2 + 1, none⟩ = some (.int .i64 (st * c + off))
theorem RowAt.below {w w' : World} {g : Nat} {d c st off : Int} (h : RowAt w g d c st off) {B : Nat} (hb : Below B w w') (hg : g < B) (hs : w.heap.size ≤ w'.heap.size) : RowAt w' g d c st off := by
  refine ⟨Nat.lt_of_lt_of_le h.1 hs, fun q hq => ?_⟩
  have := h.2 q hq
  rw [hb.cell (p := ⟨g, q * 2, none⟩) hg, hb.cell (p := ⟨g, q * 2 + 1, none⟩) hg]
  exact this
theorem row_at {w : World} {base : Nat} {v : Value} {d c st off : Int} (hd : 0 < d) (h : w.ownsRow base 27 2 v d.toNat (placesTo d c st off d.toNat)) : ∃ g cap, v = .slice (some ⟨g, 0, none⟩) d.toNat cap ∧ d.toNat ≤ cap ∧ cap ≤ maxLen ∧ base ≤ g ∧ RowAt w g d c st off := by
  have hlt := h.lt
  obtain ⟨a, cap, rfl, h1, h2, h3⟩ := own_slice h (by decide)
  rcases h3 with h3 | ⟨g, rfl, hb, hc⟩
  · omega
  · refine ⟨g, cap, rfl, h1, h2, hb, (hlt g rfl).2, fun q hq => ?_⟩
    have e := places_get d c st off d.toNat q hq
    have e1 := hc _ _ e.1
    have e2 := hc _ _ e.2
    rw [show 0 + 2 * q = q * 2 from by omega] at e1
    rw [show 0 + (2 * q + 1) = q * 2 + 1 from by omega] at e2
    exact ⟨e1, e2⟩
theorem own_blk {w : World} {base : Nat} {e : TypeId} {g n : Nat} {xs : List Value} (h : w.ownsRow base e 1 (.slice (some ⟨g, 0, none⟩) n n) n xs) : Blk w g xs e := by
  obtain ⟨_, h2⟩ := h
  rcases h2 with ⟨h2, _⟩ | ⟨g', cap, cur, he, hb, hg, hn, hc, hs, ht⟩
  · cases h2
  · simp only [Value.slice.injEq, Option.some.injEq, Addr.mk.injEq] at he
    obtain ⟨⟨rfl, _, _⟩, _, rfl⟩ := he
    unfold Blk
    rw [hg]
    rw [List.take_of_length_le (by rw [Array.length_toList]; omega)] at ht
    rw [← ht]
theorem info_bool : (Try.prog.info? 4).map (fun i => (i.zero, i.size, i.bytes)) = some (some (.bool false), 1, 1) := by kernel_rfl
set_option maxRecDepth 4000 in
set_option maxHeartbeats 2000000 in
theorem turns_walk (d c s st off : Int) (h0 : -9223372036854775808 ≤ st) (h1 : st ≤ 9223372036854775807) (w : World) : Calls Try.prog 5 #[.agg (geo d c s).toArray, .int .i64 st, .int .i64 off] w fun e w' => e = .returned (.bool true) ∧ Below w.heap.size w w' := by
  have HA := Lib.hid awake_any
  have HB0 := Lib.hid (blk_at (w := w) (cs := geo d c s) (t := 23) rfl rfl)
  obtain ⟨l, hl⟩ : ∃ l, l = geo d c s := ⟨_, rfl⟩
  have hl3 : l.length = 3 := by rw [hl]; rfl
  have HL := Lib.hid hl
  have HN := Lib.hid (fun (h : ¬ Sound d c s) w => hl ▸ row_no (st := st) (off := off) h w : ¬ Sound d c s → ∀ w, Calls Try.prog 18 #[.agg l.toArray, .int .i64 st, .int .i64 off] w fun e w' => e = .returned (.tuple #[.slice none 0 0, .int .i64 1]) ∧ Below w.heap.size w w')
  have HR := Lib.hid (fun (h : Sound d c s) st hr w => hl ▸ row_far (st := st) (off := off) h hr w : Sound d c s → ∀ st, ¬ InRow c s st off → ∀ w, Calls Try.prog 18 #[.agg l.toArray, .int .i64 st, .int .i64 off] w fun e w' => e = .returned (.tuple #[.slice none 0 0, .int .i64 2]) ∧ Below w.heap.size w w')
  have HY := Lib.hid (fun (h : Sound d c s) st hr w => hl ▸ row_yes (st := st) (off := off) h hr w : Sound d c s → ∀ st, InRow c s st off → ∀ w, Calls Try.prog 18 #[.agg l.toArray, .int .i64 st, .int .i64 off] w fun e w' => ∃ v, e = .returned (.tuple #[v, .int .i64 0]) ∧ w'.ownsRow w.heap.size 27 2 v d.toNat (placesTo d c st off d.toNat) ∧ Below w.heap.size w w')
  rw [← hl] at HB0 ⊢
  clear hl
  go_enter Try.func5, Try.ntmps5
  go_wp2_with fail
  refine (HA.out _).mono ?_
  rintro e w1 ⟨rfl, hb1⟩
  have B1 := Lib.hid (HB0.out.below hb1 (by simp only [size_alloc]; omega))
  have L1 := Lib.hid (((Below.refl _ _).alloc (Nat.le_refl _) _).trans (hb1.mono (by simp only [size_alloc]; omega)) : Below w.heap.size w w1)
  clear hb1
  go_wp2_with (first | (refine wpList_load_blk rfl 23 _ rfl w.heap.size 0 3 rfl 23 l _ B1.out Try.underlying23 rfl (by kernel_rfl) (by rw [hl3]; omega) l (by rw [List.drop_zero, List.take_of_length_le (by rw [hl3]; omega)]) ?_))
  by_cases hs : Sound d c s
  · by_cases hr : InRow c s st off
    · obtain ⟨i, hi, hz0, hz1, hz2⟩ := info_parts info_bool
      refine (HY.out hs st hr _).mono ?_
      rintro e w2 ⟨v, rfl, hown, hb2⟩
      have g1 := hs.1.1
      have g2 := hs.1.2
      have g3 := hs.2.1.1
      have g4 := hs.2.1.2
      have g5 := hs.2.2.1
      have g6 := hs.2.2.2
      have r0 := hr.1.1
      have r1 := hr.1.2
      have o0 := hr.2.1
      have o1 := hr.2.2
      have HSd := Lib.hid hs
      have HIR := Lib.hid hr
      obtain ⟨g, cap, rfl, hc1, hc2, hbg, hrow⟩ := row_at (by omega) hown
      unfold maxLen at hc2
      have L2 := Lib.hid (L1.out.trans (hb2.mono L1.out.size))
      have B2 := Lib.hid (B1.out.below hb2 B1.out.lt)
      have R2 := Lib.hid hrow
      have hgl := hrow.1
      have hwg : w.heap.size < w1.heap.size := B1.out.lt
      have hwl : w.heap.size < w2.heap.size := B2.out.lt
      clear hb2 hown hrow hs hr
      have hdd : ((d.toNat : Nat) : Int) = d := by omega
      obtain ⟨n, hn⟩ : ∃ n, n = d.toNat := ⟨_, rfl⟩
      rw [← hn] at hdd hc1 ⊢
      go_wp2_with (first | (at_make; refine wpList_make_full _ rfl _ _ 40 rfl w2.heap.size 4 i (.bool false) 1 Try.underlying40 hi hz0 hz1 .i64 .i64 _ _ 32 rfl rfl rfl rfl (by rw [hz2]; omega) (by unfold maxLen; omega) (Nat.le_refl _) ?_))
      intro w3 hown3 hgr3
      rw [show (madeCells #[Value.bool false] 32).toList = (List.replicate 32 false).map Value.bool from by rw [List.map_replicate]; exact toList_madeCells_one _ _] at hown3
      have S3 := Lib.hid (own_blk hown3)
      have hb3 : Below w2.heap.size w2 w3 := (Below.refl _ _).grown hgr3 (Nat.le_refl _) (fun k hk => by cases hk)
      have L3 := Lib.hid (L2.out.trans (hb3.mono L2.out.size))
      have B3 := Lib.hid (B2.out.below hb3 B2.out.lt)
      have R3 := Lib.hid (R2.out.below hb3 R2.out.1 hb3.size)
      obtain ⟨gs, hgs⟩ : ∃ gs, gs = w2.heap.size := ⟨_, rfl⟩
      rw [← hgs] at S3 hgl hwl ⊢
      clear hb3 hown3 hgr3 hgs B1 B2 R2 L1 L2 HB0 hz0 hz1 hz2 hi
      have NX := Lib.hid (fun k : Nat => mod_bd (fst d st + k) (show 0 < d by omega))
      go_wp2
      go_loopw [10, 11] (fun x y wr => ∃ (k : Nat) (sl : List Bool), k ≤ n ∧ x = .int .i64 k ∧ Seen d st k sl ∧ Blk wr gs (sl.map Value.bool) 4 ∧ Blk wr w.heap.size l 23 ∧ RowAt wr g d c st off ∧ Below w.heap.size w wr) (fun x _ _ => n - (intOf x).toNat)
      case atStart => exact ⟨0, _, by omega, rfl, seen_zero d st, S3.out, B3.out, R3.out, L3.out⟩
      case round =>
        obtain ⟨k, sl, hk, rfl, hseen, bs, bg, rw_, hb⟩ := hrel
        clear S3 B3 R3 L3
        have S3 := Lib.hid bs
        have B3 := Lib.hid bg
        have R3 := Lib.hid rw_
        have L3 := Lib.hid hb
        have SN := Lib.hid hseen
        clear bs bg rw_ hb hseen
        have cell0 : wr.cell? ⟨w.heap.size, 0, none⟩ = some (Value.int .i64 d) := by rw [B3.out.cell, HL.out]; rfl
        have cell1 : wr.cell? ⟨w.heap.size, 1, none⟩ = some (Value.int .i64 c) := by rw [B3.out.cell, HL.out]; rfl
        by_cases hkn : k < n
        · have hm := NX.out k
          obtain ⟨q, hq⟩ : ∃ q : Nat, (q : Int) = (fst d st + k) % d := ⟨((fst d st + k) % d).toNat, by omega⟩
          have hr2 := R3.out.2 k (hn ▸ hkn)
          rw [← hq] at hm hr2
          have rc0 := hr2.1
          have rc1 := hr2.2
          have hqs : sl.getD q false = false := by
            cases e : sl.getD q false with
            | false => rfl
            | true =>
              obtain ⟨j, hj, hqj⟩ := SN.out.2 q e
              have := disk_inj (r := st) (i := k) (j := j) g1 (by omega) (by omega) (by omega) (by omega) (by rw [← hqj, hq])
              omega
          have hlen := SN.out.1
          have hsc : wr.cell? ⟨gs, q, none⟩ = some (Value.bool false) := by
            rw [S3.out.cell, List.getElem?_map, List.getElem?_eq_getElem (by omega)]
            have : sl[q]'(by omega) = false := by
              rw [List.getD_eq_getElem?_getD, List.getElem?_eq_getElem (by omega)] at hqs
              exact hqs
            rw [this]
            rfl
          have hsf := S3.out.frozen q
          have m0 : 0 ≤ st * c := Int.mul_nonneg r0 (by omega)
          have m1 : st * c ≤ 63 * 8 := Int.mul_le_mul (by omega) g4 (by omega) (by omega)
          have w1' : IntKind.i64.wrap (st * c) = st * c := w64 (by omega) (by omega)
          have w2' : IntKind.i64.wrap (st * c + off) = st * c + off := w64 (by omega) (by omega)
          have HQ := Lib.hid hq
          clear hr2 hq hqs
          have f1 : ¬ ((q : Int) < 0) := by omega
          have f2 : ¬ (d ≤ (q : Int)) := by omega
          have f3 : (q : Int) < 32 := by omega
          have f4 : (k : Int) < (n : Int) := by omega
          have f5 : q < 32 := by omega
          go_wp2
          go_quiet (fail)
          go_wp2
          go_roundw
          case rel =>
            have sn := seen_next SN.out (show 0 < d by omega)
            rw [← HQ.out, Int.toNat_natCast] at sn
            have s3 := (S3.out.drewN nq).setCell q (Value.bool true)
            rw [← List.map_set] at s3
            exact ⟨k + 1, sl.set q true, by omega, by go_num, sn, s3, (B3.out.drewN _).setCell_far (by omega) _ _, R3.out.below (B := gs) ((below_drewN (Below.refl gs wr) _).setCell (Nat.le_refl _) _) hgl (by simp), (below_drewN L3.out _).setCell (by simp only []; omega) _⟩
          case measure => simp [intOf]; omega
        · obtain rfl : k = n := by omega
          have m0 : 0 ≤ st * c := Int.mul_nonneg r0 (by omega)
          have gw := R3.out.1
          go_wp2_with (first | (refine wpList_load_blk rfl 23 _ rfl w.heap.size 0 3 rfl 23 l _ B3.out Try.underlying23 rfl (by kernel_rfl) (by rw [hl3]; omega) l (by rw [List.drop_zero, List.take_of_length_le (by rw [hl3]; omega)]) ?_))
          by_cases hst : st + 1 < s
          · refine (HY.out HSd.out (st + 1) ⟨⟨by omega, hst⟩, o0, o1⟩ _).mono ?_
            rintro e w5 ⟨v, rfl, hown, hb5⟩
            obtain ⟨g', cap', rfl, hc1', hc2', hbg', hrow'⟩ := row_at (by omega) hown
            unfold maxLen at hc2'
            rw [← hn] at hc1' ⊢
            have R5 := Lib.hid (R3.out.below hb5 gw hb5.size)
            have R6 := Lib.hid hrow'
            have B5 := Lib.hid (B3.out.below hb5 B3.out.lt)
            have L5 := Lib.hid (L3.out.trans (hb5.mono L3.out.size))
            clear hb5 hown hrow' S3 B3 R3 L3 SN cell0 cell1 m0
            go_wp2
            go_loopw [13] (fun x wr => ∃ k : Nat, (k : Int) ≤ d ∧ x = .int .i64 k ∧ Blk wr w.heap.size l 23 ∧ RowAt wr g d c st off ∧ RowAt wr g' d c (st + 1) off ∧ Below w.heap.size w wr) (fun x _ => (d - intOf x).toNat)
            case atStart => exact ⟨0, by omega, rfl, B5.out, R5.out, R6.out, L5.out⟩
            case round =>
              obtain ⟨j, hj, rfl, b5, r5, r6, l5⟩ := hrel
              clear B5 R5 R6 L5
              have cell0 : wr.cell? ⟨w.heap.size, 0, none⟩ = some (Value.int .i64 d) := by rw [b5.cell, HL.out]; rfl
              have B5 := Lib.hid b5
              have R5 := Lib.hid r5
              have R6 := Lib.hid r6
              have L5 := Lib.hid l5
              clear b5 r5 r6 l5
              have hdt : ((d.toNat : Nat) : Int) = d := by omega
              by_cases hjd : (j : Int) < d
              · have a1 := (R5.out.2 j (by omega)).1
                have a2 := (R6.out.2 j (by omega)).1
                have hm := NX.out j
                have hm2 := mod_bd (fst d (st + 1) + j) (show 0 < d by omega)
                have hnx := next_disk (d := d) (r := st) (i := j) g1 (by omega) (by omega)
                obtain ⟨q, hq⟩ : ∃ q : Nat, (q : Int) = (fst d st + j) % d := ⟨((fst d st + j) % d).toNat, by omega⟩
                obtain ⟨q', hq'⟩ : ∃ q : Nat, (q : Int) = (fst d (st + 1) + j) % d := ⟨((fst d (st + 1) + j) % d).toNat, by omega⟩
                rw [← hq] at a1 hm hnx
                rw [← hq'] at a2 hm2 hnx
                have w1' : IntKind.i64.wrap ((q : Int) + d) = q + d := w64 (by omega) (by omega)
                have w2' : IntKind.i64.wrap ((q : Int) + d - 1) = q + d - 1 := w64 (by omega) (by omega)
                have w3' : Int.tmod ((q : Int) + d - 1) d = (q' : Int) := by rw [Int.tmod_eq_emod_of_nonneg (by omega), hnx]
                have f1 : ¬ d = 0 := by omega
                have f2 : (j : Int) < ((d.toNat : Nat) : Int) := by omega
                have f3 : j < d.toNat := by omega
                have f4 : (j : Int) < (k : Int) := by omega
                have f5 : j < k := by omega
                clear hq hq' hnx
                go_wp2
                go_quiet (fail)
                go_wp2
                go_roundw
                case rel => exact ⟨j + 1, by omega, by go_num, B5.out.drewN _, R5.out.below (B := wr.heap.size) (below_drewN (Below.refl _ wr) _) R5.out.1 (by simp), R6.out.below (B := wr.heap.size) (below_drewN (Below.refl _ wr) _) R6.out.1 (by simp), below_drewN L5.out _⟩
                case measure => simp [intOf]; omega
              · have hje : (j : Int) = d := by omega
                go_wp2
                go_ret
                exact ⟨ret_bool (by simp; try omega), L5.out⟩
          · refine (HR.out HSd.out (st + 1) (fun e => hst e.1.2) _).mono ?_
            rintro e w5 ⟨rfl, hb5⟩
            have B5 := Lib.hid (B3.out.below hb5 B3.out.lt)
            have L5 := Lib.hid (L3.out.trans (hb5.mono L3.out.size))
            have c0 : w5.cell? ⟨w.heap.size, 0, none⟩ = some (Value.int .i64 d) := by rw [B5.out.cell, HL.out]; rfl
            have c2 : w5.cell? ⟨w.heap.size, 2, none⟩ = some (Value.int .i64 s) := by rw [B5.out.cell, HL.out]; rfl
            clear hb5 S3 B3 R3 L3 SN cell0 cell1 m0
            go_wp2
            go_ret
            exact ⟨ret_bool (by simp; omega), L5.out⟩
    · refine (HR.out hs st hr _).mono ?_
      rintro e w2 ⟨rfl, hb2⟩
      have L2 := Lib.hid (L1.out.trans (hb2.mono L1.out.size))
      clear hb2
      go_wp2
      go_ret
      exact ⟨rfl, L2.out⟩
  · refine (HN.out hs _).mono ?_
    rintro e w2 ⟨rfl, hb2⟩
    have L2 := Lib.hid (L1.out.trans (hb2.mono L1.out.size))
    clear hb2
    go_wp2
    go_ret
    exact ⟨rfl, L2.out⟩
section
variable {H : Type} {enc : TypeId × Value → H} {base : Nat} {spare : Nat → Bool} {held : Bool} {W : World}
theorem turns_in (c : List Value) (hc : c.length = 3) (f : Opens.Fits enc Try.prog W base spare held [.int .i64, .int .i64, .int .i64] c) (x : Int) (hx : (Lit.int .i64 x).wf = true) (y : Int) (hy : (Lit.int .i64 y).wf = true) :
    Calls Try.prog 5 #[.agg c.toArray, .int .i64 x, .int .i64 y] W fun e w' => e = .returned (.bool true) ∧ Below W.heap.size W w' := by
  obtain ⟨d, c1, rfl, _, f⟩ := f.int
  obtain ⟨k, c2, rfl, _, f⟩ := f.int
  obtain ⟨s, c3, rfl, _, f⟩ := f.int
  obtain rfl : c3 = [] := List.eq_nil_of_length_eq_zero (by simpa using hc)
  have hb := Opens.wf_i64 hx
  exact turns_walk d k s x y hb.1 hb.2 W
end
end Go.Proofs.Ytgedclbfednhlaa.Lay
