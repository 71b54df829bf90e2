/-
  The walk of the statement on what a cut keeps. Helper text; no statement is proved here.
-/
import Derived.Test.YtobblbplanimgaaNvK
set_option linter.unusedVariables false
set_option maxRecDepth 20000
set_option linter.unusedSimpArgs false
namespace Go.Proofs.Ytobblbplanimgaa.Nvram
open Go.RowKit Go.Proofs.Ytobblbplanimgaa.Base Go.Proofs.Ytobblbplanimgaa.Laws Go.Proofs.Ytobblbplanimgaa.Disk Go.Proofs.Ytobblbplanimgaa.Row Go.Proofs.Ytobblbplanimgaa.Codec Go.Proofs.Ytobblbplanimgaa.InvL Go.Proofs.Ytobblbplanimgaa.InvM
/-- the power and what stands behind the whole records: k of them, a cut at q -/
def Phase (q k : Nat) (p : Pow) (t : List UInt8) : Prop := (p = ⟨false, q + 1 - k, k⟩ ∧ k ≤ q ∧ t = []) ∨ (p = ⟨true, 0, q⟩ ∧ k = q ∧ Tail t)
theorem kstep {q k : Nat} (h : k < q) : Pow.step ⟨false, q + 1 - k, k⟩ = (true, ⟨false, q + 1 - (k + 1), k + 1⟩) := by
  unfold Pow.step
  simp only [Bool.false_eq_true, if_false]
  rw [if_neg (by omega), if_neg (by omega), show q + 1 - k - 1 = q + 1 - (k + 1) from by omega]
theorem kok {o : Bool} {l T : Nat} (hl : l ≤ 1000000) (hT : T ≤ 1000000) : Pow.Ok ⟨o, l, T⟩ := ⟨by show l ≤ _; omega, by show T ≤ _; omega⟩
/-- what holds at the head of a round -/
def KI (W : World) (br bm gm q : Nat) (more : Rc) (vk : Value) (wr : World) : Prop :=
  ∃ v p kept t k, kept.length = k ∧ RamAt wr br bm 65536 v (laidAll kept ++ t) ∧ PowAt wr bm p ∧ Phase q k p t ∧ (∀ r ∈ kept, r.Valid ∧ r.Good) ∧ wr.ownsRow (br + 1) 27 19 vk k (rv kept) ∧ Apart v vk ∧ Blk wr gm more.cells 27 ∧ Below W.heap.size W wr
set_option maxHeartbeats 4000000 in
theorem keeps_walk (a : Option Addr) (len cap : Nat) (l : List Rc) (q : Nat) (hq : q < 256) (more : Rc) (hmore : more.Valid) (w : World) (h : Recs w a len cap l) :
    Calls Try.prog 3 #[.slice a len cap, .int .u8 (q : Int), .agg more.cells.toArray] w fun e w' => e = .returned (.bool true) ∧ Below w.heap.size w w' := by
  have hl := h.1
  have hm := h.2.1
  have hm2 := h.2.2.1
  unfold maxLen at hm2
  have H0 := Lib.hid h
  have HL := Lib.hid hl
  have HV := Lib.hid h.2.2.2.1
  have q0 : (0 : Int) ≤ (q : Int) := by omega
  have q1 : (q : Int) < 256 := by omega
  have Z0 := Lib.hid (blk_at (w := w) (g := w.heap.size) (cs := more.cells) (t := 27) (arr := more.cells.toArray) rfl rfl)
  have m19 := Lib.hid (Rc.len hmore)
  have HM := Lib.hid hmore
  clear h hl hmore
  go_enter Try.func3, Try.ntmps3
  go_upto_region 1 with (fail)
  obtain ⟨w0, hw0⟩ : ∃ w0, w0 = w.alloc (.cells more.cells.toArray 27) := ⟨_, rfl⟩
  have B0 := Lib.hid (show Below w.heap.size w w0 from hw0 ▸ (Below.refl _ _).alloc (Nat.le_refl _) _)
  have hs0 : w.heap.size < w0.heap.size := by rw [hw0]; simp
  rw [← hw0] at Z0 ⊢
  clear hw0
  obtain ⟨gm, hgm⟩ : ∃ g, g = w.heap.size := ⟨_, rfl⟩
  rw [← hgm] at Z0
  have HGM := Lib.hid hgm
  have hgm0 : gm < w0.heap.size := by omega
  have hgmw : w.heap.size ≤ gm := by omega
  rw [← hgm]
  clear hgm
  go_wp2_with fail
  refine (awake_any w0).mono ?_
  rintro e w1 ⟨rfl, b1⟩
  have B1 := Lib.hid (B0.out.trans (b1.mono (by omega)))
  have Z1 := Lib.hid (Z0.out.below b1 (by omega))
  have hs1 := b1.size
  clear b1 B0 Z0
  go_wp2_with fail
  refine (newmains w1).mono ?_
  rintro e w2 ⟨rfl, p2, b2, z2⟩
  have NW := Lib.hid (new_at p2 65536 (by decide) (by decide) 65536 rfl)
  have P2 := Lib.hid p2
  have B2 := Lib.hid (B1.out.trans (b2.mono (by omega)))
  have Z2 := Lib.hid (Z1.out.below b2 (by omega))
  have hs2 : w1.heap.size < w2.heap.size := by omega
  clear p2 b2 z2 Z1 B1
  go_wp2_with fail
  refine NW.out.mono ?_
  rintro e w3 ⟨rfl, r3, b3, z3⟩
  have P3 := P2.out.only (Only.of_below (S := []) b3) (by simp)
  have C4 := Lib.hid (cut_on P3 q (q : Int) rfl (by omega))
  have R3 := Lib.hid r3
  have B3 := Lib.hid (B2.out.trans (b3.mono (by omega)))
  have Z3 := Lib.hid (Z2.out.below b3 (by omega))
  have hs3 : w2.heap.size < w3.heap.size := by omega
  clear r3 P3 b3 z3 NW P2 B2 Z2
  obtain ⟨bm, hbm⟩ : ∃ g, g = w1.heap.size := ⟨_, rfl⟩
  obtain ⟨br, hbr⟩ : ∃ g, g = w2.heap.size := ⟨_, rfl⟩
  rw [← hbm] at C4 R3 hs2 hs1 ⊢
  rw [← hbr] at R3 hs2 hs3 ⊢
  have hgb : gm < bm := by omega
  have hbb : bm < br := by omega
  clear hbm hbr
  go_wp2_with fail
  refine C4.out.mono ?_
  rintro e w4 ⟨rfl, p4, o4⟩
  have P4 := Lib.hid p4
  have R4 := Lib.hid (R3.out.only o4 (by simp; omega) (fun g hg => by cases hg))
  have Z4 := Lib.hid (Z3.out.only o4 (by simp; omega))
  have B4 := Lib.hid (B3.out.trans (o4.below (by omega) (by simp; omega)))
  have hs4 := o4.size
  clear p4 o4 C4 R3 B3 Z3
  go_wp2_with fail
  have M5 := Lib.hid (World.ownsRow_made (e := 27) (size := 19) (base := br + 1) w4 #[] 0 (by have := R4.out.head.lt; omega) (Nat.zero_le _) rfl)
  have b4' : Below w4.heap.size w4 (w4.alloc (.cells #[] 27)) := (Below.refl _ _).alloc (Nat.le_refl _) _
  have KI0 := Lib.hid (show KI w br bm gm q more (.slice (some ⟨w4.heap.size, 0, none⟩) 0 0) (w4.alloc (.cells #[] 27)) from ⟨_, _, [], [], 0, rfl, R4.out.below b4', P4.out.only (Only.of_below (S := []) b4') (by simp), .inl ⟨rfl, Nat.zero_le _, rfl⟩, by simp, M5.out, (fun g hg => by cases hg), Z4.out.below b4' (by omega), B4.out.trans (b4'.mono (by omega))⟩)
  clear b4' M5 R4 P4 Z4 B4
  go_loopw [10, 11] (fun vk j wr => ∃ i : Nat, i ≤ len ∧ i ≤ 1000 ∧ j = .int .i64 i ∧ KI w br bm gm q more vk wr) (fun _ j _ => 1000 - (intOf j).toNat)
  case atStart => exact ⟨0, by omega, by omega, rfl, KI0.out⟩
  case round =>
    obtain ⟨i, hi, hi1000, rfl, v, p, kept, t, k, hk, hr, hp, hph, hkv, hko, hap, hz, hb⟩ := hrel
    obtain ⟨wo, rfl⟩ : ∃ wo : World, wo = wr := ⟨_, rfl⟩
    obtain ⟨vk, rfl⟩ : ∃ vk : Value, vk = u10 := ⟨_, rfl⟩
    have HR := Lib.hid hr
    have HP := Lib.hid hp
    have HPH := Lib.hid hph
    have HKV := Lib.hid hkv
    have HKO := Lib.hid hko
    have HAP := Lib.hid hap
    have HZ := Lib.hid hz
    have HB := Lib.hid hb
    have HK := Lib.hid hk
    have hso := hb.size
    have hbrl := hr.head.lt
    have hzl := hz.lt
    have hkq : k ≤ q := by rcases hph with ⟨_, h2, _⟩ | ⟨_, h2, _⟩ <;> omega
    have htt : Tail t := by
      rcases hph with ⟨_, _, h2⟩ | ⟨_, _, h2⟩
      · exact .inl h2
      · exact h2
    have htl := tail_len htt
    have HT := Lib.hid htt
    have hBl : (laidAll kept ++ t).length = 37 * k + t.length := by rw [List.length_append, laidAll_len (fun r hr => (hkv r hr).1), hk]
    have HBL := Lib.hid hBl
    clear hr hp hph hkv hko hap hz hb hBl htt hk
    by_cases hgo : i < len ∧ i < 1000
    · obtain ⟨hlt, hlt2⟩ := hgo
      obtain ⟨x, hx⟩ : ∃ x, l[i]? = some x := ⟨_, List.getElem?_eq_getElem (by rw [HL.out]; exact hlt)⟩
      have hxv := HV.out x (List.mem_of_getElem? hx)
      obtain ⟨ab, ao, rfl, hc⟩ := (H0.out.2.2.2.2).resolve_left (by omega)
      have HATF := Lib.hid (fun (w' : World) (hb : Below w.heap.size w w') => rec_at HV.out (fun j u hu => (hb.cell (p := ⟨ab, ao + j, none⟩) (block_lt_of_cell (hc j u hu))).trans (hc j u hu)) hx)
      have x19 := Lib.hid (Rc.len hxv)
      have HXV := Lib.hid hxv
      have i0 : (0 : Int) ≤ (i : Int) := by omega
      have i1 : (i : Int) < (len : Int) := by omega
      clear hc hx hxv
      by_cases hg : x.Good
      · rcases HPH.out with ⟨rfl, hk1, rfl⟩ | ⟨rfl, hk1, ht⟩
        · by_cases hkl : k < q
          · have AP := Lib.hid (append_yes HR.out HP.out (kok (by omega) (by omega)) HXV.out hg rfl (by have := HBL.out; omega) (by rw [kstep hkl]))
            rw [kstep hkl] at AP
            go_wp2_with (first | (refine wpList_value_g rfl (.agg x.cells.toArray) (exec_load_from rfl rfl (HATF.out _ HB.out) Try.underlying27 rfl (by kernel_rfl) x19.out) ?_))
            refine AP.out.mono ?_
            rintro e w5 ⟨rfl, v5, r5, p5, ow5, o5⟩
            have K5 := Lib.hid (own_only HKO.out o5 (row_set HR.out HKO.out HAP.out))
            have AP5 := Lib.hid (apart_after HKO.out HAP.out ow5)
            have Z5 := Lib.hid (HZ.out.only o5 (ram_set HR.out hgb))
            have B5 := Lib.hid (HB.out.trans (o5.below hso (ram_ge HR.out (by omega))))
            have R5 := Lib.hid r5
            have P5 := Lib.hid p5
            have hs5 := o5.size
            clear r5 p5 o5 ow5 AP HKO HAP HZ HR HP
            have hs5' : br + 1 ≤ w5.heap.size := by have := R5.out.head.lt; omega
            have b6 : Below w5.heap.size w5 (w5.alloc (.cells x.cells.toArray 27)) := (Below.refl _ _).alloc (Nat.le_refl _) _
            have K6 := own_only K5.out (Only.of_below (S := []) b6) (by simp)
            have R6 := R5.out.below b6
            obtain ⟨vk', w7, hr7, ho7, hg7, hv7⟩ := run_append_rec (cap := 1) (by omega) HXV.out K6 (blk_new w5 x.cells 27) (by simp; omega)
            have R7 := Lib.hid (ram_row R6 K6 AP5.out hg7)
            have P7 := Lib.hid (show PowAt w7 bm _ from low_row (P5.out.only (Only.of_below (S := []) b6) (by simp) : PowAt _ _ _) K6 (by omega) hg7)
            have Z7 := Lib.hid (low_row (Z5.out.below b6 (Z5.out.lt)) K6 (by omega) hg7)
            have B7 := Lib.hid ((B5.out.trans (b6.mono B5.out.size)).trans ((only_list hg7).below (by have := B5.out.size; simp; omega) (row_ge K6 (by omega))))
            have AP7 := Lib.hid (apart_row R6 AP5.out hv7)
            have HR7 := Lib.hid hr7
            have K7 := Lib.hid ho7
            obtain ⟨va, vcap, rfl, _, _, _⟩ := own_slice ho7 (by decide)
            clear hr7 ho7 hg7 hv7 K6 R6 b6 R5 P5 Z5 K5 AP5
            go_wp2_with (first | (refine wpList_value_g rfl (.agg x.cells.toArray) (exec_load_from rfl rfl (HATF.out _ B5.out) Try.underlying27 rfl (by kernel_rfl) x19.out) ?_) | (refine wpList_world_gg rfl _ (exec_build_one rfl rfl Try.underlying22 info_rec x19.out (by decide) (by decide)) ?_) | (refine wpList_world_gg rfl _ (exec_append _ _ rfl rfl rfl HR7.out) ?_) | (refine wpList_value_g rfl (.agg x.cells.toArray) (exec_load_from rfl rfl (HATF.out _ B7.out) Try.underlying27 rfl (by kernel_rfl) x19.out) ?_))
            refine (ok_yes hg w7).mono ?_
            rintro e w8 ⟨rfl, b8⟩
            have R8 := Lib.hid (R7.out.below b8)
            have P8 := Lib.hid (P7.out.only (Only.of_below (S := []) b8) (by simp))
            have Z8 := Lib.hid (Z7.out.below b8 (Z7.out.lt))
            have K8 := Lib.hid (own_only K7.out (Only.of_below (S := []) b8) (by simp))
            have B8 := Lib.hid (B7.out.trans (b8.mono B7.out.size))
            have ON := Lib.hid (on_at P8.out true rfl)
            clear b8 R7 P7 Z7 K7 B7 HR7
            by_cases hqk : q ≤ k + 1
            · have f1 : decide ((q : Int) ≤ (k : Int) + 1) = true := by simp; omega
              have f2 : decide (q ≤ k + 1) = true := by simp; omega
              go_wp2_with (first | (go_at_call 14; refine ON.out.mono ?_; rintro e w' ⟨rfl, rfl⟩))
              go_roundw
              case rel => exact ⟨i + 1, by omega, by omega, by go_num, _, _, kept ++ [x], [], k + 1, by simp [HK.out], by rw [laid_one, List.append_nil]; have h0 := R8.out; rw [List.append_nil] at h0; exact h0, P8.out, .inl ⟨rfl, by omega, rfl⟩, fun r hr => by rcases List.mem_append.1 hr with h1 | h1; exact HKV.out r h1; simp at h1; subst h1; exact ⟨HXV.out, hg⟩, K8.out, AP7.out, Z8.out, B8.out⟩
              case measure => simp [intOf]; omega
            · have f1 : decide ((q : Int) ≤ (k : Int) + 1) = false := by simp; omega
              have f2 : decide (q ≤ k + 1) = false := by simp; omega
              go_wp2_with fail
              go_roundw
              case rel => exact ⟨i + 1, by omega, by omega, by go_num, _, _, kept ++ [x], [], k + 1, by simp [HK.out], by rw [laid_one, List.append_nil]; have h0 := R8.out; rw [List.append_nil] at h0; exact h0, P8.out, .inl ⟨rfl, by omega, rfl⟩, fun r hr => by rcases List.mem_append.1 hr with h1 | h1; exact HKV.out r h1; simp at h1; subst h1; exact ⟨HXV.out, hg⟩, K8.out, AP7.out, Z8.out, B8.out⟩
              case measure => simp [intOf]; omega
          · obtain rfl : q = k := by omega
            have ek : Pow.step ⟨false, q + 1 - q, q⟩ = (false, ⟨true, 0, q⟩) := by rw [show q + 1 - q = 1 from by omega]; rfl
            have AP := Lib.hid (append_torn HR.out HP.out (kok (by omega) (by omega)) HXV.out hg rfl (by have := HBL.out; omega) (by rw [ek]))
            rw [ek, List.append_nil] at AP
            clear ek
            go_wp2_with (first | (refine wpList_value_g rfl (.agg x.cells.toArray) (exec_load_from rfl rfl (HATF.out _ HB.out) Try.underlying27 rfl (by kernel_rfl) x19.out) ?_))
            refine AP.out.mono ?_
            rintro e w5 ⟨rfl, v5, r5, p5, ow5, o5⟩
            have K5 := Lib.hid (own_only HKO.out o5 (row_set HR.out HKO.out HAP.out))
            have AP5 := Lib.hid (apart_after HKO.out HAP.out ow5)
            have Z5 := Lib.hid (HZ.out.only o5 (ram_set HR.out hgb))
            have B5 := Lib.hid (HB.out.trans (o5.below hso (ram_ge HR.out (by omega))))
            have R5 := Lib.hid r5
            have P5 := Lib.hid p5
            have hs5 := o5.size
            clear r5 p5 o5 ow5 AP HKO HAP HZ HR HP
            obtain ⟨ka, kc, rfl, krec⟩ := own_recs HK.out (fun r hr => (HKV.out r hr).1) K5.out
            clear krec
            go_wp2_with (first | (refine wpList_value_g rfl (.agg x.cells.toArray) (exec_load_from rfl rfl (HATF.out _ B5.out) Try.underlying27 rfl (by kernel_rfl) x19.out) ?_))
            refine (ok_yes hg w5).mono ?_
            rintro e w6 ⟨rfl, b6⟩
            have R6 := Lib.hid (R5.out.below b6)
            have P6 := Lib.hid (P5.out.only (Only.of_below (S := []) b6) (by simp))
            have Z6 := Lib.hid (Z5.out.below b6 (Z5.out.lt))
            have K6 := Lib.hid (own_only K5.out (Only.of_below (S := []) b6) (by simp))
            have B6 := Lib.hid (B5.out.trans (b6.mono B5.out.size))
            clear b6 R5 P5 Z5 K5 B5
            have ON := Lib.hid (on_at P6.out false rfl)
            have f1 : decide ((q : Int) ≤ (q : Int)) = true := by simp
            have f2 : decide (q ≤ q) = true := by simp
            go_wp2_with (first | (go_at_call 14; refine ON.out.mono ?_; rintro e w' ⟨rfl, rfl⟩))
            go_roundw
            case rel => exact ⟨i + 1, by omega, by omega, by go_num, _, _, kept, _, q, HK.out, R6.out, P6.out, .inr ⟨rfl, rfl, .inr ⟨x, HXV.out, hg, rfl⟩⟩, HKV.out, K6.out, AP5.out, Z6.out, B6.out⟩
            case measure => simp [intOf]; omega
        · have AP := Lib.hid (append_off HR.out HP.out HXV.out hg rfl)
          have HK1 := Lib.hid hk1
          have hqk2 : q ≤ k := by omega
          clear hk1
          go_wp2_with (first | (refine wpList_value_g rfl (.agg x.cells.toArray) (exec_load_from rfl rfl (HATF.out _ HB.out) Try.underlying27 rfl (by kernel_rfl) x19.out) ?_))
          refine AP.out.mono ?_
          rintro e w5 ⟨rfl, b5⟩
          have R5 := Lib.hid (HR.out.below b5)
          have P5 := Lib.hid (HP.out.only (Only.of_below (S := []) b5) (by simp))
          have K5 := Lib.hid (own_only HKO.out (Only.of_below (S := []) b5) (by simp))
          have AP5 := HAP
          have Z5 := Lib.hid (HZ.out.below b5 hzl)
          have B5 := Lib.hid (HB.out.trans (b5.mono hso))
          have hs5 := b5.size
          clear b5 AP HKO HAP HZ HR HP
          obtain ⟨ka, kc, rfl, krec⟩ := own_recs HK.out (fun r hr => (HKV.out r hr).1) K5.out
          clear krec
          go_wp2_with (first | (refine wpList_value_g rfl (.agg x.cells.toArray) (exec_load_from rfl rfl (HATF.out _ B5.out) Try.underlying27 rfl (by kernel_rfl) x19.out) ?_))
          refine (ok_yes hg w5).mono ?_
          rintro e w6 ⟨rfl, b6⟩
          have R6 := Lib.hid (R5.out.below b6)
          have P6 := Lib.hid (P5.out.only (Only.of_below (S := []) b6) (by simp))
          have Z6 := Lib.hid (Z5.out.below b6 (Z5.out.lt))
          have K6 := Lib.hid (own_only K5.out (Only.of_below (S := []) b6) (by simp))
          have B6 := Lib.hid (B5.out.trans (b6.mono B5.out.size))
          clear b6 R5 P5 Z5 K5 B5
          have ON := Lib.hid (on_at P6.out false rfl)
          have f1 : decide ((q : Int) ≤ (k : Int)) = true := by simp; omega
          have f2 : decide (q ≤ k) = true := by simp; omega
          go_wp2_with (first | (go_at_call 14; refine ON.out.mono ?_; rintro e w' ⟨rfl, rfl⟩))
          go_roundw
          case rel => exact ⟨i + 1, by omega, by omega, by go_num, _, _, kept, _, k, HK.out, R6.out, P6.out, .inr ⟨rfl, HK1.out, ht⟩, HKV.out, K6.out, AP5.out, Z6.out, B6.out⟩
          case measure => simp [intOf]; omega
      · have AP := Lib.hid (append_bad HR.out HP.out HXV.out hg)
        go_wp2_with (first | (refine wpList_value_g rfl (.agg x.cells.toArray) (exec_load_from rfl rfl (HATF.out _ HB.out) Try.underlying27 rfl (by kernel_rfl) x19.out) ?_))
        refine AP.out.mono ?_
        rintro e w5 ⟨rfl, b5⟩
        have R5 := Lib.hid (HR.out.below b5)
        have P5 := Lib.hid (HP.out.only (Only.of_below (S := []) b5) (by simp))
        have K5 := Lib.hid (own_only HKO.out (Only.of_below (S := []) b5) (by simp))
        have AP5 := HAP
        have Z5 := Lib.hid (HZ.out.below b5 hzl)
        have B5 := Lib.hid (HB.out.trans (b5.mono hso))
        have hs5 := b5.size
        clear b5 AP HKO HAP HZ HR HP
        obtain ⟨ka, kc, rfl, krec⟩ := own_recs HK.out (fun r hr => (HKV.out r hr).1) K5.out
        clear krec
        go_wp2_with (first | (refine wpList_value_g rfl (.agg x.cells.toArray) (exec_load_from rfl rfl (HATF.out _ B5.out) Try.underlying27 rfl (by kernel_rfl) x19.out) ?_))
        refine (ok_no hg w5).mono ?_
        rintro e w6 ⟨rfl, b6⟩
        have R6 := Lib.hid (R5.out.below b6)
        have P6 := Lib.hid (P5.out.only (Only.of_below (S := []) b6) (by simp))
        have Z6 := Lib.hid (Z5.out.below b6 (Z5.out.lt))
        have K6 := Lib.hid (own_only K5.out (Only.of_below (S := []) b6) (by simp))
        have B6 := Lib.hid (B5.out.trans (b6.mono B5.out.size))
        clear b6 R5 P5 Z5 K5 B5
        go_wp2_with fail
        go_roundw
        case rel => exact ⟨i + 1, by omega, by omega, by go_num, _, _, kept, _, k, HK.out, R6.out, P6.out, HPH.out, HKV.out, K6.out, AP5.out, Z6.out, B6.out⟩
        case measure => simp [intOf]; omega
    · have hst2 : p.steps ≤ 1000000 := by
        rcases HPH.out with ⟨e, h2, _⟩ | ⟨e, h2, _⟩ <;> rw [e] <;> simp only <;> omega
      have h1000 : i < len → (1000 : Int) ≤ (i : Int) := fun hl => by
        have : ¬ i < 1000 := fun hh => hgo ⟨hl, hh⟩
        omega
      clear hgo HPH HBL
      by_cases hlt : i < len
      · have h1001 := h1000 hlt
        clear h1000
        have RS := Lib.hid (restore_any bm p wo HP.out)
        go_wp2_with fail
        refine RS.out.mono ?_
        rintro e w5 ⟨rfl, p5, o5⟩
        have P5 := Lib.hid p5
        have hltr := HR.out.lt
        have R5 := Lib.hid (HR.out.only o5 (by simp; omega) (fun g hg => by have := (own_lt HR.out.own hg).1; simp; omega))
        have K5 := Lib.hid (own_only HKO.out o5 (fun g hg => by have := (own_lt HKO.out hg).1; simp; omega))
        have Z5 := Lib.hid (HZ.out.only o5 (by simp; omega))
        have B5 := Lib.hid (HB.out.trans (o5.below hso (by simp; omega)))
        have RC := Lib.hid (records_any R5.out)
        have hsc := Lib.hid (scan_tail HKV.out HT.out)
        clear p5 o5 RS HR HKO HZ HB HP
        go_wp2_with fail
        refine RC.out.mono ?_
        rintro e w6 ⟨rr, rfl, ho6, b6⟩
        rw [hsc.out, HK.out] at ho6
        obtain ⟨ra, rc, rfl, rrec⟩ := own_recs HK.out (fun r hr => (HKV.out r hr).1) ho6
        have K6 := own_only K5.out (Only.of_below (S := []) b6) (by simp)
        obtain ⟨ka, kc, ek, krec⟩ := own_recs HK.out (fun r hr => (HKV.out r hr).1) K6
        subst ek
        have SR := Lib.hid (same_recs _ _ _ _ _ _ _ _ w6 rrec krec)
        rw [decide_eq_true rfl] at SR
        have R6 := Lib.hid (R5.out.below b6)
        have P6 := Lib.hid (P5.out.only (Only.of_below (S := []) b6) (by simp))
        have Z6 := Lib.hid (Z5.out.below b6 (Z5.out.lt))
        have B6 := Lib.hid (B5.out.trans (b6.mono B5.out.size))
        have HK6 := Lib.hid K6
        clear ho6 b6 rrec krec K6 K5 R5 P5 Z5 B5 RC
        have g1 : decide ((q : Int) < (k : Int)) = false := by simp; omega
        have g2 : decide (q < k) = false := by simp; omega
        go_wp2_with fail
        refine SR.out.mono ?_
        rintro e w' ⟨rfl, nd, rfl⟩
        have TR := Lib.hid (trim_any (w := w6.drewN nd) (R6.out.drewN nd))
        go_wp2_with fail
        refine TR.out.mono ?_
        rintro e w8 ⟨rfl, v8, r8, ow8, o8⟩
        rw [hsc.out, HK.out, List.take_left' (by rw [laidAll_len (fun r hr => (HKV.out r hr).1), HK.out])] at r8
        have R8 := Lib.hid r8
        have K8 := Lib.hid (own_only (w := w6.drewN nd) HK6.out o8 (fun g hg => by have := (own_lt HK6.out hg).1; simp; omega))
        have Z8 := Lib.hid (Blk.only (w := w6.drewN nd) Z6.out o8 (by simp; omega))
        have P8 := Lib.hid (PowAt.only (w := w6.drewN nd) P6.out o8 (by simp; omega))
        have B8 := Lib.hid ((below_drewN B6.out nd).trans (o8.below (by have := B6.out.size; exact this) (by simp; omega)))
        have AP8 := Lib.hid (show Apart v8 (.slice ka k kc) from fun g hg => HAP.out g (ow8 g hg))
        clear r8 ow8 o8 TR SR R6 HK6 Z6 P6 B6
        by_cases hg : more.Good
        · have AY := Lib.hid (append_yes R8.out P8.out (kok (by omega) hst2) HM.out hg rfl (by have := laidAll_len (fun r hr => (HKV.out r hr).1) (rs := kept); have := HK.out; omega) rfl)
          go_wp2_with (first | (refine wpList_load_blk rfl 27 _ rfl gm 0 19 rfl 27 more.cells _ Z8.out Try.underlying27 rfl (by kernel_rfl) (by rw [m19.out]; omega) more.cells (by rw [List.drop_zero, List.take_of_length_le (by rw [m19.out]; omega)]) ?_))
          refine AY.out.mono ?_
          rintro e w9 ⟨rfl, v9, r9, p9, ow9, o9⟩
          have K9 := Lib.hid (own_only K8.out o9 (row_set R8.out K8.out AP8.out))
          have AP9 := Lib.hid (apart_after K8.out AP8.out ow9)
          have Z9 := Lib.hid (Z8.out.only o9 (ram_set R8.out hgb))
          have B9 := Lib.hid (B8.out.trans (o9.below B8.out.size (ram_ge R8.out (by omega))))
          have R9 := Lib.hid r9
          clear r9 p9 ow9 o9 AY R8 K8 Z8 P8 B8 AP8
          have b10 : Below w9.heap.size w9 (w9.alloc (.cells more.cells.toArray 27)) := (Below.refl _ _).alloc (Nat.le_refl _) _
          have K10 := own_only K9.out (Only.of_below (S := []) b10) (by simp)
          have R10 := R9.out.below b10
          obtain ⟨vk', w11, hr11, ho11, hg11, hv11⟩ := run_append_rec (cap := 1) (by omega) HM.out K10 (blk_new w9 more.cells 27) (by have := R9.out.head.lt; simp; omega)
          have R11 := Lib.hid (ram_row R10 K10 AP9.out hg11)
          have B11 := Lib.hid ((B9.out.trans (b10.mono B9.out.size)).trans ((only_list hg11).below (by have := B9.out.size; simp; omega) (row_ge K10 (by omega))))
          have HR11 := Lib.hid hr11
          have K11 := Lib.hid ho11
          obtain ⟨va, vcap, rfl, _, _, _⟩ := own_slice ho11 (by decide)
          have HV2 := Lib.hid (show ∀ r ∈ kept ++ [more], r.Valid ∧ r.Good from fun r hr => by
            rcases List.mem_append.1 hr with h1 | h1
            · exact HKV.out r h1
            · simp at h1; subst h1; exact ⟨HM.out, hg⟩)
          have HL2 := Lib.hid (show (kept ++ [more]).length = k + 1 by simp [HK.out])
          have RL := Lib.hid (show RamAt w11 br bm 65536 v9 (laidAll (kept ++ [more])) from by rw [laid_one]; exact R11.out)
          clear hr11 ho11 hg11 hv11 K10 R10 b10 K9 B9 AP9 R9
          go_upto_region 23 with (first | (refine wpList_load_blk rfl 27 _ rfl gm 0 19 rfl 27 more.cells _ Z9.out Try.underlying27 rfl (by kernel_rfl) (by rw [m19.out]; omega) more.cells (by rw [List.drop_zero, List.take_of_length_le (by rw [m19.out]; omega)]) ?_) | (refine wpList_world_gg rfl _ (exec_build_one rfl rfl Try.underlying22 info_rec m19.out (by decide) (by decide)) ?_) | (refine wpList_world_gg rfl _ (exec_append _ _ rfl rfl rfl HR11.out) ?_))
          have RCF := Lib.hid (records_any RL.out)
          have USF0 := RL
          go_wp2_with fail
          refine RCF.out.mono ?_
          rintro e wf ⟨rr, rfl, hof, bf⟩
          rw [scan_laid _ HV2.out, HL2.out] at hof
          obtain ⟨ra2, rc2, rfl, rrec2⟩ := own_recs HL2.out (fun r hr => (HV2.out r hr).1) hof
          have KF := own_only K11.out (Only.of_below (S := []) bf) (by simp)
          obtain ⟨ka2, kc2, ek2, krec2⟩ := own_recs HL2.out (fun r hr => (HV2.out r hr).1) KF
          cases ek2
          have SRF := Lib.hid (same_recs _ _ _ _ _ _ _ _ wf rrec2 krec2)
          rw [decide_eq_true rfl] at SRF
          have RF := Lib.hid (RL.out.below bf)
          have BF := Lib.hid (B11.out.trans (bf.mono B11.out.size))
          clear hof bf rrec2 KF krec2 RCF USF0
          go_wp2_with fail
          refine SRF.out.mono ?_
          rintro e w' ⟨rfl, nd2, rfl⟩
          have US := Lib.hid (used_at (w := wf.drewN nd2) (RF.out.drewN nd2) (37 * (k + 1)) (by rw [laidAll_len (fun r hr => (HV2.out r hr).1), HL2.out]) (37 * ((k + 1 : Nat) : Int)) (by omega))
          go_wp2_with (first | (go_at_call 19; refine US.out.mono ?_; rintro e w' ⟨rfl, rfl⟩))
          go_ret
          exact ⟨rfl, below_drewN BF.out nd2⟩
        · have AB := Lib.hid (append_bad R8.out P8.out HM.out hg)
          go_wp2_with (first | (refine wpList_load_blk rfl 27 _ rfl gm 0 19 rfl 27 more.cells _ Z8.out Try.underlying27 rfl (by kernel_rfl) (by rw [m19.out]; omega) more.cells (by rw [List.drop_zero, List.take_of_length_le (by rw [m19.out]; omega)]) ?_))
          refine AB.out.mono ?_
          rintro e w9 ⟨rfl, b9⟩
          have R9 := Lib.hid (R8.out.below b9)
          have K9 := Lib.hid (own_only K8.out (Only.of_below (S := []) b9) (by simp))
          have B9 := Lib.hid (B8.out.trans (b9.mono B8.out.size))
          clear b9 AB R8 K8 Z8 P8 B8 AP8
          have RCF := Lib.hid (records_any R9.out)
          have USF0 := R9
          go_wp2_with fail
          refine RCF.out.mono ?_
          rintro e wf ⟨rr, rfl, hof, bf⟩
          rw [scan_laid _ HKV.out, HK.out] at hof
          obtain ⟨ra2, rc2, rfl, rrec2⟩ := own_recs HK.out (fun r hr => (HKV.out r hr).1) hof
          have KF := own_only K9.out (Only.of_below (S := []) bf) (by simp)
          obtain ⟨ka2, kc2, ek2, krec2⟩ := own_recs HK.out (fun r hr => (HKV.out r hr).1) KF
          cases ek2
          have SRF := Lib.hid (same_recs _ _ _ _ _ _ _ _ wf rrec2 krec2)
          rw [decide_eq_true rfl] at SRF
          have RF := Lib.hid (R9.out.below bf)
          have BF := Lib.hid (B9.out.trans (bf.mono B9.out.size))
          clear hof bf rrec2 KF krec2 RCF USF0
          go_wp2_with fail
          refine SRF.out.mono ?_
          rintro e w' ⟨rfl, nd2, rfl⟩
          have US := Lib.hid (used_at (w := wf.drewN nd2) (RF.out.drewN nd2) (37 * (k)) (by rw [laidAll_len (fun r hr => (HKV.out r hr).1), HK.out]) (37 * ((k : Nat) : Int)) (by omega))
          go_wp2_with (first | (go_at_call 19; refine US.out.mono ?_; rintro e w' ⟨rfl, rfl⟩))
          go_ret
          exact ⟨rfl, below_drewN BF.out nd2⟩
      · clear h1000
        have RS := Lib.hid (restore_any bm p wo HP.out)
        go_wp2_with fail
        refine RS.out.mono ?_
        rintro e w5 ⟨rfl, p5, o5⟩
        have P5 := Lib.hid p5
        have hltr := HR.out.lt
        have R5 := Lib.hid (HR.out.only o5 (by simp; omega) (fun g hg => by have := (own_lt HR.out.own hg).1; simp; omega))
        have K5 := Lib.hid (own_only HKO.out o5 (fun g hg => by have := (own_lt HKO.out hg).1; simp; omega))
        have Z5 := Lib.hid (HZ.out.only o5 (by simp; omega))
        have B5 := Lib.hid (HB.out.trans (o5.below hso (by simp; omega)))
        have RC := Lib.hid (records_any R5.out)
        have hsc := Lib.hid (scan_tail HKV.out HT.out)
        clear p5 o5 RS HR HKO HZ HB HP
        go_wp2_with fail
        refine RC.out.mono ?_
        rintro e w6 ⟨rr, rfl, ho6, b6⟩
        rw [hsc.out, HK.out] at ho6
        obtain ⟨ra, rc, rfl, rrec⟩ := own_recs HK.out (fun r hr => (HKV.out r hr).1) ho6
        have K6 := own_only K5.out (Only.of_below (S := []) b6) (by simp)
        obtain ⟨ka, kc, ek, krec⟩ := own_recs HK.out (fun r hr => (HKV.out r hr).1) K6
        subst ek
        have SR := Lib.hid (same_recs _ _ _ _ _ _ _ _ w6 rrec krec)
        rw [decide_eq_true rfl] at SR
        have R6 := Lib.hid (R5.out.below b6)
        have P6 := Lib.hid (P5.out.only (Only.of_below (S := []) b6) (by simp))
        have Z6 := Lib.hid (Z5.out.below b6 (Z5.out.lt))
        have B6 := Lib.hid (B5.out.trans (b6.mono B5.out.size))
        have HK6 := Lib.hid K6
        clear ho6 b6 rrec krec K6 K5 R5 P5 Z5 B5 RC
        have g1 : decide ((q : Int) < (k : Int)) = false := by simp; omega
        have g2 : decide (q < k) = false := by simp; omega
        go_wp2_with fail
        refine SR.out.mono ?_
        rintro e w' ⟨rfl, nd, rfl⟩
        have TR := Lib.hid (trim_any (w := w6.drewN nd) (R6.out.drewN nd))
        go_wp2_with fail
        refine TR.out.mono ?_
        rintro e w8 ⟨rfl, v8, r8, ow8, o8⟩
        rw [hsc.out, HK.out, List.take_left' (by rw [laidAll_len (fun r hr => (HKV.out r hr).1), HK.out])] at r8
        have R8 := Lib.hid r8
        have K8 := Lib.hid (own_only (w := w6.drewN nd) HK6.out o8 (fun g hg => by have := (own_lt HK6.out hg).1; simp; omega))
        have Z8 := Lib.hid (Blk.only (w := w6.drewN nd) Z6.out o8 (by simp; omega))
        have P8 := Lib.hid (PowAt.only (w := w6.drewN nd) P6.out o8 (by simp; omega))
        have B8 := Lib.hid ((below_drewN B6.out nd).trans (o8.below (by have := B6.out.size; exact this) (by simp; omega)))
        have AP8 := Lib.hid (show Apart v8 (.slice ka k kc) from fun g hg => HAP.out g (ow8 g hg))
        clear r8 ow8 o8 TR SR R6 HK6 Z6 P6 B6
        by_cases hg : more.Good
        · have AY := Lib.hid (append_yes R8.out P8.out (kok (by omega) hst2) HM.out hg rfl (by have := laidAll_len (fun r hr => (HKV.out r hr).1) (rs := kept); have := HK.out; omega) rfl)
          go_wp2_with (first | (refine wpList_load_blk rfl 27 _ rfl gm 0 19 rfl 27 more.cells _ Z8.out Try.underlying27 rfl (by kernel_rfl) (by rw [m19.out]; omega) more.cells (by rw [List.drop_zero, List.take_of_length_le (by rw [m19.out]; omega)]) ?_))
          refine AY.out.mono ?_
          rintro e w9 ⟨rfl, v9, r9, p9, ow9, o9⟩
          have K9 := Lib.hid (own_only K8.out o9 (row_set R8.out K8.out AP8.out))
          have AP9 := Lib.hid (apart_after K8.out AP8.out ow9)
          have Z9 := Lib.hid (Z8.out.only o9 (ram_set R8.out hgb))
          have B9 := Lib.hid (B8.out.trans (o9.below B8.out.size (ram_ge R8.out (by omega))))
          have R9 := Lib.hid r9
          clear r9 p9 ow9 o9 AY R8 K8 Z8 P8 B8 AP8
          have b10 : Below w9.heap.size w9 (w9.alloc (.cells more.cells.toArray 27)) := (Below.refl _ _).alloc (Nat.le_refl _) _
          have K10 := own_only K9.out (Only.of_below (S := []) b10) (by simp)
          have R10 := R9.out.below b10
          obtain ⟨vk', w11, hr11, ho11, hg11, hv11⟩ := run_append_rec (cap := 1) (by omega) HM.out K10 (blk_new w9 more.cells 27) (by have := R9.out.head.lt; simp; omega)
          have R11 := Lib.hid (ram_row R10 K10 AP9.out hg11)
          have B11 := Lib.hid ((B9.out.trans (b10.mono B9.out.size)).trans ((only_list hg11).below (by have := B9.out.size; simp; omega) (row_ge K10 (by omega))))
          have HR11 := Lib.hid hr11
          have K11 := Lib.hid ho11
          obtain ⟨va, vcap, rfl, _, _, _⟩ := own_slice ho11 (by decide)
          have HV2 := Lib.hid (show ∀ r ∈ kept ++ [more], r.Valid ∧ r.Good from fun r hr => by
            rcases List.mem_append.1 hr with h1 | h1
            · exact HKV.out r h1
            · simp at h1; subst h1; exact ⟨HM.out, hg⟩)
          have HL2 := Lib.hid (show (kept ++ [more]).length = k + 1 by simp [HK.out])
          have RL := Lib.hid (show RamAt w11 br bm 65536 v9 (laidAll (kept ++ [more])) from by rw [laid_one]; exact R11.out)
          clear hr11 ho11 hg11 hv11 K10 R10 b10 K9 B9 AP9 R9
          go_upto_region 23 with (first | (refine wpList_load_blk rfl 27 _ rfl gm 0 19 rfl 27 more.cells _ Z9.out Try.underlying27 rfl (by kernel_rfl) (by rw [m19.out]; omega) more.cells (by rw [List.drop_zero, List.take_of_length_le (by rw [m19.out]; omega)]) ?_) | (refine wpList_world_gg rfl _ (exec_build_one rfl rfl Try.underlying22 info_rec m19.out (by decide) (by decide)) ?_) | (refine wpList_world_gg rfl _ (exec_append _ _ rfl rfl rfl HR11.out) ?_))
          have RCF := Lib.hid (records_any RL.out)
          have USF0 := RL
          go_wp2_with fail
          refine RCF.out.mono ?_
          rintro e wf ⟨rr, rfl, hof, bf⟩
          rw [scan_laid _ HV2.out, HL2.out] at hof
          obtain ⟨ra2, rc2, rfl, rrec2⟩ := own_recs HL2.out (fun r hr => (HV2.out r hr).1) hof
          have KF := own_only K11.out (Only.of_below (S := []) bf) (by simp)
          obtain ⟨ka2, kc2, ek2, krec2⟩ := own_recs HL2.out (fun r hr => (HV2.out r hr).1) KF
          cases ek2
          have SRF := Lib.hid (same_recs _ _ _ _ _ _ _ _ wf rrec2 krec2)
          rw [decide_eq_true rfl] at SRF
          have RF := Lib.hid (RL.out.below bf)
          have BF := Lib.hid (B11.out.trans (bf.mono B11.out.size))
          clear hof bf rrec2 KF krec2 RCF USF0
          go_wp2_with fail
          refine SRF.out.mono ?_
          rintro e w' ⟨rfl, nd2, rfl⟩
          have US := Lib.hid (used_at (w := wf.drewN nd2) (RF.out.drewN nd2) (37 * (k + 1)) (by rw [laidAll_len (fun r hr => (HV2.out r hr).1), HL2.out]) (37 * ((k + 1 : Nat) : Int)) (by omega))
          go_wp2_with (first | (go_at_call 19; refine US.out.mono ?_; rintro e w' ⟨rfl, rfl⟩))
          go_ret
          exact ⟨rfl, below_drewN BF.out nd2⟩
        · have AB := Lib.hid (append_bad R8.out P8.out HM.out hg)
          go_wp2_with (first | (refine wpList_load_blk rfl 27 _ rfl gm 0 19 rfl 27 more.cells _ Z8.out Try.underlying27 rfl (by kernel_rfl) (by rw [m19.out]; omega) more.cells (by rw [List.drop_zero, List.take_of_length_le (by rw [m19.out]; omega)]) ?_))
          refine AB.out.mono ?_
          rintro e w9 ⟨rfl, b9⟩
          have R9 := Lib.hid (R8.out.below b9)
          have K9 := Lib.hid (own_only K8.out (Only.of_below (S := []) b9) (by simp))
          have B9 := Lib.hid (B8.out.trans (b9.mono B8.out.size))
          clear b9 AB R8 K8 Z8 P8 B8 AP8
          have RCF := Lib.hid (records_any R9.out)
          have USF0 := R9
          go_wp2_with fail
          refine RCF.out.mono ?_
          rintro e wf ⟨rr, rfl, hof, bf⟩
          rw [scan_laid _ HKV.out, HK.out] at hof
          obtain ⟨ra2, rc2, rfl, rrec2⟩ := own_recs HK.out (fun r hr => (HKV.out r hr).1) hof
          have KF := own_only K9.out (Only.of_below (S := []) bf) (by simp)
          obtain ⟨ka2, kc2, ek2, krec2⟩ := own_recs HK.out (fun r hr => (HKV.out r hr).1) KF
          cases ek2
          have SRF := Lib.hid (same_recs _ _ _ _ _ _ _ _ wf rrec2 krec2)
          rw [decide_eq_true rfl] at SRF
          have RF := Lib.hid (R9.out.below bf)
          have BF := Lib.hid (B9.out.trans (bf.mono B9.out.size))
          clear hof bf rrec2 KF krec2 RCF USF0
          go_wp2_with fail
          refine SRF.out.mono ?_
          rintro e w' ⟨rfl, nd2, rfl⟩
          have US := Lib.hid (used_at (w := wf.drewN nd2) (RF.out.drewN nd2) (37 * (k)) (by rw [laidAll_len (fun r hr => (HKV.out r hr).1), HK.out]) (37 * ((k : Nat) : Int)) (by omega))
          go_wp2_with (first | (go_at_call 19; refine US.out.mono ?_; rintro e w' ⟨rfl, rfl⟩))
          go_ret
          exact ⟨rfl, below_drewN BF.out nd2⟩
section
variable {H : Type} {enc : TypeId × Value → H} {base : Nat} {spare : Nat → Bool} {held : Bool} {W : World}
theorem rcs_in {a : Option Addr} {len cap : Nat} (h : Opens.LfOk enc Try.prog W base spare held (.slice 27) (.slice a len cap)) : ∃ rs, Recs W a len cap rs := by
  rcases h with h | ⟨ad, len', cap', h, hb, hl, hm, hr, hq⟩
  · simp only [Value.slice.injEq] at h
    obtain ⟨rfl, rfl, rfl⟩ := h
    exact ⟨[], ⟨rfl, by omega, by unfold maxLen; omega, by simp, .inl rfl⟩⟩
  · simp only [Value.slice.injEq] at h
    obtain ⟨rfl, rfl, rfl⟩ := h
    exact recs_elems hl hm hq
theorem keeps_in (a : Option Addr) (n ca : Nat) (lf : Opens.LfOk enc Try.prog W base spare held (.slice 27) (.slice a n ca)) (q : Int) (hq : (Lit.int .u8 q).wf = true) (c : List Value) (hl : c.length = 19) (h : Opens.Fits enc Try.prog W base spare held ([.int .i64, .int .u64, .int .i64] ++ List.replicate 16 (.int .u8)) c) :
    Calls Try.prog 3 #[.slice a n ca, .int .u8 q, .agg c.toArray] W fun e w' => e = .returned (.bool true) ∧ Below W.heap.size W w' := by
  obtain ⟨rs, hrs⟩ := rcs_in lf
  obtain ⟨k, v, b, l, hl16, hv, hk, hb, rfl⟩ := rec_in hl rfl h
  obtain ⟨u, rfl⟩ := Opens.wf_u8 hq
  exact keeps_walk a n ca rs u.toNat u.toNat_lt ⟨k, v, b, l⟩ ⟨hl16, hv, hk, hb⟩ W hrs
end
end Go.Proofs.Ytobblbplanimgaa.Nvram
