/-
  The walk of SumPieces. Helper text; no statement is proved here.
-/
import Derived.Test.YtldlgffjpmmlcaaSum2CrcsK
import Derived.Test.YtldlgffjpmmlcaaBulk
set_option linter.unusedVariables false
namespace Go.Proofs.Ytldlgffjpmmlcaa.Sum2
open Go.RowKit Go.Proofs.Ytldlgffjpmmlcaa.Base Go.Proofs.Ytldlgffjpmmlcaa.Laws
/-- slices of bytes in a slice -/
def Pcs (w : World) (a : Option Addr) (n cap : Nat) (ps : List (List UInt8)) : Prop :=
  ps.length = n ∧ n ≤ cap ∧ cap ≤ maxLen ∧ (n = 0 ∨ ∃ b o, a = some ⟨b, o, none⟩ ∧ ∀ i p, ps[i]? = some p → ∃ a' len' cap', w.cell? ⟨b, o + i, none⟩ = some (.slice a' len' cap') ∧ Bts w a' len' cap' p)
/-- the first k pieces, one behind the other -/
def joined (ps : List (List UInt8)) (k : Nat) : List UInt8 := (ps.take k).flatten
theorem flat_snoc (ps : List (List UInt8)) (k : Nat) (p : List UInt8) (h : ps[k]? = some p) : joined ps (k + 1) = joined ps k ++ p := by
  unfold joined
  rw [take_snoc ps k p h, List.flatten_append]
  simp
theorem flat_len (ps : List (List UInt8)) (k : Nat) : (joined ps k).length ≤ (ps.map List.length).sum := by
  unfold joined
  rw [List.length_flatten]
  induction ps generalizing k with
  | nil => simp
  | cons p ps ih =>
    cases k with
    | zero => simp
    | succ k => simp only [List.take_succ_cons, List.map_cons, List.sum_cons]; have := ih k; omega
theorem more_nil (c : Nat) : Crc.more c [] = c := Crc.ones_ones c
set_option maxHeartbeats 1000000 in
theorem pieces_walk (a : Option Addr) (n cap : Nat) (ps : List (List UInt8)) (w : World) (h : Pcs w a n cap ps) (hr : (ps.map List.length).sum ≤ 1048576) :
    Calls Try.prog 4 #[.slice a n cap] w fun e w' => e = .returned (.bool true) ∧ Below w.heap.size w w' := by
  obtain ⟨hl, hlc, hm, ha⟩ := h
  unfold maxLen at hm
  have HA := Lib.hid ha
  clear ha
  go_enter Try.func4, Try.ntmps4
  go_wp2_with (go_at_call 10; refine (awake_any _).mono ?_; rintro e w1 ⟨rfl, hb1⟩)
  have HB1 := Lib.hid hb1
  clear hb1
  go_loopw [3, 4, 5] (fun v c i wr => ∃ (k : Nat) , k ≤ n ∧ i = .int .i64 k ∧ c = .int .u32 (Crc.more 0 (joined ps k) : Nat) ∧ wr.ownsRow w.heap.size 5 1 v (joined ps k).length (bv (joined ps k)) ∧ Below w.heap.size w wr) (fun _ _ i _ => n - (intOf i).toNat)
  case atStart =>
    have ho := World.ownsRow_made (e := 5) (size := 1) (base := w.heap.size) w1 #[] 0 HB1.out.size (Nat.zero_le _) rfl
    exact ⟨0, by omega, rfl, by rw [show joined ps 0 = [] from rfl, more_nil]; rfl, ho, HB1.out.alloc HB1.out.size _⟩
  case round =>
    obtain ⟨k, hk, rfl, rfl, hown, hb⟩ := hrel
    have HO := Lib.hid hown
    have HB := Lib.hid hb
    clear hown hb
    by_cases hkl : k < n
    · rcases HA.out with h0 | ⟨b, o, rfl, hc⟩
      · omega
      obtain ⟨p, hp⟩ : ∃ p, ps[k]? = some p := ⟨ps[k]'(by omega), List.getElem?_eq_getElem (by omega)⟩
      obtain ⟨a', len', cap', hcell, hbt⟩ := hc k p hp
      have hbr := hbt.below HB.out (Nat.le_refl _)
      have hcell' : wr.cell? ⟨b, o + k, none⟩ = some (.slice a' len' cap') := by rw [HB.out.cell (block_lt_of_cell hcell)]; exact hcell
      have hpl := hbt.1
      have hs := flat_snoc ps k p hp
      have hle := flat_len ps (k + 1)
      have hlen : (joined ps k).length + len' ≤ 1048576 := by rw [hs, List.length_append] at hle; omega
      have HS := Lib.hid (src_bts hbr)
      have HT := Lib.hid hs
      have hbt0 : Bts w a' len' cap' p := hbt
      have HB0 := Lib.hid hbt0
      have HC0 := Lib.hid hcell
      clear hc hp hbt hbt0 hbr hcell hs hle
      go_wp2_with (first | (at_builtin; refine wpList_append_any _ rfl _ _ 23 rfl w.heap.size 5 (.int .u8 0) 1 1 Try.underlying23 infou8 rfl (by decide) _ _ _ rfl HO.out a' len' cap' (bv p) rfl HS.out ?c1 ?c2 ?c3 ?_))
      case c1 => omega
      case c2 => unfold maxLen; omega
      case c3 => exact HB.out.size
      intro v' w2 hown hgrow
      have hb2 : Below w.heap.size w w2 := HB.out.grown hgrow HB.out.size (fun k hk => (HO.out.lt k hk).1)
      have hbr2 : Bts w2 a' len' cap' p := HB0.out.below hb2 (Nat.le_refl _)
      have hcell2 : w2.cell? ⟨b, o + k, none⟩ = some (.slice a' len' cap') := by rw [hb2.cell (block_lt_of_cell HC0.out)]; exact HC0.out
      have hrl := Crc.more_lt 0 (joined ps k) (by decide)
      have HC := Lib.hid (SumW.more_any _ hrl _ _ _ _ _ hbr2)
      have HO2 := Lib.hid hown
      have HB2 := Lib.hid hb2
      clear hown hgrow hb2 hbr2
      go_wp2_with (go_at_call 13; refine HC.out.mono ?_; rintro e w' ⟨rfl, rfl⟩)
      go_roundw
      case rel =>
        refine ⟨k + 1, by omega, by go_num, by rw [HT.out, Crc.more_append], ?_, HB2.out⟩
        have := HO2.out
        rw [← bv_append, ← HT.out] at this
        have e : (joined ps k).length + len' = (joined ps (k + 1)).length := by rw [HT.out, List.length_append, hpl]
        rw [e] at this
        exact this
      case measure => simp [intOf]; omega
    · obtain rfl : k = n := by omega
      obtain ⟨a', cap', e', hbt⟩ := bts_own rfl HO.out
      subst e'
      have HC := Lib.hid (SumW.crc_any _ _ _ _ _ hbt)
      clear hbt
      go_wp2_with (go_at_call 11; refine HC.out.mono ?_; rintro e w' ⟨rfl, rfl⟩)
      go_ret
      exact ⟨ret_bool (by unfold Crc.crc; simp), HB.out⟩
section
variable {H : Type} {enc : TypeId × Value → H} {base : Nat} {spare : Nat → Bool} {held : Bool} {W : World}
theorem cells23 : Try.prog.cellsOf 23 = 1 := by kernel_rfl
theorem pcs_in {a : Option Addr} {len cap : Nat} {d : DataW H} {p : List MemPlace} (h : DataW.Trod enc Try.prog W base spare held 28 (.slice a len cap) d p) (hw : ∀ m ∈ d.weights Try.prog 28, m ≤ reachBytes) :
    ∃ ps, Pcs W a len cap ps ∧ (ps.map List.length).sum ≤ Rows.uptoBulk d := by
  rcases Bulk.open_elems Try.underlying28 h hw with ⟨rfl, rfl, rfl⟩ | ⟨ad, elems, rest, rfl, rfl, hel, hl, hm, _, hq⟩
  · exact ⟨[], ⟨rfl, by omega, by unfold maxLen; omega, .inl rfl⟩, by simp⟩
  · rw [cells23] at hq
    obtain ⟨ps, hpl, hps⟩ := Opens.choose_list (q := fun i (u : List UInt8) => (∃ a' len' cap', W.cell? (ad.add i) = some (.slice a' len' cap') ∧ Bts W a' len' cap' u) ∧ ∃ d, elems[i]? = some d ∧ u.length ≤ Rows.uptoBulk d) len fun i hi => by
      obtain ⟨cs, n, y, h1, h2, h3, h4⟩ := hq i hi
      obtain ⟨v, rfl, hv⟩ := Opens.cells_one h1
      obtain ⟨a', len', cap', rfl⟩ : ∃ a' len' cap', v = .slice a' len' cap' := by
        rcases DataW.trod_slice Try.underlying23 h2 with ⟨h5, _⟩ | ⟨a', l', c', _, _, _, _, h5, _⟩
        · simp at h5; exact ⟨_, _, _, h5⟩
        · simp at h5; exact ⟨_, _, _, h5⟩
      have lf := Opens.open_any_slice (x := y.1) (p := y.2) (a := a') (len := len') (cap := cap') Try.underlying23 ⟨n, by simpa [Value.cells] using h2⟩ h4
      obtain ⟨l, hb, _⟩ := bts_in lf
      refine ⟨l, ⟨a', len', cap', by simpa [Addr.add] using hv, hb⟩, y.1, h3, ?_⟩
      have := Bulk.slice_len Try.underlying23 h2
      have := hb.1
      omega
    refine ⟨ps, ⟨hpl, hl, hm, ?_⟩, ?_⟩
    · by_cases h0 : len = 0
      · exact .inl h0
      · obtain ⟨u, hu⟩ : ∃ u, ps[0]? = some u := ⟨ps[0]'(by omega), List.getElem?_eq_getElem (by omega)⟩
        obtain ⟨⟨a', l', c', hc, _⟩, _⟩ := hps 0 u hu
        have hs := World.cell?_spot hc
        obtain ⟨b, o, sp⟩ := ad
        have hsp : sp = none := by simpa [Addr.add] using hs
        subst hsp
        refine .inr ⟨b, o, rfl, fun i p hp => ?_⟩
        obtain ⟨⟨a', l', c', hc, hb⟩, _⟩ := hps i p hp
        simp only [Addr.add_lit] at hc
        exact ⟨a', l', c', hc, hb⟩
    · have := Bulk.sum_le List.length ps elems fun i u hu => (hps i u hu).2
      simp only [Rows.uptoBulk]
      omega
theorem pieces_in (a : Option Addr) (len cap : Nat) (lf : Opens.LfOk enc Try.prog W base spare held (.slice 23) (.slice a len cap)) (d : DataW H) (hz : ∀ m ∈ d.weights Try.prog 28, m ≤ reachBytes) {p : List MemPlace} (h : DataW.Trod enc Try.prog W base spare held 28 (.slice a len cap) d p) (hk : Rows.uptoBulkAll [d] ≤ 1048576) :
    Calls Try.prog 4 #[.slice a len cap] W fun e w' => e = .returned (.bool true) ∧ Below W.heap.size W w' := by
  obtain ⟨ps, hp, hs⟩ := pcs_in h hz
  simp only [Rows.uptoBulkAll] at hk
  exact pieces_walk a len cap ps W hp (by omega)
end
end Go.Proofs.Ytldlgffjpmmlcaa.Sum2
