/-
  The walk of SumCells. Helper text; no statement is proved here.
-/
import Derived.Test.YtldlgffjpmmlcaaRefSeal
import Derived.Test.YtldlgffjpmmlcaaOpens
set_option linter.unusedVariables false
set_option linter.unusedSimpArgs false
namespace Go.Proofs.Ytldlgffjpmmlcaa.Cells
open Go.RowKit Go.Proofs.Ytldlgffjpmmlcaa.Base Go.Proofs.Ytldlgffjpmmlcaa.Laws Go.Proofs.Ytldlgffjpmmlcaa.Seal Go.Proofs.Ytldlgffjpmmlcaa.Inv Go.Proofs.Ytldlgffjpmmlcaa.Good
section
variable {H : Type} {enc : TypeId × Value → H} {P : Program} {base : Nat} {spare : Nat → Bool} {held : Bool} {W : World}
/-- a cell that came in -/
theorem cell_in {c : List Value} {ks : List Opens.Lf} (hl : c.length = 17) (hk : ks = List.replicate 16 (.int .u8) ++ [.int .u32]) (h : Opens.Fits enc P W base spare held ks c) : ∃ l n, l.length = 16 ∧ n < 4294967296 ∧ c = cellV l n := by
  subst hk
  obtain ⟨l, c', hl16, rfl, hf⟩ := h.bytes 16
  obtain ⟨n, c'', rfl, hn, _⟩ := hf.int
  obtain ⟨m, hm, rfl⟩ := Opens.wf_u32 hn
  obtain rfl : c'' = [] := List.eq_nil_of_length_eq_zero (by simp [hl16] at hl; omega)
  exact ⟨l, m, hl16, hm, rfl⟩
/-- a sector that came in -/
theorem sector_in {c : List Value} {ks : List Opens.Lf} (hl : c.length = 16) (hk : ks = List.replicate 16 (.int .u8)) (h : Opens.Fits enc P W base spare held ks c) : ∃ l : List UInt8, l.length = 16 ∧ c = bv l := by
  subst hk
  have h' : Opens.Fits enc P W base spare held (List.replicate 16 (.int .u8) ++ []) c := by simpa using h
  obtain ⟨l, c', hl16, rfl, hf⟩ := h'.bytes 16
  obtain rfl : c' = [] := List.eq_nil_of_length_eq_zero (by simp [hl16] at hl; exact List.length_eq_zero_iff.2 hl)
  exact ⟨l, hl16, by simp [bv, u8, Opens.u8]⟩
end
set_option maxHeartbeats 600000 in
theorem cells_walk (at_ : Int) (h0 : -9223372036854775808 ≤ at_) (h1 : at_ ≤ 9223372036854775807) (l : List UInt8) (hl : l.length = 16) (n : Nat) (hn : n < 4294967296) (w : World) :
    Calls Try.prog 5 #[.int .i64 at_, .agg (cellV l n).toArray] w fun e w' => e = .returned (.bool true) ∧ Below w.heap.size w w' := by
  have HL := Lib.hid (cellV_len l hl n)
  have HK := Lib.hid (Crc.crc_lt (place at_ ++ l))
  have HB0 := Lib.hid (blk_at (w := w) (cs := cellV l n) (t := 33) rfl rfl)
  obtain ⟨k, hk⟩ : ∃ k, k = Crc.crc (place at_ ++ l) := ⟨_, rfl⟩
  rw [← hk] at HK
  have HKE := Lib.hid hk
  have HE := Lib.hid (fun w => (cell_eq l l k k hl hl HK.out HK.out w).trans (by simp) : ∀ w, _ = Result.ok true w)
  have HSL := Lib.hid (fun w => hk ▸ seal_any at_ h0 h1 l hl w : ∀ w, Calls Try.prog 15 #[.int .i64 at_, .agg (bv l).toArray] w fun e w' => e = .returned (.agg (cellV l k).toArray) ∧ Below w.heap.size w w')
  have HRS := Lib.hid (fun w => hk ▸ RefSeal.seal_any at_ h0 h1 l hl w : ∀ w, Calls Try.prog 16 #[.int .i64 at_, .agg (bv l).toArray] w fun e w' => e = .returned (.agg (cellV l k).toArray) ∧ Below w.heap.size w w')
  have HG1 := Lib.hid (fun w => by have := good_any at_ h0 h1 l hl k HK.out w; rw [← hk] at this; simpa using this : ∀ w, Calls Try.prog 17 #[.int .i64 at_, .agg (cellV l k).toArray] w fun e w' => e = .returned (.bool true) ∧ Below w.heap.size w w')
  have HG2 := Lib.hid (fun w => good_any at_ h0 h1 l hl n hn w)
  have HG3 := Lib.hid (fun w => RefSeal.good_any at_ h0 h1 l hl n hn w)
  rw [← hk] at HG2 HG3
  clear hk
  go_enter Try.func5, Try.ntmps5
  go_wp2_with (first | (refine wpList_load_blk rfl 31 _ rfl w.heap.size 0 16 rfl 33 (cellV l n) _ HB0.out Try.underlying31 rfl (by kernel_rfl) (by rw [HL.out]; omega) (bv l) (cellV_data l hl n) ?_))
  refine (HSL.out _).mono ?_
  rintro e w1 ⟨rfl, hb1⟩
  have HB1 := Lib.hid (HB0.out.below hb1 (by simp))
  have hbl : Below w.heap.size w w1 := (((Below.refl _ _).alloc (Nat.le_refl _) _).trans (hb1.mono (by simp)))
  have HBL := Lib.hid hbl
  have hlt := HB1.out.lt
  clear hb1 hbl
  go_wp2_with (first | (refine wpList_store_blk rfl 33 _ _ rfl w1.heap.size 0 17 (by rfl) 33 (zeros 16 ++ [Value.int .u32 0]) (cellV l k) (by rfl) (blk_at rfl rfl) (by kernel_rfl) (cellV_len l hl _) (by decide) (cellV_one l _) ?_))
  intro w2 b2 hg2
  rw [put_all _ _ (by rw [cellV_len l hl]; rfl)] at b2
  have HB2 := Lib.hid ((HB1.out.alloc _).grown hg2 (by omega))
  have HX := Lib.hid b2
  have HBL2 := Lib.hid (below_grown (HBL.out.alloc (by omega) _) hg2 (by simp only [size_alloc]; omega) (by omega))
  have hlt2 := HX.out.lt
  clear b2 hg2
  go_wp2
  refine wp_region_inv_tail (fun w' => Blk w' w.heap.size (cellV l n) 33 ∧ Blk w' w1.heap.size (cellV l k) 33 ∧ Below w.heap.size w w') 23 (by kernel_rfl) (by kernel_rfl) ⟨HB2.out.drew, HX.out.drew, HBL2.out.drew⟩ ?_
  simp only [List.take_succ_cons, List.take_zero, List.drop_succ_cons, List.drop_zero]
  have keep : ∀ (w' w'' : World), (Blk w' w.heap.size (cellV l n) 33 ∧ Blk w' w1.heap.size (cellV l k) 33 ∧ Below w.heap.size w w') → Below w'.heap.size w' w'' → (Blk w'' w.heap.size (cellV l n) 33 ∧ Blk w'' w1.heap.size (cellV l k) 33 ∧ Below w.heap.size w w'') :=
    fun w' w'' h hb => ⟨h.1.below hb h.1.lt, h.2.1.below hb h.2.1.lt, h.2.2.trans (hb.mono h.2.2.size)⟩
  have KEEP := Lib.hid keep
  clear keep
  -- awake
  refine inv_call (.bool true) rfl 10 #[] (fun w' _ => by go_simp) (fun w' h => (Sum2.awake_any w').mono fun e w'' ⟨he, hb⟩ => ⟨he, KEEP.out _ _ h hb⟩) ?_
  simp only [Act.put, List.setIfInBounds_toArray, List.set_cons_zero, List.set_cons_succ]
  refine inv_move _ rfl rfl ?_
  simp only [Act.put, List.setIfInBounds_toArray, List.set_cons_zero, List.set_cons_succ]
  -- x == ref.Seal
  refine inv_load_blk rfl 33 _ rfl w1.heap.size 0 17 rfl 33 (cellV l k) _ (fun w' h => h.2.1) Try.underlying33 rfl (by kernel_rfl) (by rw [cellV_len l hl]; omega) (cellV l k) (cellV_whole l hl k) ?_
  simp only [Act.put, List.setIfInBounds_toArray, List.set_cons_zero, List.set_cons_succ]
  refine inv_value (.int .i64 at_) rfl (fun w' _ => by go_simp) ?_
  simp only [Act.put, List.setIfInBounds_toArray, List.set_cons_zero, List.set_cons_succ]
  refine inv_value (.pointer (some ⟨w.heap.size, 0, none⟩)) rfl (fun w' _ => by go_simp) ?_
  simp only [Act.put, List.setIfInBounds_toArray, List.set_cons_zero, List.set_cons_succ]
  refine inv_load_blk rfl 31 _ rfl w.heap.size 0 16 rfl 33 (cellV l n) _ (fun w' h => h.1) Try.underlying31 rfl (by kernel_rfl) (by rw [HL.out]; omega) (bv l) (cellV_data l hl n) ?_
  simp only [Act.put, List.setIfInBounds_toArray, List.set_cons_zero, List.set_cons_succ]
  refine inv_call (.agg (cellV l k).toArray) rfl 16 #[.int .i64 at_, .agg (bv l).toArray] (fun w' _ => by go_simp) (fun w' h => (HRS.out w').mono fun e w'' ⟨he, hb⟩ => ⟨he, KEEP.out _ _ h hb⟩) ?_
  simp only [Act.put, List.setIfInBounds_toArray, List.set_cons_zero, List.set_cons_succ]
  refine Eq.inv_eql rfl rfl rfl rfl (by kernel_rfl) (fun w' _ => HE.out w') ?_
  simp only [Act.put, List.setIfInBounds_toArray, List.set_cons_zero, List.set_cons_succ]
  refine inv_value (.bool true) rfl (fun w' _ => by go_simp) ?_
  simp only [Act.put, List.setIfInBounds_toArray, List.set_cons_zero, List.set_cons_succ]
  refine inv_move _ rfl rfl ?_
  simp only [Act.put, List.setIfInBounds_toArray, List.set_cons_zero, List.set_cons_succ]
  -- Good of x
  refine inv_value (.int .i64 at_) rfl (fun w' _ => by go_simp) ?_
  simp only [Act.put, List.setIfInBounds_toArray, List.set_cons_zero, List.set_cons_succ]
  refine inv_load_blk rfl 33 _ rfl w1.heap.size 0 17 rfl 33 (cellV l k) _ (fun w' h => h.2.1) Try.underlying33 rfl (by kernel_rfl) (by rw [cellV_len l hl]; omega) (cellV l k) (cellV_whole l hl k) ?_
  simp only [Act.put, List.setIfInBounds_toArray, List.set_cons_zero, List.set_cons_succ]
  refine inv_call (.bool true) rfl 17 #[.int .i64 at_, .agg (cellV l k).toArray] (fun w' _ => by go_simp) (fun w' h => (HG1.out w').mono fun e w'' ⟨he, hb⟩ => ⟨he, KEEP.out _ _ h hb⟩) ?_
  simp only [Act.put, List.setIfInBounds_toArray, List.set_cons_zero, List.set_cons_succ]
  refine inv_value (.bool true) rfl (fun w' _ => by go_simp) ?_
  simp only [Act.put, List.setIfInBounds_toArray, List.set_cons_zero, List.set_cons_succ]
  refine inv_move _ rfl rfl ?_
  simp only [Act.put, List.setIfInBounds_toArray, List.set_cons_zero, List.set_cons_succ]
  -- Good of c
  refine inv_value (.int .i64 at_) rfl (fun w' _ => by go_simp) ?_
  simp only [Act.put, List.setIfInBounds_toArray, List.set_cons_zero, List.set_cons_succ]
  refine inv_load_blk rfl 33 _ rfl w.heap.size 0 17 rfl 33 (cellV l n) _ (fun w' h => h.1) Try.underlying33 rfl (by kernel_rfl) (by rw [HL.out]; omega) (cellV l n) (cellV_whole l hl n) ?_
  simp only [Act.put, List.setIfInBounds_toArray, List.set_cons_zero, List.set_cons_succ]
  refine inv_call (.bool (decide (k = n))) rfl 17 #[.int .i64 at_, .agg (cellV l n).toArray] (fun w' _ => by go_simp) (fun w' h => (HG2.out w').mono fun e w'' ⟨he, hb⟩ => ⟨he, KEEP.out _ _ h hb⟩) ?_
  simp only [Act.put, List.setIfInBounds_toArray, List.set_cons_zero, List.set_cons_succ]
  refine inv_value (.int .i64 at_) rfl (fun w' _ => by go_simp) ?_
  simp only [Act.put, List.setIfInBounds_toArray, List.set_cons_zero, List.set_cons_succ]
  refine inv_load_blk rfl 33 _ rfl w.heap.size 0 17 rfl 33 (cellV l n) _ (fun w' h => h.1) Try.underlying33 rfl (by kernel_rfl) (by rw [HL.out]; omega) (cellV l n) (cellV_whole l hl n) ?_
  simp only [Act.put, List.setIfInBounds_toArray, List.set_cons_zero, List.set_cons_succ]
  refine inv_call (.bool (decide (k = n))) rfl 18 #[.int .i64 at_, .agg (cellV l n).toArray] (fun w' _ => by go_simp) (fun w' h => (HG3.out w').mono fun e w'' ⟨he, hb⟩ => ⟨he, KEEP.out _ _ h hb⟩) ?_
  simp only [Act.put, List.setIfInBounds_toArray, List.set_cons_zero, List.set_cons_succ]
  refine inv_value (.bool true) rfl (fun w' _ => by go_simp) ?_
  simp only [Act.put, List.setIfInBounds_toArray, List.set_cons_zero, List.set_cons_succ]
  refine inv_value (.bool true) rfl (fun w' _ => by go_simp) ?_
  simp only [Act.put, List.setIfInBounds_toArray, List.set_cons_zero, List.set_cons_succ]
  refine inv_nil fun w' hI => ?_
  go_wp2
  go_ret
  exact ⟨rfl, hI.2.2⟩
section
variable {H : Type} {enc : TypeId × Value → H} {base : Nat} {spare : Nat → Bool} {held : Bool} {W : World}
theorem cells_in (x : Int) (hx : (Lit.int .i64 x).wf = true) (c : List Value) (hc : c.length = 17) (f : Opens.Fits enc Try.prog W base spare held (List.replicate 16 (.int .u8) ++ [.int .u32]) c) :
    Calls Try.prog 5 #[.int .i64 x, .agg c.toArray] W fun e w' => e = .returned (.bool true) ∧ Below W.heap.size W w' := by
  obtain ⟨l, n, hl, hn, rfl⟩ := cell_in hc rfl f
  have hb := Opens.wf_i64 hx
  exact cells_walk x hb.1 hb.2 l hl n hn W
end
end Go.Proofs.Ytldlgffjpmmlcaa.Cells
