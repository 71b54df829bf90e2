/-
  Drop of a link by contract. Helper text; no statement is proved here.
-/
import Derived.Test.YtfjaoompdleljaaLinkTk
set_option linter.unusedVariables false
set_option maxRecDepth 20000
set_option linter.unusedSimpArgs false
namespace Go.Proofs.Ytfjaoompdleljaa.Link
open Go.RowKit Go.Proofs.Ytfjaoompdleljaa.Base Go.Proofs.Ytfjaoompdleljaa.Laws Go.Proofs.Ytfjaoompdleljaa.Disk Go.Proofs.Ytfjaoompdleljaa.Row Go.Proofs.Ytfjaoompdleljaa.Flat Go.Proofs.Ytfjaoompdleljaa.InvM
section
variable {w : World} {bl : Nat} {V : Nat → Value} {A : List Nat} {k : Lk}
theorem drop_no (h : LinkAt w bl V A k) (i : Int) (hi : i < 0 ∨ (k.fl.length : Int) ≤ i) : Calls Try.prog 20 #[.pointer (some ⟨bl, 0, none⟩), .int .i64 i] w fun e w' => e = .returned (.int .i64 2) ∧ Below w.heap.size w w' := by
  have TN := Lib.hid (take_no h i hi)
  clear h hi
  go_enter Try.func20, Try.ntmps20
  go_wp2_with fail
  refine TN.out.mono ?_
  rintro e w1 ⟨rfl, hb⟩
  have HB := Lib.hid hb
  have hs := hb.size
  have Z := Lib.hid (blk_at (w := w1) (g := w1.heap.size) (cs := zpk) (t := 74) (arr := #[.int .i64 0, .int .u32 0, .int .u32 0, .int .u32 0, .slice none 0 0]) rfl rfl)
  clear hb TN
  go_wp2_with (first | (refine wpList_store_blk rfl 74 _ _ rfl w1.heap.size 0 5 rfl 74 zpk zpk rfl Z.out (by kernel_rfl) rfl (by decide) (by decide) ?_; intro w2 z2 g2; have L2 := Lib.hid (below_grown ((HB.out.alloc hs _)) g2 (by simp; omega) hs); clear z2 g2))
  go_ret
  exact ⟨rfl, L2.out⟩
theorem drop_ok (h : LinkAt w bl V A k) (i : Nat) (hi : i < k.fl.length) : Calls Try.prog 20 #[.pointer (some ⟨bl, 0, none⟩), .int .i64 (i : Int)] w fun e w' => e = .returned (.int .i64 0) ∧ ∃ V', Goes w bl V A w' V' (k.less i) := by
  have TN := Lib.hid (take_ok h i hi)
  clear h hi
  go_enter Try.func20, Try.ntmps20
  go_wp2_with fail
  refine TN.out.mono ?_
  rintro e w1 ⟨p, y, V1, hp, rfl, hG, hY⟩
  have HG := Lib.hid hG
  obtain ⟨pv, hpv⟩ : ∃ pv, pv = pc (p, y) := ⟨_, rfl⟩
  have P5 := Lib.hid (show pv.length = 5 by rw [hpv]; rfl)
  have P1 := Lib.hid (show ∀ u ∈ pv, u.oneCell' = true by rw [hpv]; exact pc_one hY.one)
  have Z := Lib.hid (blk_at (w := w1) (g := w1.heap.size) (cs := zpk) (t := 74) (arr := #[.int .i64 0, .int .u32 0, .int .u32 0, .int .u32 0, .slice none 0 0]) rfl rfl)
  rw [← hpv]
  clear hG hY TN hpv hp
  go_wp2_with (first | (refine wpList_store_blk rfl 74 _ _ rfl w1.heap.size 0 5 rfl 74 zpk pv rfl Z.out (by kernel_rfl) P5.out (by decide) P1.out ?_; intro w2 z2 g2; have L2 := Lib.hid (below_grown (((Below.refl w1.heap.size w1).alloc (Nat.le_refl _) _)) g2 (by simp) (Nat.le_refl _)); clear z2 g2))
  go_ret
  exact ⟨rfl, V1, HG.out.keep L2.out⟩
end
end Go.Proofs.Ytfjaoompdleljaa.Link
