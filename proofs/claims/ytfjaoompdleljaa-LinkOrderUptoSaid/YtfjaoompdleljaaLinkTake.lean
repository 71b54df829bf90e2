/-
  slices.Delete of one packet; take, Drop of a link by contract. Helper text; no statement is proved here.
-/
import Derived.Test.YtfjaoompdleljaaLinkOpen
set_option linter.unusedVariables false
set_option maxRecDepth 20000
set_option linter.unusedSimpArgs false
namespace Go.Proofs.Ytfjaoompdleljaa.Link
open Go.RowKit Go.Proofs.Ytfjaoompdleljaa.Base Go.Proofs.Ytfjaoompdleljaa.Laws Go.Proofs.Ytfjaoompdleljaa.Disk Go.Proofs.Ytfjaoompdleljaa.Row Go.Proofs.Ytfjaoompdleljaa.Flat Go.Proofs.Ytfjaoompdleljaa.InvM
section
variable {w : World} {bl : Nat} {V : Nat → Value} {A : List Nat} {k : Lk}
theorem take_no (h : LinkAt w bl V A k) (i : Int) (hi : i < 0 ∨ (k.fl.length : Int) ≤ i) : Calls Try.prog 35 #[.pointer (some ⟨bl, 0, none⟩), .int .i64 i] w fun e w' => e = .returned (.tuple #[.agg zpk.toArray, .bool false]) ∧ Below w.heap.size w w' := by
  obtain ⟨a, c, e, _⟩ := h.slF
  have hlt := h.head.lt
  have c9 : w.cell? ⟨bl, 9, none⟩ = some (V 4) := h.cell 9
  rw [e] at c9
  obtain ⟨n, hn⟩ : ∃ n, n = k.fl.length := ⟨_, rfl⟩
  rw [← hn] at c9 hi
  clear h e hn
  have Z := Lib.hid (blk_at (w := w) (g := w.heap.size) (cs := zpk) (t := 74) (arr := #[.int .i64 0, .int .u32 0, .int .u32 0, .int .u32 0, .slice none 0 0]) rfl rfl)
  by_cases h1 : i < 0
  · clear hi c9
    go_enter Try.func35, Try.ntmps35
    go_upto_region 1 with (fail)
    obtain ⟨w1, hw1⟩ : ∃ w1, w1 = w.alloc (.cells #[.int .i64 0, .int .u32 0, .int .u32 0, .int .u32 0, .slice none 0 0] 74) := ⟨_, rfl⟩
    have L1 := Lib.hid (show Below w.heap.size w w1 from hw1 ▸ ((Below.refl w.heap.size w).alloc (Nat.le_refl _) _))
    rw [← hw1] at Z ⊢
    clear hw1
    go_wp2_with (first | (refine wpList_store_blk rfl 74 _ _ rfl w.heap.size 0 5 rfl 74 zpk zpk rfl Z.out (by kernel_rfl) rfl (by decide) (by decide) ?_; intro w2 z2 g2; have Z2 := Lib.hid (show Blk w2 w.heap.size zpk 74 from z2); have L2 := Lib.hid (below_grown L1.out g2 L1.out.size (Nat.le_refl _)); clear z2 g2))
    exact bodyPost_ret (v := .tuple #[.agg zpk.toArray, .bool false]) (results_cell_two rfl _ _ w.heap.size 74 _ (0, 0) _ _ rfl rfl Z2.out Try.underlying74 rfl (by kernel_rfl)) rfl ⟨rfl, L2.out⟩
  · have h2 : (n : Int) ≤ i := by omega
    clear hi
    go_enter Try.func35, Try.ntmps35
    go_upto_region 1 with (fail)
    obtain ⟨w1, hw1⟩ : ∃ w1, w1 = w.alloc (.cells #[.int .i64 0, .int .u32 0, .int .u32 0, .int .u32 0, .slice none 0 0] 74) := ⟨_, rfl⟩
    have L1 := Lib.hid (show Below w.heap.size w w1 from hw1 ▸ ((Below.refl w.heap.size w).alloc (Nat.le_refl _) _))
    have c9' : w1.cell? ⟨bl, 9, none⟩ = some (.slice a n c) := (Below.cell L1.out (p := ⟨bl, 9, none⟩) hlt).trans c9
    rw [← hw1] at Z ⊢
    clear hw1 c9
    go_wp2_with (first | (refine wpList_store_blk rfl 74 _ _ rfl w.heap.size 0 5 rfl 74 zpk zpk rfl Z.out (by kernel_rfl) rfl (by decide) (by decide) ?_; intro w2 z2 g2; have Z2 := Lib.hid (show Blk w2 w.heap.size zpk 74 from z2); have L2 := Lib.hid (below_grown L1.out g2 L1.out.size (Nat.le_refl _)); clear z2 g2))
    exact bodyPost_ret (v := .tuple #[.agg zpk.toArray, .bool false]) (results_cell_two rfl _ _ w.heap.size 74 _ (0, 0) _ _ rfl rfl Z2.out Try.underlying74 rfl (by kernel_rfl)) rfl ⟨rfl, L2.out⟩
end
end Go.Proofs.Ytfjaoompdleljaa.Link
