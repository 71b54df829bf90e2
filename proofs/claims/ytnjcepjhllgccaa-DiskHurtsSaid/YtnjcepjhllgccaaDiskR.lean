/-
  Reading a disk. Helper text; no statement is proved here.
-/
import Derived.Test.YtnjcepjhllgccaaDiskD
import Derived.Test.YtnjcepjhllgccaaInvM
import Derived.Deep.Cut
set_option linter.unusedVariables false
set_option linter.unusedSimpArgs false
namespace Go.Proofs.Ytnjcepjhllgccaa.Disk
open Go.RowKit Go.Proofs.Ytnjcepjhllgccaa.Base Go.Proofs.Ytnjcepjhllgccaa.Laws Go.Proofs.Ytnjcepjhllgccaa.Flat Go.Proofs.Ytnjcepjhllgccaa.InvM
section
variable {bd bm bs n : Nat} {D : Dsk} {w : World} {p : Pow}
theorem DiskAt.good (h : DiskAt w bd bm bs n D) {i : Nat} {s : Sec} (hs : D.secs[i]? = some s) : w.cell? ⟨bs, i * 18 + 17, none⟩ = some (.bool s.good) := by
  rw [h.body.cell]
  refine flat_get h.len18 hs ?_
  have hl := Cel.len (h.ok s (List.mem_of_getElem? hs))
  unfold Sec.cells
  rw [List.getElem?_append_right (by omega), hl]
  rfl
theorem DiskAt.cell_cells (h : DiskAt w bd bm bs n D) {i : Nat} {s : Sec} (hs : D.secs[i]? = some s) : ((flat Sec.cells D.secs).drop (i * 18)).take 17 = s.c.cells := by
  have hl := Cel.len (h.ok s (List.mem_of_getElem? hs))
  have := flat_piece h.len18 hs
  rw [show (17 : Nat) = min 17 18 from rfl, ← List.take_take, this]
  unfold Sec.cells
  rw [← hl, List.take_left]
def Dsk.read (D : Dsk) (p : Pow) (i : Nat) : Cel × Nat :=
  if p.off then (Cel.zero, 4) else if D.dead then (Cel.zero, 5) else if (D.secs.getD i Sec.zero).good then ((D.secs.getD i Sec.zero).c, 0) else (Cel.zero, 7)
theorem zblk (w : World) : Blk (w.alloc (.cells #[.int .u8 0, .int .u8 0, .int .u8 0, .int .u8 0, .int .u8 0, .int .u8 0, .int .u8 0, .int .u8 0, .int .u8 0, .int .u8 0, .int .u8 0, .int .u8 0, .int .u8 0, .int .u8 0, .int .u8 0, .int .u8 0, .int .u32 0] 37)) w.heap.size Cel.zero.cells 37 := blk_at rfl rfl
theorem read_nil (i : Int) (w : World) : Calls Try.prog 14 #[.pointer none, .int .i64 i] w fun e w' => e = .returned (.tuple #[.agg Cel.zero.cells.toArray, .int .i64 2]) ∧ Below w.heap.size w w' := by
  have Z := Lib.hid (zblk w)
  go_enter Try.func14, Try.ntmps14
  go_upto_region 1 with (fail)
  obtain ⟨w1, hw1⟩ : ∃ w1, w1 = w.alloc (.cells #[.int .u8 0, .int .u8 0, .int .u8 0, .int .u8 0, .int .u8 0, .int .u8 0, .int .u8 0, .int .u8 0, .int .u8 0, .int .u8 0, .int .u8 0, .int .u8 0, .int .u8 0, .int .u8 0, .int .u8 0, .int .u8 0, .int .u32 0] 37) := ⟨_, rfl⟩
  have L1 := Lib.hid (show Below w.heap.size w w1 from hw1 ▸ ((Below.refl w.heap.size w).alloc (Nat.le_refl _) _))
  rw [← hw1] at Z ⊢
  clear hw1
  go_wp2_with (first | (go_at_call 29; refine (in_nil _ _).mono ?_; rintro e w' ⟨rfl, rfl⟩) | (refine wpList_builds rfl 37 _ rfl [] rfl _ zcell ?_) | (refine wpList_store_blk rfl 37 _ _ rfl w.heap.size 0 17 rfl 37 _ Cel.zero.cells rfl Z.out (by kernel_rfl) rfl (by decide) (by decide) ?_; intro w2 z2 g2; have Z2 := Lib.hid (show Blk w2 w.heap.size Cel.zero.cells 37 from z2); have L2 := Lib.hid (below_grown L1.out g2 L1.out.size (Nat.le_refl _)); clear z2 g2))
  exact bodyPost_ret (v := .tuple #[.agg Cel.zero.cells.toArray, .int .i64 2]) (results_cell_two rfl _ _ w.heap.size 37 _ (0, 0) _ _ rfl rfl Z2.out Try.underlying37 rfl (by kernel_rfl)) rfl ⟨rfl, L2.out⟩
set_option maxHeartbeats 400000 in
theorem read_any (h : DiskAt w bd bm bs n D) (hp : PowAt w bm p) (i : Nat) (hi : i < n) : Calls Try.prog 14 #[.pointer (some ⟨bd, 0, none⟩), .int .i64 (i : Int)] w fun e w' => e = .returned (.tuple #[.agg (D.read p i).1.cells.toArray, .int .i64 ((D.read p i).2 : Nat)]) ∧ Below w.heap.size w w' := by
  have Z := Lib.hid (zblk w)
  have hbd := h.head.lt
  have hbs := h.body.lt
  obtain ⟨s, hs⟩ : ∃ s, D.secs[i]? = some s := ⟨_, List.getElem?_eq_getElem (by rw [h.len]; exact hi)⟩
  have hsd : D.secs.getD i Sec.zero = s := by rw [List.getD_eq_getElem?_getD, hs]; rfl
  have hsok := h.ok s (List.mem_of_getElem? hs)
  have i0 : (0 : Int) ≤ (i : Int) := by omega
  have i1 : (i : Int) < (n : Int) := by omega
  have hn := h.hi
  have HR := Lib.hid (show D.read p i = if p.off then (Cel.zero, 4) else if D.dead then (Cel.zero, 5) else if s.good then (s.c, 0) else (Cel.zero, 7) by unfold Dsk.read; rw [hsd])
  have hl17 := Lib.hid (Cel.len hsok)
  have HI := Lib.hid hi
  have HS := Lib.hid hs
  clear hsd hs
  go_enter Try.func14, Try.ntmps14
  go_upto_region 1 with (fail)
  obtain ⟨w1, hw1⟩ : ∃ w1, w1 = w.alloc (.cells #[.int .u8 0, .int .u8 0, .int .u8 0, .int .u8 0, .int .u8 0, .int .u8 0, .int .u8 0, .int .u8 0, .int .u8 0, .int .u8 0, .int .u8 0, .int .u8 0, .int .u8 0, .int .u8 0, .int .u8 0, .int .u8 0, .int .u32 0] 37) := ⟨_, rfl⟩
  have L1 := Lib.hid (show Below w.heap.size w w1 from hw1 ▸ ((Below.refl w.heap.size w).alloc (Nat.le_refl _) _))
  rw [← hw1] at Z ⊢
  clear hw1
  have D1 := h.only (Only.of_below (S := []) L1.out) (by simp) (by simp)
  have P1 := hp.only (Only.of_below (S := []) L1.out) (by simp)
  have IN := Lib.hid (in_yes D1 i hi)
  have ON := Lib.hid (on_any bm p w1 P1)
  have c0 := D1.c0
  have c1 := D1.c1
  have c3 := D1.c3
  have cg := D1.good HS.out
  have CC := Lib.hid (D1.cell_cells HS.out)
  have B1 := Lib.hid D1.body
  have hfl := Lib.hid (flat_inb D1.len18 HS.out)
  clear h hp D1 P1 hi
  obtain ⟨off, left, steps⟩ := p
  obtain ⟨key, dead, secs⟩ := D
  obtain ⟨c, good⟩ := s
  cases off with
  | true =>
    go_wp2_with (first | (go_at_call 29; refine IN.out.mono ?_; rintro e w' ⟨rfl, rfl⟩) | (go_at_call 16; refine ON.out.mono ?_; rintro e w' ⟨rfl, rfl⟩) | (refine wpList_builds rfl 37 _ rfl [] rfl _ zcell ?_) | (refine wpList_store_blk rfl 37 _ _ rfl w.heap.size 0 17 rfl 37 _ Cel.zero.cells rfl Z.out (by kernel_rfl) rfl (by decide) (by decide) ?_; intro w2 z2 g2; have Z2 := Lib.hid (show Blk w2 w.heap.size Cel.zero.cells 37 from z2); have L2 := Lib.hid (below_grown L1.out g2 L1.out.size (Nat.le_refl _)); clear z2 g2))
    rw [show Dsk.read _ _ i = (Cel.zero, 4) from HR.out]
    exact bodyPost_ret (v := .tuple #[.agg Cel.zero.cells.toArray, .int .i64 4]) (results_cell_two rfl _ _ w.heap.size 37 _ (0, 0) _ _ rfl rfl Z2.out Try.underlying37 rfl (by kernel_rfl)) rfl ⟨rfl, L2.out⟩
  | false =>
    cases dead with
    | true =>
      go_wp2_with (first | (go_at_call 29; refine IN.out.mono ?_; rintro e w' ⟨rfl, rfl⟩) | (go_at_call 16; refine ON.out.mono ?_; rintro e w' ⟨rfl, rfl⟩) | (refine wpList_builds rfl 37 _ rfl [] rfl _ zcell ?_) | (refine wpList_store_blk rfl 37 _ _ rfl w.heap.size 0 17 rfl 37 _ Cel.zero.cells rfl Z.out (by kernel_rfl) rfl (by decide) (by decide) ?_; intro w2 z2 g2; have Z2 := Lib.hid (show Blk w2 w.heap.size Cel.zero.cells 37 from z2); have L2 := Lib.hid (below_grown L1.out g2 L1.out.size (Nat.le_refl _)); clear z2 g2))
      rw [show Dsk.read _ _ i = (Cel.zero, 5) from HR.out]
      exact bodyPost_ret (v := .tuple #[.agg Cel.zero.cells.toArray, .int .i64 5]) (results_cell_two rfl _ _ w.heap.size 37 _ (0, 0) _ _ rfl rfl Z2.out Try.underlying37 rfl (by kernel_rfl)) rfl ⟨rfl, L2.out⟩
    | false =>
      cases good with
      | false =>
        go_wp2_with (first | (go_at_call 29; refine IN.out.mono ?_; rintro e w' ⟨rfl, rfl⟩) | (go_at_call 16; refine ON.out.mono ?_; rintro e w' ⟨rfl, rfl⟩) | (refine wpList_builds rfl 37 _ rfl [] rfl _ zcell ?_) | (refine wpList_store_blk rfl 37 _ _ rfl w.heap.size 0 17 rfl 37 _ Cel.zero.cells rfl Z.out (by kernel_rfl) rfl (by decide) (by decide) ?_; intro w2 z2 g2; have Z2 := Lib.hid (show Blk w2 w.heap.size Cel.zero.cells 37 from z2); have L2 := Lib.hid (below_grown L1.out g2 L1.out.size (Nat.le_refl _)); clear z2 g2))
        rw [show Dsk.read _ _ i = (Cel.zero, 7) from HR.out]
        exact bodyPost_ret (v := .tuple #[.agg Cel.zero.cells.toArray, .int .i64 7]) (results_cell_two rfl _ _ w.heap.size 37 _ (0, 0) _ _ rfl rfl Z2.out Try.underlying37 rfl (by kernel_rfl)) rfl ⟨rfl, L2.out⟩
      | true =>
        go_wp2_with (first | (go_at_call 29; refine IN.out.mono ?_; rintro e w' ⟨rfl, rfl⟩) | (go_at_call 16; refine ON.out.mono ?_; rintro e w' ⟨rfl, rfl⟩) | (refine wpList_load_blk rfl 37 _ rfl bs (i * 18) 17 rfl 63 _ _ B1.out Try.underlying37 rfl (by kernel_rfl) (Nat.le_trans (Nat.le_succ _) hfl.out) _ CC.out ?_) | (refine wpList_store_blk rfl 37 _ _ rfl w.heap.size 0 17 rfl 37 Cel.zero.cells c.cells rfl Z.out (by kernel_rfl) hl17.out (by decide) (Cel.one c) ?_; intro w2 z2 g2; rw [put_all _ _ (by rw [hl17.out]; rfl)] at z2; have Z2 := Lib.hid z2; have L2 := Lib.hid (below_grown L1.out g2 L1.out.size (Nat.le_refl _)); clear z2 g2))
        rw [show Dsk.read _ _ i = (c, 0) from HR.out]
        exact bodyPost_ret (v := .tuple #[.agg c.cells.toArray, .int .i64 0]) (results_cell_two rfl _ _ w.heap.size 37 _ (0, 0) _ _ rfl rfl Z2.out Try.underlying37 rfl (by rw [List.size_toArray, hl17.out]; kernel_rfl)) rfl ⟨rfl, L2.out⟩
end
end Go.Proofs.Ytnjcepjhllgccaa.Disk
