/-
  The fixed fact of the disk's statements. Helper text; no statement is proved here.
-/
import Derived.Test.YtnjcepjhllgccaaDiskT
set_option linter.unusedVariables false
set_option linter.unusedSimpArgs false
namespace Go.Proofs.Ytnjcepjhllgccaa.Disk
open Go.RowKit Go.Proofs.Ytnjcepjhllgccaa.Base Go.Proofs.Ytnjcepjhllgccaa.Laws Go.Proofs.Ytnjcepjhllgccaa.Flat Go.Proofs.Ytnjcepjhllgccaa.InvM
/-- a cell of noughts with a sum -/
def Cel.sum (s : Nat) : Cel := ⟨List.replicate 16 0, s⟩
theorem built_sum (s : Nat) : Try.prog.built 37 [(1, .int .u32 (s : Int))] = some (Cel.sum s).cells.toArray := by kernel_rfl
theorem exec_two {ρ : Operand → Value} {w : World} {o : Oper} {x y : Operand} (a b : Nat) (ho : o.op = .buildSlice 22 2 #[(0, x), (1, y)]) (hx : ρ x = .agg (Cel.sum a).cells.toArray) (hy : ρ y = .agg (Cel.sum b).cells.toArray) :
    (execOp ρ o).run Try.prog w = .ok (.value (.slice (some ⟨w.heap.size, 0, none⟩) 2 2)) (w.alloc (.cells (flat Cel.cells [Cel.sum a, Cel.sum b]).toArray 37)) := by
  have hm : (#[((0 : Nat), x), (1, y)].map fun (i, x) => (i, ρ x)) = #[(0, .agg (Cel.sum a).cells.toArray), (1, .agg (Cel.sum b).cells.toArray)] := by simp [hx, hy]
  have hb : (Instr.buildSlice 22 2 #[(0, .agg (Cel.sum a).cells.toArray), (1, .agg (Cel.sum b).cells.toArray)]).run Try.prog w = .ok (.slice (some ⟨w.heap.size, 0, none⟩) 2 2) (w.alloc (.cells (flat Cel.cells [Cel.sum a, Cel.sum b]).toArray 37)) := by kernel_rfl
  unfold execOp
  simp only [ho, hm, Sem.run_bind, hb, Result.andThen_ok, Sem.run_pure]
set_option maxRecDepth 4000 in
set_option maxHeartbeats 1000000 in
theorem awake_any (w : World) : Calls Try.prog 8 #[] w fun e w' => e = .returned (.bool true) ∧ Below w.heap.size w w' := by
  go_enter Try.func8, Try.ntmps8
  go_wp2_with fail
  refine (newmains w).mono ?_
  rintro e w1 ⟨rfl, p1, b1, z1⟩
  have NW := Lib.hid (new_any 2 w.heap.size _ (by decide) (by decide) w1 p1)
  have P1 := Lib.hid p1
  have B1 := Lib.hid b1
  have hs1 := b1.size
  have hp1 := p1.lt
  clear p1 b1 z1
  go_wp2_with fail
  refine NW.out.mono ?_
  rintro e w2 ⟨rfl, d2, b2⟩
  have P2 := Lib.hid (P1.out.only (Only.of_below (S := []) b2) (by simp))
  have D2 := Lib.hid d2
  have B2 := Lib.hid (B1.out.trans (b2.mono hs1))
  have hs2 := B2.out.size
  have hd2 := d2.head.lt
  have hb2 := d2.body.lt
  clear d2 b2 NW P1 B1
  obtain ⟨bs, hbs⟩ : ∃ g, g = w1.heap.size := ⟨_, rfl⟩
  obtain ⟨bd, hbd⟩ : ∃ g, g = bs + 1 := ⟨_, rfl⟩
  rw [← hbs] at D2 hs1 hd2 hb2 ⊢
  rw [← hbd] at D2 hd2 ⊢
  have hbsd : bs < bd := by omega
  clear hbs hbd
  go_wp2_with (first | (refine wpList_builds rfl 37 _ rfl [(1, .int .u32 (3 : Nat))] rfl _ (built_sum 3) ?_) | (refine wpList_builds rfl 37 _ rfl [(1, .int .u32 (4 : Nat))] rfl _ (built_sum 4) ?_) | (refine wpList_world_gg rfl _ (exec_two 3 4 rfl rfl rfl) ?_))
  obtain ⟨w3, hw3⟩ : ∃ w3, w3 = w2.alloc (.cells (flat Cel.cells [Cel.sum 3, Cel.sum 4]).toArray 37) := ⟨_, rfl⟩
  have A3 := Lib.hid (show Blk w3 w2.heap.size (flat Cel.cells [Cel.sum 3, Cel.sum 4]) 37 from hw3 ▸ blk_new w2 _ _)
  have b3 : Below w2.heap.size w2 w3 := hw3 ▸ (Below.refl _ _).alloc (Nat.le_refl _) _
  have P3 := Lib.hid (P2.out.only (Only.of_below (S := []) b3) (by simp))
  have D3 := Lib.hid (D2.out.only (Only.of_below (S := []) b3) (by simp) (by simp))
  have B3 := Lib.hid (B2.out.trans (b3.mono hs2))
  have hp2 := P2.out.lt
  have hne : w2.heap.size ∉ [w.heap.size, bs] := by simp; omega
  rw [← hw3]
  have WR := Lib.hid (write_at D3.out P3.out ⟨by decide, by decide⟩ 0 0 rfl (some ⟨w2.heap.size, 0, none⟩) 2 2 0 0 rfl [Cel.sum 3, Cel.sum 4] (sl_blk A3.out (by simp [Cel.cells, Cel.sum, bv_len]) rfl (by decide) (by decide)) (by simp [Cel.Ok, Cel.sum]) (by decide) (by decide) (fun b o e _ => by cases e; exact hne) rfl 2 ⟨false, 0, 2⟩ [⟨Cel.sum 3, true⟩, ⟨Cel.sum 4, true⟩] rfl 2 0 rfl rfl)
  clear hw3 b3 hne D2 P2 B2 A3 P3 D3
  refine WR.out.mono ?_
  rintro e w4 ⟨rfl, p4, d4, o4⟩
  have hs3 := B3.out.size
  have P4 := Lib.hid p4
  have B4 := Lib.hid (B3.out.trans (o4.below hs3 (by simp; omega)))
  have RD := Lib.hid (read_at d4 p4 1 1 rfl (by decide) (Cel.sum 4) 0 rfl 0 rfl)
  have hs4 := B4.out.size
  clear p4 d4 o4 WR B3
  go_wp2_with fail
  refine RD.out.mono ?_
  rintro e w5 ⟨rfl, b5⟩
  have P5 := Lib.hid (P4.out.only (Only.of_below (S := []) b5) (by simp))
  have B5 := Lib.hid (B4.out.trans (b5.mono hs4))
  have hs5 := B5.out.size
  have hp5 := P5.out.lt
  clear b5 RD P4 B4
  go_wp2_with (first | (refine store_cel rfl _ _ rfl (Cel.sum 4) ⟨rfl, by decide⟩ rfl rfl ?_; intro w6 z6 B56; have c6 : w6.cell? ⟨w5.heap.size, 16, none⟩ = some (.int .u32 4) := z6.cell 16; have B6 := Lib.hid (B5.out.trans (B56.mono hs5)); have ST := Lib.hid (steps_any _ _ w6 (P5.out.only (Only.of_below (S := []) B56) (by simp)) ⟨by decide, by decide⟩); clear z6 B56) | (go_at_call 17; refine ST.out.mono ?_; rintro e w' ⟨rfl, rfl⟩))
  go_ret
  exact ⟨rfl, B6.out⟩
end Go.Proofs.Ytnjcepjhllgccaa.Disk
