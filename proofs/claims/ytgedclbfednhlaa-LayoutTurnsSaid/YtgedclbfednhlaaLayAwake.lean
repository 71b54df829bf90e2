/-
  Map at one input, and the fixed fact of the layout's statements. Helper text; no statement is proved here.
-/
import Derived.Test.YtgedclbfednhlaaLayRow
import Derived.Test.YtgedclbfednhlaaInvL
set_option linter.unusedVariables false
set_option linter.unusedSimpArgs false
namespace Go.Proofs.Ytgedclbfednhlaa.Lay
open Go.RowKit Go.Proofs.Ytgedclbfednhlaa.Base Go.Proofs.Ytgedclbfednhlaa.Laws Go.Proofs.Ytgedclbfednhlaa.Inv Go.Proofs.Ytgedclbfednhlaa.InvL
theorem exec_load {P : Program} {ρ : Operand → Value} {w : World} {o : Oper} {ty t : TypeId} {x : Operand} {g m : Nat} {cs : List Value} {d : TypeDesc} (ho : o.op = .load ty x) (hx : ρ x = .pointer (some ⟨g, 0, none⟩)) (hg : Blk w g cs t) (hu : P.underlying ty = some d) (hd : (match d with | .struct _ | .array _ _ => true | _ => false) = true) (hi : (P.info? ty).map (·.size) = some m) (hm : cs.length = m) : (execOp ρ o).run P w = .ok (.value (.agg cs.toArray)) w := by
  unfold execOp
  simp only [ho, hx, Instr.loadAt, Instr.sureAddr, Sem.run_bind, Sem.run_pure, Result.andThen_ok, run_load_blk hg hu hd hi (show 0 + m ≤ cs.length by omega)]
  rw [List.drop_zero, List.take_of_length_le (by omega)]
theorem meets_store {P : Program} {J : World → Prop} {ρ : Operand → Value} {w : World} {o : Oper} {ty t : TypeId} {x y : Operand} {g m : Nat} {cs vs : List Value} (ho : o.op = .store ty x y) (hx : ρ x = .pointer (some ⟨g, 0, none⟩)) (hy : ρ y = .agg vs.toArray) (hg : Blk w g cs t) (hi : (P.info? ty).map (·.size) = some m) (hl : vs.length = m) (hm : cs.length = m) (h1 : ∀ v ∈ vs, v.oneCell' = true) (h : J (w.setRow g vs.toArray)) : Meets P J undef ((execOp ρ o).run P w) := by
  have e := put_all cs vs (by omega)
  unfold execOp
  simp only [ho, hx, hy, Instr.storeAt, Instr.sureAddr, Sem.run_bind, Sem.run_pure, Result.andThen_ok, run_store_blk hg hi hl (show 0 + m ≤ cs.length by omega) h1, e]
  exact ⟨rfl, h⟩
theorem invl_meets {P : Program} {I : Array Bool → World → Prop} {ops : Array Oper} {Q : Act → Prop} {i : Nat} {a : Act} {o : Oper} {rest : List Oper} (v : Value) (hw : Region.wanted o (yielded ops a.tmps) = true) (hr : ∀ d w, d.getD i true = false → I d w → Meets P (I (d.setIfInBounds i true)) v ((execOp a.eval o).run P w))
    (h : wpInvL P I ops Q (i + 1) rest (a.put o.dst v)) : wpInvL P I ops Q i (o :: rest) a :=
  ⟨v, .inl ⟨hw, hr⟩, h⟩
theorem sound_one : Sound 4 2 3 := ⟨⟨by decide, by decide⟩, ⟨by decide, by decide⟩, ⟨by decide, by decide⟩⟩
theorem capacity_one (w : World) : Calls Try.prog 12 #[.agg (geo 4 2 3).toArray] w fun e w' => e = .returned (.tuple #[.int .i64 12, .int .i64 0]) ∧ Below w.heap.size w w' := by
  have HC := Lib.hid (check_yes sound_one)
  have HB0 := Lib.hid (blk_at (w := w) (cs := geo 4 2 3) (t := 23) rfl rfl)
  obtain ⟨l, hl⟩ : ∃ l, l = geo 4 2 3 := ⟨_, rfl⟩
  have hl3 : l.length = 3 := by rw [hl]; rfl
  have HL := Lib.hid hl
  rw [← hl] at HC HB0 ⊢
  clear hl
  go_enter Try.func12, Try.ntmps12
  go_wp2_with (first | (refine wpList_load_blk rfl 23 _ rfl w.heap.size 0 3 rfl 23 l _ HB0.out Try.underlying23 rfl (by kernel_rfl) (by rw [hl3]; omega) l (by rw [List.drop_zero, List.take_of_length_le (by rw [hl3]; omega)]) ?_))
  refine (HC.out _).mono ?_
  rintro e w1 ⟨rfl, hb⟩
  have HBL := Lib.hid (((Below.refl _ _).alloc (Nat.le_refl _) _).trans (hb.mono (by simp only [size_alloc]; omega)) : Below w.heap.size w w1)
  have B1 := Lib.hid (HB0.out.below hb (by simp only [size_alloc]; omega))
  have c0 := B1.out.cell 0
  have c1 := B1.out.cell 1
  have c2 := B1.out.cell 2
  rw [HL.out] at c0 c1 c2
  change _ = some (Value.int .i64 4) at c0
  change _ = some (Value.int .i64 2) at c1
  change _ = some (Value.int .i64 3) at c2
  clear hb
  go_wp2
  go_ret2
  exact ⟨rfl, HBL.out⟩
set_option maxHeartbeats 2000000 in
theorem map_one (w : World) : Calls Try.prog 9 #[.agg (geo 4 2 3).toArray, .int .i64 4] w fun e w' => e = .returned (.tuple #[.agg #[.int .i64 1, .int .i64 0, .int .i64 0], .agg #[.int .i64 0, .int .i64 2], .int .i64 0]) ∧ Below w.heap.size w w' := by
  have HC := Lib.hid capacity_one
  have HF := Lib.hid (fun w => by have := first_any (r := 1) sound_one (by decide) (by decide) w; rw [show fst 4 1 = 0 from by decide] at this; exact this : ∀ w, Calls Try.prog 22 #[.agg (geo 4 2 3).toArray, .int .i64 1] w fun e w' => e = .returned (.int .i64 0) ∧ Below w.heap.size w w')
  have HB0 := Lib.hid (((blk_at (w := w) (cs := geo 4 2 3) (t := 23) rfl rfl).alloc (.cells #[.int .i64 0, .int .i64 0, .int .i64 0] 25)).alloc (.cells #[.int .i64 0, .int .i64 0] 27))
  have HS0 := Lib.hid ((blk_at (w := w.alloc (.cells (geo 4 2 3).toArray 23)) (g := w.heap.size + 1) (cs := [.int .i64 0, .int .i64 0, .int .i64 0]) (t := 25) (by simp only [size_alloc]) rfl).alloc (.cells #[.int .i64 0, .int .i64 0] 27))
  have HP0 := Lib.hid (blk_at (w := (w.alloc (.cells (geo 4 2 3).toArray 23)).alloc (.cells #[.int .i64 0, .int .i64 0, .int .i64 0] 25)) (g := w.heap.size + 1 + 1) (cs := [.int .i64 0, .int .i64 0]) (t := 27) (by simp only [size_alloc]) rfl)
  obtain ⟨l, hl⟩ : ∃ l, l = geo 4 2 3 := ⟨_, rfl⟩
  have hl3 : l.length = 3 := by rw [hl]; rfl
  have HL := Lib.hid hl
  rw [← hl] at HC HB0 HS0 HP0 HF ⊢
  clear hl
  go_enter Try.func9, Try.ntmps9
  go_wp2_with (first | (refine wpList_load_blk rfl 23 _ rfl w.heap.size 0 3 rfl 23 l _ HB0.out Try.underlying23 rfl (by kernel_rfl) (by rw [hl3]; omega) l (by rw [List.drop_zero, List.take_of_length_le (by rw [hl3]; omega)]) ?_))
  refine (HC.out _).mono ?_
  rintro e w1 ⟨rfl, hb⟩
  have HBL := Lib.hid ((((((Below.refl _ _).alloc (Nat.le_refl _) _).alloc (by simp only [size_alloc]; omega) _).alloc (by simp only [size_alloc]; omega) _).trans (hb.mono (by simp only [size_alloc]; omega))) : Below w.heap.size w w1)
  have B1 := Lib.hid (HB0.out.below hb (by simp only [size_alloc]; omega))
  have S1 := Lib.hid (HS0.out.below hb (by simp only [size_alloc]; omega))
  have P1 := Lib.hid (HP0.out.below hb (by simp only [size_alloc]; omega))
  have c0 := B1.out.cell 0
  rw [HL.out] at c0
  change _ = some (Value.int .i64 4) at c0
  clear hb
  go_wp2
  clear c0
  have cell0 : ∀ w', Blk w' w.heap.size l 23 → w'.cell? ⟨w.heap.size, 0, none⟩ = some (Value.int .i64 4) := fun w' h => by rw [h.cell, HL.out]; rfl
  have cell1 : ∀ w', Blk w' w.heap.size l 23 → w'.cell? ⟨w.heap.size, 1, none⟩ = some (Value.int .i64 2) := fun w' h => by rw [h.cell, HL.out]; rfl
  have C0 := Lib.hid cell0
  have C1 := Lib.hid cell1
  clear cell0 cell1
  obtain ⟨N, hN⟩ : ∃ N, N = w1.heap.size := ⟨_, rfl⟩
  have hsz : w.heap.size + 1 + 1 < N := by rw [hN]; exact P1.out.lt
  have KV := Lib.hid (fun (i : Nat) (d : Array Bool) (w' : World) (hi : i ≠ 17) (h : (Blk w' w.heap.size l 23 ∧ Blk w' (w.heap.size + 1) [.int .i64 0, .int .i64 0, .int .i64 0] 25 ∧ Blk w' (w.heap.size + 1 + 1) [.int .i64 0, .int .i64 0] 27 ∧ Below w.heap.size w w') ∧ At 17 (fun w' => w'.heap.size = N) (fun w' => Blk w' N [.int .i64 0, .int .i64 0, .int .i64 0] 25) d w') => (⟨h.1, At.keep hi id id h.2⟩ : (Blk w' w.heap.size l 23 ∧ Blk w' (w.heap.size + 1) [.int .i64 0, .int .i64 0, .int .i64 0] 25 ∧ Blk w' (w.heap.size + 1 + 1) [.int .i64 0, .int .i64 0] 27 ∧ Below w.heap.size w w') ∧ At 17 (fun w' => w'.heap.size = N) (fun w' => Blk w' N [.int .i64 0, .int .i64 0, .int .i64 0] 25) (d.setIfInBounds i true) w'))
  refine InvL.wp_region_inv_tail (fun d w' => (Blk w' w.heap.size l 23 ∧ Blk w' (w.heap.size + 1) [.int .i64 0, .int .i64 0, .int .i64 0] 25 ∧ Blk w' (w.heap.size + 1 + 1) [.int .i64 0, .int .i64 0] 27 ∧ Below w.heap.size w w') ∧ At 17 (fun w' => w'.heap.size = N) (fun w' => Blk w' N [.int .i64 0, .int .i64 0, .int .i64 0] 25) d w') 18 (by kernel_rfl) (by kernel_rfl) ⟨⟨B1.out.drew, S1.out.drew, P1.out.drew, HBL.out.drew⟩, At.start (by rfl) hN.symm⟩ ?_
  simp only [List.take_succ_cons, List.take_zero, List.drop_succ_cons, List.drop_zero]
  refine invl_value (.int .i64 4) rfl (fun d w' h => by have c0 := C0.out w' h.1.1; have c1 := C1.out w' h.1.1; go_simp; all_goals rfl) (fun d w' _ h => KV.out _ d w' (by decide) h) ?_
  simp only [Act.put, List.setIfInBounds_toArray, List.set_cons_zero, List.set_cons_succ]
  refine invl_value (.int .i64 2) rfl (fun d w' h => by have c0 := C0.out w' h.1.1; have c1 := C1.out w' h.1.1; go_simp; all_goals rfl) (fun d w' _ h => KV.out _ d w' (by decide) h) ?_
  simp only [Act.put, List.setIfInBounds_toArray, List.set_cons_zero, List.set_cons_succ]
  refine invl_value (.pointer (some ⟨w.heap.size, 1, none⟩)) rfl (fun d w' h => by have c0 := C0.out w' h.1.1; have c1 := C1.out w' h.1.1; go_simp; all_goals rfl) (fun d w' _ h => KV.out _ d w' (by decide) h) ?_
  simp only [Act.put, List.setIfInBounds_toArray, List.set_cons_zero, List.set_cons_succ]
  refine invl_value (.int .i64 2) rfl (fun d w' h => by have c0 := C0.out w' h.1.1; have c1 := C1.out w' h.1.1; go_simp; all_goals rfl) (fun d w' _ h => KV.out _ d w' (by decide) h) ?_
  simp only [Act.put, List.setIfInBounds_toArray, List.set_cons_zero, List.set_cons_succ]
  refine invl_value (.int .i64 4) rfl (fun d w' h => by have c0 := C0.out w' h.1.1; have c1 := C1.out w' h.1.1; go_simp; all_goals rfl) (fun d w' _ h => KV.out _ d w' (by decide) h) ?_
  simp only [Act.put, List.setIfInBounds_toArray, List.set_cons_zero, List.set_cons_succ]
  refine invl_value (.int .i64 1) rfl (fun d w' h => by have c0 := C0.out w' h.1.1; have c1 := C1.out w' h.1.1; go_simp; all_goals rfl) (fun d w' _ h => KV.out _ d w' (by decide) h) ?_
  simp only [Act.put, List.setIfInBounds_toArray, List.set_cons_zero, List.set_cons_succ]
  refine invl_value (.int .i64 4) rfl (fun d w' h => by have c0 := C0.out w' h.1.1; have c1 := C1.out w' h.1.1; go_simp; all_goals rfl) (fun d w' _ h => KV.out _ d w' (by decide) h) ?_
  simp only [Act.put, List.setIfInBounds_toArray, List.set_cons_zero, List.set_cons_succ]
  refine invl_value (.pointer (some ⟨w.heap.size, 1, none⟩)) rfl (fun d w' h => by have c0 := C0.out w' h.1.1; have c1 := C1.out w' h.1.1; go_simp; all_goals rfl) (fun d w' _ h => KV.out _ d w' (by decide) h) ?_
  simp only [Act.put, List.setIfInBounds_toArray, List.set_cons_zero, List.set_cons_succ]
  refine invl_value (.int .i64 2) rfl (fun d w' h => by have c0 := C0.out w' h.1.1; have c1 := C1.out w' h.1.1; go_simp; all_goals rfl) (fun d w' _ h => KV.out _ d w' (by decide) h) ?_
  simp only [Act.put, List.setIfInBounds_toArray, List.set_cons_zero, List.set_cons_succ]
  refine invl_value (.int .i64 2) rfl (fun d w' h => by have c0 := C0.out w' h.1.1; have c1 := C1.out w' h.1.1; go_simp; all_goals rfl) (fun d w' _ h => KV.out _ d w' (by decide) h) ?_
  simp only [Act.put, List.setIfInBounds_toArray, List.set_cons_zero, List.set_cons_succ]
  refine invl_value (.int .i64 2) rfl (fun d w' h => by have c0 := C0.out w' h.1.1; have c1 := C1.out w' h.1.1; go_simp; all_goals rfl) (fun d w' _ h => KV.out _ d w' (by decide) h) ?_
  simp only [Act.put, List.setIfInBounds_toArray, List.set_cons_zero, List.set_cons_succ]
  refine invl_value (.int .i64 0) rfl (fun d w' h => by have c0 := C0.out w' h.1.1; have c1 := C1.out w' h.1.1; go_simp; all_goals rfl) (fun d w' _ h => KV.out _ d w' (by decide) h) ?_
  simp only [Act.put, List.setIfInBounds_toArray, List.set_cons_zero, List.set_cons_succ]
  refine invl_value (.int .i64 4) rfl (fun d w' h => by have c0 := C0.out w' h.1.1; have c1 := C1.out w' h.1.1; go_simp; all_goals rfl) (fun d w' _ h => KV.out _ d w' (by decide) h) ?_
  simp only [Act.put, List.setIfInBounds_toArray, List.set_cons_zero, List.set_cons_succ]
  refine invl_value (.pointer (some ⟨w.heap.size, 1, none⟩)) rfl (fun d w' h => by have c0 := C0.out w' h.1.1; have c1 := C1.out w' h.1.1; go_simp; all_goals rfl) (fun d w' _ h => KV.out _ d w' (by decide) h) ?_
  simp only [Act.put, List.setIfInBounds_toArray, List.set_cons_zero, List.set_cons_succ]
  refine invl_value (.int .i64 2) rfl (fun d w' h => by have c0 := C0.out w' h.1.1; have c1 := C1.out w' h.1.1; go_simp; all_goals rfl) (fun d w' _ h => KV.out _ d w' (by decide) h) ?_
  simp only [Act.put, List.setIfInBounds_toArray, List.set_cons_zero, List.set_cons_succ]
  refine invl_value (.int .i64 0) rfl (fun d w' h => by have c0 := C0.out w' h.1.1; have c1 := C1.out w' h.1.1; go_simp; all_goals rfl) (fun d w' _ h => KV.out _ d w' (by decide) h) ?_
  simp only [Act.put, List.setIfInBounds_toArray, List.set_cons_zero, List.set_cons_succ]
  refine invl_value (.agg #[.int .i64 1, .int .i64 0, .int .i64 0]) rfl (fun d w' h => by have c0 := C0.out w' h.1.1; have c1 := C1.out w' h.1.1; go_simp; all_goals rfl) (fun d w' _ h => KV.out _ d w' (by decide) h) ?_
  simp only [Act.put, List.setIfInBounds_toArray, List.set_cons_zero, List.set_cons_succ]
  refine invl_world (.pointer (some ⟨N, 0, none⟩)) rfl (fun d w' hd h => ⟨w'.alloc (.cells #[.int .i64 0, .int .i64 0, .int .i64 0] 25), by have hh := h.2.before hd; go_simp, ⟨h.1.1.alloc _, h.1.2.1.alloc _, h.1.2.2.1.alloc _, h.1.2.2.2.alloc h.1.2.2.2.size _⟩, At.now hd (blk_at (h.2.before hd) rfl)⟩) ?_
  simp only [Act.put, List.setIfInBounds_toArray, List.set_cons_zero, List.set_cons_succ]
  refine invl_nil fun w2 hI => ?_
  obtain ⟨⟨b1, b2, b3, hb⟩, hn⟩ := hI
  have hn := hn.done (by rfl)
  refine wpList_store_blk rfl 25 _ _ rfl N 0 3 rfl 25 [.int .i64 0, .int .i64 0, .int .i64 0] [.int .i64 1, .int .i64 0, .int .i64 0] rfl hn (by kernel_rfl) rfl (by decide) (by simp [Value.oneCell']) ?_
  intro w3 n3 hg3
  have hN2 := hn.lt
  have D1 := Lib.hid (b1.grown hg3 (by omega))
  have D2 := Lib.hid (b2.grown hg3 (by omega))
  have D3 := Lib.hid (b3.grown hg3 (by omega))
  have DN := Lib.hid (show Blk w3 N [.int .i64 1, .int .i64 0, .int .i64 0] 25 from n3)
  have DL := Lib.hid (below_grown hb hg3 hb.size (by omega))
  clear b1 b2 b3 hn hb n3 hg3 B1 S1 P1 HBL HB0 HS0 HP0 hN
  go_wp2
  have KW := Lib.hid (fun (i : Nat) (d : Array Bool) (w' : World) (hi : i ≠ 20) (h : (Blk w' w.heap.size l 23 ∧ Blk w' (w.heap.size + 1 + 1) [.int .i64 0, .int .i64 0] 27 ∧ Blk w' N [.int .i64 1, .int .i64 0, .int .i64 0] 25 ∧ Below w.heap.size w w') ∧ At 20 (fun w' => Blk w' (w.heap.size + 1) [.int .i64 0, .int .i64 0, .int .i64 0] 25) (fun w' => Blk w' (w.heap.size + 1) [.int .i64 1, .int .i64 0, .int .i64 0] 25) d w') => (⟨h.1, At.keep hi id id h.2⟩ : (Blk w' w.heap.size l 23 ∧ Blk w' (w.heap.size + 1 + 1) [.int .i64 0, .int .i64 0] 27 ∧ Blk w' N [.int .i64 1, .int .i64 0, .int .i64 0] 25 ∧ Below w.heap.size w w') ∧ At 20 (fun w' => Blk w' (w.heap.size + 1) [.int .i64 0, .int .i64 0, .int .i64 0] 25) (fun w' => Blk w' (w.heap.size + 1) [.int .i64 1, .int .i64 0, .int .i64 0] 25) (d.setIfInBounds i true) w'))
  refine InvL.wp_region_inv_tail (fun d w' => (Blk w' w.heap.size l 23 ∧ Blk w' (w.heap.size + 1 + 1) [.int .i64 0, .int .i64 0] 27 ∧ Blk w' N [.int .i64 1, .int .i64 0, .int .i64 0] 25 ∧ Below w.heap.size w w') ∧ At 20 (fun w' => Blk w' (w.heap.size + 1) [.int .i64 0, .int .i64 0, .int .i64 0] 25) (fun w' => Blk w' (w.heap.size + 1) [.int .i64 1, .int .i64 0, .int .i64 0] 25) d w') 21 (by kernel_rfl) (by kernel_rfl) ⟨⟨D1.out.drew, D3.out.drew, DN.out.drew, DL.out.drew⟩, At.start (by rfl) D2.out.drew⟩ ?_
  simp only [List.take_succ_cons, List.take_zero, List.drop_succ_cons, List.drop_zero]
  refine invl_value (.agg #[.int .i64 1, .int .i64 0, .int .i64 0]) rfl (fun d w' h => exec_load (m := 3) rfl rfl h.1.2.2.1 Try.underlying25 rfl (by kernel_rfl) rfl) (fun d w' _ h => KW.out _ d w' (by decide) h) ?_
  simp only [Act.put, List.setIfInBounds_toArray, List.set_cons_zero, List.set_cons_succ]
  refine invl_value (.agg l.toArray) rfl (fun d w' h => exec_load (m := 3) rfl rfl h.1.1 Try.underlying23 rfl (by kernel_rfl) hl3) (fun d w' _ h => KW.out _ d w' (by decide) h) ?_
  simp only [Act.put, List.setIfInBounds_toArray, List.set_cons_zero, List.set_cons_succ]
  refine invl_value (.pointer (some ⟨N, 0, none⟩)) rfl (fun d w' h => by have c0 := C0.out w' h.1.1; have c1 := C1.out w' h.1.1; have d0 := h.1.2.2.1.cell 0; have d1 := h.1.2.2.1.cell 1; have d2 := h.1.2.2.1.cell 2; simp only [List.getElem?_cons_zero, List.getElem?_cons_succ] at d0 d1 d2; clear h; go_simp; all_goals rfl) (fun d w' _ h => KW.out _ d w' (by decide) h) ?_
  simp only [Act.put, List.setIfInBounds_toArray, List.set_cons_zero, List.set_cons_succ]
  refine invl_value (.int .i64 1) rfl (fun d w' h => by have c0 := C0.out w' h.1.1; have c1 := C1.out w' h.1.1; have d0 := h.1.2.2.1.cell 0; have d1 := h.1.2.2.1.cell 1; have d2 := h.1.2.2.1.cell 2; simp only [List.getElem?_cons_zero, List.getElem?_cons_succ] at d0 d1 d2; clear h; go_simp; all_goals rfl) (fun d w' _ h => KW.out _ d w' (by decide) h) ?_
  simp only [Act.put, List.setIfInBounds_toArray, List.set_cons_zero, List.set_cons_succ]
  refine invl_call (.int .i64 0) rfl 22 #[.agg l.toArray, .int .i64 1] (fun d w' _ => by go_simp) (fun d w' hd h => (HF.out w').mono fun e w'' ⟨he, hb⟩ => ⟨he, ⟨h.1.1.below hb h.1.1.lt, h.1.2.1.below hb h.1.2.1.lt, h.1.2.2.1.below hb h.1.2.2.1.lt, h.1.2.2.2.trans (hb.mono h.1.2.2.2.size)⟩, At.keep (by decide) (fun x => x.below hb x.lt) (fun x => x.below hb x.lt) h.2⟩) ?_
  simp only [Act.put, List.setIfInBounds_toArray, List.set_cons_zero, List.set_cons_succ]
  refine invl_value (.pointer (some ⟨N, 1, none⟩)) rfl (fun d w' h => by have c0 := C0.out w' h.1.1; have c1 := C1.out w' h.1.1; have d0 := h.1.2.2.1.cell 0; have d1 := h.1.2.2.1.cell 1; have d2 := h.1.2.2.1.cell 2; simp only [List.getElem?_cons_zero, List.getElem?_cons_succ] at d0 d1 d2; clear h; go_simp; all_goals rfl) (fun d w' _ h => KW.out _ d w' (by decide) h) ?_
  simp only [Act.put, List.setIfInBounds_toArray, List.set_cons_zero, List.set_cons_succ]
  refine invl_value (.int .i64 0) rfl (fun d w' h => by have c0 := C0.out w' h.1.1; have c1 := C1.out w' h.1.1; have d0 := h.1.2.2.1.cell 0; have d1 := h.1.2.2.1.cell 1; have d2 := h.1.2.2.1.cell 2; simp only [List.getElem?_cons_zero, List.getElem?_cons_succ] at d0 d1 d2; clear h; go_simp; all_goals rfl) (fun d w' _ h => KW.out _ d w' (by decide) h) ?_
  simp only [Act.put, List.setIfInBounds_toArray, List.set_cons_zero, List.set_cons_succ]
  refine invl_value (.int .i64 0) rfl (fun d w' h => by have c0 := C0.out w' h.1.1; have c1 := C1.out w' h.1.1; have d0 := h.1.2.2.1.cell 0; have d1 := h.1.2.2.1.cell 1; have d2 := h.1.2.2.1.cell 2; simp only [List.getElem?_cons_zero, List.getElem?_cons_succ] at d0 d1 d2; clear h; go_simp; all_goals rfl) (fun d w' _ h => KW.out _ d w' (by decide) h) ?_
  simp only [Act.put, List.setIfInBounds_toArray, List.set_cons_zero, List.set_cons_succ]
  refine invl_value (.pointer (some ⟨w.heap.size, 0, none⟩)) rfl (fun d w' h => by have c0 := C0.out w' h.1.1; have c1 := C1.out w' h.1.1; have d0 := h.1.2.2.1.cell 0; have d1 := h.1.2.2.1.cell 1; have d2 := h.1.2.2.1.cell 2; simp only [List.getElem?_cons_zero, List.getElem?_cons_succ] at d0 d1 d2; clear h; go_simp; all_goals rfl) (fun d w' _ h => KW.out _ d w' (by decide) h) ?_
  simp only [Act.put, List.setIfInBounds_toArray, List.set_cons_zero, List.set_cons_succ]
  refine invl_value (.int .i64 4) rfl (fun d w' h => by have c0 := C0.out w' h.1.1; have c1 := C1.out w' h.1.1; have d0 := h.1.2.2.1.cell 0; have d1 := h.1.2.2.1.cell 1; have d2 := h.1.2.2.1.cell 2; simp only [List.getElem?_cons_zero, List.getElem?_cons_succ] at d0 d1 d2; clear h; go_simp; all_goals rfl) (fun d w' _ h => KW.out _ d w' (by decide) h) ?_
  simp only [Act.put, List.setIfInBounds_toArray, List.set_cons_zero, List.set_cons_succ]
  refine invl_value (.int .i64 0) rfl (fun d w' h => by have c0 := C0.out w' h.1.1; have c1 := C1.out w' h.1.1; have d0 := h.1.2.2.1.cell 0; have d1 := h.1.2.2.1.cell 1; have d2 := h.1.2.2.1.cell 2; simp only [List.getElem?_cons_zero, List.getElem?_cons_succ] at d0 d1 d2; clear h; go_simp; all_goals rfl) (fun d w' _ h => KW.out _ d w' (by decide) h) ?_
  simp only [Act.put, List.setIfInBounds_toArray, List.set_cons_zero, List.set_cons_succ]
  refine invl_value (.pointer (some ⟨N, 0, none⟩)) rfl (fun d w' h => by have c0 := C0.out w' h.1.1; have c1 := C1.out w' h.1.1; have d0 := h.1.2.2.1.cell 0; have d1 := h.1.2.2.1.cell 1; have d2 := h.1.2.2.1.cell 2; simp only [List.getElem?_cons_zero, List.getElem?_cons_succ] at d0 d1 d2; clear h; go_simp; all_goals rfl) (fun d w' _ h => KW.out _ d w' (by decide) h) ?_
  simp only [Act.put, List.setIfInBounds_toArray, List.set_cons_zero, List.set_cons_succ]
  refine invl_value (.int .i64 1) rfl (fun d w' h => by have c0 := C0.out w' h.1.1; have c1 := C1.out w' h.1.1; have d0 := h.1.2.2.1.cell 0; have d1 := h.1.2.2.1.cell 1; have d2 := h.1.2.2.1.cell 2; simp only [List.getElem?_cons_zero, List.getElem?_cons_succ] at d0 d1 d2; clear h; go_simp; all_goals rfl) (fun d w' _ h => KW.out _ d w' (by decide) h) ?_
  simp only [Act.put, List.setIfInBounds_toArray, List.set_cons_zero, List.set_cons_succ]
  refine invl_value (.pointer (some ⟨w.heap.size, 1, none⟩)) rfl (fun d w' h => by have c0 := C0.out w' h.1.1; have c1 := C1.out w' h.1.1; have d0 := h.1.2.2.1.cell 0; have d1 := h.1.2.2.1.cell 1; have d2 := h.1.2.2.1.cell 2; simp only [List.getElem?_cons_zero, List.getElem?_cons_succ] at d0 d1 d2; clear h; go_simp; all_goals rfl) (fun d w' _ h => KW.out _ d w' (by decide) h) ?_
  simp only [Act.put, List.setIfInBounds_toArray, List.set_cons_zero, List.set_cons_succ]
  refine invl_value (.int .i64 2) rfl (fun d w' h => by have c0 := C0.out w' h.1.1; have c1 := C1.out w' h.1.1; have d0 := h.1.2.2.1.cell 0; have d1 := h.1.2.2.1.cell 1; have d2 := h.1.2.2.1.cell 2; simp only [List.getElem?_cons_zero, List.getElem?_cons_succ] at d0 d1 d2; clear h; go_simp; all_goals rfl) (fun d w' _ h => KW.out _ d w' (by decide) h) ?_
  simp only [Act.put, List.setIfInBounds_toArray, List.set_cons_zero, List.set_cons_succ]
  refine invl_value (.int .i64 2) rfl (fun d w' h => by have c0 := C0.out w' h.1.1; have c1 := C1.out w' h.1.1; have d0 := h.1.2.2.1.cell 0; have d1 := h.1.2.2.1.cell 1; have d2 := h.1.2.2.1.cell 2; simp only [List.getElem?_cons_zero, List.getElem?_cons_succ] at d0 d1 d2; clear h; go_simp; all_goals rfl) (fun d w' _ h => KW.out _ d w' (by decide) h) ?_
  simp only [Act.put, List.setIfInBounds_toArray, List.set_cons_zero, List.set_cons_succ]
  refine invl_value (.pointer (some ⟨N, 2, none⟩)) rfl (fun d w' h => by have c0 := C0.out w' h.1.1; have c1 := C1.out w' h.1.1; have d0 := h.1.2.2.1.cell 0; have d1 := h.1.2.2.1.cell 1; have d2 := h.1.2.2.1.cell 2; simp only [List.getElem?_cons_zero, List.getElem?_cons_succ] at d0 d1 d2; clear h; go_simp; all_goals rfl) (fun d w' _ h => KW.out _ d w' (by decide) h) ?_
  simp only [Act.put, List.setIfInBounds_toArray, List.set_cons_zero, List.set_cons_succ]
  refine invl_value (.int .i64 0) rfl (fun d w' h => by have c0 := C0.out w' h.1.1; have c1 := C1.out w' h.1.1; have d0 := h.1.2.2.1.cell 0; have d1 := h.1.2.2.1.cell 1; have d2 := h.1.2.2.1.cell 2; simp only [List.getElem?_cons_zero, List.getElem?_cons_succ] at d0 d1 d2; clear h; go_simp; all_goals rfl) (fun d w' _ h => KW.out _ d w' (by decide) h) ?_
  simp only [Act.put, List.setIfInBounds_toArray, List.set_cons_zero, List.set_cons_succ]
  refine invl_value (.int .i64 2) rfl (fun d w' h => by have c0 := C0.out w' h.1.1; have c1 := C1.out w' h.1.1; have d0 := h.1.2.2.1.cell 0; have d1 := h.1.2.2.1.cell 1; have d2 := h.1.2.2.1.cell 2; simp only [List.getElem?_cons_zero, List.getElem?_cons_succ] at d0 d1 d2; clear h; go_simp; all_goals rfl) (fun d w' _ h => KW.out _ d w' (by decide) h) ?_
  simp only [Act.put, List.setIfInBounds_toArray, List.set_cons_zero, List.set_cons_succ]
  refine invl_value (.agg #[.int .i64 0, .int .i64 2]) rfl (fun d w' h => by have c0 := C0.out w' h.1.1; have c1 := C1.out w' h.1.1; have d0 := h.1.2.2.1.cell 0; have d1 := h.1.2.2.1.cell 1; have d2 := h.1.2.2.1.cell 2; simp only [List.getElem?_cons_zero, List.getElem?_cons_succ] at d0 d1 d2; clear h; go_simp; all_goals rfl) (fun d w' _ h => KW.out _ d w' (by decide) h) ?_
  simp only [Act.put, List.setIfInBounds_toArray, List.set_cons_zero, List.set_cons_succ]
  refine invl_meets undef rfl (fun d w' hd h => meets_store (m := 3) (vs := [.int .i64 1, .int .i64 0, .int .i64 0]) rfl rfl rfl (h.2.before hd) (by kernel_rfl) rfl rfl (by simp [Value.oneCell']) ⟨⟨h.1.1.setRow_far (by omega) _, h.1.2.1.setRow_far (by omega) _, h.1.2.2.1.setRow_far (by omega) _, below_setRow h.1.2.2.2 (by omega) _⟩, At.now hd ((h.2.before hd).setRow _)⟩) ?_
  simp only [Act.put, List.setIfInBounds_toArray, List.set_cons_zero, List.set_cons_succ]
  refine invl_nil fun w5 hI => ?_
  obtain ⟨⟨b1, b5, b4, hb5⟩, hn⟩ := hI
  have n5 := hn.done (by kernel_rfl)
  refine wpList_store_blk rfl 27 _ _ rfl (w.heap.size + 1 + 1) 0 2 rfl 27 [.int .i64 0, .int .i64 0] [.int .i64 0, .int .i64 2] rfl b5 (by kernel_rfl) rfl (by decide) (by simp [Value.oneCell']) ?_
  intro w6 n6 hg6
  have E1 := Lib.hid (show Blk w6 (w.heap.size + 1) [.int .i64 1, .int .i64 0, .int .i64 0] 25 from Blk.grown n5 hg6 (by omega))
  have E2 := Lib.hid (show Blk w6 (w.heap.size + 1 + 1) [.int .i64 0, .int .i64 2] 27 from n6)
  have EL := Lib.hid (below_grown hb5 hg6 hb5.size (by omega))
  clear n5 n6 hg6 b1 b4 hb5 b5 hn
  have s0 := E1.out.cell 0
  have s1 := E1.out.cell 1
  have s2 := E1.out.cell 2
  have q0 := E2.out.cell 0
  have q1 := E2.out.cell 1
  simp only [List.getElem?_cons_zero, List.getElem?_cons_succ] at s0 s1 s2 q0 q1
  go_wp2
  exact bodyPost_ret (v := .tuple #[.agg #[.int .i64 1, .int .i64 0, .int .i64 0], .agg #[.int .i64 0, .int .i64 2], .int .i64 0]) (by
    simp [results, Try.f9, go_sem, s0, s1, s2, q0, q1]) rfl ⟨rfl, EL.out⟩
theorem spot_eq (w : World) : (Op.equalIn 10000 25 (.agg #[.int .i64 1, .int .i64 0, .int .i64 0]) (.agg #[.int .i64 1, .int .i64 0, .int .i64 0])).run Try.prog w = .ok true w := by
  have h := Eq.run_eq_flat (P := Try.prog) (t := 25) (ks := [.i64, .i64, .i64]) (l := [(.i64, 1), (.i64, 0), (.i64, 0)]) (m := [(.i64, 1), (.i64, 0), (.i64, 0)]) 6 (by kernel_rfl) (by kernel_rfl) (by kernel_rfl) rfl rfl (by decide) (by decide) w
  simpa [Eq.val] using h
theorem place_eq (w : World) : (Op.equalIn 10000 27 (.agg #[.int .i64 0, .int .i64 2]) (.agg #[.int .i64 0, .int .i64 2])).run Try.prog w = .ok true w := by
  have h := Eq.run_eq_flat (P := Try.prog) (t := 27) (ks := [.i64, .i64]) (l := [(.i64, 0), (.i64, 2)]) (m := [(.i64, 0), (.i64, 2)]) 6 (by kernel_rfl) (by kernel_rfl) (by kernel_rfl) rfl rfl (by decide) (by decide) w
  simpa [Eq.val] using h
set_option maxHeartbeats 1000000 in
theorem awake_any (w : World) : Calls Try.prog 11 #[] w fun e w' => e = .returned (.bool true) ∧ Below w.heap.size w w' := by
  have HM := Lib.hid map_one
  have HE := Lib.hid spot_eq
  have HF := Lib.hid place_eq
  go_enter Try.func11, Try.ntmps11
  go_wp2_with fail
  refine (HM.out _).mono ?_
  rintro e w1 ⟨rfl, hb⟩
  have HB := Lib.hid hb
  have hs := hb.size
  clear hb
  go_wp2
  go_ret
  exact ⟨rfl, (HB.out.alloc hs _).alloc (by simp only [size_alloc]; omega) _⟩
end Go.Proofs.Ytgedclbfednhlaa.Lay
