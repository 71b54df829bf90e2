/-
  More steps for regions of open order: a load of a whole block, a store of one. Helper text; no statement is proved here.
-/
import Derived.Test.YtfjaoompdleljaaInvL
set_option linter.unusedVariables false
set_option maxRecDepth 20000
set_option linter.unusedSimpArgs false
namespace Go.Proofs.Ytfjaoompdleljaa.InvM
open Go.RowKit Go.Proofs.Ytfjaoompdleljaa.Laws Go.Proofs.Ytfjaoompdleljaa.Inv Go.Proofs.Ytfjaoompdleljaa.InvL
theorem exec_load {P : Program} {ρ : Operand → Value} {w : World} {o : Oper} {ty t : TypeId} {x : Operand} {g m : Nat} {cs : List Value} {d : TypeDesc} (ho : o.op = .load ty x) (hx : ρ x = .pointer (some ⟨g, 0, none⟩)) (hg : Blk w g cs t) (hu : P.underlying ty = some d) (hd : (match d with | .struct _ | .array _ _ => true | _ => false) = true) (hi : (P.info? ty).map (·.size) = some m) (hm : cs.length = m) : (execOp ρ o).run P w = .ok (.value (.agg cs.toArray)) w := by
  unfold execOp
  simp only [ho, hx, Instr.loadAt, Instr.sureAddr, Sem.run_bind, Sem.run_pure, Result.andThen_ok, run_load_blk hg hu hd hi (show 0 + m ≤ cs.length by omega)]
  rw [List.drop_zero, List.take_of_length_le (by omega)]
/-- the cells from an address on, loaded as one value -/
theorem run_load_from {P : Program} {w : World} {ad : Addr} {m : Nat} {ty : TypeId} {vs : List Value} {d : TypeDesc} (hc : ∀ j v, vs[j]? = some v → w.cell? (ad.add j) = some v) (hu : P.underlying ty = some d) (hd : (match d with | .struct _ | .array _ _ => true | _ => false) = true)
    (hi : (P.info? ty).map (·.size) = some m) (hm : vs.length = m) : (loadVar ty ad).run P w = .ok (.agg vs.toArray) w := by
  have hl : (loadCells ad m).run P w = .ok vs.toArray w := by
    have := run_loadCells_list (P := P) w ad vs hc
    rwa [hm] at this
  obtain ⟨i, hi1, hi2⟩ := Option.map_eq_some_iff.1 hi
  have hs : (sizeOf ty).run P w = .ok m w := by simp [sizeOf, typeInfo, hi1, hi2]
  have ha : (isAgg ty).run P w = .ok true w := by
    unfold isAgg
    simp only [Sem.run_bind, run_underlying hu, Result.andThen_ok]
    cases d <;> first | rfl | (simp at hd)
  unfold loadVar
  simp [ha, hs, hl]
theorem exec_load_from {P : Program} {ρ : Operand → Value} {w : World} {o : Oper} {ty : TypeId} {x : Operand} {ad : Addr} {m : Nat} {vs : List Value} {d : TypeDesc} (ho : o.op = .load ty x) (hx : ρ x = .pointer (some ad)) (hc : ∀ j v, vs[j]? = some v → w.cell? (ad.add j) = some v) (hu : P.underlying ty = some d) (hd : (match d with | .struct _ | .array _ _ => true | _ => false) = true) (hi : (P.info? ty).map (·.size) = some m) (hm : vs.length = m) : (execOp ρ o).run P w = .ok (.value (.agg vs.toArray)) w := by
  unfold execOp
  simp only [ho, hx, Instr.loadAt, Instr.sureAddr, Sem.run_bind, Sem.run_pure, Result.andThen_ok, run_load_from hc hu hd hi hm]
theorem exec_array_at {P : Program} {ρ : Operand → Value} {w : World} {o : Oper} {arr e : TypeId} {x : Operand} {n len cap : Nat} {ad : Option Addr} (ho : o.op = .sliceToArrayPointer arr x) (hx : ρ x = .slice ad len cap) (hu : P.underlying arr = some (.array n e)) (hn : n ≤ len) : (execOp ρ o).run P w = .ok (.value (.pointer ad)) w := by
  unfold execOp
  have h : (Instr.arrayAt arr (.slice ad len cap)).run P w = .ok (.pointer ad) w := by simp [Instr.arrayAt, run_underlying hu, Nat.not_lt.2 hn]
  simp only [ho, hx, h, Sem.run_bind, Sem.run_pure, Result.andThen_ok]
theorem meets_store {P : Program} {J : World → Prop} {ρ : Operand → Value} {w : World} {o : Oper} {ty t : TypeId} {x y : Operand} {g m : Nat} {cs vs : List Value} (ho : o.op = .store ty x y) (hx : ρ x = .pointer (some ⟨g, 0, none⟩)) (hy : ρ y = .agg vs.toArray) (hg : Blk w g cs t) (hi : (P.info? ty).map (·.size) = some m) (hl : vs.length = m) (hm : cs.length = m) (h1 : ∀ v ∈ vs, v.oneCell' = true) (h : J (w.setRow g vs.toArray)) : Meets P J undef ((execOp ρ o).run P w) := by
  have e := put_all cs vs (by omega)
  unfold execOp
  simp only [ho, hx, hy, Instr.storeAt, Instr.sureAddr, Sem.run_bind, Sem.run_pure, Result.andThen_ok, run_store_blk hg hi hl (show 0 + m ≤ cs.length by omega) h1, e]
  exact ⟨rfl, h⟩
theorem invl_meets {P : Program} {I : Array Bool → World → Prop} {ops : Array Oper} {Q : Act → Prop} {i : Nat} {a : Act} {o : Oper} {rest : List Oper} (v : Value) (hw : Region.wanted o (yielded ops a.tmps) = true) (hr : ∀ d w, d.getD i true = false → I d w → Meets P (I (d.setIfInBounds i true)) v ((execOp a.eval o).run P w))
    (h : wpInvL P I ops Q (i + 1) rest (a.put o.dst v)) : wpInvL P I ops Q i (o :: rest) a :=
  ⟨v, .inl ⟨hw, hr⟩, h⟩
/-- a load of a whole block, guarded -/
theorem wpList_load_g {P : Program} {w : World} {ops : Array Oper} {rest : List Oper} {o : Oper} {a : Act} {Q : Exit → Act → World → Prop} (hw : Region.wanted o (yielded ops a.tmps) = true) (ty : TypeId) (x : Operand) (ho : o.op = .load ty x)
    (g m : Nat) (hx : a.eval x = .pointer (some ⟨g, 0, none⟩)) (t : TypeId) (cs : List Value) (d : TypeDesc) (hg : Blk w g cs t)
    (hu : P.underlying ty = some d) (hd : (match d with | .struct _ | .array _ _ => true | _ => false) = true) (hi : (P.info? ty).map (·.size) = some m) (hm : cs.length = m)
    (h : wpList P ops Q rest (a.put o.dst (.agg cs.toArray)) w) : wpList P ops Q (o :: rest) a w := by
  unfold wpList
  rw [if_pos hw]
  refine .inl ?_
  unfold Oper.wp
  rw [exec_load (ρ := a.eval) ho hx hg hu hd hi hm]
  exact h
/-- '==' on whole values -/
theorem exec_eql {P : Program} {ρ : Operand → Value} {w : World} {o : Oper} {t u : TypeId} {x y : Operand} {a b : Array Value} {c : Bool} (ho : o.op = .binOp .eql t x y u) (hx : ρ x = .agg a) (hy : ρ y = .agg b) (hg : P.eqGuardType P.depth t = false) (he : (Op.equalIn 10000 t (.agg a) (.agg b)).run P w = .ok c w) : (execOp ρ o).run P w = .ok (.value (.bool c)) w := by
  have h1 : (eqGuard .eql t x y (.agg a) (.agg b)).run P w = .ok () w := by
    unfold eqGuard
    simp [go_sem, hg]
  have h2 : (binOp .eql t (.agg a) (.agg b)).run P w = .ok (.bool c) w := by
    unfold binOp
    simp only [Sem.run_bind]
    show ((Op.equalIn 10000 t (.agg a) (.agg b)).run P w).andThen _ = _
    rw [he]
    rfl
  unfold execOp
  simp only [ho, hx, hy, Sem.run_bind, h1, h2, Result.andThen_ok, Sem.run_pure]
theorem exec_neq {P : Program} {ρ : Operand → Value} {w : World} {o : Oper} {t u : TypeId} {x y : Operand} {a b : Array Value} {c : Bool} (ho : o.op = .binOp .neq t x y u) (hx : ρ x = .agg a) (hy : ρ y = .agg b) (hg : P.eqGuardType P.depth t = false) (he : (Op.equalIn 10000 t (.agg a) (.agg b)).run P w = .ok c w) : (execOp ρ o).run P w = .ok (.value (.bool (!c))) w := by
  have h1 : (eqGuard .neq t x y (.agg a) (.agg b)).run P w = .ok () w := by
    unfold eqGuard
    simp [go_sem, hg]
  have h2 : (binOp .neq t (.agg a) (.agg b)).run P w = .ok (.bool (!c)) w := by
    unfold binOp
    simp only [Sem.run_bind]
    show ((Op.equalIn 10000 t (.agg a) (.agg b)).run P w).andThen _ = _
    rw [he]
    rfl
  unfold execOp
  simp only [ho, hx, hy, Sem.run_bind, h1, h2, Result.andThen_ok, Sem.run_pure]
/-- an operation that yields a value, guarded or not -/
theorem wpList_value_g {P : Program} {w : World} {ops : Array Oper} {rest : List Oper} {o : Oper} {a : Act} {Q : Exit → Act → World → Prop} (hw : Region.wanted o (yielded ops a.tmps) = true) (v : Value) (hr : (execOp a.eval o).run P w = .ok (.value v) w)
    (h : wpList P ops Q rest (a.put o.dst v) w) : wpList P ops Q (o :: rest) a w := by
  unfold wpList
  rw [if_pos hw]
  refine .inl ?_
  unfold Oper.wp
  rw [hr]
  exact h
/-- an operation that yields a value and another world -/
theorem wpList_world_gg {P : Program} {w w' : World} {ops : Array Oper} {rest : List Oper} {o : Oper} {a : Act} {Q : Exit → Act → World → Prop} (hw : Region.wanted o (yielded ops a.tmps) = true) (v : Value) (hr : (execOp a.eval o).run P w = .ok (.value v) w')
    (h : wpList P ops Q rest (a.put o.dst v) w') : wpList P ops Q (o :: rest) a w := by
  unfold wpList
  rw [if_pos hw]
  refine .inl ?_
  unfold Oper.wp
  rw [hr]
  exact h
/-- results of which the first is a cell of rows -/
theorem results_cell_two {P : Program} {fn : Func} {p q : Tmp} {ty : TypeId} (h : fn.results = #[.cell p ty, .tmp q]) (tmps : Array Value) (w : World) (g : Nat) (t : TypeId) (cs : Array Value) (fr : Nat × Nat) (d : TypeDesc) (v : Value)
    (hp : tmps.getD p undef = .pointer (some ⟨g, 0, none⟩)) (hq : tmps.getD q undef = v) (hg : w.heap[g]? = some (.cells cs t fr))
    (hu : P.underlying ty = some d) (hd : (match d with | .struct _ | .array _ _ => true | _ => false) = true) (hi : (P.info? ty).map (·.size) = some cs.size) :
    (results fn tmps).run P w = .ok (.tuple #[.agg cs, v]) w := by
  have hp' : tmps[p]?.getD undef = .pointer (some ⟨g, 0, none⟩) := by simpa using hp
  have hq' : tmps[q]?.getD undef = v := by simpa using hq
  simp [results, h, hp', hq', asAddr, run_loadVar_row w g t ty cs fr d hg hu hd hi]
end Go.Proofs.Ytfjaoompdleljaa.InvM
