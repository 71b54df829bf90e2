/-
  Pieces of slices of bytes, wherever they lie; a slice built of one whole value. Helper text; no statement is proved here.
-/
import Derived.Test.YtfjaoompdleljaaBase
import Derived.Test.YtfjaoompdleljaaInvM
import Derived.Test.YtfjaoompdleljaaOwnB
set_option linter.unusedVariables false
set_option maxRecDepth 20000
set_option linter.unusedSimpArgs false
namespace Go.Proofs.Ytfjaoompdleljaa.Codec
open Go.RowKit Go.Proofs.Ytfjaoompdleljaa.Base Go.Proofs.Ytfjaoompdleljaa.Laws Go.Proofs.Ytfjaoompdleljaa.InvM
theorem bts_alloc {w : World} {a : Option Addr} {len cap : Nat} {l : List UInt8} (h : Bts w a len cap l) (o : Obj) : Bts (w.alloc o) a len cap l :=
  h.below (B := w.heap.size) ((Below.refl _ _).alloc (Nat.le_refl _) _) (Nat.le_refl _)
theorem exec_build {P : Program} {ρ : Operand → Value} {w : World} {o : Oper} {t : TypeId} {parts : Array (Nat × Operand)} {vs : List (Nat × Value)} {cells : Array Value} (ho : o.op = .build t parts) (hx : parts.toList.map (fun (i, x) => (i, ρ x)) = vs) (hb : P.built t vs = some cells) : (execOp ρ o).run P w = .ok (.value (.agg cells)) w := by
  unfold execOp
  simp only [ho]
  have hx' : parts.map (fun (i, x) => (i, ρ x)) = vs.toArray := by rw [← hx]; apply Array.ext'; simp
  rw [hx']
  simp only [Sem.run_bind, run_build w t vs.toArray cells hb, Result.andThen_ok, Sem.run_pure]
/-- the address behind a slicing -/
def shifted (a : Option Addr) (i m : Nat) : Option Addr := if m = i then a else a.map (·.add (i * 1))
theorem sizeu8 (w : World) : (sizeOf 5).run Try.prog w = .ok 1 w := by
  obtain ⟨i, hi, hz, hs, hb⟩ := info_parts OwnB.infou8
  simp [sizeOf, typeInfo, hi, hs]
theorem slice_from (w : World) (a : Option Addr) (len cap i : Nat) (k : IntKind) (hi : i ≤ len) (hc : len ≤ cap) : (Instr.sliceAt 23 (.slice a len cap) (some (.int k i)) none none).run Try.prog w = .ok (.slice (shifted a i cap) (len - i) (cap - i)) w := by
  have hu := run_underlying (P := Try.prog) (w := w) Try.underlying23
  have hb := run_sliceBound (P := Try.prog) (w := w) k i len .sliceB (by omega) (by omega)
  simp only [Instr.sliceAt, Sem.run_bind, hu, Result.andThen_ok, Instr.slice, Instr.sliceBounds, Option.isSome_none, Sem.run_pure, sizeu8 w]
  simp [hb, shifted, sizeu8 w]
theorem slice_to (w : World) (a : Option Addr) (len cap j : Nat) (k : IntKind) (hj : j ≤ cap) : (Instr.sliceAt 23 (.slice a len cap) none (some (.int k j)) none).run Try.prog w = .ok (.slice (shifted a 0 cap) j cap) w := by
  have hu := run_underlying (P := Try.prog) (w := w) Try.underlying23
  have hb := run_sliceBound (P := Try.prog) (w := w) k j cap .sliceAcap (by omega) (by omega)
  simp only [Instr.sliceAt, Sem.run_bind, hu, Result.andThen_ok, Instr.slice, Instr.sliceBounds, Option.isSome_none, Sem.run_pure, sizeu8 w]
  simp [hb, shifted, sizeu8 w]
theorem exec_slice {P : Program} {ρ : Operand → Value} {w : World} {o : Oper} {t : TypeId} {x : Operand} {lo hi mx : Option Operand} {v : Value} (ho : o.op = .slice t x lo hi mx) (h : (Instr.sliceAt t (ρ x) (lo.map ρ) (hi.map ρ) (mx.map ρ)).run P w = .ok v w) : (execOp ρ o).run P w = .ok (.value v) w := by
  unfold execOp
  simp only [ho, Sem.run_bind, h, Result.andThen_ok, Sem.run_pure]
theorem bts_from {w : World} {a : Option Addr} {len cap i : Nat} {l : List UInt8} (h : Bts w a len cap l) (hi : i ≤ len) : Bts w (shifted a i cap) (len - i) (cap - i) (l.drop i) := by
  obtain ⟨h1, h2, h3, h4⟩ := h
  refine ⟨by rw [List.length_drop]; omega, by omega, by omega, ?_⟩
  by_cases h0 : len - i = 0
  · exact .inl h0
  · rcases h4 with h4 | ⟨b, o, rfl, hc⟩
    · omega
    · unfold shifted
      rw [if_neg (by omega)]
      refine .inr ⟨b, o + i, by simp [Addr.add], fun j u hu => ?_⟩
      rw [List.getElem?_drop] at hu
      rw [Nat.add_assoc]
      exact hc _ u hu
theorem bts_to {w : World} {a : Option Addr} {len cap j : Nat} {l : List UInt8} (h : Bts w a len cap l) (hj : j ≤ len) : Bts w (shifted a 0 cap) j cap (l.take j) := by
  obtain ⟨h1, h2, h3, h4⟩ := h
  refine ⟨by rw [List.length_take]; omega, by omega, by omega, ?_⟩
  by_cases h0 : j = 0
  · exact .inl h0
  · rcases h4 with h4 | ⟨b, o, rfl, hc⟩
    · omega
    · unfold shifted
      rw [if_neg (by omega)]
      refine .inr ⟨b, o, by simp [Addr.add], fun i u hu => ?_⟩
      rw [List.getElem?_take] at hu
      split at hu
      · exact hc i u hu
      · cases hu
/-- a slice of one whole value is built -/
theorem run_build_one {P : Program} (w : World) {t e : TypeId} {vs : List Value} {z : Value} {size bytes : Nat} (hu : P.underlying t = some (.slice e)) (hi : (P.info? e).map (fun i => (i.zero, i.size, i.bytes)) = some (some z, size, bytes)) (hl : vs.length = size) (h0 : 0 < size) (hs : size ≤ 1000) :
    (Instr.buildSlice t 1 #[(0, .agg vs.toArray)]).run P w = .ok (.slice (some ⟨w.heap.size, 0, none⟩) 1 1) (w.alloc (.cells vs.toArray e)) := by
  obtain ⟨i, hi, hz, hsz, hb⟩ := info_parts hi
  have hso : (sizeOf e).run P w = .ok size w := by simp [sizeOf, typeInfo, hi, hsz]
  have hzo : (zeroValue e).run P w = .ok z w := by simp [zeroValue, typeInfo, hi, hz]
  have hf : ∀ A : Array Value, A.size = size → Instr.fill (fun i => some (i * size, size)) A [(0, .agg vs.toArray)] = some vs.toArray := fun A hA => by
    have := fill_cons (fun i => some (i * size, size)) A.toList vs 0 0 (.agg vs.toArray) [] (by simp [hl]) rfl (by simp [hA, hl])
    rw [show A.toList.toArray = A from by simp] at this
    rw [this, put_all _ _ (by simp [hA, hl])]
    rfl
  unfold Instr.buildSlice
  have hfa := hf ((Array.range (1 * size)).map (fun x => z.cells[x % z.cells.size]!)) (by simp)
  simp only [Sem.run_bind, run_underlying hu, Result.andThen_ok, hso, Nat.one_mul, hzo] at hfa ⊢
  rw [if_neg (by omega), if_neg (by omega)]
  simp [hzo, hfa, newRow, newObj]
  rfl
theorem exec_build_one {P : Program} {ρ : Operand → Value} {w : World} {o : Oper} {t e : TypeId} {x : Operand} {vs : List Value} {z : Value} {size bytes : Nat} (ho : o.op = .buildSlice t 1 #[(0, x)]) (hx : ρ x = .agg vs.toArray) (hu : P.underlying t = some (.slice e)) (hi : (P.info? e).map (fun i => (i.zero, i.size, i.bytes)) = some (some z, size, bytes)) (hl : vs.length = size) (h0 : 0 < size) (hs : size ≤ 1000) :
    (execOp ρ o).run P w = .ok (.value (.slice (some ⟨w.heap.size, 0, none⟩) 1 1)) (w.alloc (.cells vs.toArray e)) := by
  have hm : (#[((0 : Nat), x)].map fun (i, x) => (i, ρ x)) = #[(0, .agg vs.toArray)] := by simp [hx]
  unfold execOp
  simp only [ho, hm, Sem.run_bind, run_build_one w hu hi hl h0 hs, Result.andThen_ok, Sem.run_pure]
theorem wpList_world_g {P : Program} {w w' : World} {ops : Array Oper} {rest : List Oper} {o : Oper} {a : Act} {Q : Exit → Act → World → Prop} (hw : Region.wanted o (yielded ops a.tmps) = true) (v : Value) (hr : (execOp a.eval o).run P w = .ok (.value v) w')
    (h : wpList P ops Q rest (a.put o.dst v) w') : wpList P ops Q (o :: rest) a w := by
  unfold wpList
  rw [if_pos hw]
  refine .inl ?_
  unfold Oper.wp
  rw [hr]
  exact h
end Go.Proofs.Ytfjaoompdleljaa.Codec
