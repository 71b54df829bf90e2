/-
  A row of pieces of one size that is made. Helper text; no statement is proved here.
-/
import Derived.Test.YtnjcepjhllgccaaFlat
import Derived.OwnWalk
set_option linter.unusedVariables false
set_option linter.unusedSimpArgs false
namespace Go.Proofs.Ytnjcepjhllgccaa.Flat
open Go.RowKit Go.Proofs.Ytnjcepjhllgccaa.Base Go.Proofs.Ytnjcepjhllgccaa.Laws
theorem made_flat {α : Type} {f : α → List Value} {x : α} {zs : List Value} (hz : f x = zs) (n : Nat) (h : 0 < zs.length) : madeCells zs.toArray (n * zs.length) = (flat f (List.replicate n x)).toArray := by
  have hl : ∀ y ∈ List.replicate n x, (f y).length = zs.length := fun y hy => by rw [List.eq_of_mem_replicate hy, hz]
  apply Array.ext
  · rw [size_madeCells, List.size_toArray, flat_len hl, List.length_replicate]
  · intro i h1 h2
    rw [size_madeCells] at h1
    have hi : i / zs.length < n := Nat.div_lt_of_lt_mul (by rw [Nat.mul_comm]; exact h1)
    have hm : i % zs.length < zs.length := Nat.mod_lt _ h
    have hg := flat_get (f := f) (l := List.replicate n x) (i := i / zs.length) (j := i % zs.length) (x := x) (u := zs[i % zs.length]) hl (by simp [hi]) (by rw [hz]; exact List.getElem?_eq_getElem hm)
    rw [show i / zs.length * zs.length + i % zs.length = i from by rw [Nat.mul_comm]; exact Nat.div_add_mod _ _] at hg
    have h3 : i < (flat f (List.replicate n x)).length := by simpa using h2
    rw [List.getElem?_eq_getElem h3] at hg
    have hg' := Option.some.inj hg
    simp only [List.getElem_toArray, hg']
    unfold madeCells
    simp [hm]
section
variable {P : Program}
theorem wpList_make_flat {α : Type} {f : α → List Value} {x : α} {w : World} {ops : Array Oper} {rest : List Oper} {o : Oper} {a : Act} {Q : Exit → Act → World → Prop}
    (hg : o.guard = none) (t e : TypeId) (l c : Operand) (hop : o.op = Op.makeSlice t l c) (z : Value) (size bytes : Nat) (ht : P.underlying t = some (.slice e)) (hi : (P.info? e).map (fun i => (i.zero, i.size, i.bytes)) = some (some z, size, bytes))
    (hz : z.cells = (f x).toArray) (hs : (f x).length = size) (h0 : 0 < size) (kl kc : IntKind) (n : Nat) (hl : a.eval l = .int kl n) (hc : a.eval c = .int kc n) (hb : bytes * n ≤ 281474976710656) (hm : n ≤ maxLen)
    (h : wpList P ops Q rest (a.put o.dst (.slice (some ⟨w.heap.size, 0, none⟩) n n)) (w.alloc (.cells (flat f (List.replicate n x)).toArray e))) : wpList P ops Q (o :: rest) a w := by
  obtain ⟨i, hi, hz', hsz, hby⟩ := info_parts hi
  unfold maxLen at hm
  refine wpList_plain hg fun K hK => ?_
  have hr := run_make (P := P) w t e i z ht hi hz' kl kc n n (by omega) (by omega) (by rw [hby, ← Int.natCast_mul]; generalize bytes * n = q at hb; omega) (by omega)
  rw [hsz, hz] at hr
  simp only [Int.toNat_natCast] at hr
  rw [← hs, made_flat (f := f) (x := x) rfl n (by omega)] at hr
  unfold Oper.wp
  simp [execOp, hop, hl, hc, hr, Result.andThen]
  exact hK _ _ h
end
end Go.Proofs.Ytnjcepjhllgccaa.Flat
