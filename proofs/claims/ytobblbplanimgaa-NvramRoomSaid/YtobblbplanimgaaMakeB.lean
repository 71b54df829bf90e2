/-
  A row of bytes that is made with room. Helper text; no statement is proved here.
-/
import Derived.Test.YtobblbplanimgaaOwnB
import Derived.OwnWalk
set_option linter.unusedVariables false
set_option maxRecDepth 20000
namespace Go.Proofs.Ytobblbplanimgaa.OwnB
open Go.RowKit Go.Proofs.Ytobblbplanimgaa.Base Go.Proofs.Ytobblbplanimgaa.Laws
/-- noughts -/
def zs (k : Nat) : List UInt8 := List.replicate k 0
theorem zs_bv (k : Nat) : List.replicate k (Value.int .u8 0) = bv (zs k) := by
  unfold bv zs u8
  rw [List.map_replicate]
  rfl
theorem made_bytes (c : Nat) : madeCells (Value.int .u8 0).cells (c * 1) = (bv (zs c)).toArray := by
  apply Array.toList_inj.1
  rw [Nat.mul_one, ← zs_bv]
  exact toList_madeCells_one _ _
/-- 'make([]byte, n, c)' -/
theorem wpList_make_bytes {w : World} {ops : Array Oper} {rest : List Oper} {o : Oper} {a : Act} {Q : Exit → Act → World → Prop}
    (hg : o.guard = none) (l c : Operand) (hop : o.op = Op.makeSlice 46 l c) (kl kc : IntKind) (L C : Int) (n m : Nat) (hl : a.eval l = .int kl L) (hc : a.eval c = .int kc C) (hL : L = (n : Int)) (hC : C = (m : Int)) (hnm : n ≤ m) (hm : m ≤ 1000000)
    (h : wpList Try.prog ops Q rest (a.put o.dst (.slice (some ⟨w.heap.size, 0, none⟩) n m)) (w.alloc (.cells (bv (zs m)).toArray 5))) : wpList Try.prog ops Q (o :: rest) a w := by
  obtain ⟨i, hi, hz, hs, hb⟩ := info_parts infou8
  refine wpList_plain hg fun K hK => ?_
  subst hL
  subst hC
  have hr := run_make (P := Try.prog) w 46 5 i (.int .u8 0) Try.underlying46 hi hz kl kc n m (by omega) (by omega) (by rw [hb]; omega) (by omega)
  rw [hs] at hr
  simp only [Int.toNat_natCast, made_bytes] at hr
  unfold Oper.wp
  simp [execOp, hop, hl, hc, hr, Result.andThen]
  exact hK _ _ h
end Go.Proofs.Ytobblbplanimgaa.OwnB
