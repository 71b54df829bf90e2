/-
  Records that are built. Helper text; no statement is proved here.
-/
import Derived.Test.YtobblbplanimgaaRecPlain
import Derived.Test.YtobblbplanimgaaInvM
set_option linter.unusedVariables false
set_option maxRecDepth 20000
set_option linter.unusedSimpArgs false
namespace Go.Proofs.Ytobblbplanimgaa.Codec
open Go.RowKit Go.Proofs.Ytobblbplanimgaa.Base Go.Proofs.Ytobblbplanimgaa.Laws
theorem list16 {α : Type} : ∀ (l : List α), l.length = 16 → ∃ x0 x1 x2 x3 x4 x5 x6 x7 x8 x9 x10 x11 x12 x13 x14 x15 : α, l = [x0, x1, x2, x3, x4, x5, x6, x7, x8, x9, x10, x11, x12, x13, x14, x15]
  | [x0, x1, x2, x3, x4, x5, x6, x7, x8, x9, x10, x11, x12, x13, x14, x15], _ => ⟨x0, x1, x2, x3, x4, x5, x6, x7, x8, x9, x10, x11, x12, x13, x14, x15, rfl⟩
theorem built_rec16' (k v a : Int) (x0 x1 x2 x3 x4 x5 x6 x7 x8 x9 x10 x11 x12 x13 x14 x15 : Value) : Try.prog.built 27 [(0, .int .i64 k), (1, .int .u64 v), (2, .int .i64 a), (3, .agg #[x0, x1, x2, x3, x4, x5, x6, x7, x8, x9, x10, x11, x12, x13, x14, x15])] = some #[.int .i64 k, .int .u64 v, .int .i64 a, x0, x1, x2, x3, x4, x5, x6, x7, x8, x9, x10, x11, x12, x13, x14, x15] := by kernel_rfl
theorem built_rec (k : Int) (v : Nat) (a : Int) (l : List UInt8) (hl : l.length = 16) : Try.prog.built 27 [(0, .int .i64 k), (1, .int .u64 (v : Int)), (2, .int .i64 a), (3, .agg (bv l).toArray)] = some (recV k v a l).toArray := by
  obtain ⟨x0, x1, x2, x3, x4, x5, x6, x7, x8, x9, x10, x11, x12, x13, x14, x15, rfl⟩ := list16 l hl
  exact built_rec16' k v a _ _ _ _ _ _ _ _ _ _ _ _ _ _ _ _
/-- the record of noughts -/
def zrec : List Value := recV 0 0 0 (OwnB.zs 16)
theorem zrec_len : zrec.length = 19 := rfl
theorem built_zrec : Try.prog.built 27 [] = some zrec.toArray := by kernel_rfl
theorem built_three (k : Int) (v : Nat) (a : Int) : Try.prog.built 27 [(0, .int .i64 k), (1, .int .u64 (v : Int)), (2, .int .i64 a)] = some (recV k v a (OwnB.zs 16)).toArray := by kernel_rfl
theorem recV_one (k : Int) (v : Nat) (a : Int) (l : List UInt8) : ∀ u ∈ recV k v a l, u.oneCell' = true := by
  intro u hu
  unfold recV at hu
  rcases List.mem_append.1 hu with h | h
  · simp at h
    rcases h with rfl | rfl | rfl <;> rfl
  · unfold bv at h
    obtain ⟨x, _, rfl⟩ := List.mem_map.1 h
    rfl
end Go.Proofs.Ytobblbplanimgaa.Codec
