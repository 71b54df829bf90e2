/-
  Pieces laid one behind the other: plain. Helper text; no statement is proved here.
-/
import Derived.Test.YtobblbplanimgaaMakeB
set_option linter.unusedVariables false
set_option maxRecDepth 20000
namespace Go.Proofs.Ytobblbplanimgaa.Codec
open Go.RowKit Go.Proofs.Ytobblbplanimgaa.Base Go.Proofs.Ytobblbplanimgaa.Laws
/-- a piece laid behind what is laid already -/
theorem put_next {α : Type} (p q r x : List α) (hq : q.length = x.length) : put (p ++ (q ++ r)) p.length x = (p ++ x) ++ r := by
  unfold put
  rw [List.take_left, ← hq, ← List.length_append, show p ++ (q ++ r) = (p ++ q) ++ r from (List.append_assoc p q r).symm, List.drop_left, List.append_assoc]
theorem zs_add (a b : Nat) : OwnB.zs (a + b) = OwnB.zs a ++ OwnB.zs b := by unfold OwnB.zs; rw [List.replicate_append_replicate]
theorem zs_len (a : Nat) : (OwnB.zs a).length = a := by simp [OwnB.zs]
theorem rec_laid (x : UInt8) (A B L : List UInt8) (hA : A.length = 8) (hB : B.length = 8) (hL : L.length = 16) : put (put (put ((OwnB.zs 37).set 0 x) 1 A) 9 B) 17 L = (([x] ++ A) ++ B ++ L) ++ OwnB.zs 4 := by
  have e0 : (OwnB.zs 37).set 0 x = [x] ++ (OwnB.zs 8 ++ OwnB.zs 28) := by
    rw [show (37 : Nat) = 1 + (8 + 28) from rfl, zs_add, zs_add]
    rfl
  rw [e0]
  have h1 := put_next [x] (OwnB.zs 8) (OwnB.zs 28) A (by rw [zs_len, hA])
  rw [show ([x] : List UInt8).length = 1 from rfl] at h1
  rw [h1, show (28 : Nat) = 8 + 20 from rfl, zs_add]
  have h2 := put_next ([x] ++ A) (OwnB.zs 8) (OwnB.zs 20) B (by rw [zs_len, hB])
  rw [show ([x] ++ A).length = 9 from by simp [hA]] at h2
  rw [h2, show (20 : Nat) = 16 + 4 from rfl, zs_add]
  have h3 := put_next ([x] ++ A ++ B) (OwnB.zs 16) (OwnB.zs 4) L (by rw [zs_len, hL])
  rw [show ([x] ++ A ++ B).length = 17 from by simp [hA, hB]] at h3
  exact h3
end Go.Proofs.Ytobblbplanimgaa.Codec
