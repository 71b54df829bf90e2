/-
  The fixed fact of the sums' statements, and the walks of SumCrcs. Helper text; no statement is proved here.
-/
import Derived.Test.YtldlgffjpmmlcaaSumW
import Derived.Test.YtldlgffjpmmlcaaRefSumW
import Derived.Lib.SlBytesConst
set_option linter.unusedVariables false
namespace Go.Proofs.Ytldlgffjpmmlcaa.Sum2
open Go.RowKit Go.Proofs.Ytldlgffjpmmlcaa.Base
set_option maxHeartbeats 400000 in
theorem awake_any (w : World) : Calls Try.prog 10 #[] w fun e w' => e = .returned (.bool true) ∧ Below w.heap.size w w' := by
  have hb := bts_new w [49, 50, 51, 52, 53, 54, 55, 56, 57] 5 (9, 10) (by decide)
  have kc := fun (w : World) (C : Array Value) (n c : Nat) => Lib.run_convert_bytes_const (P := Try.prog) w 23 5 C n c Try.underlying23 Try.underlying5
  have H := Lib.hid (SumW.crc_any _ _ _ _ _ hb)
  clear hb
  go_enter Try.func10, Try.ntmps10
  go_wp2_with fail
  refine H.out.mono ?_
  rintro e w' ⟨rfl, rfl⟩
  rw [Crc.awake]
  go_wp2
  go_ret
  exact ⟨rfl, (Below.refl _ _).alloc (Nat.le_refl _) _⟩
end Go.Proofs.Ytldlgffjpmmlcaa.Sum2
