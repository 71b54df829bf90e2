/- Helper text: the printed contract of LayoutBacks at the plain law that was proved of it. -/
import Derived.Test.YtgedclbfednhlaaOpens
import Derived.Test.YtgedclbfednhlaaPRLayoutBacks
set_option linter.unusedVariables false
namespace Go.Proofs.Ytgedclbfednhlaa.WkLayoutBacks
open Go.RowKit
theorem walk {H : Type} {enc : TypeId × Value → H} {base : Nat} {spare : Nat → Bool} {held : Bool} {W : World} (c0 : List Value) (l0 : c0.length = 3) (f0 : Opens.Fits enc Try.prog W base spare held [.int .i64, .int .i64, .int .i64] c0) (c1 : List Value) (l1 : c1.length = 2) (f1 : Opens.Fits enc Try.prog W base spare held [.int .i64, .int .i64] c1) (a2 : Int) (_ : (Lit.int .i64 a2).wf = true) (a3 : Int) (_ : (Lit.int .i64 a3).wf = true) :
    Calls Try.prog 8 #[.agg c0.toArray, .agg c1.toArray, .int .i64 a2, .int .i64 a3] W fun e w' => e = .returned (.bool true) ∧ Below W.heap.size W w' := by
  obtain ⟨x00, c0, rfl, _, f0⟩ := f0.int
  obtain ⟨x01, c0, rfl, _, f0⟩ := f0.int
  obtain ⟨x02, c0, rfl, _, f0⟩ := f0.int
  obtain rfl : c0 = [] := List.eq_nil_of_length_eq_zero (by simpa using l0)
  obtain ⟨x10, c1, rfl, _, f1⟩ := f1.int
  obtain ⟨x11, c1, rfl, _, f1⟩ := f1.int
  obtain rfl : c1 = [] := List.eq_nil_of_length_eq_zero (by simpa using l1)
  obtain ⟨k, hk⟩ := PureLayoutBacks.law x00 x01 x02 x10 x11 a2 a3
  exact PLayoutBacks.ravelinlaw03_LayoutBacks.calls k x00 x01 x02 x10 x11 a2 a3 true W hk
end Go.Proofs.Ytgedclbfednhlaa.WkLayoutBacks
