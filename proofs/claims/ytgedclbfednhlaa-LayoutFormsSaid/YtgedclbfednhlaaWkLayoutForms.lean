/- Helper text: the printed contract of LayoutForms at the plain law that was proved of it. -/
import Derived.Test.YtgedclbfednhlaaOpens
import Derived.Test.YtgedclbfednhlaaPRLayoutForms
set_option linter.unusedVariables false
namespace Go.Proofs.Ytgedclbfednhlaa.WkLayoutForms
open Go.RowKit
theorem walk {H : Type} {enc : TypeId × Value → H} {base : Nat} {spare : Nat → Bool} {held : Bool} {W : World} (c0 : List Value) (l0 : c0.length = 3) (f0 : Opens.Fits enc Try.prog W base spare held [.int .i64, .int .i64, .int .i64] c0) :
    Calls Try.prog 4 #[.agg c0.toArray] W fun e w' => e = .returned (.bool true) ∧ Below W.heap.size W w' := by
  obtain ⟨x00, c0, rfl, _, f0⟩ := f0.int
  obtain ⟨x01, c0, rfl, _, f0⟩ := f0.int
  obtain ⟨x02, c0, rfl, _, f0⟩ := f0.int
  obtain rfl : c0 = [] := List.eq_nil_of_length_eq_zero (by simpa using l0)
  exact PLayoutForms.ravelinlaw03_LayoutForms.calls x00 x01 x02 true W (PureLayoutForms.law x00 x01 x02)
end Go.Proofs.Ytgedclbfednhlaa.WkLayoutForms
