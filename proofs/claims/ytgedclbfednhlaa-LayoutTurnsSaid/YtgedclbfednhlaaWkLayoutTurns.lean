/- Helper text: the printed contract of LayoutTurns at the plain law that was proved of it. -/
import Derived.Test.YtgedclbfednhlaaOpens
import Derived.Test.YtgedclbfednhlaaPRLayoutTurns
set_option linter.unusedVariables false
namespace Go.Proofs.Ytgedclbfednhlaa.WkLayoutTurns
open Go.RowKit
theorem walk {H : Type} {enc : TypeId × Value → H} {base : Nat} {spare : Nat → Bool} {held : Bool} {W : World} (c0 : List Value) (l0 : c0.length = 3) (f0 : Opens.Fits enc Try.prog W base spare held [.int .i64, .int .i64, .int .i64] c0) (a1 : Int) (_ : (Lit.int .i64 a1).wf = true) (a2 : Int) (_ : (Lit.int .i64 a2).wf = true) :
    Calls Try.prog 5 #[.agg c0.toArray, .int .i64 a1, .int .i64 a2] W fun e w' => e = .returned (.bool true) ∧ Below W.heap.size W w' := by
  obtain ⟨x00, c0, rfl, hx00, f0⟩ := f0.int
  obtain ⟨x01, c0, rfl, hx01, f0⟩ := f0.int
  obtain ⟨x02, c0, rfl, hx02, f0⟩ := f0.int
  obtain rfl : c0 = [] := List.eq_nil_of_length_eq_zero (by simpa using l0)
  obtain ⟨k, hk⟩ := PureLayoutTurns.law x00 x01 x02 a1 a2
  exact PLayoutTurns.ravelinlaw03_LayoutTurns.calls k x00 x01 x02 a1 a2 true W hk
end Go.Proofs.Ytgedclbfednhlaa.WkLayoutTurns
