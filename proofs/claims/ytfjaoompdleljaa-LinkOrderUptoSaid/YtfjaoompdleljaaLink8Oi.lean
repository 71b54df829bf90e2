/-
  The statement on the order of messages, its argument as it comes in. Helper text; no statement is proved here.
-/
import Derived.Test.YtfjaoompdleljaaLink8Or
set_option linter.unusedVariables false
set_option maxRecDepth 20000
set_option linter.unusedSimpArgs false
namespace Go.Proofs.Ytfjaoompdleljaa.Link
open Go.RowKit Go.Proofs.Ytfjaoompdleljaa.Base Go.Proofs.Ytfjaoompdleljaa.Laws Go.Proofs.Ytfjaoompdleljaa.Disk Go.Proofs.Ytfjaoompdleljaa.Row Go.Proofs.Ytfjaoompdleljaa.Flat Go.Proofs.Ytfjaoompdleljaa.InvM
section
variable {H : Type} {enc : TypeId × Value → H} {base : Nat} {spare : Nat → Bool} {held : Bool} {W : World}
theorem order_in (a : Option Addr) (n ca : Nat) (lf : Opens.LfOk enc Try.prog W base spare held (.slice 44) (.slice a n ca)) (d : DataW H) (hz : ∀ m ∈ d.weights Try.prog 42, m ≤ reachBytes) {p : List MemPlace} (h : DataW.Trod enc Try.prog W base spare held 42 (.slice a n ca) d p) (hk : Rows.uptoBulkAll [d] ≤ 1048576) : Calls Try.prog 6 #[.slice a n ca] W fun e w' => e = .returned (.bool true) ∧ Below W.heap.size W w' := by
  obtain ⟨os, ho⟩ := scr_in lf
  obtain ⟨nn, hm⟩ := h
  have hl := Bulk.slice_len Try.underlying42 hm
  simp only [Rows.uptoBulkAll, Rows.uptoBulk] at hk hl
  exact order_walk a n ca os W ho (by omega)
end
end Go.Proofs.Ytfjaoompdleljaa.Link
