/-
  Open of a link by contract. Helper text; no statement is proved here.
-/
import Derived.Test.YtfjaoompdleljaaLinkSend
set_option linter.unusedVariables false
set_option maxRecDepth 20000
set_option linter.unusedSimpArgs false
namespace Go.Proofs.Ytfjaoompdleljaa.Link
open Go.RowKit Go.Proofs.Ytfjaoompdleljaa.Base Go.Proofs.Ytfjaoompdleljaa.Laws Go.Proofs.Ytfjaoompdleljaa.Disk Go.Proofs.Ytfjaoompdleljaa.Row Go.Proofs.Ytfjaoompdleljaa.Flat Go.Proofs.Ytfjaoompdleljaa.InvM
section
variable {w : World} {bl : Nat} {V : Nat → Value} {A : List Nat} {k : Lk}
theorem open_any (h : LinkAt w bl V A k) (n : Nat) (hn : n < 2) : Calls Try.prog 14 #[.pointer (some ⟨bl, 0, none⟩), .int .i64 (n : Int)] w fun e w' => e = .returned (.int .i64 ((k.en n).op.length : Nat)) ∧ w = w' := by
  obtain ⟨oa, oc, eo, _⟩ := h.slO n hn
  have hc := h.cell (1 + 4 * n)
  obtain ⟨on, hon⟩ : ∃ on, on = (k.en n).op.length := ⟨_, rfl⟩
  rw [← hon] at eo ⊢
  obtain rfl | rfl : n = 0 ∨ n = 1 := by omega
  · have co : w.cell? ⟨bl, 1, none⟩ = some (V 0) := hc
    rw [show V 0 = .slice oa on oc from eo] at co
    clear h eo hon hc
    go_enter Try.func14, Try.ntmps14
    go_wp2_with fail
    go_ret
    exact ⟨rfl, rfl⟩
  · have co : w.cell? ⟨bl, 5, none⟩ = some (V 2) := hc
    rw [show V 2 = .slice oa on oc from eo] at co
    clear h eo hon hc
    go_enter Try.func14, Try.ntmps14
    go_wp2_with fail
    go_ret
    exact ⟨rfl, rfl⟩
theorem open_no (p : Option Addr) (n : Int) (hn : n < 0 ∨ 1 < n) (w : World) : Calls Try.prog 14 #[.pointer p, .int .i64 n] w fun e w' => e = .returned (.int .i64 0) ∧ w = w' := by
  cases p with
  | none => exact open_nil n w
  | some p =>
    by_cases h1 : n < 0
    · go_enter Try.func14, Try.ntmps14
      go_wp2_with fail
      go_ret
      exact ⟨rfl, rfl⟩
    · have h2 : 1 < n := by omega
      go_enter Try.func14, Try.ntmps14
      go_wp2_with fail
      go_ret
      exact ⟨rfl, rfl⟩
end
end Go.Proofs.Ytfjaoompdleljaa.Link
