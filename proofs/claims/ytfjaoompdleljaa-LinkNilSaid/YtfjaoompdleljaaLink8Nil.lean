/-
  The walk of the statement on nil links. Helper text; no statement is proved here.
-/
import Derived.Test.YtfjaoompdleljaaLinkAw
import Derived.Test.YtfjaoompdleljaaSlIn
set_option linter.unusedVariables false
set_option maxRecDepth 20000
set_option linter.unusedSimpArgs false
namespace Go.Proofs.Ytfjaoompdleljaa.Link
open Go.RowKit Go.Proofs.Ytfjaoompdleljaa.Base Go.Proofs.Ytfjaoompdleljaa.Laws Go.Proofs.Ytfjaoompdleljaa.Disk Go.Proofs.Ytfjaoompdleljaa.Row Go.Proofs.Ytfjaoompdleljaa.Flat Go.Proofs.Ytfjaoompdleljaa.InvM
set_option maxHeartbeats 2000000 in
theorem nil_walk (n : Int) (a : Option Addr) (l c : Nat) (w : World) : Calls Try.prog 8 #[.int .i64 n, .slice a l c] w fun e w' => e = .returned (.bool true) ∧ Below w.heap.size w w' := by
  go_enter Try.func8, Try.ntmps8
  go_wp2_with (go_at_call 9; refine (awake_any w).mono ?_; rintro e w1 ⟨rfl, hb1⟩; have HB1 := Lib.hid hb1; clear hb1)
  refine (send_nil n a l c w1).mono ?_
  rintro e w' ⟨rfl, rfl⟩
  go_wp2_with fail
  refine (deliver_nil n w1).mono ?_
  rintro e w2 ⟨rfl, hb2⟩
  have HB2 := Lib.hid (HB1.out.trans (hb2.mono HB1.out.size))
  clear hb2
  go_wp2_with fail
  refine (drop_nil n w2).mono ?_
  rintro e w3 ⟨rfl, hb3⟩
  have HB3 := Lib.hid (HB2.out.trans (hb3.mono HB2.out.size))
  clear hb3
  go_wp2_with fail
  refine (twin_nil n w3).mono ?_
  rintro e w' ⟨rfl, rfl⟩
  go_wp2_with fail
  refine (renew_nil _ w3).mono ?_
  rintro e w' ⟨rfl, rfl⟩
  go_wp2_with fail
  refine (tick_nil w3).mono ?_
  rintro e w' ⟨rfl, rfl⟩
  go_wp2_with fail
  refine (flight_nil w3).mono ?_
  rintro e w' ⟨rfl, rfl⟩
  go_wp2_with fail
  refine (got_nil n w3).mono ?_
  rintro e w' ⟨rfl, rfl⟩
  go_wp2_with fail
  refine (open_nil n w3).mono ?_
  rintro e w' ⟨rfl, rfl⟩
  go_wp2_with fail
  go_ret
  exact ⟨rfl, HB3.out⟩
section
variable {H : Type} {enc : TypeId × Value → H} {base : Nat} {spare : Nat → Bool} {held : Bool} {W : World}
theorem nil_in (n : Int) (hn : (Lit.int .i64 n).wf = true) (a : Option Addr) (l c : Nat) (lf : Opens.LfOk enc Try.prog W base spare held (.slice 5) (.slice a l c)) : Calls Try.prog 8 #[.int .i64 n, .slice a l c] W fun e w' => e = .returned (.bool true) ∧ Below W.heap.size W w' := nil_walk n a l c W
end
end Go.Proofs.Ytfjaoompdleljaa.Link
