/-
  No cell of these rows narrows 'for every input' (looked for: loops, veiled, ifaces, maps, wideKeys, modest, calm, conditions, laid).
  DERIVED. THE GIVEN ROWS OF THIS SEAT. 6 by the template 'for every input the law returns true; each argument reads behind the call as it read before'; 0 by the template 'total and deterministic' (their statements: YtfjaoompdleljaaTotals.lean).
  GIVEN WITH THE SEED: the statements are not yours to turn. If you find one false, say at which input.
  Laid BY PROGRAM, IN A SANDBOX (cutbox-rows.mjs): the forced cells as the released guide's own fill.sh prints them over the translation bf5e0db96bde2b8b… (all of the seat's roots in one cut). By AI agents, Wed Nov 11 2026. No macro, syntax, notation, axiom, sorry.
-/
import Derived.Test.YtfjaoompdleljaaChecked
import GoSem.Claim
import GoSem.ClaimJoined
import GoSem.ClaimMapViews
import Derived.JoinedTies
import Derived.KernelRfl
namespace Go.Proofs.Ytfjaoompdleljaa
/- THE CELL 'sum', in the pinned program and in every row, IS THE sha256 OF THE DUMP (.gsa) THAT YtfjaoompdleljaaProg.lean LOADS. Nothing in Lean hashes anything: it is a label: what it is worth is what the hold of that sum in a sandbox is worth. -/
noncomputable def Try.pinned : Pinned := { name := "ytfjaoompdleljaa", sum := "bf5e0db96bde2b8b430bb45a8c0309a537d0cfd640ec804090dc1b8269beb72d", checked := Try.checked }
namespace Rows
def none {H : Type} : Left H := { results := [], args := [] }

/-- 'ravelinlaw08.LinkEpochs': WHATEVER THE INPUT: true; the input reads as it did. -/
def linkEpochsSpec : ChangeSpec := { name := "linkEpochs", fn := fun _ => fun
  | [d1, d2] => { results := [.lit (.bool true)], args := [d1, d2] }
  | _ => none }
def linkEpochsRow : OpenClaim := { program := "ytfjaoompdleljaa", sum := "bf5e0db96bde2b8b430bb45a8c0309a537d0cfd640ec804090dc1b8269beb72d", func := "ravelin/ravelinlaw08.LinkEpochs", spec := "linkEpochs", unfollowed := true, recurses := true, apart := false }
def LinkEpochsSaid : Prop := linkEpochsRow.holds Try.pinned (OpenSpec.ofChange linkEpochsSpec)

/-- ITS FALSE NEIGHBOUR: 'it returns false'. Refute it at one input. -/
def linkEpochsWrong : ChangeSpec := { name := "linkEpochs", fn := fun _ => fun
  | [d1, d2] => { results := [.lit (.bool false)], args := [d1, d2] }
  | _ => none }
def LinkEpochsWrongFalsely : Prop := linkEpochsRow.holds Try.pinned (OpenSpec.ofChange linkEpochsWrong)

/-- 'ravelinlaw08.LinkBoth': WHATEVER THE INPUT: true; the input reads as it did. -/
def linkBothSpec : ChangeSpec := { name := "linkBoth", fn := fun _ => fun
  | [d1, d2, d3] => { results := [.lit (.bool true)], args := [d1, d2, d3] }
  | _ => none }
def linkBothRow : OpenClaim := { program := "ytfjaoompdleljaa", sum := "bf5e0db96bde2b8b430bb45a8c0309a537d0cfd640ec804090dc1b8269beb72d", func := "ravelin/ravelinlaw08.LinkBoth", spec := "linkBoth", unfollowed := true, recurses := true, apart := false }
def LinkBothSaid : Prop := linkBothRow.holds Try.pinned (OpenSpec.ofChange linkBothSpec)

/-- ITS FALSE NEIGHBOUR: 'it returns false'. Refute it at one input. -/
def linkBothWrong : ChangeSpec := { name := "linkBoth", fn := fun _ => fun
  | [d1, d2, d3] => { results := [.lit (.bool false)], args := [d1, d2, d3] }
  | _ => none }
def LinkBothWrongFalsely : Prop := linkBothRow.holds Try.pinned (OpenSpec.ofChange linkBothWrong)

/-- 'ravelinlaw08.LinkArrives': WHATEVER THE INPUT: true; the input reads as it did. -/
def linkArrivesSpec : ChangeSpec := { name := "linkArrives", fn := fun _ => fun
  | [d1, d2] => { results := [.lit (.bool true)], args := [d1, d2] }
  | _ => none }
def linkArrivesRow : OpenClaim := { program := "ytfjaoompdleljaa", sum := "bf5e0db96bde2b8b430bb45a8c0309a537d0cfd640ec804090dc1b8269beb72d", func := "ravelin/ravelinlaw08.LinkArrives", spec := "linkArrives", unfollowed := true, recurses := true, apart := false }
def LinkArrivesSaid : Prop := linkArrivesRow.holds Try.pinned (OpenSpec.ofChange linkArrivesSpec)

/-- ITS FALSE NEIGHBOUR: 'it returns false'. Refute it at one input. -/
def linkArrivesWrong : ChangeSpec := { name := "linkArrives", fn := fun _ => fun
  | [d1, d2] => { results := [.lit (.bool false)], args := [d1, d2] }
  | _ => none }
def LinkArrivesWrongFalsely : Prop := linkArrivesRow.holds Try.pinned (OpenSpec.ofChange linkArrivesWrong)

/-- 'ravelinlaw08.LinkOrder': WHATEVER THE INPUT: true; the input reads as it did. -/
def linkOrderSpec : ChangeSpec := { name := "linkOrder", fn := fun _ => fun
  | [d] => { results := [.lit (.bool true)], args := [d] }
  | _ => none }
def linkOrderRow : OpenClaim := { program := "ytfjaoompdleljaa", sum := "bf5e0db96bde2b8b430bb45a8c0309a537d0cfd640ec804090dc1b8269beb72d", func := "ravelin/ravelinlaw08.LinkOrder", spec := "linkOrder", unfollowed := true, recurses := true, apart := false }
def LinkOrderSaid : Prop := linkOrderRow.holds Try.pinned (OpenSpec.ofChange linkOrderSpec)

/-- ITS FALSE NEIGHBOUR: 'it returns false'. Refute it at one input. -/
def linkOrderWrong : ChangeSpec := { name := "linkOrder", fn := fun _ => fun
  | [d] => { results := [.lit (.bool false)], args := [d] }
  | _ => none }
def LinkOrderWrongFalsely : Prop := linkOrderRow.holds Try.pinned (OpenSpec.ofChange linkOrderWrong)

/-- 'ravelinlaw08.LinkPlays': WHATEVER THE INPUT: true; the input reads as it did. -/
def linkPlaysSpec : ChangeSpec := { name := "linkPlays", fn := fun _ => fun
  | [d] => { results := [.lit (.bool true)], args := [d] }
  | _ => none }
def linkPlaysRow : OpenClaim := { program := "ytfjaoompdleljaa", sum := "bf5e0db96bde2b8b430bb45a8c0309a537d0cfd640ec804090dc1b8269beb72d", func := "ravelin/ravelinlaw08.LinkPlays", spec := "linkPlays", unfollowed := true, recurses := true, apart := false }
def LinkPlaysSaid : Prop := linkPlaysRow.holds Try.pinned (OpenSpec.ofChange linkPlaysSpec)

/-- ITS FALSE NEIGHBOUR: 'it returns false'. Refute it at one input. -/
def linkPlaysWrong : ChangeSpec := { name := "linkPlays", fn := fun _ => fun
  | [d] => { results := [.lit (.bool false)], args := [d] }
  | _ => none }
def LinkPlaysWrongFalsely : Prop := linkPlaysRow.holds Try.pinned (OpenSpec.ofChange linkPlaysWrong)

/-- 'ravelinlaw08.LinkNil': WHATEVER THE INPUT: true; the input reads as it did. -/
def linkNilSpec : ChangeSpec := { name := "linkNil", fn := fun _ => fun
  | [d1, d2] => { results := [.lit (.bool true)], args := [d1, d2] }
  | _ => none }
def linkNilRow : OpenClaim := { program := "ytfjaoompdleljaa", sum := "bf5e0db96bde2b8b430bb45a8c0309a537d0cfd640ec804090dc1b8269beb72d", func := "ravelin/ravelinlaw08.LinkNil", spec := "linkNil", unfollowed := true, recurses := true, apart := false }
def LinkNilSaid : Prop := linkNilRow.holds Try.pinned (OpenSpec.ofChange linkNilSpec)

/-- ITS FALSE NEIGHBOUR: 'it returns false'. Refute it at one input. -/
def linkNilWrong : ChangeSpec := { name := "linkNil", fn := fun _ => fun
  | [d1, d2] => { results := [.lit (.bool false)], args := [d1, d2] }
  | _ => none }
def LinkNilWrongFalsely : Prop := linkNilRow.holds Try.pinned (OpenSpec.ofChange linkNilWrong)

/- THE SECOND FORM. 'bulk': how many values and letters a reading holds, each counted each time it is reached (what is shared counts as often as it is met; a slice's spare places count too). A statement '..UptoSaid' is the law's where the arguments, and the package variables that the reading takes, are together of bulk at most 1048576: NARROWER than '..Said'. Prove '..Said' where nothing that the law and all that it calls make is longer than what came in: it says more and counts as full. Else prove '..UptoSaid'. A law counts once. -/
mutual
def uptoBulk {H : Type} : DataW H → Nat
  | .lit (.string bytes) => bytes.length + 1
  | .lit _ => 1
  | .nil => 1
  | .ptr d => uptoBulk d + 1
  | .slice elems spare => uptoBulkAll elems + uptoBulkAll spare + 1
  | .agg parts => uptoBulkAll parts + 1
  | .iface _ d => uptoBulk d + 1
  | .map entries => uptoBulkEntries entries + 1
  | .held _ => 1
def uptoBulkAll {H : Type} : List (DataW H) → Nat
  | [] => 0
  | d :: r => uptoBulk d + uptoBulkAll r
def uptoBulkEntries {H : Type} : List (Lit × DataW H) → Nat
  | [] => 0
  | x :: r => uptoBulkEntry x + uptoBulkEntries r
def uptoBulkEntry {H : Type} : Lit × DataW H → Nat
  | (.string bytes, d) => bytes.length + uptoBulk d + 1
  | (_, d) => uptoBulk d + 1
 end
def uptoSmall : (H : Type) → List (DataW H) → Bool := fun _ ds => decide (uptoBulkAll ds ≤ 1048576)
def OpenSpec.upto (s : _root_.Go.ChangeSpec) : _root_.Go.OpenSpec := { _root_.Go.OpenSpec.ofChange s with cond := some uptoSmall }

/-- 'ravelinlaw08.LinkEpochs', WHERE WHAT IT READS IS OF BULK AT MOST 1048576: true; the input reads as it did. -/
def linkEpochsUptoRow : OpenClaim := { program := "ytfjaoompdleljaa", sum := "bf5e0db96bde2b8b430bb45a8c0309a537d0cfd640ec804090dc1b8269beb72d", func := "ravelin/ravelinlaw08.LinkEpochs", spec := "linkEpochs", unfollowed := true, recurses := true, apart := false, narrowed := true }
def LinkEpochsUptoSaid : Prop := linkEpochsUptoRow.holds Try.pinned (OpenSpec.upto linkEpochsSpec)

/-- 'ravelinlaw08.LinkBoth', WHERE WHAT IT READS IS OF BULK AT MOST 1048576: true; the input reads as it did. -/
def linkBothUptoRow : OpenClaim := { program := "ytfjaoompdleljaa", sum := "bf5e0db96bde2b8b430bb45a8c0309a537d0cfd640ec804090dc1b8269beb72d", func := "ravelin/ravelinlaw08.LinkBoth", spec := "linkBoth", unfollowed := true, recurses := true, apart := false, narrowed := true }
def LinkBothUptoSaid : Prop := linkBothUptoRow.holds Try.pinned (OpenSpec.upto linkBothSpec)

/-- 'ravelinlaw08.LinkArrives', WHERE WHAT IT READS IS OF BULK AT MOST 1048576: true; the input reads as it did. -/
def linkArrivesUptoRow : OpenClaim := { program := "ytfjaoompdleljaa", sum := "bf5e0db96bde2b8b430bb45a8c0309a537d0cfd640ec804090dc1b8269beb72d", func := "ravelin/ravelinlaw08.LinkArrives", spec := "linkArrives", unfollowed := true, recurses := true, apart := false, narrowed := true }
def LinkArrivesUptoSaid : Prop := linkArrivesUptoRow.holds Try.pinned (OpenSpec.upto linkArrivesSpec)

/-- 'ravelinlaw08.LinkOrder', WHERE WHAT IT READS IS OF BULK AT MOST 1048576: true; the input reads as it did. -/
def linkOrderUptoRow : OpenClaim := { program := "ytfjaoompdleljaa", sum := "bf5e0db96bde2b8b430bb45a8c0309a537d0cfd640ec804090dc1b8269beb72d", func := "ravelin/ravelinlaw08.LinkOrder", spec := "linkOrder", unfollowed := true, recurses := true, apart := false, narrowed := true }
def LinkOrderUptoSaid : Prop := linkOrderUptoRow.holds Try.pinned (OpenSpec.upto linkOrderSpec)

/-- 'ravelinlaw08.LinkPlays', WHERE WHAT IT READS IS OF BULK AT MOST 1048576: true; the input reads as it did. -/
def linkPlaysUptoRow : OpenClaim := { program := "ytfjaoompdleljaa", sum := "bf5e0db96bde2b8b430bb45a8c0309a537d0cfd640ec804090dc1b8269beb72d", func := "ravelin/ravelinlaw08.LinkPlays", spec := "linkPlays", unfollowed := true, recurses := true, apart := false, narrowed := true }
def LinkPlaysUptoSaid : Prop := linkPlaysUptoRow.holds Try.pinned (OpenSpec.upto linkPlaysSpec)

/-- 'ravelinlaw08.LinkNil', WHERE WHAT IT READS IS OF BULK AT MOST 1048576: true; the input reads as it did. -/
def linkNilUptoRow : OpenClaim := { program := "ytfjaoompdleljaa", sum := "bf5e0db96bde2b8b430bb45a8c0309a537d0cfd640ec804090dc1b8269beb72d", func := "ravelin/ravelinlaw08.LinkNil", spec := "linkNil", unfollowed := true, recurses := true, apart := false, narrowed := true }
def LinkNilUptoSaid : Prop := linkNilUptoRow.holds Try.pinned (OpenSpec.upto linkNilSpec)

end Rows
end Go.Proofs.Ytfjaoompdleljaa
