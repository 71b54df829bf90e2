/-
  No cell of these rows narrows 'for every input' (looked for: loops, veiled, ifaces, maps, wideKeys, modest, calm, conditions, laid).
  DERIVED. THE GIVEN ROWS OF THIS SEAT. 8 by the template 'for every input the law returns true; each argument reads behind the call as it read before'; 0 by the template 'total and deterministic' (their statements: YtmmgejlfcehipaaTotals.lean).
  GIVEN WITH THE SEED: the statements are not yours to turn. If you find one false, say at which input.
  Laid BY PROGRAM, IN A SANDBOX (cutbox-rows.mjs): the forced cells as the released guide's own fill.sh prints them over the translation 8ed68c6df4556501… (all of the seat's roots in one cut). By AI agents, Wed Nov 11 2026. No macro, syntax, notation, axiom, sorry.
-/
import Derived.Test.YtmmgejlfcehipaaChecked
import GoSem.Claim
import GoSem.ClaimJoined
import GoSem.ClaimMapViews
import Derived.JoinedTies
import Derived.KernelRfl
namespace Go.Proofs.Ytmmgejlfcehipaa
/- THE CELL 'sum', in the pinned program and in every row, IS THE sha256 OF THE DUMP (.gsa) THAT YtmmgejlfcehipaaProg.lean LOADS. Nothing in Lean hashes anything: it is a label: what it is worth is what the hold of that sum in a sandbox is worth. -/
noncomputable def Try.pinned : Pinned := { name := "ytmmgejlfcehipaa", sum := "8ed68c6df4556501c340edc092c82b9f4b63f863d9320abc9cf0ec4108cec9bf", checked := Try.checked }
namespace Rows
def none {H : Type} : Left H := { results := [], args := [] }

/-- 'ravelinlaw04.CodecRecords': WHATEVER THE INPUT: true; the input reads as it did. -/
def codecRecordsSpec : ChangeSpec := { name := "codecRecords", fn := fun _ => fun
  | [d] => { results := [.lit (.bool true)], args := [d] }
  | _ => none }
def codecRecordsRow : OpenClaim := { program := "ytmmgejlfcehipaa", sum := "8ed68c6df4556501c340edc092c82b9f4b63f863d9320abc9cf0ec4108cec9bf", func := "ravelin/ravelinlaw04.CodecRecords", spec := "codecRecords", apart := false }
def CodecRecordsSaid : Prop := codecRecordsRow.holds Try.pinned (OpenSpec.ofChange codecRecordsSpec)

/-- ITS FALSE NEIGHBOUR: 'it returns false'. Refute it at one input. -/
def codecRecordsWrong : ChangeSpec := { name := "codecRecords", fn := fun _ => fun
  | [d] => { results := [.lit (.bool false)], args := [d] }
  | _ => none }
def CodecRecordsWrongFalsely : Prop := codecRecordsRow.holds Try.pinned (OpenSpec.ofChange codecRecordsWrong)

/-- 'ravelinlaw04.CodecScans': WHATEVER THE INPUT: true; the input reads as it did. -/
def codecScansSpec : ChangeSpec := { name := "codecScans", fn := fun _ => fun
  | [d1, d2, d3] => { results := [.lit (.bool true)], args := [d1, d2, d3] }
  | _ => none }
def codecScansRow : OpenClaim := { program := "ytmmgejlfcehipaa", sum := "8ed68c6df4556501c340edc092c82b9f4b63f863d9320abc9cf0ec4108cec9bf", func := "ravelin/ravelinlaw04.CodecScans", spec := "codecScans", apart := false }
def CodecScansSaid : Prop := codecScansRow.holds Try.pinned (OpenSpec.ofChange codecScansSpec)

/-- ITS FALSE NEIGHBOUR: 'it returns false'. Refute it at one input. -/
def codecScansWrong : ChangeSpec := { name := "codecScans", fn := fun _ => fun
  | [d1, d2, d3] => { results := [.lit (.bool false)], args := [d1, d2, d3] }
  | _ => none }
def CodecScansWrongFalsely : Prop := codecScansRow.holds Try.pinned (OpenSpec.ofChange codecScansWrong)

/-- 'ravelinlaw04.CodecJoined': WHATEVER THE INPUT: true; the input reads as it did. -/
def codecJoinedSpec : ChangeSpec := { name := "codecJoined", fn := fun _ => fun
  | [d1, d2] => { results := [.lit (.bool true)], args := [d1, d2] }
  | _ => none }
def codecJoinedRow : OpenClaim := { program := "ytmmgejlfcehipaa", sum := "8ed68c6df4556501c340edc092c82b9f4b63f863d9320abc9cf0ec4108cec9bf", func := "ravelin/ravelinlaw04.CodecJoined", spec := "codecJoined", apart := false }
def CodecJoinedSaid : Prop := codecJoinedRow.holds Try.pinned (OpenSpec.ofChange codecJoinedSpec)

/-- ITS FALSE NEIGHBOUR: 'it returns false'. Refute it at one input. -/
def codecJoinedWrong : ChangeSpec := { name := "codecJoined", fn := fun _ => fun
  | [d1, d2] => { results := [.lit (.bool false)], args := [d1, d2] }
  | _ => none }
def CodecJoinedWrongFalsely : Prop := codecJoinedRow.holds Try.pinned (OpenSpec.ofChange codecJoinedWrong)

/-- 'ravelinlaw04.CodecMsgs': WHATEVER THE INPUT: true; the input reads as it did. -/
def codecMsgsSpec : ChangeSpec := { name := "codecMsgs", fn := fun _ => fun
  | [d] => { results := [.lit (.bool true)], args := [d] }
  | _ => none }
def codecMsgsRow : OpenClaim := { program := "ytmmgejlfcehipaa", sum := "8ed68c6df4556501c340edc092c82b9f4b63f863d9320abc9cf0ec4108cec9bf", func := "ravelin/ravelinlaw04.CodecMsgs", spec := "codecMsgs", apart := false }
def CodecMsgsSaid : Prop := codecMsgsRow.holds Try.pinned (OpenSpec.ofChange codecMsgsSpec)

/-- ITS FALSE NEIGHBOUR: 'it returns false'. Refute it at one input. -/
def codecMsgsWrong : ChangeSpec := { name := "codecMsgs", fn := fun _ => fun
  | [d] => { results := [.lit (.bool false)], args := [d] }
  | _ => none }
def CodecMsgsWrongFalsely : Prop := codecMsgsRow.holds Try.pinned (OpenSpec.ofChange codecMsgsWrong)

/-- 'ravelinlaw04.CodecSupers': WHATEVER THE INPUT: true; the input reads as it did. -/
def codecSupersSpec : ChangeSpec := { name := "codecSupers", fn := fun _ => fun
  | [d] => { results := [.lit (.bool true)], args := [d] }
  | _ => none }
def codecSupersRow : OpenClaim := { program := "ytmmgejlfcehipaa", sum := "8ed68c6df4556501c340edc092c82b9f4b63f863d9320abc9cf0ec4108cec9bf", func := "ravelin/ravelinlaw04.CodecSupers", spec := "codecSupers", unfollowed := true, recurses := true, apart := false }
def CodecSupersSaid : Prop := codecSupersRow.holds Try.pinned (OpenSpec.ofChange codecSupersSpec)

/-- ITS FALSE NEIGHBOUR: 'it returns false'. Refute it at one input. -/
def codecSupersWrong : ChangeSpec := { name := "codecSupers", fn := fun _ => fun
  | [d] => { results := [.lit (.bool false)], args := [d] }
  | _ => none }
def CodecSupersWrongFalsely : Prop := codecSupersRow.holds Try.pinned (OpenSpec.ofChange codecSupersWrong)

/-- 'ravelinlaw04.CodecUnlike': WHATEVER THE INPUT: true; the input reads as it did. -/
def codecUnlikeSpec : ChangeSpec := { name := "codecUnlike", fn := fun _ => fun
  | [d1, d2, d3, d4, d5, d6] => { results := [.lit (.bool true)], args := [d1, d2, d3, d4, d5, d6] }
  | _ => none }
def codecUnlikeRow : OpenClaim := { program := "ytmmgejlfcehipaa", sum := "8ed68c6df4556501c340edc092c82b9f4b63f863d9320abc9cf0ec4108cec9bf", func := "ravelin/ravelinlaw04.CodecUnlike", spec := "codecUnlike", unfollowed := true, recurses := true, apart := false }
def CodecUnlikeSaid : Prop := codecUnlikeRow.holds Try.pinned (OpenSpec.ofChange codecUnlikeSpec)

/-- ITS FALSE NEIGHBOUR: 'it returns false'. Refute it at one input. -/
def codecUnlikeWrong : ChangeSpec := { name := "codecUnlike", fn := fun _ => fun
  | [d1, d2, d3, d4, d5, d6] => { results := [.lit (.bool false)], args := [d1, d2, d3, d4, d5, d6] }
  | _ => none }
def CodecUnlikeWrongFalsely : Prop := codecUnlikeRow.holds Try.pinned (OpenSpec.ofChange codecUnlikeWrong)

/-- 'ravelinlaw04.CodecReads': WHATEVER THE INPUT: true; the input reads as it did. -/
def codecReadsSpec : ChangeSpec := { name := "codecReads", fn := fun _ => fun
  | [d] => { results := [.lit (.bool true)], args := [d] }
  | _ => none }
def codecReadsRow : OpenClaim := { program := "ytmmgejlfcehipaa", sum := "8ed68c6df4556501c340edc092c82b9f4b63f863d9320abc9cf0ec4108cec9bf", func := "ravelin/ravelinlaw04.CodecReads", spec := "codecReads", unfollowed := true, recurses := true, apart := false }
def CodecReadsSaid : Prop := codecReadsRow.holds Try.pinned (OpenSpec.ofChange codecReadsSpec)

/-- ITS FALSE NEIGHBOUR: 'it returns false'. Refute it at one input. -/
def codecReadsWrong : ChangeSpec := { name := "codecReads", fn := fun _ => fun
  | [d] => { results := [.lit (.bool false)], args := [d] }
  | _ => none }
def CodecReadsWrongFalsely : Prop := codecReadsRow.holds Try.pinned (OpenSpec.ofChange codecReadsWrong)

/-- 'ravelinlaw04.CodecTorn': WHATEVER THE INPUT: true; the input reads as it did. -/
def codecTornSpec : ChangeSpec := { name := "codecTorn", fn := fun _ => fun
  | [d1, d2, d3, d4, d5] => { results := [.lit (.bool true)], args := [d1, d2, d3, d4, d5] }
  | _ => none }
def codecTornRow : OpenClaim := { program := "ytmmgejlfcehipaa", sum := "8ed68c6df4556501c340edc092c82b9f4b63f863d9320abc9cf0ec4108cec9bf", func := "ravelin/ravelinlaw04.CodecTorn", spec := "codecTorn", unfollowed := true, recurses := true, apart := false }
def CodecTornSaid : Prop := codecTornRow.holds Try.pinned (OpenSpec.ofChange codecTornSpec)

/-- ITS FALSE NEIGHBOUR: 'it returns false'. Refute it at one input. -/
def codecTornWrong : ChangeSpec := { name := "codecTorn", fn := fun _ => fun
  | [d1, d2, d3, d4, d5] => { results := [.lit (.bool false)], args := [d1, d2, d3, d4, d5] }
  | _ => none }
def CodecTornWrongFalsely : Prop := codecTornRow.holds Try.pinned (OpenSpec.ofChange codecTornWrong)

/- THE SECOND FORM. 'bulk': how many values and letters a reading holds, each counted each time it is reached (what is shared counts as often as it is met; a slice's spare places count too). A statement '..UptoSaid' is the law's where the arguments, and the package variables that the reading takes, are together of bulk at most 1048576: NARROWER than '..Said'. Prove '..Said' where nothing that the law and all that it calls make is longer than what came in: it says more and counts as full. Else prove '..UptoSaid'. A law counts once. -/
mutual
def uptoBulk {H : Type} : DataW H → Nat
  | .lit (.string bytes) => bytes.length + 1
  | .lit _ => 1
  | .nil => 1
  | .ptr d => uptoBulk d + 1
  | .slice elems spare => uptoBulkAll elems + uptoBulkAll spare + 1
  | .agg parts => uptoBulkAll parts + 1
  | .iface _ d => uptoBulk d + 1
  | .map entries => uptoBulkEntries entries + 1
  | .held _ => 1
def uptoBulkAll {H : Type} : List (DataW H) → Nat
  | [] => 0
  | d :: r => uptoBulk d + uptoBulkAll r
def uptoBulkEntries {H : Type} : List (Lit × DataW H) → Nat
  | [] => 0
  | x :: r => uptoBulkEntry x + uptoBulkEntries r
def uptoBulkEntry {H : Type} : Lit × DataW H → Nat
  | (.string bytes, d) => bytes.length + uptoBulk d + 1
  | (_, d) => uptoBulk d + 1
 end
def uptoSmall : (H : Type) → List (DataW H) → Bool := fun _ ds => decide (uptoBulkAll ds ≤ 1048576)
def OpenSpec.upto (s : _root_.Go.ChangeSpec) : _root_.Go.OpenSpec := { _root_.Go.OpenSpec.ofChange s with cond := some uptoSmall }

/-- 'ravelinlaw04.CodecRecords', WHERE WHAT IT READS IS OF BULK AT MOST 1048576: true; the input reads as it did. -/
def codecRecordsUptoRow : OpenClaim := { program := "ytmmgejlfcehipaa", sum := "8ed68c6df4556501c340edc092c82b9f4b63f863d9320abc9cf0ec4108cec9bf", func := "ravelin/ravelinlaw04.CodecRecords", spec := "codecRecords", apart := false, narrowed := true }
def CodecRecordsUptoSaid : Prop := codecRecordsUptoRow.holds Try.pinned (OpenSpec.upto codecRecordsSpec)

/-- 'ravelinlaw04.CodecScans', WHERE WHAT IT READS IS OF BULK AT MOST 1048576: true; the input reads as it did. -/
def codecScansUptoRow : OpenClaim := { program := "ytmmgejlfcehipaa", sum := "8ed68c6df4556501c340edc092c82b9f4b63f863d9320abc9cf0ec4108cec9bf", func := "ravelin/ravelinlaw04.CodecScans", spec := "codecScans", apart := false, narrowed := true }
def CodecScansUptoSaid : Prop := codecScansUptoRow.holds Try.pinned (OpenSpec.upto codecScansSpec)

/-- 'ravelinlaw04.CodecJoined', WHERE WHAT IT READS IS OF BULK AT MOST 1048576: true; the input reads as it did. -/
def codecJoinedUptoRow : OpenClaim := { program := "ytmmgejlfcehipaa", sum := "8ed68c6df4556501c340edc092c82b9f4b63f863d9320abc9cf0ec4108cec9bf", func := "ravelin/ravelinlaw04.CodecJoined", spec := "codecJoined", apart := false, narrowed := true }
def CodecJoinedUptoSaid : Prop := codecJoinedUptoRow.holds Try.pinned (OpenSpec.upto codecJoinedSpec)

/-- 'ravelinlaw04.CodecMsgs', WHERE WHAT IT READS IS OF BULK AT MOST 1048576: true; the input reads as it did. -/
def codecMsgsUptoRow : OpenClaim := { program := "ytmmgejlfcehipaa", sum := "8ed68c6df4556501c340edc092c82b9f4b63f863d9320abc9cf0ec4108cec9bf", func := "ravelin/ravelinlaw04.CodecMsgs", spec := "codecMsgs", apart := false, narrowed := true }
def CodecMsgsUptoSaid : Prop := codecMsgsUptoRow.holds Try.pinned (OpenSpec.upto codecMsgsSpec)

/-- 'ravelinlaw04.CodecSupers', WHERE WHAT IT READS IS OF BULK AT MOST 1048576: true; the input reads as it did. -/
def codecSupersUptoRow : OpenClaim := { program := "ytmmgejlfcehipaa", sum := "8ed68c6df4556501c340edc092c82b9f4b63f863d9320abc9cf0ec4108cec9bf", func := "ravelin/ravelinlaw04.CodecSupers", spec := "codecSupers", unfollowed := true, recurses := true, apart := false, narrowed := true }
def CodecSupersUptoSaid : Prop := codecSupersUptoRow.holds Try.pinned (OpenSpec.upto codecSupersSpec)

/-- 'ravelinlaw04.CodecUnlike', WHERE WHAT IT READS IS OF BULK AT MOST 1048576: true; the input reads as it did. -/
def codecUnlikeUptoRow : OpenClaim := { program := "ytmmgejlfcehipaa", sum := "8ed68c6df4556501c340edc092c82b9f4b63f863d9320abc9cf0ec4108cec9bf", func := "ravelin/ravelinlaw04.CodecUnlike", spec := "codecUnlike", unfollowed := true, recurses := true, apart := false, narrowed := true }
def CodecUnlikeUptoSaid : Prop := codecUnlikeUptoRow.holds Try.pinned (OpenSpec.upto codecUnlikeSpec)

/-- 'ravelinlaw04.CodecReads', WHERE WHAT IT READS IS OF BULK AT MOST 1048576: true; the input reads as it did. -/
def codecReadsUptoRow : OpenClaim := { program := "ytmmgejlfcehipaa", sum := "8ed68c6df4556501c340edc092c82b9f4b63f863d9320abc9cf0ec4108cec9bf", func := "ravelin/ravelinlaw04.CodecReads", spec := "codecReads", unfollowed := true, recurses := true, apart := false, narrowed := true }
def CodecReadsUptoSaid : Prop := codecReadsUptoRow.holds Try.pinned (OpenSpec.upto codecReadsSpec)

/-- 'ravelinlaw04.CodecTorn', WHERE WHAT IT READS IS OF BULK AT MOST 1048576: true; the input reads as it did. -/
def codecTornUptoRow : OpenClaim := { program := "ytmmgejlfcehipaa", sum := "8ed68c6df4556501c340edc092c82b9f4b63f863d9320abc9cf0ec4108cec9bf", func := "ravelin/ravelinlaw04.CodecTorn", spec := "codecTorn", unfollowed := true, recurses := true, apart := false, narrowed := true }
def CodecTornUptoSaid : Prop := codecTornUptoRow.holds Try.pinned (OpenSpec.upto codecTornSpec)

end Rows
end Go.Proofs.Ytmmgejlfcehipaa
