/-
  No cell of these rows narrows 'for every input' (looked for: loops, veiled, ifaces, maps, wideKeys, modest, calm, conditions, laid).
  DERIVED. THE GIVEN ROWS OF THIS SEAT. 6 by the template 'for every input the law returns true; each argument reads behind the call as it read before'; 0 by the template 'total and deterministic' (their statements: YtgedclbfednhlaaTotals.lean).
  GIVEN WITH THE SEED: the statements are not yours to turn. If you find one false, say at which input.
  Laid BY PROGRAM, IN A SANDBOX (cutbox-rows.mjs): the forced cells as the released guide's own fill.sh prints them over the translation 28ad21cb5ce91a04… (all of the seat's roots in one cut). By AI agents, Wed Nov 11 2026. No macro, syntax, notation, axiom, sorry.
-/
import Derived.Test.YtgedclbfednhlaaChecked
import GoSem.Claim
import GoSem.ClaimJoined
import GoSem.ClaimMapViews
import Derived.JoinedTies
import Derived.KernelRfl
namespace Go.Proofs.Ytgedclbfednhlaa
/- THE CELL 'sum', in the pinned program and in every row, IS THE sha256 OF THE DUMP (.gsa) THAT YtgedclbfednhlaaProg.lean LOADS. Nothing in Lean hashes anything: it is a label: what it is worth is what the hold of that sum in a sandbox is worth. -/
noncomputable def Try.pinned : Pinned := { name := "ytgedclbfednhlaa", sum := "28ad21cb5ce91a04da55f89ea525e885bef08ddc4aad93248b01968cfd6356ad", checked := Try.checked }
namespace Rows
def none {H : Type} : Left H := { results := [], args := [] }

/-- 'ravelinlaw03.LayoutMaps': WHATEVER THE INPUT: true; the input reads as it did. -/
def layoutMapsSpec : ChangeSpec := { name := "layoutMaps", fn := fun _ => fun
  | [d1, d2] => { results := [.lit (.bool true)], args := [d1, d2] }
  | _ => none }
def layoutMapsRow : OpenClaim := { program := "ytgedclbfednhlaa", sum := "28ad21cb5ce91a04da55f89ea525e885bef08ddc4aad93248b01968cfd6356ad", func := "ravelin/ravelinlaw03.LayoutMaps", spec := "layoutMaps", apart := false }
def LayoutMapsSaid : Prop := layoutMapsRow.holds Try.pinned (OpenSpec.ofChange layoutMapsSpec)

/-- ITS FALSE NEIGHBOUR: 'it returns false'. Refute it at one input. -/
def layoutMapsWrong : ChangeSpec := { name := "layoutMaps", fn := fun _ => fun
  | [d1, d2] => { results := [.lit (.bool false)], args := [d1, d2] }
  | _ => none }
def LayoutMapsWrongFalsely : Prop := layoutMapsRow.holds Try.pinned (OpenSpec.ofChange layoutMapsWrong)

/-- 'ravelinlaw03.LayoutForms': WHATEVER THE INPUT: true; the input reads as it did. -/
def layoutFormsSpec : ChangeSpec := { name := "layoutForms", fn := fun _ => fun
  | [d] => { results := [.lit (.bool true)], args := [d] }
  | _ => none }
def layoutFormsRow : OpenClaim := { program := "ytgedclbfednhlaa", sum := "28ad21cb5ce91a04da55f89ea525e885bef08ddc4aad93248b01968cfd6356ad", func := "ravelin/ravelinlaw03.LayoutForms", spec := "layoutForms", apart := false }
def LayoutFormsSaid : Prop := layoutFormsRow.holds Try.pinned (OpenSpec.ofChange layoutFormsSpec)

/-- ITS FALSE NEIGHBOUR: 'it returns false'. Refute it at one input. -/
def layoutFormsWrong : ChangeSpec := { name := "layoutForms", fn := fun _ => fun
  | [d] => { results := [.lit (.bool false)], args := [d] }
  | _ => none }
def LayoutFormsWrongFalsely : Prop := layoutFormsRow.holds Try.pinned (OpenSpec.ofChange layoutFormsWrong)

/-- 'ravelinlaw03.LayoutTurns': WHATEVER THE INPUT: true; the input reads as it did. -/
def layoutTurnsSpec : ChangeSpec := { name := "layoutTurns", fn := fun _ => fun
  | [d1, d2, d3] => { results := [.lit (.bool true)], args := [d1, d2, d3] }
  | _ => none }
def layoutTurnsRow : OpenClaim := { program := "ytgedclbfednhlaa", sum := "28ad21cb5ce91a04da55f89ea525e885bef08ddc4aad93248b01968cfd6356ad", func := "ravelin/ravelinlaw03.LayoutTurns", spec := "layoutTurns", apart := false }
def LayoutTurnsSaid : Prop := layoutTurnsRow.holds Try.pinned (OpenSpec.ofChange layoutTurnsSpec)

/-- ITS FALSE NEIGHBOUR: 'it returns false'. Refute it at one input. -/
def layoutTurnsWrong : ChangeSpec := { name := "layoutTurns", fn := fun _ => fun
  | [d1, d2, d3] => { results := [.lit (.bool false)], args := [d1, d2, d3] }
  | _ => none }
def LayoutTurnsWrongFalsely : Prop := layoutTurnsRow.holds Try.pinned (OpenSpec.ofChange layoutTurnsWrong)

/-- 'ravelinlaw03.LayoutBoth': WHATEVER THE INPUT: true; the input reads as it did. -/
def layoutBothSpec : ChangeSpec := { name := "layoutBoth", fn := fun _ => fun
  | [d1, d2, d3, d4] => { results := [.lit (.bool true)], args := [d1, d2, d3, d4] }
  | _ => none }
def layoutBothRow : OpenClaim := { program := "ytgedclbfednhlaa", sum := "28ad21cb5ce91a04da55f89ea525e885bef08ddc4aad93248b01968cfd6356ad", func := "ravelin/ravelinlaw03.LayoutBoth", spec := "layoutBoth", apart := false }
def LayoutBothSaid : Prop := layoutBothRow.holds Try.pinned (OpenSpec.ofChange layoutBothSpec)

/-- ITS FALSE NEIGHBOUR: 'it returns false'. Refute it at one input. -/
def layoutBothWrong : ChangeSpec := { name := "layoutBoth", fn := fun _ => fun
  | [d1, d2, d3, d4] => { results := [.lit (.bool false)], args := [d1, d2, d3, d4] }
  | _ => none }
def LayoutBothWrongFalsely : Prop := layoutBothRow.holds Try.pinned (OpenSpec.ofChange layoutBothWrong)

/-- 'ravelinlaw03.LayoutCounts': WHATEVER THE INPUT: true; the input reads as it did. -/
def layoutCountsSpec : ChangeSpec := { name := "layoutCounts", fn := fun _ => fun
  | [d1, d2, d3] => { results := [.lit (.bool true)], args := [d1, d2, d3] }
  | _ => none }
def layoutCountsRow : OpenClaim := { program := "ytgedclbfednhlaa", sum := "28ad21cb5ce91a04da55f89ea525e885bef08ddc4aad93248b01968cfd6356ad", func := "ravelin/ravelinlaw03.LayoutCounts", spec := "layoutCounts", apart := false }
def LayoutCountsSaid : Prop := layoutCountsRow.holds Try.pinned (OpenSpec.ofChange layoutCountsSpec)

/-- ITS FALSE NEIGHBOUR: 'it returns false'. Refute it at one input. -/
def layoutCountsWrong : ChangeSpec := { name := "layoutCounts", fn := fun _ => fun
  | [d1, d2, d3] => { results := [.lit (.bool false)], args := [d1, d2, d3] }
  | _ => none }
def LayoutCountsWrongFalsely : Prop := layoutCountsRow.holds Try.pinned (OpenSpec.ofChange layoutCountsWrong)

/-- 'ravelinlaw03.LayoutBacks': WHATEVER THE INPUT: true; the input reads as it did. -/
def layoutBacksSpec : ChangeSpec := { name := "layoutBacks", fn := fun _ => fun
  | [d1, d2, d3, d4] => { results := [.lit (.bool true)], args := [d1, d2, d3, d4] }
  | _ => none }
def layoutBacksRow : OpenClaim := { program := "ytgedclbfednhlaa", sum := "28ad21cb5ce91a04da55f89ea525e885bef08ddc4aad93248b01968cfd6356ad", func := "ravelin/ravelinlaw03.LayoutBacks", spec := "layoutBacks", apart := false }
def LayoutBacksSaid : Prop := layoutBacksRow.holds Try.pinned (OpenSpec.ofChange layoutBacksSpec)

/-- ITS FALSE NEIGHBOUR: 'it returns false'. Refute it at one input. -/
def layoutBacksWrong : ChangeSpec := { name := "layoutBacks", fn := fun _ => fun
  | [d1, d2, d3, d4] => { results := [.lit (.bool false)], args := [d1, d2, d3, d4] }
  | _ => none }
def LayoutBacksWrongFalsely : Prop := layoutBacksRow.holds Try.pinned (OpenSpec.ofChange layoutBacksWrong)

/- THE SECOND FORM. 'bulk': how many values and letters a reading holds, each counted each time it is reached (what is shared counts as often as it is met; a slice's spare places count too). A statement '..UptoSaid' is the law's where the arguments, and the package variables that the reading takes, are together of bulk at most 1048576: NARROWER than '..Said'. Prove '..Said' where nothing that the law and all that it calls make is longer than what came in: it says more and counts as full. Else prove '..UptoSaid'. A law counts once. -/
mutual
def uptoBulk {H : Type} : DataW H → Nat
  | .lit (.string bytes) => bytes.length + 1
  | .lit _ => 1
  | .nil => 1
  | .ptr d => uptoBulk d + 1
  | .slice elems spare => uptoBulkAll elems + uptoBulkAll spare + 1
  | .agg parts => uptoBulkAll parts + 1
  | .iface _ d => uptoBulk d + 1
  | .map entries => uptoBulkEntries entries + 1
  | .held _ => 1
def uptoBulkAll {H : Type} : List (DataW H) → Nat
  | [] => 0
  | d :: r => uptoBulk d + uptoBulkAll r
def uptoBulkEntries {H : Type} : List (Lit × DataW H) → Nat
  | [] => 0
  | x :: r => uptoBulkEntry x + uptoBulkEntries r
def uptoBulkEntry {H : Type} : Lit × DataW H → Nat
  | (.string bytes, d) => bytes.length + uptoBulk d + 1
  | (_, d) => uptoBulk d + 1
 end
def uptoSmall : (H : Type) → List (DataW H) → Bool := fun _ ds => decide (uptoBulkAll ds ≤ 1048576)
def OpenSpec.upto (s : _root_.Go.ChangeSpec) : _root_.Go.OpenSpec := { _root_.Go.OpenSpec.ofChange s with cond := some uptoSmall }

/-- 'ravelinlaw03.LayoutMaps', WHERE WHAT IT READS IS OF BULK AT MOST 1048576: true; the input reads as it did. -/
def layoutMapsUptoRow : OpenClaim := { program := "ytgedclbfednhlaa", sum := "28ad21cb5ce91a04da55f89ea525e885bef08ddc4aad93248b01968cfd6356ad", func := "ravelin/ravelinlaw03.LayoutMaps", spec := "layoutMaps", apart := false, narrowed := true }
def LayoutMapsUptoSaid : Prop := layoutMapsUptoRow.holds Try.pinned (OpenSpec.upto layoutMapsSpec)

/-- 'ravelinlaw03.LayoutForms', WHERE WHAT IT READS IS OF BULK AT MOST 1048576: true; the input reads as it did. -/
def layoutFormsUptoRow : OpenClaim := { program := "ytgedclbfednhlaa", sum := "28ad21cb5ce91a04da55f89ea525e885bef08ddc4aad93248b01968cfd6356ad", func := "ravelin/ravelinlaw03.LayoutForms", spec := "layoutForms", apart := false, narrowed := true }
def LayoutFormsUptoSaid : Prop := layoutFormsUptoRow.holds Try.pinned (OpenSpec.upto layoutFormsSpec)

/-- 'ravelinlaw03.LayoutTurns', WHERE WHAT IT READS IS OF BULK AT MOST 1048576: true; the input reads as it did. -/
def layoutTurnsUptoRow : OpenClaim := { program := "ytgedclbfednhlaa", sum := "28ad21cb5ce91a04da55f89ea525e885bef08ddc4aad93248b01968cfd6356ad", func := "ravelin/ravelinlaw03.LayoutTurns", spec := "layoutTurns", apart := false, narrowed := true }
def LayoutTurnsUptoSaid : Prop := layoutTurnsUptoRow.holds Try.pinned (OpenSpec.upto layoutTurnsSpec)

/-- 'ravelinlaw03.LayoutBoth', WHERE WHAT IT READS IS OF BULK AT MOST 1048576: true; the input reads as it did. -/
def layoutBothUptoRow : OpenClaim := { program := "ytgedclbfednhlaa", sum := "28ad21cb5ce91a04da55f89ea525e885bef08ddc4aad93248b01968cfd6356ad", func := "ravelin/ravelinlaw03.LayoutBoth", spec := "layoutBoth", apart := false, narrowed := true }
def LayoutBothUptoSaid : Prop := layoutBothUptoRow.holds Try.pinned (OpenSpec.upto layoutBothSpec)

/-- 'ravelinlaw03.LayoutCounts', WHERE WHAT IT READS IS OF BULK AT MOST 1048576: true; the input reads as it did. -/
def layoutCountsUptoRow : OpenClaim := { program := "ytgedclbfednhlaa", sum := "28ad21cb5ce91a04da55f89ea525e885bef08ddc4aad93248b01968cfd6356ad", func := "ravelin/ravelinlaw03.LayoutCounts", spec := "layoutCounts", apart := false, narrowed := true }
def LayoutCountsUptoSaid : Prop := layoutCountsUptoRow.holds Try.pinned (OpenSpec.upto layoutCountsSpec)

/-- 'ravelinlaw03.LayoutBacks', WHERE WHAT IT READS IS OF BULK AT MOST 1048576: true; the input reads as it did. -/
def layoutBacksUptoRow : OpenClaim := { program := "ytgedclbfednhlaa", sum := "28ad21cb5ce91a04da55f89ea525e885bef08ddc4aad93248b01968cfd6356ad", func := "ravelin/ravelinlaw03.LayoutBacks", spec := "layoutBacks", apart := false, narrowed := true }
def LayoutBacksUptoSaid : Prop := layoutBacksUptoRow.holds Try.pinned (OpenSpec.upto layoutBacksSpec)

end Rows
end Go.Proofs.Ytgedclbfednhlaa
