/-
  No cell of these rows narrows 'for every input' (looked for: loops, veiled, ifaces, maps, wideKeys, modest, calm, conditions, laid).
  DERIVED. THE GIVEN ROWS OF THIS SEAT. 5 by the template 'for every input the law returns true; each argument reads behind the call as it read before'; 0 by the template 'total and deterministic' (their statements: YtobblbplanimgaaTotals.lean).
  GIVEN WITH THE SEED: the statements are not yours to turn. If you find one false, say at which input.
  Laid BY PROGRAM, IN A SANDBOX (cutbox-rows.mjs): the forced cells as the released guide's own fill.sh prints them over the translation 0e587c00c2edb37b… (all of the seat's roots in one cut). By AI agents, Wed Nov 11 2026. No macro, syntax, notation, axiom, sorry.
-/
import Derived.Test.YtobblbplanimgaaChecked
import GoSem.Claim
import GoSem.ClaimJoined
import GoSem.ClaimMapViews
import Derived.JoinedTies
import Derived.KernelRfl
namespace Go.Proofs.Ytobblbplanimgaa
/- THE CELL 'sum', in the pinned program and in every row, IS THE sha256 OF THE DUMP (.gsa) THAT YtobblbplanimgaaProg.lean LOADS. Nothing in Lean hashes anything: it is a label: what it is worth is what the hold of that sum in a sandbox is worth. -/
noncomputable def Try.pinned : Pinned := { name := "ytobblbplanimgaa", sum := "0e587c00c2edb37bc5855edc3e81baeeeb763fdcf7cffad4bdbb5fb4f7735e6e", checked := Try.checked }
namespace Rows
def none {H : Type} : Left H := { results := [], args := [] }

/-- 'ravelinlaw07.NvramKeeps': WHATEVER THE INPUT: true; the input reads as it did. -/
def nvramKeepsSpec : ChangeSpec := { name := "nvramKeeps", fn := fun _ => fun
  | [d1, d2, d3] => { results := [.lit (.bool true)], args := [d1, d2, d3] }
  | _ => none }
def nvramKeepsRow : OpenClaim := { program := "ytobblbplanimgaa", sum := "0e587c00c2edb37bc5855edc3e81baeeeb763fdcf7cffad4bdbb5fb4f7735e6e", func := "ravelin/ravelinlaw07.NvramKeeps", spec := "nvramKeeps", inPlace := ["sync/atomic.LoadUint32", "sync/atomic.LoadInt64", "sync/atomic.StoreInt64", "sync/atomic.StoreUint32", "sync/atomic.AddInt64"], apart := false }
def NvramKeepsSaid : Prop := nvramKeepsRow.holds Try.pinned (OpenSpec.ofChange nvramKeepsSpec)

/-- ITS FALSE NEIGHBOUR: 'it returns false'. Refute it at one input. -/
def nvramKeepsWrong : ChangeSpec := { name := "nvramKeeps", fn := fun _ => fun
  | [d1, d2, d3] => { results := [.lit (.bool false)], args := [d1, d2, d3] }
  | _ => none }
def NvramKeepsWrongFalsely : Prop := nvramKeepsRow.holds Try.pinned (OpenSpec.ofChange nvramKeepsWrong)

/-- 'ravelinlaw07.NvramRoom': WHATEVER THE INPUT: true; the input reads as it did. -/
def nvramRoomSpec : ChangeSpec := { name := "nvramRoom", fn := fun _ => fun
  | [d1, d2] => { results := [.lit (.bool true)], args := [d1, d2] }
  | _ => none }
def nvramRoomRow : OpenClaim := { program := "ytobblbplanimgaa", sum := "0e587c00c2edb37bc5855edc3e81baeeeb763fdcf7cffad4bdbb5fb4f7735e6e", func := "ravelin/ravelinlaw07.NvramRoom", spec := "nvramRoom", inPlace := ["sync/atomic.LoadUint32", "sync/atomic.LoadInt64", "sync/atomic.StoreInt64", "sync/atomic.StoreUint32", "sync/atomic.AddInt64"], apart := false }
def NvramRoomSaid : Prop := nvramRoomRow.holds Try.pinned (OpenSpec.ofChange nvramRoomSpec)

/-- ITS FALSE NEIGHBOUR: 'it returns false'. Refute it at one input. -/
def nvramRoomWrong : ChangeSpec := { name := "nvramRoom", fn := fun _ => fun
  | [d1, d2] => { results := [.lit (.bool false)], args := [d1, d2] }
  | _ => none }
def NvramRoomWrongFalsely : Prop := nvramRoomRow.holds Try.pinned (OpenSpec.ofChange nvramRoomWrong)

/-- 'ravelinlaw07.NvramNil': WHATEVER THE INPUT: true; the input reads as it did. -/
def nvramNilSpec : ChangeSpec := { name := "nvramNil", fn := fun _ => fun
  | [d] => { results := [.lit (.bool true)], args := [d] }
  | _ => none }
def nvramNilRow : OpenClaim := { program := "ytobblbplanimgaa", sum := "0e587c00c2edb37bc5855edc3e81baeeeb763fdcf7cffad4bdbb5fb4f7735e6e", func := "ravelin/ravelinlaw07.NvramNil", spec := "nvramNil", inPlace := ["sync/atomic.LoadUint32", "sync/atomic.LoadInt64", "sync/atomic.StoreInt64", "sync/atomic.StoreUint32", "sync/atomic.AddInt64"], apart := false }
def NvramNilSaid : Prop := nvramNilRow.holds Try.pinned (OpenSpec.ofChange nvramNilSpec)

/-- ITS FALSE NEIGHBOUR: 'it returns false'. Refute it at one input. -/
def nvramNilWrong : ChangeSpec := { name := "nvramNil", fn := fun _ => fun
  | [d] => { results := [.lit (.bool false)], args := [d] }
  | _ => none }
def NvramNilWrongFalsely : Prop := nvramNilRow.holds Try.pinned (OpenSpec.ofChange nvramNilWrong)

/-- 'ravelinlaw07.NvramLoads': WHATEVER THE INPUT: true; the input reads as it did. -/
def nvramLoadsSpec : ChangeSpec := { name := "nvramLoads", fn := fun _ => fun
  | [d1, d2, d3] => { results := [.lit (.bool true)], args := [d1, d2, d3] }
  | _ => none }
def nvramLoadsRow : OpenClaim := { program := "ytobblbplanimgaa", sum := "0e587c00c2edb37bc5855edc3e81baeeeb763fdcf7cffad4bdbb5fb4f7735e6e", func := "ravelin/ravelinlaw07.NvramLoads", spec := "nvramLoads", inPlace := ["sync/atomic.LoadUint32", "sync/atomic.LoadInt64", "sync/atomic.StoreInt64", "sync/atomic.StoreUint32", "sync/atomic.AddInt64"], apart := false }
def NvramLoadsSaid : Prop := nvramLoadsRow.holds Try.pinned (OpenSpec.ofChange nvramLoadsSpec)

/-- ITS FALSE NEIGHBOUR: 'it returns false'. Refute it at one input. -/
def nvramLoadsWrong : ChangeSpec := { name := "nvramLoads", fn := fun _ => fun
  | [d1, d2, d3] => { results := [.lit (.bool false)], args := [d1, d2, d3] }
  | _ => none }
def NvramLoadsWrongFalsely : Prop := nvramLoadsRow.holds Try.pinned (OpenSpec.ofChange nvramLoadsWrong)

/-- 'ravelinlaw07.NvramPlays': WHATEVER THE INPUT: true; the input reads as it did. -/
def nvramPlaysSpec : ChangeSpec := { name := "nvramPlays", fn := fun _ => fun
  | [d1, d2] => { results := [.lit (.bool true)], args := [d1, d2] }
  | _ => none }
def nvramPlaysRow : OpenClaim := { program := "ytobblbplanimgaa", sum := "0e587c00c2edb37bc5855edc3e81baeeeb763fdcf7cffad4bdbb5fb4f7735e6e", func := "ravelin/ravelinlaw07.NvramPlays", spec := "nvramPlays", inPlace := ["sync/atomic.LoadUint32", "sync/atomic.LoadInt64", "sync/atomic.StoreInt64", "sync/atomic.StoreUint32", "sync/atomic.AddInt64"], apart := false }
def NvramPlaysSaid : Prop := nvramPlaysRow.holds Try.pinned (OpenSpec.ofChange nvramPlaysSpec)

/-- ITS FALSE NEIGHBOUR: 'it returns false'. Refute it at one input. -/
def nvramPlaysWrong : ChangeSpec := { name := "nvramPlays", fn := fun _ => fun
  | [d1, d2] => { results := [.lit (.bool false)], args := [d1, d2] }
  | _ => none }
def NvramPlaysWrongFalsely : Prop := nvramPlaysRow.holds Try.pinned (OpenSpec.ofChange nvramPlaysWrong)

/- THE SECOND FORM. 'bulk': how many values and letters a reading holds, each counted each time it is reached (what is shared counts as often as it is met; a slice's spare places count too). A statement '..UptoSaid' is the law's where the arguments, and the package variables that the reading takes, are together of bulk at most 1048576: NARROWER than '..Said'. Prove '..Said' where nothing that the law and all that it calls make is longer than what came in: it says more and counts as full. Else prove '..UptoSaid'. A law counts once. -/
mutual
def uptoBulk {H : Type} : DataW H → Nat
  | .lit (.string bytes) => bytes.length + 1
  | .lit _ => 1
  | .nil => 1
  | .ptr d => uptoBulk d + 1
  | .slice elems spare => uptoBulkAll elems + uptoBulkAll spare + 1
  | .agg parts => uptoBulkAll parts + 1
  | .iface _ d => uptoBulk d + 1
  | .map entries => uptoBulkEntries entries + 1
  | .held _ => 1
def uptoBulkAll {H : Type} : List (DataW H) → Nat
  | [] => 0
  | d :: r => uptoBulk d + uptoBulkAll r
def uptoBulkEntries {H : Type} : List (Lit × DataW H) → Nat
  | [] => 0
  | x :: r => uptoBulkEntry x + uptoBulkEntries r
def uptoBulkEntry {H : Type} : Lit × DataW H → Nat
  | (.string bytes, d) => bytes.length + uptoBulk d + 1
  | (_, d) => uptoBulk d + 1
 end
def uptoSmall : (H : Type) → List (DataW H) → Bool := fun _ ds => decide (uptoBulkAll ds ≤ 1048576)
def OpenSpec.upto (s : _root_.Go.ChangeSpec) : _root_.Go.OpenSpec := { _root_.Go.OpenSpec.ofChange s with cond := some uptoSmall }

/-- 'ravelinlaw07.NvramKeeps', WHERE WHAT IT READS IS OF BULK AT MOST 1048576: true; the input reads as it did. -/
def nvramKeepsUptoRow : OpenClaim := { program := "ytobblbplanimgaa", sum := "0e587c00c2edb37bc5855edc3e81baeeeb763fdcf7cffad4bdbb5fb4f7735e6e", func := "ravelin/ravelinlaw07.NvramKeeps", spec := "nvramKeeps", inPlace := ["sync/atomic.LoadUint32", "sync/atomic.LoadInt64", "sync/atomic.StoreInt64", "sync/atomic.StoreUint32", "sync/atomic.AddInt64"], apart := false, narrowed := true }
def NvramKeepsUptoSaid : Prop := nvramKeepsUptoRow.holds Try.pinned (OpenSpec.upto nvramKeepsSpec)

/-- 'ravelinlaw07.NvramRoom', WHERE WHAT IT READS IS OF BULK AT MOST 1048576: true; the input reads as it did. -/
def nvramRoomUptoRow : OpenClaim := { program := "ytobblbplanimgaa", sum := "0e587c00c2edb37bc5855edc3e81baeeeb763fdcf7cffad4bdbb5fb4f7735e6e", func := "ravelin/ravelinlaw07.NvramRoom", spec := "nvramRoom", inPlace := ["sync/atomic.LoadUint32", "sync/atomic.LoadInt64", "sync/atomic.StoreInt64", "sync/atomic.StoreUint32", "sync/atomic.AddInt64"], apart := false, narrowed := true }
def NvramRoomUptoSaid : Prop := nvramRoomUptoRow.holds Try.pinned (OpenSpec.upto nvramRoomSpec)

/-- 'ravelinlaw07.NvramNil', WHERE WHAT IT READS IS OF BULK AT MOST 1048576: true; the input reads as it did. -/
def nvramNilUptoRow : OpenClaim := { program := "ytobblbplanimgaa", sum := "0e587c00c2edb37bc5855edc3e81baeeeb763fdcf7cffad4bdbb5fb4f7735e6e", func := "ravelin/ravelinlaw07.NvramNil", spec := "nvramNil", inPlace := ["sync/atomic.LoadUint32", "sync/atomic.LoadInt64", "sync/atomic.StoreInt64", "sync/atomic.StoreUint32", "sync/atomic.AddInt64"], apart := false, narrowed := true }
def NvramNilUptoSaid : Prop := nvramNilUptoRow.holds Try.pinned (OpenSpec.upto nvramNilSpec)

/-- 'ravelinlaw07.NvramLoads', WHERE WHAT IT READS IS OF BULK AT MOST 1048576: true; the input reads as it did. -/
def nvramLoadsUptoRow : OpenClaim := { program := "ytobblbplanimgaa", sum := "0e587c00c2edb37bc5855edc3e81baeeeb763fdcf7cffad4bdbb5fb4f7735e6e", func := "ravelin/ravelinlaw07.NvramLoads", spec := "nvramLoads", inPlace := ["sync/atomic.LoadUint32", "sync/atomic.LoadInt64", "sync/atomic.StoreInt64", "sync/atomic.StoreUint32", "sync/atomic.AddInt64"], apart := false, narrowed := true }
def NvramLoadsUptoSaid : Prop := nvramLoadsUptoRow.holds Try.pinned (OpenSpec.upto nvramLoadsSpec)

/-- 'ravelinlaw07.NvramPlays', WHERE WHAT IT READS IS OF BULK AT MOST 1048576: true; the input reads as it did. -/
def nvramPlaysUptoRow : OpenClaim := { program := "ytobblbplanimgaa", sum := "0e587c00c2edb37bc5855edc3e81baeeeb763fdcf7cffad4bdbb5fb4f7735e6e", func := "ravelin/ravelinlaw07.NvramPlays", spec := "nvramPlays", inPlace := ["sync/atomic.LoadUint32", "sync/atomic.LoadInt64", "sync/atomic.StoreInt64", "sync/atomic.StoreUint32", "sync/atomic.AddInt64"], apart := false, narrowed := true }
def NvramPlaysUptoSaid : Prop := nvramPlaysUptoRow.holds Try.pinned (OpenSpec.upto nvramPlaysSpec)

end Rows
end Go.Proofs.Ytobblbplanimgaa
