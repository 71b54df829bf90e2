/-
  The power by contract: what Mains holds, its calls. Helper text; no statement is proved here.
-/
import Derived.Test.YtobblbplanimgaaBase
import Derived.Laws.LoneSync
import Derived.StillTailTactics
set_option linter.unusedVariables false
set_option maxRecDepth 20000
set_option linter.unusedSimpArgs false
namespace Go.Proofs.Ytobblbplanimgaa.Disk
open Go.RowKit Go.Proofs.Ytobblbplanimgaa.Base Go.Proofs.Ytobblbplanimgaa.Laws
/-- only these blocks may have changed, and what is new -/
structure Only (S : List Nat) (w w' : World) : Prop where
  os : w'.os = w.os
  tape : w'.tape = w.tape
  output : w'.output = w.output
  size : w.heap.size ≤ w'.heap.size
  block : ∀ k, k < w.heap.size → k ∉ S → w'.heap[k]? = w.heap[k]?
theorem Only.refl (S : List Nat) (w : World) : Only S w w := ⟨rfl, rfl, rfl, Nat.le_refl _, fun _ _ _ => rfl⟩
theorem Only.trans {S : List Nat} {a b c : World} (h : Only S a b) (k : Only S b c) : Only S a c :=
  ⟨k.os.trans h.os, k.tape.trans h.tape, k.output.trans h.output, Nat.le_trans h.size k.size, fun i hi hn => (k.block i (Nat.lt_of_lt_of_le hi h.size) hn).trans (h.block i hi hn)⟩
theorem Only.mono {S T : List Nat} {a b : World} (h : Only S a b) (hs : ∀ x ∈ S, x ∈ T) : Only T a b :=
  ⟨h.os, h.tape, h.output, h.size, fun i hi hn => h.block i hi fun hx => hn (hs _ hx)⟩
theorem Only.of_below {S : List Nat} {a b : World} (h : Below a.heap.size a b) : Only S a b :=
  ⟨h.os, h.tape, h.output, h.size, fun i hi _ => h.block i hi⟩
theorem Only.of_grown {g : Nat} {a b : World} (h : a.grownBy b (some g)) : Only [g] a b :=
  ⟨h.os, h.tape, h.output, h.size, fun i hi hn => h.block i hi (by intro e; exact hn (by simpa using e))⟩
theorem Only.below {S : List Nat} {a b : World} (h : Only S a b) {B : Nat} (hB : B ≤ a.heap.size) (hS : ∀ x ∈ S, B ≤ x) : Below B a b :=
  ⟨h.os, h.tape, h.output, h.size, fun k hk => h.block k (by omega) fun hx => by have := hS k hx; omega⟩
theorem Only.drewN {S : List Nat} {a b : World} (h : Only S a b) (n : Nat) : Only S a (b.drewN n) := ⟨h.os, h.tape, h.output, h.size, h.block⟩
theorem Only.drew {S : List Nat} {a b : World} (h : Only S a b) : Only S a b.drew := ⟨h.os, h.tape, h.output, h.size, h.block⟩
theorem Only.setCell {S : List Nat} {a b : World} (h : Only S a b) {g : Nat} (hg : g ∈ S) (i : Nat) (v : Value) : Only S a (b.setCell ⟨g, i, none⟩ v) :=
  h.trans (Only.mono (S := [g]) ⟨rfl, rfl, rfl, by simp, fun k hk hn => heap_setCell_other b ⟨g, i, none⟩ k v (by simpa using hn)⟩ (by simpa using hg))
theorem _root_.Go.Proofs.Ytobblbplanimgaa.Laws.Blk.only {w w' : World} {g : Nat} {cs : List Value} {t : TypeId} {S : List Nat} (h : Blk w g cs t) (ho : Only S w w') (hn : g ∉ S) : Blk w' g cs t :=
  (ho.block g h.lt hn).trans h

/-- the power: is it off; how many steps are left to a cut, and 1; how many steps there were -/
structure Pow where
  off : Bool
  left : Nat
  steps : Nat
def Pow.cells (p : Pow) : List Value := [.int .u32 (if p.off then 1 else 0), .int .i64 (p.left : Int), .int .i64 (p.steps : Int)]
def PowAt (w : World) (b : Nat) (p : Pow) : Prop := Blk w b p.cells 73
def Pow.Ok (p : Pow) : Prop := p.left ≤ 4611686018427387905 ∧ p.steps ≤ 4611686018427387904
theorem PowAt.only {w w' : World} {b : Nat} {p : Pow} {S : List Nat} (h : PowAt w b p) (ho : Only S w w') (hn : b ∉ S) : PowAt w' b p := Blk.only h ho hn
theorem PowAt.lt {w : World} {b : Nat} {p : Pow} (h : PowAt w b p) : b < w.heap.size := Blk.lt h
/-- a step -/
def Pow.step (p : Pow) : Bool × Pow :=
  if p.off then (false, p) else
  if p.left = 0 then (true, ⟨false, 0, p.steps + 1⟩) else
  if p.left = 1 then (false, ⟨true, 0, p.steps⟩) else (true, ⟨false, p.left - 1, p.steps + 1⟩)
/-! ### the library's cells -/
theorem bool_load (b o : Nat) (x : Bool) (w : World) (hc : w.cell? ⟨b, o, none⟩ = some (.int .u32 (if x then 1 else 0))) :
    Calls Try.prog 32 #[.pointer (some ⟨b, o, none⟩)] w fun e w' => e = .returned (.bool x) ∧ w = w' := by
  have hl := run_call_load (P := Try.prog) Try.func42 (by kernel_rfl) (by kernel_rfl) (by kernel_rfl) .u32 (by kernel_rfl) hc
  cases x <;> (
    simp only [if_true, if_false, Bool.false_eq_true] at hl hc
    go_enter Try.func32, Try.ntmps32
    go_wp2
    go_ret
    exact ⟨rfl, rfl⟩)
theorem i64_load (b o : Nat) (x : Int) (w : World) (hc : w.cell? ⟨b, o, none⟩ = some (.int .i64 x)) :
    Calls Try.prog 41 #[.pointer (some ⟨b, o, none⟩)] w fun e w' => e = .returned (.int .i64 x) ∧ w = w' := by
  have hl := run_call_load (P := Try.prog) Try.func53 (by kernel_rfl) (by kernel_rfl) (by kernel_rfl) .i64 (by kernel_rfl) hc
  go_enter Try.func41, Try.ntmps41
  go_wp2
  go_ret
  exact ⟨rfl, rfl⟩
theorem i64_store (b o : Nat) (x : Int) (u : Value) (w : World) (hc : w.cell? ⟨b, o, none⟩ = some u) (hf : w.frozen? ⟨b, o, none⟩ = false) :
    Calls Try.prog 33 #[.pointer (some ⟨b, o, none⟩), .int .i64 x] w fun e w' => e = .returned (.tuple #[]) ∧ w' = w.setCell ⟨b, o, none⟩ (.int .i64 x) := by
  have hl := run_call_store (P := Try.prog) Try.func43 (by kernel_rfl) (by kernel_rfl) (by kernel_rfl) (by kernel_rfl) (k := .i64) (y := x) hc hf
  go_enter Try.func33, Try.ntmps33
  go_wp2
  go_end0
  exact ⟨rfl, rfl⟩
theorem i64_add (b o : Nat) (x d : Int) (w : World) (hc : w.cell? ⟨b, o, none⟩ = some (.int .i64 x)) (hf : w.frozen? ⟨b, o, none⟩ = false) (h0 : 0 ≤ x) (h1 : x ≤ 4611686018427387904) (h2 : 0 ≤ d) (h3 : d ≤ 1) :
    Calls Try.prog 46 #[.pointer (some ⟨b, o, none⟩), .int .i64 d] w fun e w' => e = .returned (.int .i64 (x + d)) ∧ w' = w.setCell ⟨b, o, none⟩ (.int .i64 (x + d)) := by
  have hs : (Op.intArith .add .i64 x d).run Try.prog w = .ok (.int .i64 (x + d)) w := by
    have : IntKind.i64.wrap (x + d) = x + d := Go.IntWalk.i64_in _ (by omega)
    simp [go_sem, this]
  have hl := run_call_add (P := Try.prog) Try.func55 (by kernel_rfl) (by kernel_rfl) (by kernel_rfl) .i64 (by kernel_rfl) hc hf hs
  clear hs
  go_enter Try.func46, Try.ntmps46
  go_wp2
  go_ret
  exact ⟨rfl, rfl⟩
theorem b32_any (x : Bool) (w : World) : Calls Try.prog 48 #[.bool x] w fun e w' => e = .returned (.int .u32 (if x then 1 else 0)) ∧ w = w' := by
  cases x <;> (
    go_enter Try.func48, Try.ntmps48
    go_wp2
    go_ret
    exact ⟨rfl, rfl⟩)
theorem bool_store (b o : Nat) (x : Bool) (u : Value) (w : World) (hc : w.cell? ⟨b, o, none⟩ = some u) (hf : w.frozen? ⟨b, o, none⟩ = false) :
    Calls Try.prog 36 #[.pointer (some ⟨b, o, none⟩), .bool x] w fun e w' => e = .returned (.tuple #[]) ∧ ∃ n, w' = (w.setCell ⟨b, o, none⟩ (.int .u32 (if x then 1 else 0))).drewN n := by
  have hl := run_call_store (P := Try.prog) Try.func47 (by kernel_rfl) (by kernel_rfl) (by kernel_rfl) (by kernel_rfl) (k := .u32) (y := if x then 1 else 0) (w := w.drew) (a := ⟨b, o, none⟩) hc hf
  have HB := Lib.hid (b32_any x)
  cases x <;> (
    simp only [if_true, if_false, Bool.false_eq_true] at hl HB
    go_enter Try.func36, Try.ntmps36
    refine wp_region_still_tail 5 (by kernel_rfl) (by kernel_rfl) ?_
    simp only [List.take_succ_cons, List.take_zero, List.drop_succ_cons, List.drop_zero]
    still_step
    still_step
    still_step
    still_step
    still_call ((HB.out _).mono fun e w' ⟨a, b⟩ => ⟨a, b.symm⟩)
    refine wpStill_nil ?_
    go_wp2
    go_end0
    exact ⟨rfl, 1, rfl⟩)
end Go.Proofs.Ytobblbplanimgaa.Disk
