/-
  The power by contract: what Mains holds, its calls. Helper text; no statement is proved here.
-/
import Derived.Test.YtfjaoompdleljaaBase
import Derived.StillTailTactics
set_option linter.unusedVariables false
set_option maxRecDepth 20000
set_option linter.unusedSimpArgs false
namespace Go.Proofs.Ytfjaoompdleljaa.Disk
open Go.RowKit Go.Proofs.Ytfjaoompdleljaa.Base Go.Proofs.Ytfjaoompdleljaa.Laws
/-- only these blocks may have changed, and what is new -/
structure Only (S : List Nat) (w w' : World) : Prop where
  os : w'.os = w.os
  tape : w'.tape = w.tape
  output : w'.output = w.output
  size : w.heap.size ≤ w'.heap.size
  block : ∀ k, k < w.heap.size → k ∉ S → w'.heap[k]? = w.heap[k]?
theorem Only.refl (S : List Nat) (w : World) : Only S w w := ⟨rfl, rfl, rfl, Nat.le_refl _, fun _ _ _ => rfl⟩
theorem Only.trans {S : List Nat} {a b c : World} (h : Only S a b) (k : Only S b c) : Only S a c :=
  ⟨k.os.trans h.os, k.tape.trans h.tape, k.output.trans h.output, Nat.le_trans h.size k.size, fun i hi hn => (k.block i (Nat.lt_of_lt_of_le hi h.size) hn).trans (h.block i hi hn)⟩
theorem Only.mono {S T : List Nat} {a b : World} (h : Only S a b) (hs : ∀ x ∈ S, x ∈ T) : Only T a b :=
  ⟨h.os, h.tape, h.output, h.size, fun i hi hn => h.block i hi fun hx => hn (hs _ hx)⟩
theorem Only.of_below {S : List Nat} {a b : World} (h : Below a.heap.size a b) : Only S a b :=
  ⟨h.os, h.tape, h.output, h.size, fun i hi _ => h.block i hi⟩
theorem Only.of_grown {g : Nat} {a b : World} (h : a.grownBy b (some g)) : Only [g] a b :=
  ⟨h.os, h.tape, h.output, h.size, fun i hi hn => h.block i hi (by intro e; exact hn (by simpa using e))⟩
theorem Only.below {S : List Nat} {a b : World} (h : Only S a b) {B : Nat} (hB : B ≤ a.heap.size) (hS : ∀ x ∈ S, B ≤ x) : Below B a b :=
  ⟨h.os, h.tape, h.output, h.size, fun k hk => h.block k (by omega) fun hx => by have := hS k hx; omega⟩
theorem Only.drewN {S : List Nat} {a b : World} (h : Only S a b) (n : Nat) : Only S a (b.drewN n) := ⟨h.os, h.tape, h.output, h.size, h.block⟩
theorem Only.drew {S : List Nat} {a b : World} (h : Only S a b) : Only S a b.drew := ⟨h.os, h.tape, h.output, h.size, h.block⟩
theorem Only.setCell {S : List Nat} {a b : World} (h : Only S a b) {g : Nat} (hg : g ∈ S) (i : Nat) (v : Value) : Only S a (b.setCell ⟨g, i, none⟩ v) :=
  h.trans (Only.mono (S := [g]) ⟨rfl, rfl, rfl, by simp, fun k hk hn => heap_setCell_other b ⟨g, i, none⟩ k v (by simpa using hn)⟩ (by simpa using hg))
theorem _root_.Go.Proofs.Ytfjaoompdleljaa.Laws.Blk.only {w w' : World} {g : Nat} {cs : List Value} {t : TypeId} {S : List Nat} (h : Blk w g cs t) (ho : Only S w w') (hn : g ∉ S) : Blk w' g cs t :=
  (ho.block g h.lt hn).trans h
end Go.Proofs.Ytfjaoompdleljaa.Disk
