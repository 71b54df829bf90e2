/-
  Words of this seat's walks: bytes in memory; bits of numbers. Helper text; no statement is proved here.
-/
import Derived.WalkKit
import Derived.Lib.Hide
import Derived.Deep.Draws
import Derived.Test.YtfjaoompdleljaaProg
import Derived.Test.YtfjaoompdleljaaLaws
import Derived.Test.YtfjaoompdleljaaCrcPlain
set_option linter.unusedVariables false
set_option maxRecDepth 20000
namespace Go.Proofs.Ytfjaoompdleljaa.Base
open Go.RowKit Go.Proofs.Ytfjaoompdleljaa.Laws
/-- a byte as a value -/
def u8 (b : UInt8) : Value := .int .u8 (b.toNat : Int)
/-- bytes as values -/
def bv (l : List UInt8) : List Value := l.map u8
theorem bv_append (a b : List UInt8) : bv (a ++ b) = bv a ++ bv b := by simp [bv]
theorem bv_len (l : List UInt8) : (bv l).length = l.length := by simp [bv]
theorem bv_get (l : List UInt8) (i : Nat) : (bv l)[i]? = l[i]?.map u8 := by simp [bv]
theorem bv_nil : bv [] = [] := rfl
theorem u8_one (b : UInt8) : (u8 b).oneCell' = true := rfl

/-- a slice of bytes reads as a list -/
def Bts (w : World) (a : Option Addr) (len cap : Nat) (l : List UInt8) : Prop :=
  l.length = len ∧ len ≤ cap ∧ cap ≤ maxLen ∧ (len = 0 ∨ ∃ b o, a = some ⟨b, o, none⟩ ∧ ∀ i u, l[i]? = some u → w.cell? ⟨b, o + i, none⟩ = some (u8 u))

theorem Bts.same {w w' : World} {a : Option Addr} {len cap : Nat} {l : List UInt8} (h : Bts w a len cap l) (hk : ∀ b o, b < w.heap.size → w'.cell? ⟨b, o, none⟩ = w.cell? ⟨b, o, none⟩) : Bts w' a len cap l := by
  obtain ⟨h1, h2, h3, h4⟩ := h
  refine ⟨h1, h2, h3, ?_⟩
  rcases h4 with h4 | ⟨b, o, e, hc⟩
  · exact .inl h4
  · refine .inr ⟨b, o, e, fun i u hu => ?_⟩
    have := hc i u hu
    rw [hk b (o + i) (block_lt_of_cell this)]
    exact this
theorem Bts.below {w w' : World} {a : Option Addr} {len cap : Nat} {l : List UInt8} (h : Bts w a len cap l) {B : Nat} (hb : Below B w w') (hB : w.heap.size ≤ B) : Bts w' a len cap l :=
  h.same fun b o hlt => hb.cell (p := ⟨b, o, none⟩) (Nat.lt_of_lt_of_le hlt hB)
theorem Bts.take {w : World} {a : Option Addr} {len cap n : Nat} {l : List UInt8} (h : Bts w a len cap l) (hn : n ≤ len) : Bts w a n cap (l.take n) := by
  obtain ⟨h1, h2, h3, h4⟩ := h
  refine ⟨by rw [List.length_take]; omega, by omega, h3, ?_⟩
  rcases h4 with h4 | ⟨b, o, e, hc⟩
  · exact .inl (by omega)
  · refine .inr ⟨b, o, e, fun i u hu => hc i u ?_⟩
    rw [List.getElem?_take] at hu
    split at hu
    · exact hu
    · cases hu

theorem take_snoc {α : Type} (l : List α) (k : Nat) (u : α) (h : l[k]? = some u) : l.take (k + 1) = l.take k ++ [u] := by
  obtain ⟨hk, rfl⟩ := List.getElem?_eq_some_iff.1 h
  exact List.take_succ_eq_append_getElem hk

theorem ret_int {k : IntKind} {a b : Int} (h : a = b) : Ending.returned (.int k a) = .returned (.int k b) := by rw [h]
theorem ret_bool {a b : Bool} (h : a = b) : Ending.returned (.bool a) = .returned (.bool b) := by rw [h]

/-! ### bits of 32 -/
theorem xor32 (a b : Nat) (ha : a < 4294967296) (hb : b < 4294967296) : bits .xor .u32 (a : Int) (b : Int) = ((a ^^^ b : Nat) : Int) := u32_xor_nat a b ha hb
theorem not32 (a : Nat) (ha : a < 4294967296) : bits BinOp.xor IntKind.u32 IntKind.u32.max (a : Int) = ((Crc.ones ^^^ a : Nat) : Int) := xor32 Crc.ones a (by decide) ha
theorem and1 (a : Nat) (ha : a < 4294967296) : bits .and .u32 (a : Int) 1 = ((a % 2 : Nat) : Int) := by
  have := u32_and_nat a 1 ha (by decide)
  rw [Nat.and_one_is_mod] at this
  exact this
theorem f_odd (n : Nat) (hn : n < 4294967296) (h : (bits BinOp.and IntKind.u32 (n : Int) 1 == 1) = true) : bits BinOp.xor IntKind.u32 ((n : Int) / 2) 3988292384 = (Crc.f n : Nat) := by
  rw [and1 n hn] at h
  have hm : n % 2 = 1 := by have := eq_of_beq h; omega
  unfold Crc.f
  rw [if_pos hm]
  exact xor32 (n / 2) Crc.poly (by omega) (by decide)
theorem f_even (n : Nat) (hn : n < 4294967296) (h : (bits BinOp.and IntKind.u32 (n : Int) 1 == 1) = false) : ((n : Int) / 2) = (Crc.f n : Nat) := by
  rw [and1 n hn] at h
  have hm : ¬ n % 2 = 1 := by intro e; rw [e] at h; simp at h
  unfold Crc.f
  rw [if_neg hm]
  rfl
theorem bit_odd (c b : Nat) (hc : c < 4294967296) (hb : b < 4294967296) (h : (bits BinOp.and IntKind.u32 (bits BinOp.xor IntKind.u32 (c : Int) (b : Int)) 1 == 1) = true) : bits BinOp.xor IntKind.u32 ((c : Int) / 2) 3988292384 = (Crc.bit c b : Nat) := by
  rw [xor32 c b hc hb, and1 _ (Crc.xor_lt _ _ hc hb)] at h
  have hm : (c ^^^ b) % 2 = 1 := by have := eq_of_beq h; omega
  unfold Crc.bit
  rw [if_pos hm]
  exact xor32 (c / 2) Crc.poly (by omega) (by decide)
theorem bit_even (c b : Nat) (hc : c < 4294967296) (hb : b < 4294967296) (h : (bits BinOp.and IntKind.u32 (bits BinOp.xor IntKind.u32 (c : Int) (b : Int)) 1 == 1) = false) : ((c : Int) / 2) = (Crc.bit c b : Nat) := by
  rw [xor32 c b hc hb, and1 _ (Crc.xor_lt _ _ hc hb)] at h
  have hm : ¬ (c ^^^ b) % 2 = 1 := by intro e; rw [e] at h; simp at h
  unfold Crc.bit
  rw [if_neg hm]
  rfl
theorem bitarg (u : UInt8) (m : Nat) : bits BinOp.and IntKind.u8 ((u.toNat : Int) / 2 ^ m) 1 % 4294967296 = ((u.toNat / 2 ^ m % 2 : Nat) : Int) := by
  have h : u.toNat / 2 ^ m < 256 := Nat.lt_of_le_of_lt (Nat.div_le_self _ _) u.toNat_lt
  have e : ((u.toNat : Int) / 2 ^ m) = ((u.toNat / 2 ^ m : Nat) : Int) := by rw [Int.natCast_ediv]; simp
  have h2 := u8_and_nat (u.toNat / 2 ^ m) 1 h (by decide)
  rw [Nat.and_one_is_mod] at h2
  rw [e]
  show bits BinOp.and IntKind.u8 ((u.toNat / 2 ^ m : Nat) : Int) ((1 : Nat) : Int) % 4294967296 = _
  rw [h2]
  omega
theorem cell_new (w : World) (cs : Array Value) (t : TypeId) (fr : Nat × Nat) (i : Nat) : (w.alloc (.cells cs t fr)).cell? ⟨w.heap.size, i, none⟩ = cs[i]? :=
  cell_of_row _ _ _ cs t fr (heap_alloc_new w _)
theorem bts_new (w : World) (l : List UInt8) (t : TypeId) (fr : Nat × Nat) (hl : l.length ≤ 1000000) : Bts (w.alloc (.cells (l.map u8).toArray t fr)) (some ⟨w.heap.size, 0, none⟩) l.length l.length l := by
  refine ⟨rfl, Nat.le_refl _, by unfold maxLen; omega, .inr ⟨_, _, rfl, fun i u hu => ?_⟩⟩
  rw [Nat.zero_add, cell_new]
  simp [hu]
theorem _root_.Go.Proofs.Ytfjaoompdleljaa.Laws.Blk.bts {w : World} {g : Nat} {t : TypeId} {l : List UInt8} (h : Blk w g (bv l) t) {n cap : Nat} (hn : l.length = n) (hc : n ≤ cap) (hm : cap ≤ maxLen) : Bts w (some ⟨g, 0, none⟩) n cap l :=
  ⟨hn, hc, hm, .inr ⟨g, 0, rfl, fun i u hu => by rw [Nat.zero_add, h.cell, bv_get, hu]; rfl⟩⟩
end Go.Proofs.Ytfjaoompdleljaa.Base
