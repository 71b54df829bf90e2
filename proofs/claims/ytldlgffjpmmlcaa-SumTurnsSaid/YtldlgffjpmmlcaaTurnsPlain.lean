/-
  Turned bits of a cell: plain. Helper text; no statement is proved here.
-/
import Derived.Test.YtldlgffjpmmlcaaGood
set_option linter.unusedVariables false
set_option linter.unusedSimpArgs false
namespace Go.Proofs.Ytldlgffjpmmlcaa.Turns
open Go.RowKit Go.Proofs.Ytldlgffjpmmlcaa.Base Go.Proofs.Ytldlgffjpmmlcaa.Laws Go.Proofs.Ytldlgffjpmmlcaa.Seal Go.Proofs.Ytldlgffjpmmlcaa.Good
/-- the byte with just bit p set -/
def mask (p : Nat) : UInt8 := UInt8.ofNat (2 ^ (p % 8))
theorem mask_val (p : Nat) : (mask p).toNat = 2 ^ (p % 8) := by
  unfold mask
  rw [UInt8.toNat_ofNat']
  have h : (2 : Nat) ^ (p % 8) ≤ 2 ^ 7 := Nat.pow_le_pow_right (by decide) (by omega)
  have h2 : (2 : Nat) ^ 7 = 128 := by decide
  exact Nat.mod_eq_of_lt (by omega)
/-- bytes with bit p turned -/
def turn (l : List UInt8) (p : Nat) : List UInt8 := l.set (p / 8) (l.getD (p / 8) 0 ^^^ mask p)
theorem turn_len (l : List UInt8) (p : Nat) : (turn l p).length = l.length := by simp [turn]
theorem turn_num (l : List UInt8) (p : Nat) (hp : p / 8 < l.length) : Crc.num (turn l p) = Crc.num l ^^^ 2 ^ p := by
  unfold turn
  have hg : l[p / 8]? = some (l.getD (p / 8) 0) := by simp [List.getElem?_eq_getElem hp]
  rw [Crc.num_set l (p / 8) _ hg, mask_val, ← Nat.pow_add]
  congr 2
  omega
theorem turn_cell (l : List UInt8) (n p : Nat) (hp : p / 8 < l.length) : (cellV l n).set (p / 8) (u8 (l.getD (p / 8) 0 ^^^ mask p)) = cellV (turn l p) n := by
  unfold cellV turn bv
  rw [List.set_append_left _ _ (by simpa using hp), List.map_set]
theorem get_cell (l : List UInt8) (n p : Nat) (hp : p / 8 < l.length) : (cellV l n)[p / 8]? = some (u8 (l.getD (p / 8) 0)) := by
  unfold cellV
  rw [List.getElem?_append_left (by rw [bv_len]; exact hp), bv_get]
  simp [List.getElem?_eq_getElem hp]
theorem xor8 (x y : UInt8) : bits BinOp.xor IntKind.u8 (x.toNat : Int) (y.toNat : Int) = ((x ^^^ y).toNat : Int) := by
  have := u8_xor_nat x.toNat y.toNat x.toNat_lt y.toNat_lt
  rw [this, UInt8.toNat_xor]
theorem xor_both (a b c : Nat) (h : a ^^^ c = b ^^^ c) : a = b := by
  have := Crc.xor_self_mid a b c
  rw [h, Nat.xor_self] at this
  exact (Crc.xor_eq_zero this.symm)
/-- the sum of a turned sector is another just where it is another sector -/
theorem crc_turned (pl l l' : List UInt8) (D : Nat) (hl : l.length = 16) (hl' : l'.length = 16) (hD : Crc.num l' = Crc.num l ^^^ D) (h : Crc.fN 128 D = 0 ↔ D = 0) : Crc.crc (pl ++ l') = Crc.crc (pl ++ l) ↔ l' = l := by
  have hd : Crc.num l' ^^^ Crc.num l = D := by
    rw [hD, Nat.xor_comm, ← Nat.xor_assoc, Nat.xor_self, Nat.zero_xor]
  have key : ∀ c, Crc.more c l' = Crc.more c l ↔ l' = l := fun c => by
    constructor
    · intro he
      have h1 : Crc.reg (Crc.ones ^^^ c) l' = Crc.reg (Crc.ones ^^^ c) l := by
        unfold Crc.more at he
        rw [Nat.xor_comm Crc.ones, Nat.xor_comm Crc.ones (Crc.reg _ l)] at he
        exact xor_both _ _ _ he
      have h2 := (Crc.reg_diff (by rw [hl, hl'])).1 h1
      rw [hd, hl] at h2
      have h3 := h.1 h2
      rw [h3, Nat.xor_zero] at hD
      exact Crc.num_inj _ _ (by rw [hl, hl']) hD
    · rintro rfl; rfl
  unfold Crc.crc
  rw [Crc.more_append, Crc.more_append]
  exact key _
theorem three_iff (i j k : Nat) : Crc.fN 128 (2 ^ (i % 128) ^^^ 2 ^ (j % 128) ^^^ 2 ^ (k % 128)) = 0 ↔ (2 ^ (i % 128) ^^^ 2 ^ (j % 128) ^^^ 2 ^ (k % 128)) = 0 := by
  have h := Crc.three (i % 128) (j % 128) (k % 128) (Nat.mod_lt _ (by decide)) (Nat.mod_lt _ (by decide)) (Nat.mod_lt _ (by decide))
  exact ⟨fun e => absurd e h, fun e => by rw [e]; exact Crc.fN_zero _⟩
theorem burst_iff (o row : Nat) (ho : o ≤ 128) (hr : row < 4294967296) : Crc.fN 128 (row * 2 ^ o) = 0 ↔ row * 2 ^ o = 0 := by
  rw [Crc.burst ho hr]
  have : 0 < 2 ^ o := Nat.two_pow_pos o
  constructor
  · rintro rfl; simp
  · intro h; exact (Nat.mul_eq_zero.1 h).resolve_right (by omega)
theorem xor_shift (a b o : Nat) : (a ^^^ b) * 2 ^ o = a * 2 ^ o ^^^ b * 2 ^ o := by
  rw [← Nat.shiftLeft_eq, ← Nat.shiftLeft_eq, ← Nat.shiftLeft_eq]
  exact Nat.shiftLeft_xor_distrib
/-- the first n bits of the row are turned -/
def rowTo (row o n : Nat) : Nat := (row % 2 ^ n) * 2 ^ o
theorem row_zero (row o : Nat) : rowTo row o 0 = 0 := by unfold rowTo; rw [Nat.pow_zero, Nat.mod_one, Nat.zero_mul]
theorem row_all (row o : Nat) (h : row < 4294967296) : rowTo row o 32 = row * 2 ^ o := by
  unfold rowTo
  rw [show (2 : Nat) ^ 32 = 4294967296 from by decide, Nat.mod_eq_of_lt h]
theorem row_yes (row o n : Nat) (h : row / 2 ^ n % 2 = 1) : rowTo row o n ^^^ 2 ^ (o + n) = rowTo row o (n + 1) := by
  unfold rowTo
  have ht : row.testBit n = true := by rw [Nat.testBit_eq_decide_div_mod_eq, h]; rfl
  have := Crc.mod_testBit row n
  rw [if_pos ht] at this
  rw [← this, xor_shift, Nat.xor_comm, Nat.pow_add, Nat.mul_comm (2 ^ n)]
theorem row_no (row o n : Nat) (h : ¬ row / 2 ^ n % 2 = 1) : rowTo row o n = rowTo row o (n + 1) := by
  unfold rowTo
  have ht : row.testBit n = false := by rw [Nat.testBit_eq_decide_div_mod_eq]; simp [h]
  have := Crc.mod_testBit row n
  rw [if_neg (by rw [ht]; simp), Nat.zero_xor] at this
  rw [this]
end Go.Proofs.Ytldlgffjpmmlcaa.Turns
