/-
  What bytes read as a record: plain. Helper text; no statement is proved here.
-/
import Derived.Test.YtobblbplanimgaaCodecPack
set_option linter.unusedVariables false
set_option maxRecDepth 20000
set_option linter.unusedSimpArgs false
namespace Go.Proofs.Ytobblbplanimgaa.Codec
open Go.RowKit Go.Proofs.Ytobblbplanimgaa.Base Go.Proofs.Ytobblbplanimgaa.Laws
theorem byteOf_toNat (n k : Nat) : (byteOf n k).toNat = n / 2 ^ (8 * k) % 256 := by
  unfold byteOf
  rw [UInt8.toNat_ofNat']
theorem val_cons_aux (l : List UInt8) : ∀ a, l.foldl (fun n b => n * 256 + b.toNat) a = a * 2 ^ (8 * l.length) + val l := by
  induction l with
  | nil => intro a; simp [val]
  | cons b l ih =>
    intro a
    have h1 := ih (a * 256 + b.toNat)
    have h2 := ih (0 * 256 + b.toNat)
    have e : val (b :: l) = (0 * 256 + b.toNat) * 2 ^ (8 * l.length) + val l := h2
    rw [List.foldl_cons, h1, e, List.length_cons, Nat.mul_add, Nat.pow_add]
    simp only [Nat.zero_mul, Nat.zero_add, Nat.add_mul]
    rw [show 2 ^ (8 * 1) = 256 from by decide, Nat.mul_comm (2 ^ (8 * l.length)) 256, ← Nat.mul_assoc]
    omega
theorem val_cons (b : UInt8) (l : List UInt8) : val (b :: l) = b.toNat * 2 ^ (8 * l.length) + val l := by
  have := val_cons_aux l (0 * 256 + b.toNat)
  simpa [val] using this
theorem be_val (l : List UInt8) : ∀ h : Nat, be l.length (h * 2 ^ (8 * l.length) + val l) = l := by
  induction l with
  | nil => intro h; rfl
  | cons b l ih =>
    intro h
    have hv := val_lt l
    have hb := b.toNat_lt
    have e : h * 2 ^ (8 * (l.length + 1)) + (b.toNat * 2 ^ (8 * l.length) + val l) = (h * 256 + b.toNat) * 2 ^ (8 * l.length) + val l := by
      rw [Nat.mul_add, Nat.pow_add, show 2 ^ (8 * 1) = 256 from by decide, Nat.add_mul, Nat.mul_comm (2 ^ (8 * l.length)) 256, ← Nat.mul_assoc]
      omega
    rw [List.length_cons, val_cons, be, e, ih]
    congr 1
    apply UInt8.toNat_inj.1
    rw [byteOf_toNat, Nat.add_comm, Nat.add_mul_div_right _ _ (Nat.two_pow_pos _), Nat.div_eq_of_lt hv]
    omega
theorem be_val' (l : List UInt8) {n : Nat} (hn : l.length = n) : be n (val l) = l := by
  subst hn
  have := be_val l 0
  simpa using this
theorem val_be (s n : Nat) (h : n < 2 ^ (8 * s)) : val (be s n) = n := by
  induction s generalizing n with
  | zero => have : n = 0 := by simpa using h
            subst this; rfl
  | succ s ih =>
    have hp := Nat.two_pow_pos (8 * s)
    have hm := Nat.mod_lt n hp
    have key : be s (n % 2 ^ (8 * s)) = be s n := by
      refine List.ext_getElem? fun i => ?_
      rcases Nat.lt_or_ge i s with hi | hi
      · rw [be_get s _ i hi, be_get s _ i hi]
        congr 1
        apply UInt8.toNat_inj.1
        rw [byteOf_toNat, byteOf_toNat]
        have e : 2 ^ (8 * s) = 2 ^ (8 * (s - 1 - i)) * 2 ^ (8 * (i + 1)) := by rw [← Nat.pow_add]; congr 1; omega
        rw [e, Nat.mod_mul_right_div_self]
        have e2 : 2 ^ (8 * (i + 1)) = 256 * 2 ^ (8 * i) := by rw [Nat.mul_add, Nat.pow_add, Nat.mul_comm]
        rw [e2]
        exact Nat.mod_mul_right_mod _ _ _
      · rw [List.getElem?_eq_none (by rw [be_len]; omega), List.getElem?_eq_none (by rw [be_len]; omega)]
    rw [be, val_cons, be_len, byteOf_toNat, ← key, ih _ hm]
    have hd : n / 2 ^ (8 * s) < 256 := by
      rw [Nat.div_lt_iff_lt_mul hp]
      rw [show 8 * (s + 1) = 8 + 8 * s from by omega, Nat.pow_add] at h
      exact h
    rw [Nat.mod_eq_of_lt hd]
    have := Nat.div_add_mod n (2 ^ (8 * s))
    rw [Nat.mul_comm] at this
    exact this
/-- the parts of a record that bytes begin with -/
def kindOf (l : List UInt8) : Int := ((l.headD 0).toNat : Int)
def verOf (l : List UInt8) : Nat := val ((l.drop 1).take 8)
def lbaOf (l : List UInt8) : Int := IntKind.i64.wrap (val ((l.drop 9).take 8) : Nat)
def dataOf (l : List UInt8) : List UInt8 := (l.drop 17).take 16
/-- do bytes begin with a record? -/
def IsRec (l : List UInt8) : Prop := 37 ≤ l.length ∧ Ok (kindOf l) (lbaOf l) ∧ (l.drop 33).take 4 = be 4 (Crc.crc (l.take 33))
theorem verOf_lt (l : List UInt8) : verOf l < 18446744073709551616 := by
  have h := val_lt ((l.drop 1).take 8)
  have h2 : (2 : Nat) ^ (8 * ((l.drop 1).take 8).length) ≤ 2 ^ 64 := Nat.pow_le_pow_right (by decide) (by rw [List.length_take]; omega)
  have h3 : (2 : Nat) ^ 64 = 18446744073709551616 := by decide
  unfold verOf
  omega
theorem lba_val_lt (l : List UInt8) : val ((l.drop 9).take 8) < 18446744073709551616 := by
  have h := val_lt ((l.drop 9).take 8)
  have h2 : (2 : Nat) ^ (8 * ((l.drop 9).take 8).length) ≤ 2 ^ 64 := Nat.pow_le_pow_right (by decide) (by rw [List.length_take]; omega)
  have h3 : (2 : Nat) ^ 64 = 18446744073709551616 := by decide
  omega
theorem lba_nat {l : List UInt8} (h0 : 0 ≤ lbaOf l) : lbaOf l = (val ((l.drop 9).take 8) : Nat) := by
  have h := lba_val_lt l
  unfold lbaOf at *
  rw [IntKind.wrap_i64] at *
  omega
theorem take33 {l : List UInt8} (h : 37 ≤ l.length) {a : Nat} (ha : lbaOf l = a) : l.take 33 = rec33 (kindOf l) (verOf l) a (dataOf l) := by
  have e := lba_nat (l := l) (by omega)
  have ea : a = val ((l.drop 9).take 8) := by omega
  unfold rec33 kindOf verOf dataOf
  rw [ea, be_val' _ (by rw [List.length_take, List.length_drop]; omega), be_val' _ (by rw [List.length_take, List.length_drop]; omega), Int.toNat_natCast]
  have e1 : [UInt8.ofNat (l.headD 0).toNat] = l.take 1 := by
    cases l with
    | nil => simp at h
    | cons x l => simp
  rw [e1]
  have t (n k : Nat) : l.take n ++ (l.drop n).take k = l.take (n + k) := by rw [← List.take_add]
  rw [t, t, t]
theorem take37 {l : List UInt8} (h : 37 ≤ l.length) : l.take 37 = l.take 33 ++ (l.drop 33).take 4 := by rw [← List.take_add]
end Go.Proofs.Ytobblbplanimgaa.Codec
