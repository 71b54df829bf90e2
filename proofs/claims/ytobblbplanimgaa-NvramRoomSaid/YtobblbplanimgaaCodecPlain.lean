/-
  Numbers as bytes, the highest first: plain. Helper text; no statement is proved here.
-/
import Derived.Test.YtobblbplanimgaaBase
set_option linter.unusedVariables false
set_option maxRecDepth 20000
set_option linter.unusedSimpArgs false
namespace Go.Proofs.Ytobblbplanimgaa.Codec
open Go.RowKit Go.Proofs.Ytobblbplanimgaa.Base Go.Proofs.Ytobblbplanimgaa.Laws
/-- the k-th byte of n from the lowest -/
def byteOf (n k : Nat) : UInt8 := UInt8.ofNat (n / 2 ^ (8 * k))
/-- n in so many bytes, the highest first -/
def be : Nat → Nat → List UInt8
  | 0, _ => []
  | s + 1, n => byteOf n s :: be s n
theorem be_len (s n : Nat) : (be s n).length = s := by
  induction s with
  | zero => rfl
  | succ s ih => simp [be, ih]
theorem be_get (s n k : Nat) (h : k < s) : (be s n)[k]? = some (byteOf n (s - 1 - k)) := by
  induction s generalizing k with
  | zero => omega
  | succ s ih =>
    cases k with
    | zero => rfl
    | succ k => rw [be, List.getElem?_cons_succ, ih k (by omega)]; congr 2; omega
theorem byteOf_val (n k : Nat) : u8 (byteOf n k) = .int .u8 ((n : Int) / 2 ^ (8 * k) % 256) := by
  have e : ((n : Int) / 2 ^ (8 * k)) = ((n / 2 ^ (8 * k) : Nat) : Int) := by rw [Int.natCast_ediv]; simp
  rw [e]
  unfold u8 byteOf
  rw [UInt8.toNat_ofNat']
  rfl
/-- the number that bytes are -/
def val (l : List UInt8) : Nat := l.foldl (fun n b => n * 256 + b.toNat) 0
theorem val_snoc (l : List UInt8) (b : UInt8) : val (l ++ [b]) = val l * 256 + b.toNat := by simp [val, List.foldl_append]
theorem val_aux (l : List UInt8) : ∀ a, l.foldl (fun n b => n * 256 + b.toNat) a < (a + 1) * 2 ^ (8 * l.length) := by
  induction l with
  | nil => intro a; simp
  | cons b l ih =>
    intro a
    have h := ih (a * 256 + b.toNat)
    have hb := b.toNat_lt
    rw [List.foldl_cons, List.length_cons, Nat.mul_add, Nat.pow_add]
    refine Nat.lt_of_lt_of_le h ?_
    rw [Nat.mul_comm (2 ^ (8 * l.length)), ← Nat.mul_assoc]
    exact Nat.mul_le_mul_right _ (by omega)
theorem val_lt (l : List UInt8) : val l < 2 ^ (8 * l.length) := by
  have := val_aux l 0
  simpa [val] using this
/-- the last k bytes of a number laid into a piece of cs -/
def laid (cs : List UInt8) (off len n k : Nat) : List UInt8 := put cs (off + (len - k)) ((be len n).drop (len - k))
theorem laid_zero (cs : List UInt8) (off len n : Nat) : laid cs off len n 0 = cs := by
  unfold laid put
  rw [Nat.sub_zero, List.drop_of_length_le (by rw [be_len]; omega)]
  simp
theorem laid_all (cs : List UInt8) (off len n : Nat) : laid cs off len n len = put cs off (be len n) := by
  unfold laid
  rw [Nat.sub_self]
  simp
theorem laid_len (cs : List UInt8) (off len n k : Nat) (h : off + len ≤ cs.length) (hk : k ≤ len) : (laid cs off len n k).length = cs.length := by
  unfold laid
  exact put_len _ _ _ (by rw [List.length_drop, be_len]; omega)
theorem laid_set (cs : List UInt8) (off len n k : Nat) (h : off + len ≤ cs.length) (hk : k < len) : (laid cs off len n k).set (off + (len - 1 - k)) (byteOf n k) = laid cs off len n (k + 1) := by
  have hl := laid_len cs off len n k h (by omega)
  refine List.ext_getElem? fun i => ?_
  have hb := be_len len n
  have get : ∀ k ≤ len, ∀ i, (laid cs off len n k)[i]? = if i < off + (len - k) then cs[i]? else if i < off + len then (be len n)[i - off]? else cs[i]? := by
    intro k hk i
    unfold laid put
    have hd : ((be len n).drop (len - k)).length = k := by rw [List.length_drop, hb]; omega
    by_cases h1 : i < off + (len - k)
    · rw [if_pos h1, List.getElem?_append_left (by rw [List.length_take]; omega), List.getElem?_take, if_pos h1]
    · rw [if_neg h1, List.getElem?_append_right (by rw [List.length_take]; omega), List.length_take, show min (off + (len - k)) cs.length = off + (len - k) from by omega]
      by_cases h2 : i < off + len
      · rw [if_pos h2, List.getElem?_append_left (by rw [hd]; omega), List.getElem?_drop]
        congr 1
        omega
      · rw [if_neg h2, List.getElem?_append_right (by rw [hd]; omega), hd, List.getElem?_drop]
        congr 1
        omega
  rw [List.getElem?_set, get (k + 1) (by omega), get k (by omega), hl]
  by_cases e : off + (len - 1 - k) = i
  · subst e
    rw [if_pos rfl, if_pos (by omega), if_neg (by omega), if_pos (by omega), show off + (len - 1 - k) - off = len - 1 - k from by omega, be_get len n (len - 1 - k) (by omega)]
    congr 2
    omega
  · rw [if_neg e]
    by_cases h1 : i < off + (len - (k + 1))
    · rw [if_pos (by omega), if_pos h1]
    · rw [if_neg (by omega), if_neg h1]
end Go.Proofs.Ytobblbplanimgaa.Codec
