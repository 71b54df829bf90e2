/-
  What Pack lays down, Unpack reads: plain. Helper text; no statement is proved here.
-/
import Derived.Test.YtobblbplanimgaaUnpack
set_option linter.unusedVariables false
set_option maxRecDepth 20000
set_option linter.unusedSimpArgs false
namespace Go.Proofs.Ytobblbplanimgaa.Codec
open Go.RowKit Go.Proofs.Ytobblbplanimgaa.Base Go.Proofs.Ytobblbplanimgaa.Laws
/-- a record's bytes, the sum behind them -/
def rec37 (k : Int) (v a : Nat) (l : List UInt8) : List UInt8 := rec33 k v a l ++ be 4 (Crc.crc (rec33 k v a l))
theorem rec37_len (k : Int) (v a : Nat) (l : List UInt8) (hl : l.length = 16) : (rec37 k v a l).length = 37 := by unfold rec37; rw [List.length_append, rec33_len _ _ _ _ hl, be_len]
theorem drop_take_mid {α : Type} (p q r : List α) {i n : Nat} (hi : p.length = i) (hn : q.length = n) : ((p ++ (q ++ r)).drop i).take n = q := by
  subst hi; subst hn
  rw [List.drop_left, List.take_left]
theorem rec_parts {k : Int} {v a : Nat} {l r : List UInt8} (hl : l.length = 16) (hv : v < 18446744073709551616) (h : Ok k a) :
    kindOf (rec37 k v a l ++ r) = k ∧ verOf (rec37 k v a l ++ r) = v ∧ lbaOf (rec37 k v a l ++ r) = a ∧ dataOf (rec37 k v a l ++ r) = l ∧ (rec37 k v a l ++ r).take 33 = rec33 k v a l ∧ ((rec37 k v a l ++ r).drop 33).take 4 = be 4 (Crc.crc (rec33 k v a l)) := by
  obtain ⟨⟨h1, h2⟩, ⟨h3, h4⟩⟩ := h
  have h33 := rec33_len k v a l hl
  have hx : (UInt8.ofNat k.toNat).toNat = k.toNat := by rw [UInt8.toNat_ofNat']; omega
  have hva : a < 18446744073709551616 := by omega
  refine ⟨?_, ?_, ?_, ?_, ?_, ?_⟩
  · unfold kindOf rec37 rec33
    simp only [List.cons_append, List.headD_cons, hx]
    omega
  · unfold verOf rec37
    have e : rec33 k v a l ++ be 4 (Crc.crc (rec33 k v a l)) ++ r = [UInt8.ofNat k.toNat] ++ (be 8 v ++ (be 8 a ++ l ++ be 4 (Crc.crc (rec33 k v a l)) ++ r)) := by
      unfold rec33; simp [List.append_assoc]
    rw [e, drop_take_mid (i := 1) _ _ _ rfl (be_len 8 v), val_be 8 v (by simpa using hv)]
  · unfold lbaOf rec37
    have e : rec33 k v a l ++ be 4 (Crc.crc (rec33 k v a l)) ++ r = ([UInt8.ofNat k.toNat] ++ be 8 v) ++ (be 8 a ++ (l ++ be 4 (Crc.crc (rec33 k v a l)) ++ r)) := by
      unfold rec33; simp [List.append_assoc]
    rw [e, drop_take_mid _ _ _ (by simp [be_len]) (be_len 8 a), val_be 8 a (by simpa using hva), IntKind.wrap_i64]
    omega
  · unfold dataOf rec37
    have e : rec33 k v a l ++ be 4 (Crc.crc (rec33 k v a l)) ++ r = ([UInt8.ofNat k.toNat] ++ be 8 v ++ be 8 a) ++ (l ++ (be 4 (Crc.crc (rec33 k v a l)) ++ r)) := by
      unfold rec33; simp [List.append_assoc]
    rw [e, drop_take_mid _ _ _ (by simp [be_len]) hl]
  · unfold rec37
    rw [List.append_assoc, List.take_append_of_le_length (by omega), List.take_of_length_le (by omega)]
  · unfold rec37
    rw [List.append_assoc, drop_take_mid _ _ _ h33 (be_len 4 _)]
theorem rec_back {k : Int} {v a : Nat} {l : List UInt8} (r : List UInt8) (hl : l.length = 16) (hv : v < 18446744073709551616) (h : Ok k a) :
    IsRec (rec37 k v a l ++ r) ∧ recOut (rec37 k v a l ++ r) = recV k v a l ∧ recErr (rec37 k v a l ++ r) = 0 := by
  obtain ⟨e1, e2, e3, e4, e5, e6⟩ := rec_parts (r := r) hl hv h
  have hi : IsRec (rec37 k v a l ++ r) := by
    refine ⟨?_, ?_, ?_⟩
    · rw [List.length_append, rec37_len _ _ _ _ hl]; omega
    · rw [e1, e3]; exact h
    · rw [e5, e6]
  obtain ⟨o1, o2⟩ := out_yes hi
  rw [e1, e2, e3, e4] at o1
  exact ⟨hi, o1, o2⟩
theorem rec_back' {k : Int} {v a : Nat} {l : List UInt8} (hl : l.length = 16) (hv : v < 18446744073709551616) (h : Ok k a) :
    IsRec (rec37 k v a l) ∧ recOut (rec37 k v a l) = recV k v a l ∧ recErr (rec37 k v a l) = 0 := by
  have := rec_back [] hl hv h
  rwa [List.append_nil] at this
end Go.Proofs.Ytobblbplanimgaa.Codec
