/-
  Rows that turn: plain. Helper text; no statement is proved here.
-/
import Derived.Test.YtgedclbfednhlaaLay
set_option linter.unusedVariables false
set_option linter.unusedSimpArgs false
namespace Go.Proofs.Ytgedclbfednhlaa.Lay
open Go.RowKit Go.Proofs.Ytgedclbfednhlaa.Base Go.Proofs.Ytgedclbfednhlaa.Laws
/-! ### numbers -/
theorem mul_bd {a b A B : Int} (a0 : 0 ≤ a) (a1 : a ≤ A) (b0 : 0 ≤ b) (b1 : b ≤ B) : 0 ≤ a * b ∧ a * b ≤ A * B :=
  ⟨Int.mul_nonneg a0 b0, Int.mul_le_mul a1 b1 b0 (Int.le_trans a0 a1)⟩
theorem emod_k {x d y k : Int} (h : x = d * k + y) (h0 : 0 ≤ y) (h1 : y < d) : x % d = y := by
  rw [h, Int.mul_add_emod_self_left, Int.emod_eq_of_lt h0 h1]
theorem ediv_k {x d y k : Int} (h : x = d * k + y) (h0 : 0 ≤ y) (h1 : y < d) : x / d = k := by
  rw [h, Int.mul_add_ediv_left _ _ (by omega), Int.ediv_eq_zero_of_lt h0 h1, Int.add_zero]
theorem tmod_e {x d : Int} (h : 0 ≤ x) : Int.tmod x d = x % d := Int.tmod_eq_emod_of_nonneg h
theorem tdiv_e {x d : Int} (h : 0 ≤ x) : Int.tdiv x d = x / d := Int.tdiv_eq_ediv_of_nonneg h
theorem div_add (x d : Int) : x = d * (x / d) + x % d := (Int.mul_ediv_add_emod x d).symm
theorem mod_bd (x : Int) {d : Int} (h : 0 < d) : 0 ≤ x % d ∧ x % d < d := ⟨Int.emod_nonneg _ (by omega), Int.emod_lt_of_pos _ h⟩
theorem div_bd {x d m : Int} (h : 0 < d) (hx : 0 ≤ x) (hm : x < d * m) : 0 ≤ x / d ∧ x / d < m :=
  ⟨Int.ediv_nonneg hx (by omega), Int.ediv_lt_of_lt_mul h (by rwa [Int.mul_comm] at hm)⟩

theorem turn {d f c : Int} (f0 : 0 ≤ f) (f1 : f < d) (c0 : 0 ≤ c) (c1 : c < d) : (f + c) % d = if f + c < d then f + c else f + c - d := by
  split
  · exact emod_k (k := 0) (by omega) (by omega) (by omega)
  · exact emod_k (k := 1) (by omega) (by omega) (by omega)
theorem back {d f p : Int} (f0 : 0 ≤ f) (f1 : f < d) (p0 : 0 ≤ p) (p1 : p < d) : (p - f + d) % d = if f ≤ p then p - f else p - f + d := by
  split
  · exact emod_k (k := 1) (by omega) (by omega) (by omega)
  · exact emod_k (k := 0) (by omega) (by omega) (by omega)
theorem fst_cases {d r : Int} (hd : 4 ≤ d) : fst d r = if r % d = 0 then 1 else if r % d = 1 then 0 else d + 1 - r % d := by
  have m := mod_bd r (d := d) (by omega)
  unfold fst
  split
  · exact emod_k (k := 2) (by omega) (by omega) (by omega)
  · split
    · exact emod_k (k := 2) (by omega) (by omega) (by omega)
    · exact emod_k (k := 1) (by omega) (by omega) (by omega)
theorem mod_next {d r : Int} (hd : 4 ≤ d) : (r + 1) % d = if r % d + 1 = d then 0 else r % d + 1 := by
  have m := mod_bd r (d := d) (by omega)
  have e := div_add r d
  split
  · exact emod_k (k := r / d + 1) (by rw [Int.mul_add]; omega) (by omega) (by omega)
  · exact emod_k (k := r / d) (by omega) (by omega) (by omega)
theorem fst_next {d r : Int} (hd : 4 ≤ d) : fst d (r + 1) = if fst d r = 0 then d - 1 else fst d r - 1 := by
  have m := mod_bd r (d := d) (by omega)
  rw [fst_cases hd, fst_cases hd, mod_next hd]
  repeat' split
  all_goals omega
theorem next_disk {d r i : Int} (hd : 4 ≤ d) (i0 : 0 ≤ i) (i1 : i < d) : (fst d (r + 1) + i) % d = ((fst d r + i) % d + d - 1) % d := by
  have f := fst_bd (d := d) (r := r) (by omega)
  have f' := fst_bd (d := d) (r := r + 1) (by omega)
  have e := fst_next (d := d) (r := r) hd
  have v := mod_bd (fst d r + i) (d := d) (by omega)
  have t := turn f.1 f.2 i0 i1
  rw [turn f'.1 f'.2 i0 i1]
  have w : ((fst d r + i) % d + d - 1) % d = if (fst d r + i) % d = 0 then d - 1 else (fst d r + i) % d - 1 := by
    split
    · exact emod_k (k := 0) (by omega) (by omega) (by omega)
    · exact emod_k (k := 1) (by omega) (by omega) (by omega)
  rw [w, t]
  clear w t v
  repeat' split
  all_goals (split at e <;> omega)
theorem disk_inj {d r i j : Int} (hd : 4 ≤ d) (i0 : 0 ≤ i) (i1 : i < d) (j0 : 0 ≤ j) (j1 : j < d) (h : (fst d r + i) % d = (fst d r + j) % d) : i = j := by
  have f := fst_bd (d := d) (r := r) (by omega)
  rw [turn f.1 f.2 i0 i1, turn f.1 f.2 j0 j1] at h
  split at h <;> split at h <;> omega
/-- what the list of seen disks holds behind i places -/
def Seen (d st : Int) (i : Nat) (l : List Bool) : Prop := l.length = 32 ∧ ∀ p : Nat, l.getD p false = true → ∃ j : Nat, j < i ∧ (p : Int) = (fst d st + j) % d
theorem seen_zero (d st : Int) : Seen d st 0 (List.replicate 32 false) := by
  refine ⟨by simp, fun p hp => ?_⟩
  rw [List.getD_eq_getElem?_getD, List.getElem?_replicate] at hp
  split at hp <;> simp at hp
theorem seen_next {d st : Int} {i : Nat} {l : List Bool} (h : Seen d st i l) (hd : 0 < d) : Seen d st (i + 1) (l.set ((fst d st + i) % d).toNat true) := by
  have v := mod_bd (fst d st + i) hd
  refine ⟨by simp [h.1], fun p hp => ?_⟩
  by_cases e : ((fst d st + i) % d).toNat = p
  · exact ⟨i, by omega, by omega⟩
  · rw [List.getD_eq_getElem?_getD, List.getElem?_set_ne e, ← List.getD_eq_getElem?_getD] at hp
    obtain ⟨j, hj, hp⟩ := h.2 p hp
    exact ⟨j, by omega, hp⟩
end Go.Proofs.Ytgedclbfednhlaa.Lay
