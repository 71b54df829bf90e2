/-
  What writes leave, in plain words. Helper text; no statement is proved here.
-/
import Derived.Test.YtnjcepjhllgccaaDiskT
set_option linter.unusedVariables false
set_option linter.unusedSimpArgs false
namespace Go.Proofs.Ytnjcepjhllgccaa.Disk
open Go.RowKit Go.Proofs.Ytnjcepjhllgccaa.Base Go.Proofs.Ytnjcepjhllgccaa.Laws Go.Proofs.Ytnjcepjhllgccaa.Flat
/-- cells laid over sectors -/
def over (i : Nat) : List Cel → List Sec → List Sec
  | [], s => s
  | c :: cs, s => over (i + 1) cs (s.set i ⟨c, true⟩)
theorem over_len (l : List Cel) : ∀ (i : Nat) (s : List Sec), (over i l s).length = s.length := by
  induction l with
  | nil => intro i s; rfl
  | cons c l ih => intro i s; rw [over, ih, List.length_set]
theorem over_out (l : List Cel) : ∀ (i j : Nat) (s : List Sec), j < i ∨ i + l.length ≤ j → (over i l s)[j]? = s[j]? := by
  induction l with
  | nil => intro i j s _; rfl
  | cons c l ih =>
    intro i j s h
    simp only [List.length_cons] at h
    rw [over, ih _ _ _ (by omega), List.getElem?_set_ne (by omega)]
theorem over_in (l : List Cel) : ∀ (i k : Nat) (s : List Sec) (c : Cel), i + l.length ≤ s.length → l[k]? = some c → (over i l s)[i + k]? = some ⟨c, true⟩ := by
  induction l with
  | nil => intro i k s c _ h; simp at h
  | cons d l ih =>
    intro i k s c hs h
    simp only [List.length_cons] at hs
    rw [over]
    cases k with
    | zero =>
      simp at h
      subst h
      rw [over_out _ _ _ _ (.inl (by omega)), Nat.add_zero, List.getElem?_set_self (show i < s.length by omega)]
    | succ k =>
      have := ih (i + 1) k (s.set i ⟨d, true⟩) c (by rw [List.length_set]; omega) (by simpa using h)
      rw [show i + (k + 1) = i + 1 + k from by omega]
      exact this
theorem wrs_free (cs : List Cel) : ∀ (i T : Nat) (s : List Sec), wrs i cs ⟨false, 0, T⟩ s = (cs.length, ⟨false, 0, T + cs.length⟩, over i cs s) := by
  induction cs with
  | nil => intro i T s; rfl
  | cons c cs ih =>
    intro i T s
    rw [wrs_cons_yes (show (Pow.step ⟨false, 0, T⟩).1 = true from rfl), show (Pow.step ⟨false, 0, T⟩).2 = ⟨false, 0, T + 1⟩ from rfl, ih]
    simp only [List.length_cons, over]
    rw [Nat.add_right_comm T 1, Nat.add_assoc T]
theorem wrs_all (cs : List Cel) : ∀ (i L T : Nat) (s : List Sec), cs.length < L → wrs i cs ⟨false, L, T⟩ s = (cs.length, ⟨false, L - cs.length, T + cs.length⟩, over i cs s) := by
  induction cs with
  | nil => intro i L T s _; rfl
  | cons c cs ih =>
    intro i L T s h
    simp only [List.length_cons] at h
    have e : Pow.step ⟨false, L, T⟩ = (true, ⟨false, L - 1, T + 1⟩) := by simp [Pow.step, show L ≠ 0 by omega, show L ≠ 1 by omega]
    rw [wrs_cons_yes (by rw [e]), e, ih _ _ _ _ (by omega)]
    simp only [List.length_cons, over]
    rw [Nat.add_right_comm T 1, Nat.add_assoc T, show L - 1 - cs.length = L - (cs.length + 1) from by omega]
theorem wrs_cut (cs : List Cel) : ∀ (i L T : Nat) (s : List Sec), L < cs.length → wrs i cs ⟨false, L + 1, T⟩ s = (L, ⟨true, 0, T + L⟩, over i (cs.take L) s) := by
  induction cs with
  | nil => intro i L T s h; simp at h
  | cons c cs ih =>
    intro i L T s h
    simp only [List.length_cons] at h
    cases L with
    | zero =>
      rw [wrs_cons_no (show (Pow.step ⟨false, 1, T⟩).1 = false from rfl)]
      rfl
    | succ L =>
      have e : Pow.step ⟨false, L + 1 + 1, T⟩ = (true, ⟨false, L + 1, T + 1⟩) := by simp [Pow.step]
      rw [wrs_cons_yes (by rw [e]), e, ih _ _ _ _ (by omega)]
      simp only [List.take_succ_cons, over]
      rw [Nat.add_right_comm T 1, Nat.add_assoc T]
theorem read_sec {D : Dsk} {T i : Nat} {l : Nat} {c : Cel} (hd : D.dead = false) (h : D.secs[i]? = some ⟨c, true⟩) : D.read ⟨false, l, T⟩ i = (c, 0) := by
  unfold Dsk.read
  rw [List.getD_eq_getElem?_getD, h, hd]
  rfl
theorem read_bad {D : Dsk} {T i : Nat} {l : Nat} {c : Cel} (hd : D.dead = false) (h : D.secs[i]? = some ⟨c, false⟩) : D.read ⟨false, l, T⟩ i = (Cel.zero, 7) := by
  unfold Dsk.read
  rw [List.getD_eq_getElem?_getD, h, hd]
  rfl
end Go.Proofs.Ytnjcepjhllgccaa.Disk
