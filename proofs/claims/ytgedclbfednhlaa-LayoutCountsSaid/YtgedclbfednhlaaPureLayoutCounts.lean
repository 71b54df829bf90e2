/- Proved here: the plain law of LayoutCounts: what the printed functions of the law compute is true, for whatever three bytes. No condition. -/
import Derived.Test.YtgedclbfednhlaaPLayoutCountsx5
set_option linter.unusedVariables false
set_option linter.unusedSimpArgs false
namespace Go.Proofs.Ytgedclbfednhlaa.Pure
open Go.RowKit Go.Proofs.Ytgedclbfednhlaa.PLayoutCounts Go.Proofs.YtgedclbfednhlaaW.PrintWords Go.Proofs.YtgedclbfednhlaaW.PrintLast

/-! ### numbers -/
theorem w64 {x : Int} (h : -9223372036854775808 ≤ x) (h' : x ≤ 9223372036854775807) : wrap64 x = x := by unfold wrap64; omega
theorem mul_bd {a b A B : Int} (a0 : 0 ≤ a) (a1 : a ≤ A) (b0 : 0 ≤ b) (b1 : b ≤ B) : 0 ≤ a * b ∧ a * b ≤ A * B :=
  ⟨Int.mul_nonneg a0 b0, Int.mul_le_mul a1 b1 b0 (Int.le_trans a0 a1)⟩
theorem emod_k {x d y k : Int} (h : x = d * k + y) (h0 : 0 ≤ y) (h1 : y < d) : x % d = y := by
  rw [h, Int.mul_add_emod_self_left, Int.emod_eq_of_lt h0 h1]
theorem ediv_k {x d y k : Int} (h : x = d * k + y) (h0 : 0 ≤ y) (h1 : y < d) : x / d = k := by
  rw [h, Int.mul_add_ediv_left _ _ (by omega), Int.ediv_eq_zero_of_lt h0 h1, Int.add_zero]
theorem tmod_e {x d : Int} (h : 0 ≤ x) : Int.tmod x d = x % d := Int.tmod_eq_emod_of_nonneg h
theorem tdiv_e {x d : Int} (h : 0 ≤ x) : Int.tdiv x d = x / d := Int.tdiv_eq_ediv_of_nonneg h
theorem div_add (x d : Int) : x = d * (x / d) + x % d := (Int.mul_ediv_add_emod x d).symm
theorem mod_bd (x : Int) {d : Int} (h : 0 < d) : 0 ≤ x % d ∧ x % d < d := ⟨Int.emod_nonneg _ (by omega), Int.emod_lt_of_pos _ h⟩
theorem div_bd {x d m : Int} (h : 0 < d) (hx : 0 ≤ x) (hm : x < d * m) : 0 ≤ x / d ∧ x / d < m :=
  ⟨Int.ediv_nonneg hx (by omega), Int.ediv_lt_of_lt_mul h (by rwa [Int.mul_comm] at hm)⟩

def Sound (d c s : Int) : Prop := (4 ≤ d ∧ d ≤ 32) ∧ (1 ≤ c ∧ c ≤ 8) ∧ (1 ≤ s ∧ s ≤ 64)
/-- the disk of data column 0 -/
def fst (d r : Int) : Int := (2 * d + 1 - r % d) % d
theorem fst_bd {d r : Int} (h : 0 < d) : 0 ≤ fst d r ∧ fst d r < d := mod_bd _ h
theorem turn {d f c : Int} (f0 : 0 ≤ f) (f1 : f < d) (c0 : 0 ≤ c) (c1 : c < d) : (f + c) % d = if f + c < d then f + c else f + c - d := by
  split
  · exact emod_k (k := 0) (by omega) (by omega) (by omega)
  · exact emod_k (k := 1) (by omega) (by omega) (by omega)
theorem back {d f p : Int} (f0 : 0 ≤ f) (f1 : f < d) (p0 : 0 ≤ p) (p1 : p < d) : (p - f + d) % d = if f ≤ p then p - f else p - f + d := by
  split
  · exact emod_k (k := 1) (by omega) (by omega) (by omega)
  · exact emod_k (k := 0) (by omega) (by omega) (by omega)
/-- a column's disk leads back to the column -/
theorem turn_back {d f c p : Int} (f0 : 0 ≤ f) (f1 : f < d) (c0 : 0 ≤ c) (c1 : c < d) (p0 : 0 ≤ p) (p1 : p < d) : (f + c) % d = p ↔ c = (p - f + d) % d := by
  rw [turn f0 f1 c0 c1, back f0 f1 p0 p1]
  split <;> split <;> omega
theorem row_at {c st off : Int} (c0 : 0 < c) (o0 : 0 ≤ off) (o1 : off < c) : (st * c + off) / c = st ∧ (st * c + off) % c = off :=
  ⟨ediv_k (k := st) (y := off) (by rw [Int.mul_comm]) o0 o1, emod_k (k := st) (by rw [Int.mul_comm]) o0 o1⟩
theorem lt_rows {c st off s : Int} (o1 : off < c) (c0 : 0 < c) (s1 : st < s) : st * c + off < c * s := by
  have h : c * (st + 1) ≤ c * s := Int.mul_le_mul_of_nonneg_left (by omega) (by omega)
  rw [Int.mul_add, Int.mul_comm c st] at h
  omega

/-! ### the program: Check, Capacity, first, Map -/
theorem check_yes {d c s : Int} (h : Sound d c s) : layout_Check.f d c s = some 0 := by
  obtain ⟨⟨h1, h2⟩, ⟨h3, h4⟩, ⟨h5, h6⟩⟩ := h
  unfold layout_Check.f
  rw [if_neg (by omega), if_neg (by omega), if_neg (by omega), if_neg (by omega), if_neg (by omega), if_neg (by omega)]
theorem check_no {d c s : Int} (h : ¬ Sound d c s) : layout_Check.f d c s = some 1 := by
  unfold layout_Check.f
  unfold Sound at h
  repeat' (split; rfl)
  exact absurd ⟨⟨by omega, by omega⟩, ⟨by omega, by omega⟩, ⟨by omega, by omega⟩⟩ h
/-- the bounds of the products -/
theorem sizes {d c s : Int} (h : Sound d c s) : (0 < (d - 2) * c ∧ (d - 2) * c ≤ 240) ∧ (0 < c * s ∧ c * s ≤ 512) ∧ (0 < (d - 2) * c * s ∧ (d - 2) * c * s ≤ 15360) := by
  obtain ⟨⟨h1, h2⟩, ⟨h3, h4⟩, ⟨h5, h6⟩⟩ := h
  have a := mul_bd (a := d - 2) (b := c) (A := 30) (B := 8) (by omega) (by omega) (by omega) (by omega)
  have a' : 0 < (d - 2) * c := Int.mul_pos (by omega) (by omega)
  have b := mul_bd (a := c) (b := s) (A := 8) (B := 64) (by omega) (by omega) (by omega) (by omega)
  have b' : 0 < c * s := Int.mul_pos (by omega) (by omega)
  have e := mul_bd (a := (d - 2) * c) (b := s) (A := 240) (B := 64) (by omega) (by omega) (by omega) (by omega)
  have e' : 0 < (d - 2) * c * s := Int.mul_pos a' (by omega)
  omega
theorem capacity_yes {d c s : Int} (h : Sound d c s) : layout_Capacity.f d c s = some ((d - 2) * c * s, 0) := by
  have z := sizes h
  have g := h
  obtain ⟨⟨h1, h2⟩, ⟨h3, h4⟩, ⟨h5, h6⟩⟩ := g
  unfold layout_Capacity.f
  rw [check_yes h]
  simp only [Option.bind_some, if_true]
  rw [w64 (x := d - 2) (by omega) (by omega), w64 (x := (d - 2) * c) (by omega) (by omega), w64 (x := (d - 2) * c * s) (by omega) (by omega)]
theorem capacity_no {d c s : Int} (h : ¬ Sound d c s) : layout_Capacity.f d c s = some (0, 1) := by
  unfold layout_Capacity.f
  rw [check_no h]
  rfl
theorem first_is {d c s r : Int} (h : Sound d c s) (hr : 0 ≤ r) (hr' : r ≤ 1000000) : layout_first.f d c s r = some (fst d r) := by
  obtain ⟨⟨h1, h2⟩, ⟨h3, h4⟩, ⟨h5, h6⟩⟩ := h
  have m := mod_bd r (d := d) (by omega)
  unfold layout_first.f fst
  rw [if_neg (by omega), tmod_e hr, w64 (x := 2 * d) (by omega) (by omega), w64 (x := 2 * d + 1) (by omega) (by omega), w64 (x := 2 * d + 1 - r % d) (by omega) (by omega), tmod_e (by omega)]
/-- a sector's place -/
def diskOf (d c l : Int) : Int := (fst d (l / ((d - 2) * c)) + l / c % (d - 2)) % d
def atOf (d c l : Int) : Int := l / ((d - 2) * c) * c + l % c
theorem place_bd {d c s l : Int} (h : Sound d c s) (h0 : 0 ≤ l) (h1 : l < (d - 2) * c * s) :
    (0 ≤ l / ((d - 2) * c) ∧ l / ((d - 2) * c) < s) ∧ (0 ≤ l / c % (d - 2) ∧ l / c % (d - 2) < d - 2) ∧ (0 ≤ l % c ∧ l % c < c) ∧ (0 ≤ diskOf d c l ∧ diskOf d c l < d) ∧ (0 ≤ atOf d c l ∧ atOf d c l < c * s) ∧ (0 ≤ l / c ∧ l / c ≤ l) := by
  have z := sizes h
  have g := h
  obtain ⟨⟨g1, g2⟩, ⟨g3, g4⟩, ⟨g5, g6⟩⟩ := g
  have a := div_bd (m := s) z.1.1 h0 h1
  have m := mod_bd l (d := c) (by omega)
  refine ⟨a, mod_bd _ (by omega), m, mod_bd _ (by omega), ⟨?_, ?_⟩, Int.ediv_nonneg h0 (by omega), Int.ediv_le_self _ h0⟩
  · unfold atOf
    have := Int.mul_nonneg a.1 (show 0 ≤ c by omega)
    omega
  · exact lt_rows m.2 (by omega) a.2
theorem map_yes {d c s l : Int} (h : Sound d c s) (h0 : 0 ≤ l) (h1 : l < (d - 2) * c * s) :
    layout_Map.f d c s l = some (l / ((d - 2) * c), l / c % (d - 2), l % c, diskOf d c l, atOf d c l, 0) := by
  have z := sizes h
  have b := place_bd h h0 h1
  have g := h
  obtain ⟨⟨g1, g2⟩, ⟨g3, g4⟩, ⟨g5, g6⟩⟩ := g
  have f := fst_bd (d := d) (r := l / ((d - 2) * c)) (by omega)
  have p := mul_bd (a := l / ((d - 2) * c)) (b := c) (A := 64) (B := 8) (by omega) (by omega) (by omega) (by omega)
  unfold layout_Map.f
  rw [capacity_yes h]
  simp only [Option.bind_some, if_true]
  rw [if_neg (by omega), if_neg (by omega), w64 (x := d - 2) (by omega) (by omega), w64 (x := (d - 2) * c) (by omega) (by omega), if_neg (by omega), if_neg (by omega), if_neg (by omega),
    tdiv_e h0, tdiv_e h0, tmod_e h0, w64 (x := l / ((d - 2) * c)) (by omega) (by omega), w64 (x := l / c) (by omega) (by omega), first_is h b.1.1 (by omega)]
  simp only [Option.bind_some]
  rw [if_neg (by omega), tmod_e b.2.2.2.2.2.1, w64 (x := fst d (l / ((d - 2) * c)) + l / c % (d - 2)) (by omega) (by omega), tmod_e (by omega), w64 (x := l / ((d - 2) * c) * c) (by omega) (by omega),
    w64 (x := l / ((d - 2) * c) * c + l % c) (by omega) (by omega)]
  rfl
theorem map_far {d c s l : Int} (h : Sound d c s) (h1 : ¬ (0 ≤ l ∧ l < (d - 2) * c * s)) : layout_Map.f d c s l = some (0, 0, 0, 0, 0, 2) := by
  unfold layout_Map.f
  rw [capacity_yes h]
  simp only [Option.bind_some, if_true]
  by_cases h2 : l < 0
  · rw [if_pos h2]
  · rw [if_neg h2, if_pos (by omega)]
theorem map_no {d c s l : Int} (h : ¬ Sound d c s) : layout_Map.f d c s l = some (0, 0, 0, 0, 0, 1) := by
  unfold layout_Map.f
  rw [capacity_no h]
  rfl
theorem awake_is : ravelinlaw03_awake.f = some true := by decide +kernel
theorem size_yes {d c s : Int} (h : Sound d c s) : layout_Size.f d c s = some (c * s, 0) := by
  have z := sizes h
  unfold layout_Size.f
  rw [check_yes h]
  simp only [Option.bind_some, if_true]
  rw [w64 (x := c * s) (by omega) (by omega)]
theorem size_no {d c s : Int} (h : ¬ Sound d c s) : layout_Size.f d c s = some (0, 1) := by
  unfold layout_Size.f
  rw [check_no h]
  rfl
/-- the column that a disk has in the row of a place -/
def colOf (d c p a : Int) : Int := (p - fst d (a / c) + d) % d
def In (d c s p a : Int) : Prop := (0 ≤ p ∧ p < d) ∧ (0 ≤ a ∧ a < c * s)
theorem col_bd {d c s p a : Int} (h : Sound d c s) : 0 ≤ colOf d c p a ∧ colOf d c p a < d := mod_bd _ (by have := h.1.1; omega)
theorem at_bd {d c s a : Int} (h : Sound d c s) (h0 : 0 ≤ a) (h1 : a < c * s) : (0 ≤ a / c ∧ a / c < s) ∧ (0 ≤ a % c ∧ a % c < c) := by
  obtain ⟨⟨g1, g2⟩, ⟨g3, g4⟩, ⟨g5, g6⟩⟩ := h
  exact ⟨div_bd (by omega) h0 h1, mod_bd _ (by omega)⟩
/-- the sector behind a place that is no parity -/
def lbaOf (d c p a : Int) : Int := (a / c * (d - 2) + colOf d c p a) * c + a % c
def backOf (d c p a : Int) : Int × Int × Int := if colOf d c p a ≥ d - 2 then (-1, colOf d c p a, 0) else (lbaOf d c p a, colOf d c p a, 0)
theorem lba_bd {d c s p a : Int} (h : Sound d c s) (hi : In d c s p a) (hc : ¬ colOf d c p a ≥ d - 2) :
    (0 ≤ a / c * (d - 2) + colOf d c p a ∧ a / c * (d - 2) + colOf d c p a ≤ 1920) ∧ (0 ≤ lbaOf d c p a ∧ lbaOf d c p a < (d - 2) * c * s) := by
  have cb := col_bd (p := p) (a := a) h
  have ab := at_bd h hi.2.1 hi.2.2
  have g := h
  obtain ⟨⟨g1, g2⟩, ⟨g3, g4⟩, ⟨g5, g6⟩⟩ := g
  have m := mul_bd (a := a / c) (b := d - 2) (A := 63) (B := 30) (by omega) (by omega) (by omega) (by omega)
  have x1 := lt_rows (c := d - 2) (st := a / c) (off := colOf d c p a) (s := s) (by omega) (by omega) ab.1.2
  have x2 := lt_rows (c := c) (st := a / c * (d - 2) + colOf d c p a) (off := a % c) (s := (d - 2) * s) ab.2.2 (by omega) x1
  have e : c * ((d - 2) * s) = (d - 2) * c * s := by rw [← Int.mul_assoc, Int.mul_comm c]
  have y := Int.mul_nonneg (show 0 ≤ a / c * (d - 2) + colOf d c p a by omega) (show 0 ≤ c by omega)
  unfold lbaOf
  rw [← e]
  omega
theorem back_yes {d c s p a : Int} (h : Sound d c s) (hi : In d c s p a) (k : Nat) : layout_Back.f (k + 1) d c s p a = some (backOf d c p a) := by
  have z := sizes h
  have ab := at_bd h hi.2.1 hi.2.2
  have cb := col_bd (p := p) (a := a) h
  have lb := lba_bd h hi
  have g := h
  obtain ⟨⟨g1, g2⟩, ⟨g3, g4⟩, ⟨g5, g6⟩⟩ := g
  obtain ⟨⟨p0, p1⟩, ⟨a0, a1⟩⟩ := hi
  have f := fst_bd (d := d) (r := a / c) (by omega)
  have m := mul_bd (a := a / c) (b := d - 2) (A := 63) (B := 30) (by omega) (by omega) (by omega) (by omega)
  unfold layout_Back.f
  rw [size_yes h]
  simp only [Option.bind_some, if_true]
  rw [if_neg (by omega), if_neg (by omega), if_neg (by omega)]
  have e : decide (a ≥ c * s) = false := by simp; omega
  rw [e]
  simp only [layout_Back.j0]
  rw [if_neg (by decide), if_neg (by omega), tdiv_e a0, tmod_e a0, w64 (x := a / c) (by omega) (by omega), first_is h ab.1.1 (by omega)]
  simp only [Option.bind_some]
  rw [if_neg (by omega), w64 (x := p - fst d (a / c)) (by omega) (by omega), w64 (x := p - fst d (a / c) + d) (by omega) (by omega), tmod_e (x := p - fst d (a / c) + d) (by omega), w64 (x := d - 2) (by omega) (by omega),
    w64 (x := a / c * (d - 2)) (by omega) (by omega)]
  show (if colOf d c p a ≥ d - 2 then some (-1, colOf d c p a, 0) else some (wrap64 ((wrap64 ((wrap64 (a / c * (d - 2) + colOf d c p a)) * c)) + a % c), colOf d c p a, 0)) = _
  unfold backOf
  by_cases hc : colOf d c p a ≥ d - 2
  · rw [if_pos hc, if_pos hc]
  · have lb := lb hc
    have e2 : lbaOf d c p a = (a / c * (d - 2) + colOf d c p a) * c + a % c := rfl
    have y := Int.mul_nonneg lb.1.1 (show 0 ≤ c by omega)
    rw [if_neg hc, if_neg hc, w64 (x := a / c * (d - 2) + colOf d c p a) (by omega) (by omega), w64 (x := (a / c * (d - 2) + colOf d c p a) * c) (by omega) (by omega), w64 (x := (a / c * (d - 2) + colOf d c p a) * c + a % c) (by omega) (by omega)]
    rfl
theorem back_far {d c s p a : Int} (h : Sound d c s) (hi : ¬ In d c s p a) (k : Nat) : layout_Back.f (k + 1) d c s p a = some (0, 0, 2) := by
  unfold In at hi
  unfold layout_Back.f
  rw [size_yes h]
  simp only [Option.bind_some, if_true]
  by_cases h1 : p < 0
  · rw [if_pos h1]; simp [layout_Back.j0]
  · rw [if_neg h1]
    by_cases h2 : p ≥ d
    · rw [if_pos h2]; simp [layout_Back.j0]
    · rw [if_neg h2]
      by_cases h3 : a < 0
      · rw [if_pos h3]; simp [layout_Back.j0]
      · rw [if_neg h3]
        have e : decide (a ≥ c * s) = true := by simp; omega
        rw [e]
        simp [layout_Back.j0]
theorem back_no {d c s p a : Int} (h : ¬ Sound d c s) (k : Nat) : layout_Back.f k d c s p a = some (0, 0, 1) := by
  unfold layout_Back.f
  rw [size_no h]
  rfl
/-! ### there and back -/
theorem both_there {d c s l : Int} (h : Sound d c s) (h0 : 0 ≤ l) (h1 : l < (d - 2) * c * s) :
    In d c s (diskOf d c l) (atOf d c l) ∧ atOf d c l / c = l / ((d - 2) * c) ∧ atOf d c l % c = l % c ∧ colOf d c (diskOf d c l) (atOf d c l) = l / c % (d - 2) ∧ lbaOf d c (diskOf d c l) (atOf d c l) = l := by
  have b := place_bd h h0 h1
  have g := h
  obtain ⟨⟨g1, g2⟩, ⟨g3, g4⟩, ⟨g5, g6⟩⟩ := g
  have c0 : 0 < c := by omega
  have r := row_at (st := l / ((d - 2) * c)) c0 b.2.2.1.1 b.2.2.1.2
  have f := fst_bd (d := d) (r := l / ((d - 2) * c)) (by omega)
  have e1 : atOf d c l / c = l / ((d - 2) * c) := r.1
  have e2 : atOf d c l % c = l % c := r.2
  have e3 : colOf d c (diskOf d c l) (atOf d c l) = l / c % (d - 2) := by
    have t := (turn_back f.1 f.2 b.2.1.1 (by omega) b.2.2.2.1.1 b.2.2.2.1.2).1 rfl
    unfold colOf
    rw [e1]
    exact t.symm
  refine ⟨⟨b.2.2.2.1, b.2.2.2.2.1⟩, e1, e2, e3, ?_⟩
  unfold lbaOf
  rw [e1, e2, e3]
  have q1 := div_add l c
  have q2 := div_add (l / c) (d - 2)
  have q3 : l / ((d - 2) * c) = l / c / (d - 2) := by rw [Int.mul_comm, Int.ediv_ediv_of_nonneg (by omega)]
  rw [q3, Int.mul_comm (l / c / (d - 2)) (d - 2), ← q2, Int.mul_comm, ← q1]
theorem both_back {d c s p a : Int} (h : Sound d c s) (hi : In d c s p a) (hc : ¬ colOf d c p a ≥ d - 2) :
    lbaOf d c p a / c % (d - 2) = colOf d c p a ∧ lbaOf d c p a / ((d - 2) * c) = a / c ∧ lbaOf d c p a % c = a % c ∧ diskOf d c (lbaOf d c p a) = p ∧ atOf d c (lbaOf d c p a) = a := by
  have cb := col_bd (p := p) (a := a) h
  have ab := at_bd h hi.2.1 hi.2.2
  have g := h
  obtain ⟨⟨g1, g2⟩, ⟨g3, g4⟩, ⟨g5, g6⟩⟩ := g
  have c0 : 0 < c := by omega
  have r := row_at (st := a / c * (d - 2) + colOf d c p a) c0 ab.2.1 ab.2.2
  have e1 : lbaOf d c p a / c = a / c * (d - 2) + colOf d c p a := r.1
  have e2 : lbaOf d c p a % c = a % c := r.2
  have r2 := row_at (c := d - 2) (st := a / c) (off := colOf d c p a) (by omega) cb.1 (by omega)
  have e3 : lbaOf d c p a / ((d - 2) * c) = a / c := by rw [Int.mul_comm, ← Int.ediv_ediv_of_nonneg (by omega), e1, r2.1]
  have e4 : lbaOf d c p a / c % (d - 2) = colOf d c p a := by rw [e1, r2.2]
  have f := fst_bd (d := d) (r := a / c) (by omega)
  refine ⟨e4, e3, e2, ?_, ?_⟩
  · unfold diskOf
    rw [e3, e4]
    exact (turn_back f.1 f.2 cb.1 cb.2 hi.1.1 hi.1.2).2 rfl
  · unfold atOf
    rw [e3, e2, Int.mul_comm, ← div_add]
/-! ### counted -/
theorem count_set (xs : List Bool) : ∀ (i : Nat), xs[i]? = some false → (xs.set i true).count true = xs.count true + 1 := by
  induction xs with
  | nil => intro i h; simp at h
  | cons x xs ih =>
    intro i h
    cases i with
    | zero => simp at h; subst h; simp
    | succ i => simp at h; simp only [List.set_cons_succ, List.count_cons, ih i h]; omega
structure Inv (d c s : Int) (seen : List Bool) (par dd a : Int) : Prop where
  len : (seen.length : Int) = (d - 2) * c * s
  sum : par + (seen.count true : Int) = dd * (c * s) + a
  par : 0 ≤ par
  is : ∀ l : Int, 0 ≤ l → l < (d - 2) * c * s → (seen[l.toNat]? = some true ↔ (diskOf d c l < dd ∨ (diskOf d c l = dd ∧ atOf d c l < a)))
theorem back_of {d c s : Int} (h : Sound d c s) {l : Int} (h0 : 0 ≤ l) (h1 : l < (d - 2) * c * s) {p a : Int} (e1 : diskOf d c l = p) (e2 : atOf d c l = a) : ¬ colOf d c p a ≥ d - 2 ∧ lbaOf d c p a = l := by
  have t := both_there h h0 h1
  have b := place_bd h h0 h1
  rw [← e1, ← e2, t.2.2.2.1, t.2.2.2.2]
  exact ⟨by omega, rfl⟩
theorem inv_parity {d c s : Int} (h : Sound d c s) {seen : List Bool} {par dd a : Int} (hi : In d c s dd a) (hc : colOf d c dd a ≥ d - 2) (I : Inv d c s seen par dd a) : Inv d c s seen (par + 1) dd (a + 1) := by
  refine ⟨I.len, by have := I.sum; omega, by have := I.par; omega, fun l h0 h1 => ?_⟩
  rw [I.is l h0 h1]
  have b := fun e1 e2 => back_of h h0 h1 (p := dd) (a := a) e1 e2
  constructor
  · intro x; omega
  · rintro (x | ⟨x, y⟩)
    · exact .inl x
    · by_cases e : atOf d c l = a
      · exact absurd hc (b x e).1
      · exact .inr ⟨x, by omega⟩
theorem inv_sector {d c s : Int} (h : Sound d c s) {seen : List Bool} {par dd a : Int} (hi : In d c s dd a) (hc : ¬ colOf d c dd a ≥ d - 2) (I : Inv d c s seen par dd a) :
    seen[(lbaOf d c dd a).toNat]? = some false ∧ Inv d c s (seen.set (lbaOf d c dd a).toNat true) par dd (a + 1) := by
  have lb := (lba_bd h hi hc).2
  have bb := both_back h hi hc
  have hf : seen[(lbaOf d c dd a).toNat]? = some false := by
    have n1 := I.is _ lb.1 lb.2
    rw [bb.2.2.2.1, bb.2.2.2.2] at n1
    have hl := I.len
    obtain ⟨v, hv⟩ : ∃ v, seen[(lbaOf d c dd a).toNat]? = some v := ⟨seen[(lbaOf d c dd a).toNat]'(by omega), List.getElem?_eq_getElem (by omega)⟩
    cases v with
    | false => exact hv
    | true => rcases n1.1 hv with x | x <;> omega
  refine ⟨hf, by simpa using I.len, ?_, I.par, fun l h0 h1 => ?_⟩
  · rw [count_set _ _ hf]
    have := I.sum
    omega
  · by_cases e : l = lbaOf d c dd a
    · subst e
      have hlt : (lbaOf d c dd a).toNat < seen.length := (List.getElem?_eq_some_iff.1 hf).1
      rw [List.getElem?_set_self hlt, bb.2.2.2.1, bb.2.2.2.2]
      simp
      omega
    · rw [List.getElem?_set_ne (by omega), I.is l h0 h1]
      constructor
      · intro x; omega
      · rintro (x | ⟨x, y⟩)
        · exact .inl x
        · by_cases e2 : atOf d c l = a
          · exact absurd (back_of h h0 h1 x e2).2.symm e
          · exact .inr ⟨x, by omega⟩
theorem inv_end {d c s : Int} (h : Sound d c s) {seen : List Bool} {par : Int} (I : Inv d c s seen par d 0) : par = 2 * (c * s) ∧ (d - 2) * c * s + par = d * (c * s) := by
  have all : ∀ b ∈ seen, true = b := by
    intro b hb
    obtain ⟨i, hi⟩ := List.getElem?_of_mem hb
    have hlt : i < seen.length := (List.getElem?_eq_some_iff.1 hi).1
    have hl := I.len
    have p := place_bd h (l := (i : Int)) (by omega) (by omega)
    have := (I.is i (by omega) (by omega)).2 (.inl p.2.2.2.1.2)
    rw [Int.toNat_natCast, hi] at this
    exact (Option.some.inj this).symm
  have hc := List.count_eq_length.2 all
  have h1 := I.sum
  have h2 := I.len
  rw [hc] at h1
  have e : (d - 2) * c * s = d * (c * s) - 2 * (c * s) := by rw [Int.mul_assoc, Int.sub_mul]
  omega
theorem rows_end {d c s : Int} {seen : List Bool} {par dd : Int} (I : Inv d c s seen par dd (c * s)) (h : Sound d c s) : Inv d c s seen par (dd + 1) 0 := by
  refine ⟨I.len, ?_, I.par, fun l h0 h1 => ?_⟩
  · have := I.sum
    rw [Int.add_mul, Int.one_mul]
    omega
  · rw [I.is l h0 h1]
    have p := place_bd h h0 h1
    constructor
    · intro x; omega
    · intro x; omega
theorem loop {d c s : Int} (h : Sound d c s) (m : Nat) : ∀ (k : Nat) (dd a : Int) (seen : List Bool) (par : Int), Inv d c s seen par dd a → 0 ≤ dd → dd < d → 0 ≤ a → a ≤ c * s → 2 * ((d - dd) * (c * s) - a) + 2 * (d - dd) ≤ m → m < k →
    ravelinlaw03_LayoutCounts.l1 k ((d - 2) * c * s) (c * s) seen par dd a d c s = some true := by
  have z := sizes h
  have g := h
  obtain ⟨⟨g1, g2⟩, ⟨g3, g4⟩, ⟨g5, g6⟩⟩ := g
  induction m using Nat.strongRecOn with
  | _ m ih =>
  intro k dd a seen par I d0 d1 a0 a1 hm hk
  have pb : (d - dd) * (c * s) = d * (c * s) - dd * (c * s) := by rw [Int.sub_mul]
  have sm := mul_bd (a := d - dd) (b := c * s) (A := 32) (B := 512) (by omega) (by omega) (by omega) (by omega)
  have dm := mul_bd (a := dd) (b := c * s) (A := 32) (B := 512) (by omega) (by omega) (by omega) (by omega)
  have hpar := I.par
  have hsum := I.sum
  have e1 : (d - dd) * (c * s) = (d - (dd + 1)) * (c * s) + c * s := by rw [show d - (dd + 1) = d - dd - 1 from by omega, Int.sub_mul (d - dd) 1, Int.one_mul]; omega
  have nn := Int.mul_nonneg (show 0 ≤ d - (dd + 1) by omega) (show 0 ≤ c * s by omega)
  obtain ⟨k, rfl⟩ : ∃ m, k = m + 2 := ⟨k - 2, by omega⟩
  by_cases ha : a < c * s
  · have hi : In d c s dd a := ⟨⟨d0, d1⟩, ⟨a0, ha⟩⟩
    rw [show k + 2 = (k + 1) + 1 from rfl, ravelinlaw03_LayoutCounts.l1]
    rw [if_pos ha, back_yes h hi k]
    simp only [Option.bind_some]
    unfold backOf
    by_cases hc : colOf d c dd a ≥ d - 2
    · rw [if_pos hc]
      simp only [if_true]
      rw [if_neg (by omega), if_neg (by decide)]
      simp only [ravelinlaw03_LayoutCounts.j3]
      rw [if_neg (by decide), if_neg (by decide), w64 (x := par + 1) (by omega) (by omega), w64 (x := a + 1) (by omega) (by omega)]
      exact ih (m - 2) (by omega) k dd (a + 1) seen (par + 1) (inv_parity h hi hc I) d0 d1 (by omega) (by omega) (by omega) (by omega)
    · have lb := (lba_bd h hi hc).2
      have hl := I.len
      obtain ⟨hf, I'⟩ := inv_sector h hi hc I
      rw [if_neg hc]
      simp only [if_true]
      rw [if_neg (by omega), if_pos (by omega), if_pos (by omega), if_pos (by omega)]
      have er : rdOf false seen (lbaOf d c dd a) = false := by
        unfold rdOf
        simp [hf]
      rw [er]
      simp only [ravelinlaw03_LayoutCounts.j3]
      rw [if_neg (by decide), if_pos (by omega), if_pos (by omega), if_pos (by omega), w64 (x := a + 1) (by omega) (by omega)]
      exact ih (m - 2) (by omega) k dd (a + 1) _ par I' d0 d1 (by omega) (by omega) (by omega) (by omega)
  · obtain rfl : a = c * s := by omega
    have I' := rows_end I h
    rw [show k + 2 = (k + 1) + 1 from rfl, ravelinlaw03_LayoutCounts.l1]
    rw [if_neg (by omega), w64 (x := dd + 1) (by omega) (by omega), ravelinlaw03_LayoutCounts.l0]
    by_cases hd : dd + 1 < d
    · rw [if_pos hd]
      exact ih (m - 2) (by omega) k (dd + 1) 0 seen par I' (by omega) hd (by omega) (by omega) (by omega) (by omega)
    · rw [if_neg hd]
      obtain rfl : d = dd + 1 := by omega
      have e := inv_end h I'
      rw [w64 (x := 2 * (c * s)) (by omega) (by omega), if_pos e.1, e.2]
      simp
theorem LayoutCounts : ravelinlaw03_LayoutCounts.Pure := by
  intro a0 a1 a2 w0 w1 w2
  have b : ∀ {x : Int}, (Lit.int .u8 x).wf = true → 0 ≤ x ∧ x < 256 := by
    intro x h
    simp only [Lit.wf, IntKind.min, IntKind.max, IntKind.signed, IntKind.bits, Bool.and_eq_true, decide_eq_true_eq] at h
    simp at h
    omega
  have b0 := b w0
  have b1 := b w1
  have b2 := b w2
  have ed : wrap64 ((wrap64 (Int.tmod a0 9)) + 4) = a0 % 9 + 4 := by rw [tmod_e b0.1, w64 (x := a0 % 9) (by omega) (by omega), w64 (by omega) (by omega)]
  have ec : wrap64 ((wrap64 (Int.tmod a1 4)) + 1) = a1 % 4 + 1 := by rw [tmod_e b1.1, w64 (x := a1 % 4) (by omega) (by omega), w64 (by omega) (by omega)]
  have es : wrap64 ((wrap64 (Int.tmod a2 9)) + 1) = a2 % 9 + 1 := by rw [tmod_e b2.1, w64 (x := a2 % 9) (by omega) (by omega), w64 (by omega) (by omega)]
  unfold ravelinlaw03_LayoutCounts.f
  rw [ed, ec, es]
  obtain ⟨d, hd⟩ : ∃ d, d = a0 % 9 + 4 := ⟨_, rfl⟩
  obtain ⟨c, hc⟩ : ∃ c, c = a1 % 4 + 1 := ⟨_, rfl⟩
  obtain ⟨s, hs⟩ : ∃ s, s = a2 % 9 + 1 := ⟨_, rfl⟩
  rw [← hd, ← hc, ← hs]
  have h : Sound d c s := ⟨by omega, by omega, by omega⟩
  have z := sizes h
  have x1 := mul_bd (a := d - 2) (b := c) (A := 10) (B := 4) (by omega) (by omega) (by omega) (by omega)
  have x2 := mul_bd (a := (d - 2) * c) (b := s) (A := 40) (B := 9) (by omega) (by omega) (by omega) (by omega)
  have x3 := mul_bd (a := d) (b := c * s) (A := 32) (B := 512) (by omega) (by omega) (by omega) (by omega)
  refine ⟨40003, ?_⟩
  rw [capacity_yes h, size_yes h, awake_is]
  simp only [Option.bind_some, if_true]
  rw [if_neg (by omega)]
  have e : decide ((d - 2) * c * s > 1000) = false := by simp; omega
  rw [e, show (40003 : Nat) = 40002 + 1 from rfl, ravelinlaw03_LayoutCounts.j0]
  rw [if_neg (by decide), if_pos (by omega), if_pos (by omega), show (40002 : Nat) = 40001 + 1 from rfl, ravelinlaw03_LayoutCounts.l0, if_pos (by omega)]
  refine loop h 40000 40001 0 0 _ 0 ⟨by simp; omega, ?_, by omega, fun l h0 h1 => ?_⟩ (by omega) (by omega) (by omega) (by omega) ?_ (by omega)
  · simp [List.count_replicate]
  · have p := place_bd h h0 h1
    rw [List.getElem?_replicate]
    split
    · constructor
      · intro x; cases x
      · intro x; omega
    · constructor
      · intro x; cases x
      · intro x; omega
  · rw [show d - 0 = d from by omega]
    omega

end Go.Proofs.Ytgedclbfednhlaa.Pure
