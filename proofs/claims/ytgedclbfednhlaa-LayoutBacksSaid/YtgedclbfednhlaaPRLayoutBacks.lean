/- Proved here: the plain law of LayoutBacks: what the printed functions of the law compute is true, for whatever numbers. No condition. -/
import Derived.Test.YtgedclbfednhlaaPLayoutBacksx9
set_option linter.unusedVariables false
set_option linter.unusedSimpArgs false
namespace Go.Proofs.Ytgedclbfednhlaa.PureLayoutBacks
open Go.RowKit Go.Proofs.Ytgedclbfednhlaa.PLayoutBacks Go.Proofs.YtgedclbfednhlaaW.PrintWords Go.Proofs.YtgedclbfednhlaaW.PrintLast

/-! ### numbers -/
theorem w64 {x : Int} (h : -9223372036854775808 ≤ x) (h' : x ≤ 9223372036854775807) : wrap64 x = x := by unfold wrap64; omega
theorem mul_bd {a b A B : Int} (a0 : 0 ≤ a) (a1 : a ≤ A) (b0 : 0 ≤ b) (b1 : b ≤ B) : 0 ≤ a * b ∧ a * b ≤ A * B :=
  ⟨Int.mul_nonneg a0 b0, Int.mul_le_mul a1 b1 b0 (Int.le_trans a0 a1)⟩
theorem emod_k {x d y k : Int} (h : x = d * k + y) (h0 : 0 ≤ y) (h1 : y < d) : x % d = y := by
  rw [h, Int.mul_add_emod_self_left, Int.emod_eq_of_lt h0 h1]
theorem ediv_k {x d y k : Int} (h : x = d * k + y) (h0 : 0 ≤ y) (h1 : y < d) : x / d = k := by
  rw [h, Int.mul_add_ediv_left _ _ (by omega), Int.ediv_eq_zero_of_lt h0 h1, Int.add_zero]
theorem tmod_e {x d : Int} (h : 0 ≤ x) : Int.tmod x d = x % d := Int.tmod_eq_emod_of_nonneg h
theorem tdiv_e {x d : Int} (h : 0 ≤ x) : Int.tdiv x d = x / d := Int.tdiv_eq_ediv_of_nonneg h
theorem div_add (x d : Int) : x = d * (x / d) + x % d := (Int.mul_ediv_add_emod x d).symm
theorem mod_bd (x : Int) {d : Int} (h : 0 < d) : 0 ≤ x % d ∧ x % d < d := ⟨Int.emod_nonneg _ (by omega), Int.emod_lt_of_pos _ h⟩
theorem div_bd {x d m : Int} (h : 0 < d) (hx : 0 ≤ x) (hm : x < d * m) : 0 ≤ x / d ∧ x / d < m :=
  ⟨Int.ediv_nonneg hx (by omega), Int.ediv_lt_of_lt_mul h (by rwa [Int.mul_comm] at hm)⟩

def Sound (d c s : Int) : Prop := (4 ≤ d ∧ d ≤ 32) ∧ (1 ≤ c ∧ c ≤ 8) ∧ (1 ≤ s ∧ s ≤ 64)
/-- the disk of data column 0 -/
def fst (d r : Int) : Int := (2 * d + 1 - r % d) % d
theorem fst_bd {d r : Int} (h : 0 < d) : 0 ≤ fst d r ∧ fst d r < d := mod_bd _ h
theorem turn {d f c : Int} (f0 : 0 ≤ f) (f1 : f < d) (c0 : 0 ≤ c) (c1 : c < d) : (f + c) % d = if f + c < d then f + c else f + c - d := by
  split
  · exact emod_k (k := 0) (by omega) (by omega) (by omega)
  · exact emod_k (k := 1) (by omega) (by omega) (by omega)
theorem back {d f p : Int} (f0 : 0 ≤ f) (f1 : f < d) (p0 : 0 ≤ p) (p1 : p < d) : (p - f + d) % d = if f ≤ p then p - f else p - f + d := by
  split
  · exact emod_k (k := 1) (by omega) (by omega) (by omega)
  · exact emod_k (k := 0) (by omega) (by omega) (by omega)
/-- a column's disk leads back to the column -/
theorem turn_back {d f c p : Int} (f0 : 0 ≤ f) (f1 : f < d) (c0 : 0 ≤ c) (c1 : c < d) (p0 : 0 ≤ p) (p1 : p < d) : (f + c) % d = p ↔ c = (p - f + d) % d := by
  rw [turn f0 f1 c0 c1, back f0 f1 p0 p1]
  split <;> split <;> omega
theorem row_at {c st off : Int} (c0 : 0 < c) (o0 : 0 ≤ off) (o1 : off < c) : (st * c + off) / c = st ∧ (st * c + off) % c = off :=
  ⟨ediv_k (k := st) (y := off) (by rw [Int.mul_comm]) o0 o1, emod_k (k := st) (by rw [Int.mul_comm]) o0 o1⟩
theorem lt_rows {c st off s : Int} (o1 : off < c) (c0 : 0 < c) (s1 : st < s) : st * c + off < c * s := by
  have h : c * (st + 1) ≤ c * s := Int.mul_le_mul_of_nonneg_left (by omega) (by omega)
  rw [Int.mul_add, Int.mul_comm c st] at h
  omega

/-! ### the program: Check, Capacity, first, Map -/
theorem check_yes {d c s : Int} (h : Sound d c s) : layout_Check.f d c s = some 0 := by
  obtain ⟨⟨h1, h2⟩, ⟨h3, h4⟩, ⟨h5, h6⟩⟩ := h
  unfold layout_Check.f
  rw [if_neg (by omega), if_neg (by omega), if_neg (by omega), if_neg (by omega), if_neg (by omega), if_neg (by omega)]
theorem check_no {d c s : Int} (h : ¬ Sound d c s) : layout_Check.f d c s = some 1 := by
  unfold layout_Check.f
  unfold Sound at h
  repeat' (split; rfl)
  exact absurd ⟨⟨by omega, by omega⟩, ⟨by omega, by omega⟩, ⟨by omega, by omega⟩⟩ h
/-- the bounds of the products -/
theorem sizes {d c s : Int} (h : Sound d c s) : (0 < (d - 2) * c ∧ (d - 2) * c ≤ 240) ∧ (0 < c * s ∧ c * s ≤ 512) ∧ (0 < (d - 2) * c * s ∧ (d - 2) * c * s ≤ 15360) := by
  obtain ⟨⟨h1, h2⟩, ⟨h3, h4⟩, ⟨h5, h6⟩⟩ := h
  have a := mul_bd (a := d - 2) (b := c) (A := 30) (B := 8) (by omega) (by omega) (by omega) (by omega)
  have a' : 0 < (d - 2) * c := Int.mul_pos (by omega) (by omega)
  have b := mul_bd (a := c) (b := s) (A := 8) (B := 64) (by omega) (by omega) (by omega) (by omega)
  have b' : 0 < c * s := Int.mul_pos (by omega) (by omega)
  have e := mul_bd (a := (d - 2) * c) (b := s) (A := 240) (B := 64) (by omega) (by omega) (by omega) (by omega)
  have e' : 0 < (d - 2) * c * s := Int.mul_pos a' (by omega)
  omega
theorem capacity_yes {d c s : Int} (h : Sound d c s) : layout_Capacity.f d c s = some ((d - 2) * c * s, 0) := by
  have z := sizes h
  have g := h
  obtain ⟨⟨h1, h2⟩, ⟨h3, h4⟩, ⟨h5, h6⟩⟩ := g
  unfold layout_Capacity.f
  rw [check_yes h]
  simp only [Option.bind_some, if_true]
  rw [w64 (x := d - 2) (by omega) (by omega), w64 (x := (d - 2) * c) (by omega) (by omega), w64 (x := (d - 2) * c * s) (by omega) (by omega)]
theorem capacity_no {d c s : Int} (h : ¬ Sound d c s) : layout_Capacity.f d c s = some (0, 1) := by
  unfold layout_Capacity.f
  rw [check_no h]
  rfl
theorem first_is {d c s r : Int} (h : Sound d c s) (hr : 0 ≤ r) (hr' : r ≤ 1000000) : layout_first.f d c s r = some (fst d r) := by
  obtain ⟨⟨h1, h2⟩, ⟨h3, h4⟩, ⟨h5, h6⟩⟩ := h
  have m := mod_bd r (d := d) (by omega)
  unfold layout_first.f fst
  rw [if_neg (by omega), tmod_e hr, w64 (x := 2 * d) (by omega) (by omega), w64 (x := 2 * d + 1) (by omega) (by omega), w64 (x := 2 * d + 1 - r % d) (by omega) (by omega), tmod_e (by omega)]
/-- a sector's place -/
def diskOf (d c l : Int) : Int := (fst d (l / ((d - 2) * c)) + l / c % (d - 2)) % d
def atOf (d c l : Int) : Int := l / ((d - 2) * c) * c + l % c
theorem place_bd {d c s l : Int} (h : Sound d c s) (h0 : 0 ≤ l) (h1 : l < (d - 2) * c * s) :
    (0 ≤ l / ((d - 2) * c) ∧ l / ((d - 2) * c) < s) ∧ (0 ≤ l / c % (d - 2) ∧ l / c % (d - 2) < d - 2) ∧ (0 ≤ l % c ∧ l % c < c) ∧ (0 ≤ diskOf d c l ∧ diskOf d c l < d) ∧ (0 ≤ atOf d c l ∧ atOf d c l < c * s) ∧ (0 ≤ l / c ∧ l / c ≤ l) := by
  have z := sizes h
  have g := h
  obtain ⟨⟨g1, g2⟩, ⟨g3, g4⟩, ⟨g5, g6⟩⟩ := g
  have a := div_bd (m := s) z.1.1 h0 h1
  have m := mod_bd l (d := c) (by omega)
  refine ⟨a, mod_bd _ (by omega), m, mod_bd _ (by omega), ⟨?_, ?_⟩, Int.ediv_nonneg h0 (by omega), Int.ediv_le_self _ h0⟩
  · unfold atOf
    have := Int.mul_nonneg a.1 (show 0 ≤ c by omega)
    omega
  · exact lt_rows m.2 (by omega) a.2
theorem map_yes {d c s l : Int} (h : Sound d c s) (h0 : 0 ≤ l) (h1 : l < (d - 2) * c * s) :
    layout_Map.f d c s l = some (l / ((d - 2) * c), l / c % (d - 2), l % c, diskOf d c l, atOf d c l, 0) := by
  have z := sizes h
  have b := place_bd h h0 h1
  have g := h
  obtain ⟨⟨g1, g2⟩, ⟨g3, g4⟩, ⟨g5, g6⟩⟩ := g
  have f := fst_bd (d := d) (r := l / ((d - 2) * c)) (by omega)
  have p := mul_bd (a := l / ((d - 2) * c)) (b := c) (A := 64) (B := 8) (by omega) (by omega) (by omega) (by omega)
  unfold layout_Map.f
  rw [capacity_yes h]
  simp only [Option.bind_some, if_true]
  rw [if_neg (by omega), if_neg (by omega), w64 (x := d - 2) (by omega) (by omega), w64 (x := (d - 2) * c) (by omega) (by omega), if_neg (by omega), if_neg (by omega), if_neg (by omega),
    tdiv_e h0, tdiv_e h0, tmod_e h0, w64 (x := l / ((d - 2) * c)) (by omega) (by omega), w64 (x := l / c) (by omega) (by omega), first_is h b.1.1 (by omega)]
  simp only [Option.bind_some]
  rw [if_neg (by omega), tmod_e b.2.2.2.2.2.1, w64 (x := fst d (l / ((d - 2) * c)) + l / c % (d - 2)) (by omega) (by omega), tmod_e (by omega), w64 (x := l / ((d - 2) * c) * c) (by omega) (by omega),
    w64 (x := l / ((d - 2) * c) * c + l % c) (by omega) (by omega)]
  rfl
theorem map_far {d c s l : Int} (h : Sound d c s) (h1 : ¬ (0 ≤ l ∧ l < (d - 2) * c * s)) : layout_Map.f d c s l = some (0, 0, 0, 0, 0, 2) := by
  unfold layout_Map.f
  rw [capacity_yes h]
  simp only [Option.bind_some, if_true]
  by_cases h2 : l < 0
  · rw [if_pos h2]
  · rw [if_neg h2, if_pos (by omega)]
theorem map_no {d c s l : Int} (h : ¬ Sound d c s) : layout_Map.f d c s l = some (0, 0, 0, 0, 0, 1) := by
  unfold layout_Map.f
  rw [capacity_no h]
  rfl
theorem awake_is : ravelinlaw03_awake.f = some true := by decide +kernel

/-! ### the reference: Check, Capacity, Column -/
theorem rcheck_yes {d c s : Int} (h : Sound d c s) : ravelinref03_Check.f d c s = some 0 := by
  obtain ⟨⟨h1, h2⟩, ⟨h3, h4⟩, ⟨h5, h6⟩⟩ := h
  unfold ravelinref03_Check.f
  rw [if_neg (by omega), if_neg (by omega), if_neg (by omega), if_neg (by omega), if_neg (by omega), if_neg (by omega)]
theorem rcheck_no {d c s : Int} (h : ¬ Sound d c s) : ravelinref03_Check.f d c s = some 1 := by
  unfold ravelinref03_Check.f
  unfold Sound at h
  repeat' (split; rfl)
  exact absurd ⟨⟨by omega, by omega⟩, ⟨by omega, by omega⟩, ⟨by omega, by omega⟩⟩ h
theorem column_aux {d t k : Int} (g1 : 4 ≤ d) (t0 : 0 ≤ t) (t1 : t < d) (k0 : 0 ≤ k) (k1 : k < d) :
    (if k = d - 2 then some (d - 1 - t) else if k = d - 1 then some ((d - 1 - t + 1) % d) else some (((d - 1 - t + 1) % d + 1 + k) % d)) = some (((2 * d + 1 - t) % d + k) % d) := by
  have fb := mod_bd (2 * d + 1 - t) (d := d) (by omega)
  rw [turn fb.1 fb.2 k0 k1]
  by_cases z : t = 0
  · subst z
    rw [emod_k (x := 2 * d + 1 - 0) (d := d) (k := 2) (y := 1) (by omega) (by omega) (by omega), emod_k (x := d - 1 - 0 + 1) (d := d) (k := 1) (y := 0) (by omega) (by omega) (by omega)]
    by_cases e1 : k = d - 2
    · rw [if_pos e1]; congr 1; split <;> omega
    · rw [if_neg e1]
      by_cases e2 : k = d - 1
      · rw [if_pos e2]; congr 1; split <;> omega
      · rw [if_neg e2, emod_k (x := 0 + 1 + k) (d := d) (k := 0) (y := 1 + k) (by omega) (by omega) (by omega)]
        congr 1; split <;> omega
  · rw [emod_k (x := d - 1 - t + 1) (d := d) (k := 0) (y := d - t) (by omega) (by omega) (by omega)]
    by_cases z1 : t = 1
    · rw [emod_k (x := 2 * d + 1 - t) (d := d) (k := 2) (y := 0) (by omega) (by omega) (by omega)]
      by_cases e1 : k = d - 2
      · rw [if_pos e1]; congr 1; split <;> omega
      · rw [if_neg e1]
        by_cases e2 : k = d - 1
        · rw [if_pos e2]; congr 1; split <;> omega
        · rw [if_neg e2, emod_k (x := d - t + 1 + k) (d := d) (k := 1) (y := k) (by omega) (by omega) (by omega)]
          congr 1; split <;> omega
    · rw [emod_k (x := 2 * d + 1 - t) (d := d) (k := 1) (y := d + 1 - t) (by omega) (by omega) (by omega)]
      by_cases e1 : k = d - 2
      · rw [if_pos e1]; congr 1; split <;> omega
      · rw [if_neg e1]
        by_cases e2 : k = d - 1
        · rw [if_pos e2]; congr 1; split <;> omega
        · rw [if_neg e2]
          by_cases z2 : d + 1 - t + k < d
          · rw [if_pos z2, emod_k (x := d - t + 1 + k) (d := d) (k := 0) (y := d + 1 - t + k) (by omega) (by omega) (by omega)]
          · rw [if_neg z2, emod_k (x := d - t + 1 + k) (d := d) (k := 1) (y := d + 1 - t + k - d) (by omega) (by omega) (by omega)]
theorem column_is {d c s r k : Int} (h : Sound d c s) (hr : 0 ≤ r) (k0 : 0 ≤ k) (k1 : k < d) : ravelinref03_Column.f d c s r k = some ((fst d r + k) % d) := by
  obtain ⟨⟨h1, h2⟩, ⟨h3, h4⟩, ⟨h5, h6⟩⟩ := h
  have m := mod_bd r (d := d) (by omega)
  have qb := mod_bd (d - 1 - r % d + 1) (d := d) (by omega)
  unfold ravelinref03_Column.f fst
  rw [if_neg (by omega), tmod_e hr, w64 (x := d - 2) (by omega) (by omega), w64 (x := d - 1) (by omega) (by omega), w64 (x := d - 1 - r % d) (by omega) (by omega), w64 (x := d - 1 - r % d + 1) (by omega) (by omega), tmod_e (x := d - 1 - r % d + 1) (by omega),
    w64 (x := (d - 1 - r % d + 1) % d + 1) (by omega) (by omega), w64 (x := (d - 1 - r % d + 1) % d + 1 + k) (by omega) (by omega), tmod_e (x := (d - 1 - r % d + 1) % d + 1 + k) (by omega)]
  exact column_aux h1 m.1 m.2 k0 k1
theorem size_yes {d c s : Int} (h : Sound d c s) : layout_Size.f d c s = some (c * s, 0) := by
  have z := sizes h
  unfold layout_Size.f
  rw [check_yes h]
  simp only [Option.bind_some, if_true]
  rw [w64 (x := c * s) (by omega) (by omega)]
theorem size_no {d c s : Int} (h : ¬ Sound d c s) : layout_Size.f d c s = some (0, 1) := by
  unfold layout_Size.f
  rw [check_no h]
  rfl
/-- the column that a disk has in the row of a place -/
def colOf (d c p a : Int) : Int := (p - fst d (a / c) + d) % d
def In (d c s p a : Int) : Prop := (0 ≤ p ∧ p < d) ∧ (0 ≤ a ∧ a < c * s)
theorem col_bd {d c s p a : Int} (h : Sound d c s) : 0 ≤ colOf d c p a ∧ colOf d c p a < d := mod_bd _ (by have := h.1.1; omega)
theorem at_bd {d c s a : Int} (h : Sound d c s) (h0 : 0 ≤ a) (h1 : a < c * s) : (0 ≤ a / c ∧ a / c < s) ∧ (0 ≤ a % c ∧ a % c < c) := by
  obtain ⟨⟨g1, g2⟩, ⟨g3, g4⟩, ⟨g5, g6⟩⟩ := h
  exact ⟨div_bd (by omega) h0 h1, mod_bd _ (by omega)⟩
/-- the sector behind a place that is no parity -/
def lbaOf (d c p a : Int) : Int := (a / c * (d - 2) + colOf d c p a) * c + a % c
def backOf (d c p a : Int) : Int × Int × Int := if colOf d c p a ≥ d - 2 then (-1, colOf d c p a, 0) else (lbaOf d c p a, colOf d c p a, 0)
theorem lba_bd {d c s p a : Int} (h : Sound d c s) (hi : In d c s p a) (hc : ¬ colOf d c p a ≥ d - 2) :
    (0 ≤ a / c * (d - 2) + colOf d c p a ∧ a / c * (d - 2) + colOf d c p a ≤ 1920) ∧ (0 ≤ lbaOf d c p a ∧ lbaOf d c p a < (d - 2) * c * s) := by
  have cb := col_bd (p := p) (a := a) h
  have ab := at_bd h hi.2.1 hi.2.2
  have g := h
  obtain ⟨⟨g1, g2⟩, ⟨g3, g4⟩, ⟨g5, g6⟩⟩ := g
  have m := mul_bd (a := a / c) (b := d - 2) (A := 63) (B := 30) (by omega) (by omega) (by omega) (by omega)
  have x1 := lt_rows (c := d - 2) (st := a / c) (off := colOf d c p a) (s := s) (by omega) (by omega) ab.1.2
  have x2 := lt_rows (c := c) (st := a / c * (d - 2) + colOf d c p a) (off := a % c) (s := (d - 2) * s) ab.2.2 (by omega) x1
  have e : c * ((d - 2) * s) = (d - 2) * c * s := by rw [← Int.mul_assoc, Int.mul_comm c]
  have y := Int.mul_nonneg (show 0 ≤ a / c * (d - 2) + colOf d c p a by omega) (show 0 ≤ c by omega)
  unfold lbaOf
  rw [← e]
  omega
theorem back_yes {d c s p a : Int} (h : Sound d c s) (hi : In d c s p a) (k : Nat) : layout_Back.f (k + 1) d c s p a = some (backOf d c p a) := by
  have z := sizes h
  have ab := at_bd h hi.2.1 hi.2.2
  have cb := col_bd (p := p) (a := a) h
  have lb := lba_bd h hi
  have g := h
  obtain ⟨⟨g1, g2⟩, ⟨g3, g4⟩, ⟨g5, g6⟩⟩ := g
  obtain ⟨⟨p0, p1⟩, ⟨a0, a1⟩⟩ := hi
  have f := fst_bd (d := d) (r := a / c) (by omega)
  have m := mul_bd (a := a / c) (b := d - 2) (A := 63) (B := 30) (by omega) (by omega) (by omega) (by omega)
  unfold layout_Back.f
  rw [size_yes h]
  simp only [Option.bind_some, if_true]
  rw [if_neg (by omega), if_neg (by omega), if_neg (by omega)]
  have e : decide (a ≥ c * s) = false := by simp; omega
  rw [e]
  simp only [layout_Back.j0]
  rw [if_neg (by decide), if_neg (by omega), tdiv_e a0, tmod_e a0, w64 (x := a / c) (by omega) (by omega), first_is h ab.1.1 (by omega)]
  simp only [Option.bind_some]
  rw [if_neg (by omega), w64 (x := p - fst d (a / c)) (by omega) (by omega), w64 (x := p - fst d (a / c) + d) (by omega) (by omega), tmod_e (x := p - fst d (a / c) + d) (by omega), w64 (x := d - 2) (by omega) (by omega),
    w64 (x := a / c * (d - 2)) (by omega) (by omega)]
  show (if colOf d c p a ≥ d - 2 then some (-1, colOf d c p a, 0) else some (wrap64 ((wrap64 ((wrap64 (a / c * (d - 2) + colOf d c p a)) * c)) + a % c), colOf d c p a, 0)) = _
  unfold backOf
  by_cases hc : colOf d c p a ≥ d - 2
  · rw [if_pos hc, if_pos hc]
  · have lb := lb hc
    have e2 : lbaOf d c p a = (a / c * (d - 2) + colOf d c p a) * c + a % c := rfl
    have y := Int.mul_nonneg lb.1.1 (show 0 ≤ c by omega)
    rw [if_neg hc, if_neg hc, w64 (x := a / c * (d - 2) + colOf d c p a) (by omega) (by omega), w64 (x := (a / c * (d - 2) + colOf d c p a) * c) (by omega) (by omega), w64 (x := (a / c * (d - 2) + colOf d c p a) * c + a % c) (by omega) (by omega)]
    rfl
theorem back_far {d c s p a : Int} (h : Sound d c s) (hi : ¬ In d c s p a) (k : Nat) : layout_Back.f (k + 1) d c s p a = some (0, 0, 2) := by
  unfold In at hi
  unfold layout_Back.f
  rw [size_yes h]
  simp only [Option.bind_some, if_true]
  by_cases h1 : p < 0
  · rw [if_pos h1]; simp [layout_Back.j0]
  · rw [if_neg h1]
    by_cases h2 : p ≥ d
    · rw [if_pos h2]; simp [layout_Back.j0]
    · rw [if_neg h2]
      by_cases h3 : a < 0
      · rw [if_pos h3]; simp [layout_Back.j0]
      · rw [if_neg h3]
        have e : decide (a ≥ c * s) = true := by simp; omega
        rw [e]
        simp [layout_Back.j0]
theorem back_no {d c s p a : Int} (h : ¬ Sound d c s) (k : Nat) : layout_Back.f k d c s p a = some (0, 0, 1) := by
  unfold layout_Back.f
  rw [size_no h]
  rfl
/-! ### Row -/
def cellAt (d c st off i : Int) : S27 := ⟨(fst d st + i) % d, st * c + off⟩
def cellsTo (d c st off : Int) (n : Nat) : List S27 := (List.range n).map fun (i : Nat) => cellAt d c st off (i : Int)
theorem cells_len (d c st off : Int) (n : Nat) : (cellsTo d c st off n).length = n := by simp [cellsTo]
theorem cells_succ (d c st off : Int) (n : Nat) : cellsTo d c st off (n + 1) = cellsTo d c st off n ++ [cellAt d c st off n] := by simp [cellsTo, List.range_succ]
def InRow (c s st off : Int) : Prop := (0 ≤ st ∧ st < s) ∧ (0 ≤ off ∧ off < c)
theorem row_loop {d c s st off : Int} (h : Sound d c s) (hr : InRow c s st off) (n : Nat) : ∀ (k i : Nat), (i : Int) + n = d → n < k →
    layout_Row.l0 k st off (cellsTo d c st off i) d i d c s = some (cellsTo d c st off d.toNat, 0) := by
  have g := h
  obtain ⟨⟨g1, g2⟩, ⟨g3, g4⟩, ⟨g5, g6⟩⟩ := g
  obtain ⟨⟨r0, r1⟩, ⟨o0, o1⟩⟩ := hr
  have f := fst_bd (d := d) (r := st) (by omega)
  have m := mul_bd (a := st) (b := c) (A := 63) (B := 8) (by omega) (by omega) (by omega) (by omega)
  induction n with
  | zero =>
    intro k i hd hk
    obtain ⟨k, rfl⟩ : ∃ m, k = m + 1 := ⟨k - 1, by omega⟩
    simp only [layout_Row.l0]
    rw [if_neg (by omega), show d.toNat = i from by omega]
  | succ n ih =>
    intro k i hd hk
    obtain ⟨k, rfl⟩ : ∃ m, k = m + 1 := ⟨k - 1, by omega⟩
    simp only [layout_Row.l0]
    rw [if_pos (by omega), first_is h r0 (by omega)]
    simp only [Option.bind_some]
    rw [if_neg (by omega), cells_len, if_pos (by omega), w64 (x := fst d st + i) (by omega) (by omega), tmod_e (by omega), w64 (x := st * c) (by omega) (by omega), w64 (x := st * c + off) (by omega) (by omega), w64 (x := (i : Int) + 1) (by omega) (by omega)]
    have := ih k (i + 1) (by omega) (by omega)
    rw [cells_succ] at this
    simpa [cellAt] using this
theorem row_yes {d c s st off : Int} (h : Sound d c s) (hr : InRow c s st off) (k : Nat) (hk : 34 ≤ k) : layout_Row.f k d c s st off = some (cellsTo d c st off d.toNat, 0) := by
  have l := fun k hk => row_loop h hr d.toNat k 0 (by have := h.1.1; omega) hk
  have g := h
  obtain ⟨⟨g1, g2⟩, ⟨g3, g4⟩, ⟨g5, g6⟩⟩ := g
  obtain ⟨⟨r0, r1⟩, ⟨o0, o1⟩⟩ := hr
  obtain ⟨k, rfl⟩ : ∃ m, k = m + 1 := ⟨k - 1, by omega⟩
  unfold layout_Row.f
  rw [check_yes h]
  simp only [Option.bind_some, if_true]
  rw [if_neg (by omega), if_neg (by omega), if_neg (by omega)]
  have e : decide (off ≥ c) = false := by simp; omega
  rw [e]
  simp only [layout_Row.j0]
  rw [if_neg (by decide)]
  exact l k (by omega)
theorem row_far {d c s st off : Int} (h : Sound d c s) (hr : ¬ InRow c s st off) (k : Nat) : layout_Row.f (k + 1) d c s st off = some ([], 2) := by
  unfold InRow at hr
  unfold layout_Row.f
  rw [check_yes h]
  simp only [Option.bind_some, if_true]
  by_cases h1 : st < 0
  · rw [if_pos h1]; simp [layout_Row.j0]
  · rw [if_neg h1]
    by_cases h2 : st ≥ s
    · rw [if_pos h2]; simp [layout_Row.j0]
    · rw [if_neg h2]
      by_cases h3 : off < 0
      · rw [if_pos h3]; simp [layout_Row.j0]
      · rw [if_neg h3]
        have e : decide (off ≥ c) = true := by simp; omega
        rw [e]
        simp [layout_Row.j0]
theorem row_no {d c s st off : Int} (h : ¬ Sound d c s) (k : Nat) : layout_Row.f k d c s st off = some ([], 1) := by
  unfold layout_Row.f
  rw [check_no h]
  rfl
/-! ### the reference's Back and Row -/
theorem rsize_yes {d c s : Int} (h : Sound d c s) : ravelinref03_Size.f d c s = some (c * s, 0) := by
  have z := sizes h
  unfold ravelinref03_Size.f
  rw [rcheck_yes h]
  simp only [Option.bind_some, if_true]
  rw [w64 (x := c * s) (by omega) (by omega)]
theorem rsize_no {d c s : Int} (h : ¬ Sound d c s) : ravelinref03_Size.f d c s = some (0, 1) := by
  unfold ravelinref03_Size.f
  rw [rcheck_no h]
  rfl
theorem rback_loop {d c s p a : Int} (h : Sound d c s) (hi : In d c s p a) (n : Nat) : ∀ (k : Nat) (i : Int), 0 ≤ i → i ≤ colOf d c p a → colOf d c p a - i = n → n < k →
    ravelinref03_Back.l0 k (a / c) (a % c) i d c s p a = some (backOf d c p a) := by
  have ab := at_bd h hi.2.1 hi.2.2
  have cb := col_bd (p := p) (a := a) h
  have lb := lba_bd h hi
  have g := h
  obtain ⟨⟨g1, g2⟩, ⟨g3, g4⟩, ⟨g5, g6⟩⟩ := g
  obtain ⟨⟨p0, p1⟩, ⟨a0, a1⟩⟩ := hi
  have f := fst_bd (d := d) (r := a / c) (by omega)
  have m := mul_bd (a := a / c) (b := d - 2) (A := 63) (B := 30) (by omega) (by omega) (by omega) (by omega)
  have m2 := mul_bd (a := a / c * (d - 2)) (b := c) (A := 1890) (B := 8) (by omega) (by omega) (by omega) (by omega)
  induction n with
  | zero =>
    intro k i h0 hc hd hk
    obtain ⟨k, rfl⟩ : ∃ m, k = m + 1 := ⟨k - 1, by omega⟩
    obtain rfl : i = colOf d c p a := by omega
    have m3 := mul_bd (a := colOf d c p a) (b := c) (A := 32) (B := 8) (by omega) (by omega) (by omega) (by omega)
    have t := (turn_back f.1 f.2 cb.1 cb.2 p0 p1).2 rfl
    simp only [ravelinref03_Back.l0]
    rw [if_pos (by omega), column_is h ab.1.1 cb.1 cb.2]
    simp only [Option.bind_some]
    rw [if_pos t, w64 (x := d - 2) (by omega) (by omega), w64 (x := a / c * (d - 2)) (by omega) (by omega), w64 (x := a / c * (d - 2) * c) (by omega) (by omega), w64 (x := colOf d c p a * c) (by omega) (by omega),
      w64 (x := a / c * (d - 2) * c + colOf d c p a * c) (by omega) (by omega), w64 (x := a / c * (d - 2) * c + colOf d c p a * c + a % c) (by omega) (by omega)]
    unfold backOf lbaOf
    split
    · rfl
    · rw [Int.add_mul]
  | succ n ih =>
    intro k i h0 hc hd hk
    obtain ⟨k, rfl⟩ : ∃ m, k = m + 1 := ⟨k - 1, by omega⟩
    have t := turn_back f.1 f.2 h0 (show i < d by omega) p0 p1
    simp only [ravelinref03_Back.l0]
    rw [if_pos (by omega), column_is h ab.1.1 h0 (by omega)]
    simp only [Option.bind_some]
    rw [if_neg (fun e => by have := t.1 e; unfold colOf at hd; omega), w64 (x := i + 1) (by omega) (by omega)]
    exact ih k (i + 1) (by omega) (by omega) (by omega) (by omega)
theorem rback_yes {d c s p a : Int} (h : Sound d c s) (hi : In d c s p a) (k : Nat) (hk : 34 ≤ k) : ravelinref03_Back.f k d c s p a = some (backOf d c p a) := by
  have cb := col_bd (p := p) (a := a) h
  have l := fun k hk => rback_loop h hi (colOf d c p a).toNat k 0 (by omega) (by omega) (by omega) hk
  have ab := at_bd h hi.2.1 hi.2.2
  have g := h
  obtain ⟨⟨g1, g2⟩, ⟨g3, g4⟩, ⟨g5, g6⟩⟩ := g
  obtain ⟨⟨p0, p1⟩, ⟨a0, a1⟩⟩ := hi
  obtain ⟨k, rfl⟩ : ∃ m, k = m + 1 := ⟨k - 1, by omega⟩
  unfold ravelinref03_Back.f
  rw [rsize_yes h]
  simp only [Option.bind_some, if_true]
  rw [if_neg (by omega), if_neg (by omega), if_neg (by omega)]
  have e : decide (a ≥ c * s) = false := by simp; omega
  rw [e]
  simp only [ravelinref03_Back.j0]
  rw [if_neg (by decide), if_neg (by omega), tdiv_e a0, tmod_e a0, w64 (x := a / c) (by omega) (by omega)]
  exact l k (by omega)
theorem rback_far {d c s p a : Int} (h : Sound d c s) (hi : ¬ In d c s p a) (k : Nat) : ravelinref03_Back.f (k + 1) d c s p a = some (0, 0, 2) := by
  unfold In at hi
  unfold ravelinref03_Back.f
  rw [rsize_yes h]
  simp only [Option.bind_some, if_true]
  by_cases h1 : p < 0
  · rw [if_pos h1]; simp [ravelinref03_Back.j0]
  · rw [if_neg h1]
    by_cases h2 : p ≥ d
    · rw [if_pos h2]; simp [ravelinref03_Back.j0]
    · rw [if_neg h2]
      by_cases h3 : a < 0
      · rw [if_pos h3]; simp [ravelinref03_Back.j0]
      · rw [if_neg h3]
        have e : decide (a ≥ c * s) = true := by simp; omega
        rw [e]
        simp [ravelinref03_Back.j0]
theorem rback_no {d c s p a : Int} (h : ¬ Sound d c s) (k : Nat) : ravelinref03_Back.f k d c s p a = some (0, 0, 1) := by
  unfold ravelinref03_Back.f
  rw [rsize_no h]
  rfl
theorem rrow_loop {d c s st off : Int} (h : Sound d c s) (hr : InRow c s st off) (n : Nat) : ∀ (k i : Nat), (i : Int) + n = d → n < k →
    ravelinref03_Row.l0 k st off (cellsTo d c st off i) i d c s = some (cellsTo d c st off d.toNat, 0) := by
  have g := h
  obtain ⟨⟨g1, g2⟩, ⟨g3, g4⟩, ⟨g5, g6⟩⟩ := g
  obtain ⟨⟨r0, r1⟩, ⟨o0, o1⟩⟩ := hr
  have f := fst_bd (d := d) (r := st) (by omega)
  have m := mul_bd (a := st) (b := c) (A := 63) (B := 8) (by omega) (by omega) (by omega) (by omega)
  induction n with
  | zero =>
    intro k i hd hk
    obtain ⟨k, rfl⟩ : ∃ m, k = m + 1 := ⟨k - 1, by omega⟩
    simp only [ravelinref03_Row.l0]
    rw [if_neg (by omega), show d.toNat = i from by omega]
  | succ n ih =>
    intro k i hd hk
    obtain ⟨k, rfl⟩ : ∃ m, k = m + 1 := ⟨k - 1, by omega⟩
    simp only [ravelinref03_Row.l0]
    rw [if_pos (by omega), column_is h r0 (by omega) (by omega)]
    simp only [Option.bind_some]
    rw [cells_len, if_pos (by omega), w64 (x := st * c) (by omega) (by omega), w64 (x := st * c + off) (by omega) (by omega), w64 (x := (i : Int) + 1) (by omega) (by omega)]
    have := ih k (i + 1) (by omega) (by omega)
    rw [cells_succ] at this
    simpa [cellAt] using this
theorem rrow_yes {d c s st off : Int} (h : Sound d c s) (hr : InRow c s st off) (k : Nat) (hk : 34 ≤ k) : ravelinref03_Row.f k d c s st off = some (cellsTo d c st off d.toNat, 0) := by
  have l := fun k hk => rrow_loop h hr d.toNat k 0 (by have := h.1.1; omega) hk
  have g := h
  obtain ⟨⟨g1, g2⟩, ⟨g3, g4⟩, ⟨g5, g6⟩⟩ := g
  obtain ⟨⟨r0, r1⟩, ⟨o0, o1⟩⟩ := hr
  obtain ⟨k, rfl⟩ : ∃ m, k = m + 1 := ⟨k - 1, by omega⟩
  unfold ravelinref03_Row.f
  rw [rcheck_yes h]
  simp only [Option.bind_some, if_true]
  rw [if_neg (by omega), if_neg (by omega), if_neg (by omega)]
  have e : decide (off ≥ c) = false := by simp; omega
  rw [e]
  simp only [ravelinref03_Row.j0]
  rw [if_neg (by decide)]
  exact l k (by omega)
theorem rrow_far {d c s st off : Int} (h : Sound d c s) (hr : ¬ InRow c s st off) (k : Nat) : ravelinref03_Row.f (k + 1) d c s st off = some ([], 2) := by
  unfold InRow at hr
  unfold ravelinref03_Row.f
  rw [rcheck_yes h]
  simp only [Option.bind_some, if_true]
  by_cases h1 : st < 0
  · rw [if_pos h1]; simp [ravelinref03_Row.j0]
  · rw [if_neg h1]
    by_cases h2 : st ≥ s
    · rw [if_pos h2]; simp [ravelinref03_Row.j0]
    · rw [if_neg h2]
      by_cases h3 : off < 0
      · rw [if_pos h3]; simp [ravelinref03_Row.j0]
      · rw [if_neg h3]
        have e : decide (off ≥ c) = true := by simp; omega
        rw [e]
        simp [ravelinref03_Row.j0]
theorem rrow_no {d c s st off : Int} (h : ¬ Sound d c s) (k : Nat) : ravelinref03_Row.f k d c s st off = some ([], 1) := by
  unfold ravelinref03_Row.f
  rw [rcheck_no h]
  rfl

theorem same_loop (xs : List S27) (hx : xs.length ≤ 100) (n : Nat) : ∀ (k i : Nat), i + n = xs.length → n < k → ravelinlaw03_LayoutBacks.l0 k xs xs i = some true := by
  induction n with
  | zero =>
    intro k i hd hk
    obtain ⟨k, rfl⟩ : ∃ m, k = m + 1 := ⟨k - 1, by omega⟩
    simp only [ravelinlaw03_LayoutBacks.l0]
    rw [if_neg (by omega)]
  | succ n ih =>
    intro k i hd hk
    obtain ⟨k, rfl⟩ : ∃ m, k = m + 1 := ⟨k - 1, by omega⟩
    simp only [ravelinlaw03_LayoutBacks.l0]
    rw [if_pos (by omega), if_pos (by omega), if_pos (by omega), if_neg (by simp), w64 (x := (i : Int) + 1) (by omega) (by omega)]
    exact ih k (i + 1) (by omega) (by omega)
theorem same_j (xs : List S27) (hx : xs.length ≤ 98) : ravelinlaw03_LayoutBacks.j0 100 xs xs ((xs.length : Int) != (xs.length : Int)) = some true := by
  have e : ((xs.length : Int) != (xs.length : Int)) = false := by simp
  rw [e]
  simp only [ravelinlaw03_LayoutBacks.j0]
  rw [if_neg (by decide)]
  exact same_loop xs (by omega) xs.length 99 0 (by omega) (by omega)

theorem backs {d c s p a : Int} : ∃ x y z, layout_Back.f 100 d c s p a = some (x, y, z) ∧ ravelinref03_Back.f 100 d c s p a = some (x, y, z) := by
  by_cases h : Sound d c s
  · by_cases hi : In d c s p a
    · exact ⟨(backOf d c p a).1, (backOf d c p a).2.1, (backOf d c p a).2.2, back_yes h hi 99, rback_yes h hi 100 (by decide)⟩
    · exact ⟨0, 0, 2, back_far h hi 99, rback_far h hi 99⟩
  · exact ⟨0, 0, 1, back_no h 100, rback_no h 100⟩
theorem rows {d c s st off : Int} : ∃ xs z, xs.length ≤ 98 ∧ layout_Row.f 100 d c s st off = some (xs, z) ∧ ravelinref03_Row.f 100 d c s st off = some (xs, z) := by
  by_cases h : Sound d c s
  · by_cases hi : InRow c s st off
    · exact ⟨_, 0, by rw [cells_len]; have := h.1; omega, row_yes h hi 100 (by decide), rrow_yes h hi 100 (by decide)⟩
    · exact ⟨_, 2, by simp, row_far h hi 99, rrow_far h hi 99⟩
  · exact ⟨_, 1, by simp, row_no h 100, rrow_no h 100⟩

theorem law (d c s p a st off : Int) : ∃ k, ravelinlaw03_LayoutBacks.f k d c s p a st off = some true := by
  refine ⟨100, ?_⟩
  obtain ⟨x, y, z, e1, e2⟩ := backs (d := d) (c := c) (s := s) (p := p) (a := a)
  obtain ⟨xs, u, hx, e3, e4⟩ := rows (d := d) (c := c) (s := s) (st := st) (off := off)
  unfold ravelinlaw03_LayoutBacks.f
  rw [e1, e2, e3, e4, awake_is]
  simp only [Option.bind_some, if_true]
  exact same_j xs hx

end Go.Proofs.Ytgedclbfednhlaa.PureLayoutBacks
