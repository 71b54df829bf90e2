/- Proved here: the plain law of LayoutForms: what the printed functions of the law compute is true, for whatever numbers. No condition. -/
import Derived.Test.YtgedclbfednhlaaPLayoutFormsx5
set_option linter.unusedVariables false
set_option linter.unusedSimpArgs false
namespace Go.Proofs.Ytgedclbfednhlaa.PureLayoutForms
open Go.RowKit Go.Proofs.Ytgedclbfednhlaa.PLayoutForms Go.Proofs.YtgedclbfednhlaaW.PrintWords Go.Proofs.YtgedclbfednhlaaW.PrintLast

/-! ### numbers -/
theorem w64 {x : Int} (h : -9223372036854775808 ≤ x) (h' : x ≤ 9223372036854775807) : wrap64 x = x := by unfold wrap64; omega
theorem mul_bd {a b A B : Int} (a0 : 0 ≤ a) (a1 : a ≤ A) (b0 : 0 ≤ b) (b1 : b ≤ B) : 0 ≤ a * b ∧ a * b ≤ A * B :=
  ⟨Int.mul_nonneg a0 b0, Int.mul_le_mul a1 b1 b0 (Int.le_trans a0 a1)⟩
theorem emod_k {x d y k : Int} (h : x = d * k + y) (h0 : 0 ≤ y) (h1 : y < d) : x % d = y := by
  rw [h, Int.mul_add_emod_self_left, Int.emod_eq_of_lt h0 h1]
theorem ediv_k {x d y k : Int} (h : x = d * k + y) (h0 : 0 ≤ y) (h1 : y < d) : x / d = k := by
  rw [h, Int.mul_add_ediv_left _ _ (by omega), Int.ediv_eq_zero_of_lt h0 h1, Int.add_zero]
theorem tmod_e {x d : Int} (h : 0 ≤ x) : Int.tmod x d = x % d := Int.tmod_eq_emod_of_nonneg h
theorem tdiv_e {x d : Int} (h : 0 ≤ x) : Int.tdiv x d = x / d := Int.tdiv_eq_ediv_of_nonneg h
theorem div_add (x d : Int) : x = d * (x / d) + x % d := (Int.mul_ediv_add_emod x d).symm
theorem mod_bd (x : Int) {d : Int} (h : 0 < d) : 0 ≤ x % d ∧ x % d < d := ⟨Int.emod_nonneg _ (by omega), Int.emod_lt_of_pos _ h⟩
theorem div_bd {x d m : Int} (h : 0 < d) (hx : 0 ≤ x) (hm : x < d * m) : 0 ≤ x / d ∧ x / d < m :=
  ⟨Int.ediv_nonneg hx (by omega), Int.ediv_lt_of_lt_mul h (by rwa [Int.mul_comm] at hm)⟩

def Sound (d c s : Int) : Prop := (4 ≤ d ∧ d ≤ 32) ∧ (1 ≤ c ∧ c ≤ 8) ∧ (1 ≤ s ∧ s ≤ 64)
/-- the disk of data column 0 -/
def fst (d r : Int) : Int := (2 * d + 1 - r % d) % d
theorem fst_bd {d r : Int} (h : 0 < d) : 0 ≤ fst d r ∧ fst d r < d := mod_bd _ h
theorem turn {d f c : Int} (f0 : 0 ≤ f) (f1 : f < d) (c0 : 0 ≤ c) (c1 : c < d) : (f + c) % d = if f + c < d then f + c else f + c - d := by
  split
  · exact emod_k (k := 0) (by omega) (by omega) (by omega)
  · exact emod_k (k := 1) (by omega) (by omega) (by omega)
theorem back {d f p : Int} (f0 : 0 ≤ f) (f1 : f < d) (p0 : 0 ≤ p) (p1 : p < d) : (p - f + d) % d = if f ≤ p then p - f else p - f + d := by
  split
  · exact emod_k (k := 1) (by omega) (by omega) (by omega)
  · exact emod_k (k := 0) (by omega) (by omega) (by omega)
/-- a column's disk leads back to the column -/
theorem turn_back {d f c p : Int} (f0 : 0 ≤ f) (f1 : f < d) (c0 : 0 ≤ c) (c1 : c < d) (p0 : 0 ≤ p) (p1 : p < d) : (f + c) % d = p ↔ c = (p - f + d) % d := by
  rw [turn f0 f1 c0 c1, back f0 f1 p0 p1]
  split <;> split <;> omega
theorem row_at {c st off : Int} (c0 : 0 < c) (o0 : 0 ≤ off) (o1 : off < c) : (st * c + off) / c = st ∧ (st * c + off) % c = off :=
  ⟨ediv_k (k := st) (y := off) (by rw [Int.mul_comm]) o0 o1, emod_k (k := st) (by rw [Int.mul_comm]) o0 o1⟩
theorem lt_rows {c st off s : Int} (o1 : off < c) (c0 : 0 < c) (s1 : st < s) : st * c + off < c * s := by
  have h : c * (st + 1) ≤ c * s := Int.mul_le_mul_of_nonneg_left (by omega) (by omega)
  rw [Int.mul_add, Int.mul_comm c st] at h
  omega

/-! ### the program: Check, Capacity, first, Map -/
theorem check_yes {d c s : Int} (h : Sound d c s) : layout_Check.f d c s = some 0 := by
  obtain ⟨⟨h1, h2⟩, ⟨h3, h4⟩, ⟨h5, h6⟩⟩ := h
  unfold layout_Check.f
  rw [if_neg (by omega), if_neg (by omega), if_neg (by omega), if_neg (by omega), if_neg (by omega), if_neg (by omega)]
theorem check_no {d c s : Int} (h : ¬ Sound d c s) : layout_Check.f d c s = some 1 := by
  unfold layout_Check.f
  unfold Sound at h
  repeat' (split; rfl)
  exact absurd ⟨⟨by omega, by omega⟩, ⟨by omega, by omega⟩, ⟨by omega, by omega⟩⟩ h
/-- the bounds of the products -/
theorem sizes {d c s : Int} (h : Sound d c s) : (0 < (d - 2) * c ∧ (d - 2) * c ≤ 240) ∧ (0 < c * s ∧ c * s ≤ 512) ∧ (0 < (d - 2) * c * s ∧ (d - 2) * c * s ≤ 15360) := by
  obtain ⟨⟨h1, h2⟩, ⟨h3, h4⟩, ⟨h5, h6⟩⟩ := h
  have a := mul_bd (a := d - 2) (b := c) (A := 30) (B := 8) (by omega) (by omega) (by omega) (by omega)
  have a' : 0 < (d - 2) * c := Int.mul_pos (by omega) (by omega)
  have b := mul_bd (a := c) (b := s) (A := 8) (B := 64) (by omega) (by omega) (by omega) (by omega)
  have b' : 0 < c * s := Int.mul_pos (by omega) (by omega)
  have e := mul_bd (a := (d - 2) * c) (b := s) (A := 240) (B := 64) (by omega) (by omega) (by omega) (by omega)
  have e' : 0 < (d - 2) * c * s := Int.mul_pos a' (by omega)
  omega
theorem capacity_yes {d c s : Int} (h : Sound d c s) : layout_Capacity.f d c s = some ((d - 2) * c * s, 0) := by
  have z := sizes h
  have g := h
  obtain ⟨⟨h1, h2⟩, ⟨h3, h4⟩, ⟨h5, h6⟩⟩ := g
  unfold layout_Capacity.f
  rw [check_yes h]
  simp only [Option.bind_some, if_true]
  rw [w64 (x := d - 2) (by omega) (by omega), w64 (x := (d - 2) * c) (by omega) (by omega), w64 (x := (d - 2) * c * s) (by omega) (by omega)]
theorem capacity_no {d c s : Int} (h : ¬ Sound d c s) : layout_Capacity.f d c s = some (0, 1) := by
  unfold layout_Capacity.f
  rw [check_no h]
  rfl
theorem first_is {d c s r : Int} (h : Sound d c s) (hr : 0 ≤ r) (hr' : r ≤ 1000000) : layout_first.f d c s r = some (fst d r) := by
  obtain ⟨⟨h1, h2⟩, ⟨h3, h4⟩, ⟨h5, h6⟩⟩ := h
  have m := mod_bd r (d := d) (by omega)
  unfold layout_first.f fst
  rw [if_neg (by omega), tmod_e hr, w64 (x := 2 * d) (by omega) (by omega), w64 (x := 2 * d + 1) (by omega) (by omega), w64 (x := 2 * d + 1 - r % d) (by omega) (by omega), tmod_e (by omega)]
/-- a sector's place -/
def diskOf (d c l : Int) : Int := (fst d (l / ((d - 2) * c)) + l / c % (d - 2)) % d
def atOf (d c l : Int) : Int := l / ((d - 2) * c) * c + l % c
theorem place_bd {d c s l : Int} (h : Sound d c s) (h0 : 0 ≤ l) (h1 : l < (d - 2) * c * s) :
    (0 ≤ l / ((d - 2) * c) ∧ l / ((d - 2) * c) < s) ∧ (0 ≤ l / c % (d - 2) ∧ l / c % (d - 2) < d - 2) ∧ (0 ≤ l % c ∧ l % c < c) ∧ (0 ≤ diskOf d c l ∧ diskOf d c l < d) ∧ (0 ≤ atOf d c l ∧ atOf d c l < c * s) ∧ (0 ≤ l / c ∧ l / c ≤ l) := by
  have z := sizes h
  have g := h
  obtain ⟨⟨g1, g2⟩, ⟨g3, g4⟩, ⟨g5, g6⟩⟩ := g
  have a := div_bd (m := s) z.1.1 h0 h1
  have m := mod_bd l (d := c) (by omega)
  refine ⟨a, mod_bd _ (by omega), m, mod_bd _ (by omega), ⟨?_, ?_⟩, Int.ediv_nonneg h0 (by omega), Int.ediv_le_self _ h0⟩
  · unfold atOf
    have := Int.mul_nonneg a.1 (show 0 ≤ c by omega)
    omega
  · exact lt_rows m.2 (by omega) a.2
theorem map_yes {d c s l : Int} (h : Sound d c s) (h0 : 0 ≤ l) (h1 : l < (d - 2) * c * s) :
    layout_Map.f d c s l = some (l / ((d - 2) * c), l / c % (d - 2), l % c, diskOf d c l, atOf d c l, 0) := by
  have z := sizes h
  have b := place_bd h h0 h1
  have g := h
  obtain ⟨⟨g1, g2⟩, ⟨g3, g4⟩, ⟨g5, g6⟩⟩ := g
  have f := fst_bd (d := d) (r := l / ((d - 2) * c)) (by omega)
  have p := mul_bd (a := l / ((d - 2) * c)) (b := c) (A := 64) (B := 8) (by omega) (by omega) (by omega) (by omega)
  unfold layout_Map.f
  rw [capacity_yes h]
  simp only [Option.bind_some, if_true]
  rw [if_neg (by omega), if_neg (by omega), w64 (x := d - 2) (by omega) (by omega), w64 (x := (d - 2) * c) (by omega) (by omega), if_neg (by omega), if_neg (by omega), if_neg (by omega),
    tdiv_e h0, tdiv_e h0, tmod_e h0, w64 (x := l / ((d - 2) * c)) (by omega) (by omega), w64 (x := l / c) (by omega) (by omega), first_is h b.1.1 (by omega)]
  simp only [Option.bind_some]
  rw [if_neg (by omega), tmod_e b.2.2.2.2.2.1, w64 (x := fst d (l / ((d - 2) * c)) + l / c % (d - 2)) (by omega) (by omega), tmod_e (by omega), w64 (x := l / ((d - 2) * c) * c) (by omega) (by omega),
    w64 (x := l / ((d - 2) * c) * c + l % c) (by omega) (by omega)]
  rfl
theorem map_far {d c s l : Int} (h : Sound d c s) (h1 : ¬ (0 ≤ l ∧ l < (d - 2) * c * s)) : layout_Map.f d c s l = some (0, 0, 0, 0, 0, 2) := by
  unfold layout_Map.f
  rw [capacity_yes h]
  simp only [Option.bind_some, if_true]
  by_cases h2 : l < 0
  · rw [if_pos h2]
  · rw [if_neg h2, if_pos (by omega)]
theorem map_no {d c s l : Int} (h : ¬ Sound d c s) : layout_Map.f d c s l = some (0, 0, 0, 0, 0, 1) := by
  unfold layout_Map.f
  rw [capacity_no h]
  rfl
theorem awake_is : ravelinlaw03_awake.f = some true := by decide +kernel

/-! ### the reference: Check, Capacity, Column -/
theorem rcheck_yes {d c s : Int} (h : Sound d c s) : ravelinref03_Check.f d c s = some 0 := by
  obtain ⟨⟨h1, h2⟩, ⟨h3, h4⟩, ⟨h5, h6⟩⟩ := h
  unfold ravelinref03_Check.f
  rw [if_neg (by omega), if_neg (by omega), if_neg (by omega), if_neg (by omega), if_neg (by omega), if_neg (by omega)]
theorem rcheck_no {d c s : Int} (h : ¬ Sound d c s) : ravelinref03_Check.f d c s = some 1 := by
  unfold ravelinref03_Check.f
  unfold Sound at h
  repeat' (split; rfl)
  exact absurd ⟨⟨by omega, by omega⟩, ⟨by omega, by omega⟩, ⟨by omega, by omega⟩⟩ h
theorem rcapacity_yes {d c s : Int} (h : Sound d c s) : ravelinref03_Capacity.f d c s = some ((d - 2) * c * s, 0) := by
  have z := sizes h
  have g := h
  obtain ⟨⟨h1, h2⟩, ⟨h3, h4⟩, ⟨h5, h6⟩⟩ := g
  unfold ravelinref03_Capacity.f
  rw [rcheck_yes h]
  simp only [Option.bind_some, if_true]
  rw [w64 (x := d - 2) (by omega) (by omega), w64 (x := (d - 2) * c) (by omega) (by omega), w64 (x := (d - 2) * c * s) (by omega) (by omega)]
theorem rcapacity_no {d c s : Int} (h : ¬ Sound d c s) : ravelinref03_Capacity.f d c s = some (0, 1) := by
  unfold ravelinref03_Capacity.f
  rw [rcheck_no h]
  rfl
theorem size_yes {d c s : Int} (h : Sound d c s) : layout_Size.f d c s = some (c * s, 0) := by
  have z := sizes h
  unfold layout_Size.f
  rw [check_yes h]
  simp only [Option.bind_some, if_true]
  rw [w64 (x := c * s) (by omega) (by omega)]
theorem size_no {d c s : Int} (h : ¬ Sound d c s) : layout_Size.f d c s = some (0, 1) := by
  unfold layout_Size.f
  rw [check_no h]
  rfl
theorem rsize_yes {d c s : Int} (h : Sound d c s) : ravelinref03_Size.f d c s = some (c * s, 0) := by
  have z := sizes h
  unfold ravelinref03_Size.f
  rw [rcheck_yes h]
  simp only [Option.bind_some, if_true]
  rw [w64 (x := c * s) (by omega) (by omega)]
theorem rsize_no {d c s : Int} (h : ¬ Sound d c s) : ravelinref03_Size.f d c s = some (0, 1) := by
  unfold ravelinref03_Size.f
  rw [rcheck_no h]
  rfl

theorem law (d c s : Int) : ravelinlaw03_LayoutForms.f d c s = some true := by
  unfold ravelinlaw03_LayoutForms.f
  by_cases h : Sound d c s
  · rw [capacity_yes h, rcapacity_yes h, size_yes h, rsize_yes h, awake_is, check_yes h, rcheck_yes h]
    simp only [Option.bind_some, if_true]
    rfl
  · rw [capacity_no h, rcapacity_no h, size_no h, rsize_no h, awake_is, check_no h, rcheck_no h]
    simp only [Option.bind_some, if_true]
    rfl

end Go.Proofs.Ytgedclbfednhlaa.PureLayoutForms
