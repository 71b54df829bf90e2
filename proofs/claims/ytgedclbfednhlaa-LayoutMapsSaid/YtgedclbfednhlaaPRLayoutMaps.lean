/- Proved here: the plain law of LayoutMaps: what the printed functions of the law compute is true, for whatever numbers. No condition. -/
import Derived.Test.YtgedclbfednhlaaPLayoutMapsx4
set_option linter.unusedVariables false
set_option linter.unusedSimpArgs false
namespace Go.Proofs.Ytgedclbfednhlaa.PureLayoutMaps
open Go.RowKit Go.Proofs.Ytgedclbfednhlaa.PLayoutMaps Go.Proofs.YtgedclbfednhlaaW.PrintWords Go.Proofs.YtgedclbfednhlaaW.PrintLast

/-! ### numbers -/
theorem w64 {x : Int} (h : -9223372036854775808 ≤ x) (h' : x ≤ 9223372036854775807) : wrap64 x = x := by unfold wrap64; omega
theorem mul_bd {a b A B : Int} (a0 : 0 ≤ a) (a1 : a ≤ A) (b0 : 0 ≤ b) (b1 : b ≤ B) : 0 ≤ a * b ∧ a * b ≤ A * B :=
  ⟨Int.mul_nonneg a0 b0, Int.mul_le_mul a1 b1 b0 (Int.le_trans a0 a1)⟩
theorem emod_k {x d y k : Int} (h : x = d * k + y) (h0 : 0 ≤ y) (h1 : y < d) : x % d = y := by
  rw [h, Int.mul_add_emod_self_left, Int.emod_eq_of_lt h0 h1]
theorem ediv_k {x d y k : Int} (h : x = d * k + y) (h0 : 0 ≤ y) (h1 : y < d) : x / d = k := by
  rw [h, Int.mul_add_ediv_left _ _ (by omega), Int.ediv_eq_zero_of_lt h0 h1, Int.add_zero]
theorem tmod_e {x d : Int} (h : 0 ≤ x) : Int.tmod x d = x % d := Int.tmod_eq_emod_of_nonneg h
theorem tdiv_e {x d : Int} (h : 0 ≤ x) : Int.tdiv x d = x / d := Int.tdiv_eq_ediv_of_nonneg h
theorem div_add (x d : Int) : x = d * (x / d) + x % d := (Int.mul_ediv_add_emod x d).symm
theorem mod_bd (x : Int) {d : Int} (h : 0 < d) : 0 ≤ x % d ∧ x % d < d := ⟨Int.emod_nonneg _ (by omega), Int.emod_lt_of_pos _ h⟩
theorem div_bd {x d m : Int} (h : 0 < d) (hx : 0 ≤ x) (hm : x < d * m) : 0 ≤ x / d ∧ x / d < m :=
  ⟨Int.ediv_nonneg hx (by omega), Int.ediv_lt_of_lt_mul h (by rwa [Int.mul_comm] at hm)⟩

def Sound (d c s : Int) : Prop := (4 ≤ d ∧ d ≤ 32) ∧ (1 ≤ c ∧ c ≤ 8) ∧ (1 ≤ s ∧ s ≤ 64)
/-- the disk of data column 0 -/
def fst (d r : Int) : Int := (2 * d + 1 - r % d) % d
theorem fst_bd {d r : Int} (h : 0 < d) : 0 ≤ fst d r ∧ fst d r < d := mod_bd _ h
theorem turn {d f c : Int} (f0 : 0 ≤ f) (f1 : f < d) (c0 : 0 ≤ c) (c1 : c < d) : (f + c) % d = if f + c < d then f + c else f + c - d := by
  split
  · exact emod_k (k := 0) (by omega) (by omega) (by omega)
  · exact emod_k (k := 1) (by omega) (by omega) (by omega)
theorem back {d f p : Int} (f0 : 0 ≤ f) (f1 : f < d) (p0 : 0 ≤ p) (p1 : p < d) : (p - f + d) % d = if f ≤ p then p - f else p - f + d := by
  split
  · exact emod_k (k := 1) (by omega) (by omega) (by omega)
  · exact emod_k (k := 0) (by omega) (by omega) (by omega)
/-- a column's disk leads back to the column -/
theorem turn_back {d f c p : Int} (f0 : 0 ≤ f) (f1 : f < d) (c0 : 0 ≤ c) (c1 : c < d) (p0 : 0 ≤ p) (p1 : p < d) : (f + c) % d = p ↔ c = (p - f + d) % d := by
  rw [turn f0 f1 c0 c1, back f0 f1 p0 p1]
  split <;> split <;> omega
theorem row_at {c st off : Int} (c0 : 0 < c) (o0 : 0 ≤ off) (o1 : off < c) : (st * c + off) / c = st ∧ (st * c + off) % c = off :=
  ⟨ediv_k (k := st) (y := off) (by rw [Int.mul_comm]) o0 o1, emod_k (k := st) (by rw [Int.mul_comm]) o0 o1⟩
theorem lt_rows {c st off s : Int} (o1 : off < c) (c0 : 0 < c) (s1 : st < s) : st * c + off < c * s := by
  have h : c * (st + 1) ≤ c * s := Int.mul_le_mul_of_nonneg_left (by omega) (by omega)
  rw [Int.mul_add, Int.mul_comm c st] at h
  omega

/-! ### the program: Check, Capacity, first, Map -/
theorem check_yes {d c s : Int} (h : Sound d c s) : layout_Check.f d c s = some 0 := by
  obtain ⟨⟨h1, h2⟩, ⟨h3, h4⟩, ⟨h5, h6⟩⟩ := h
  unfold layout_Check.f
  rw [if_neg (by omega), if_neg (by omega), if_neg (by omega), if_neg (by omega), if_neg (by omega), if_neg (by omega)]
theorem check_no {d c s : Int} (h : ¬ Sound d c s) : layout_Check.f d c s = some 1 := by
  unfold layout_Check.f
  unfold Sound at h
  repeat' (split; rfl)
  exact absurd ⟨⟨by omega, by omega⟩, ⟨by omega, by omega⟩, ⟨by omega, by omega⟩⟩ h
/-- the bounds of the products -/
theorem sizes {d c s : Int} (h : Sound d c s) : (0 < (d - 2) * c ∧ (d - 2) * c ≤ 240) ∧ (0 < c * s ∧ c * s ≤ 512) ∧ (0 < (d - 2) * c * s ∧ (d - 2) * c * s ≤ 15360) := by
  obtain ⟨⟨h1, h2⟩, ⟨h3, h4⟩, ⟨h5, h6⟩⟩ := h
  have a := mul_bd (a := d - 2) (b := c) (A := 30) (B := 8) (by omega) (by omega) (by omega) (by omega)
  have a' : 0 < (d - 2) * c := Int.mul_pos (by omega) (by omega)
  have b := mul_bd (a := c) (b := s) (A := 8) (B := 64) (by omega) (by omega) (by omega) (by omega)
  have b' : 0 < c * s := Int.mul_pos (by omega) (by omega)
  have e := mul_bd (a := (d - 2) * c) (b := s) (A := 240) (B := 64) (by omega) (by omega) (by omega) (by omega)
  have e' : 0 < (d - 2) * c * s := Int.mul_pos a' (by omega)
  omega
theorem capacity_yes {d c s : Int} (h : Sound d c s) : layout_Capacity.f d c s = some ((d - 2) * c * s, 0) := by
  have z := sizes h
  have g := h
  obtain ⟨⟨h1, h2⟩, ⟨h3, h4⟩, ⟨h5, h6⟩⟩ := g
  unfold layout_Capacity.f
  rw [check_yes h]
  simp only [Option.bind_some, if_true]
  rw [w64 (x := d - 2) (by omega) (by omega), w64 (x := (d - 2) * c) (by omega) (by omega), w64 (x := (d - 2) * c * s) (by omega) (by omega)]
theorem capacity_no {d c s : Int} (h : ¬ Sound d c s) : layout_Capacity.f d c s = some (0, 1) := by
  unfold layout_Capacity.f
  rw [check_no h]
  rfl
theorem first_is {d c s r : Int} (h : Sound d c s) (hr : 0 ≤ r) (hr' : r ≤ 1000000) : layout_first.f d c s r = some (fst d r) := by
  obtain ⟨⟨h1, h2⟩, ⟨h3, h4⟩, ⟨h5, h6⟩⟩ := h
  have m := mod_bd r (d := d) (by omega)
  unfold layout_first.f fst
  rw [if_neg (by omega), tmod_e hr, w64 (x := 2 * d) (by omega) (by omega), w64 (x := 2 * d + 1) (by omega) (by omega), w64 (x := 2 * d + 1 - r % d) (by omega) (by omega), tmod_e (by omega)]
/-- a sector's place -/
def diskOf (d c l : Int) : Int := (fst d (l / ((d - 2) * c)) + l / c % (d - 2)) % d
def atOf (d c l : Int) : Int := l / ((d - 2) * c) * c + l % c
theorem place_bd {d c s l : Int} (h : Sound d c s) (h0 : 0 ≤ l) (h1 : l < (d - 2) * c * s) :
    (0 ≤ l / ((d - 2) * c) ∧ l / ((d - 2) * c) < s) ∧ (0 ≤ l / c % (d - 2) ∧ l / c % (d - 2) < d - 2) ∧ (0 ≤ l % c ∧ l % c < c) ∧ (0 ≤ diskOf d c l ∧ diskOf d c l < d) ∧ (0 ≤ atOf d c l ∧ atOf d c l < c * s) ∧ (0 ≤ l / c ∧ l / c ≤ l) := by
  have z := sizes h
  have g := h
  obtain ⟨⟨g1, g2⟩, ⟨g3, g4⟩, ⟨g5, g6⟩⟩ := g
  have a := div_bd (m := s) z.1.1 h0 h1
  have m := mod_bd l (d := c) (by omega)
  refine ⟨a, mod_bd _ (by omega), m, mod_bd _ (by omega), ⟨?_, ?_⟩, Int.ediv_nonneg h0 (by omega), Int.ediv_le_self _ h0⟩
  · unfold atOf
    have := Int.mul_nonneg a.1 (show 0 ≤ c by omega)
    omega
  · exact lt_rows m.2 (by omega) a.2
theorem map_yes {d c s l : Int} (h : Sound d c s) (h0 : 0 ≤ l) (h1 : l < (d - 2) * c * s) :
    layout_Map.f d c s l = some (l / ((d - 2) * c), l / c % (d - 2), l % c, diskOf d c l, atOf d c l, 0) := by
  have z := sizes h
  have b := place_bd h h0 h1
  have g := h
  obtain ⟨⟨g1, g2⟩, ⟨g3, g4⟩, ⟨g5, g6⟩⟩ := g
  have f := fst_bd (d := d) (r := l / ((d - 2) * c)) (by omega)
  have p := mul_bd (a := l / ((d - 2) * c)) (b := c) (A := 64) (B := 8) (by omega) (by omega) (by omega) (by omega)
  unfold layout_Map.f
  rw [capacity_yes h]
  simp only [Option.bind_some, if_true]
  rw [if_neg (by omega), if_neg (by omega), w64 (x := d - 2) (by omega) (by omega), w64 (x := (d - 2) * c) (by omega) (by omega), if_neg (by omega), if_neg (by omega), if_neg (by omega),
    tdiv_e h0, tdiv_e h0, tmod_e h0, w64 (x := l / ((d - 2) * c)) (by omega) (by omega), w64 (x := l / c) (by omega) (by omega), first_is h b.1.1 (by omega)]
  simp only [Option.bind_some]
  rw [if_neg (by omega), tmod_e b.2.2.2.2.2.1, w64 (x := fst d (l / ((d - 2) * c)) + l / c % (d - 2)) (by omega) (by omega), tmod_e (by omega), w64 (x := l / ((d - 2) * c) * c) (by omega) (by omega),
    w64 (x := l / ((d - 2) * c) * c + l % c) (by omega) (by omega)]
  rfl
theorem map_far {d c s l : Int} (h : Sound d c s) (h1 : ¬ (0 ≤ l ∧ l < (d - 2) * c * s)) : layout_Map.f d c s l = some (0, 0, 0, 0, 0, 2) := by
  unfold layout_Map.f
  rw [capacity_yes h]
  simp only [Option.bind_some, if_true]
  by_cases h2 : l < 0
  · rw [if_pos h2]
  · rw [if_neg h2, if_pos (by omega)]
theorem map_no {d c s l : Int} (h : ¬ Sound d c s) : layout_Map.f d c s l = some (0, 0, 0, 0, 0, 1) := by
  unfold layout_Map.f
  rw [capacity_no h]
  rfl
theorem awake_is : ravelinlaw03_awake.f = some true := by decide +kernel

/-! ### the reference: Check, Capacity, Column -/
theorem rcheck_yes {d c s : Int} (h : Sound d c s) : ravelinref03_Check.f d c s = some 0 := by
  obtain ⟨⟨h1, h2⟩, ⟨h3, h4⟩, ⟨h5, h6⟩⟩ := h
  unfold ravelinref03_Check.f
  rw [if_neg (by omega), if_neg (by omega), if_neg (by omega), if_neg (by omega), if_neg (by omega), if_neg (by omega)]
theorem rcheck_no {d c s : Int} (h : ¬ Sound d c s) : ravelinref03_Check.f d c s = some 1 := by
  unfold ravelinref03_Check.f
  unfold Sound at h
  repeat' (split; rfl)
  exact absurd ⟨⟨by omega, by omega⟩, ⟨by omega, by omega⟩, ⟨by omega, by omega⟩⟩ h
theorem rcapacity_yes {d c s : Int} (h : Sound d c s) : ravelinref03_Capacity.f d c s = some ((d - 2) * c * s, 0) := by
  have z := sizes h
  have g := h
  obtain ⟨⟨h1, h2⟩, ⟨h3, h4⟩, ⟨h5, h6⟩⟩ := g
  unfold ravelinref03_Capacity.f
  rw [rcheck_yes h]
  simp only [Option.bind_some, if_true]
  rw [w64 (x := d - 2) (by omega) (by omega), w64 (x := (d - 2) * c) (by omega) (by omega), w64 (x := (d - 2) * c * s) (by omega) (by omega)]
theorem rcapacity_no {d c s : Int} (h : ¬ Sound d c s) : ravelinref03_Capacity.f d c s = some (0, 1) := by
  unfold ravelinref03_Capacity.f
  rw [rcheck_no h]
  rfl
theorem column_aux {d t k : Int} (g1 : 4 ≤ d) (t0 : 0 ≤ t) (t1 : t < d) (k0 : 0 ≤ k) (k1 : k < d) :
    (if k = d - 2 then some (d - 1 - t) else if k = d - 1 then some ((d - 1 - t + 1) % d) else some (((d - 1 - t + 1) % d + 1 + k) % d)) = some (((2 * d + 1 - t) % d + k) % d) := by
  have fb := mod_bd (2 * d + 1 - t) (d := d) (by omega)
  rw [turn fb.1 fb.2 k0 k1]
  by_cases z : t = 0
  · subst z
    rw [emod_k (x := 2 * d + 1 - 0) (d := d) (k := 2) (y := 1) (by omega) (by omega) (by omega), emod_k (x := d - 1 - 0 + 1) (d := d) (k := 1) (y := 0) (by omega) (by omega) (by omega)]
    by_cases e1 : k = d - 2
    · rw [if_pos e1]; congr 1; split <;> omega
    · rw [if_neg e1]
      by_cases e2 : k = d - 1
      · rw [if_pos e2]; congr 1; split <;> omega
      · rw [if_neg e2, emod_k (x := 0 + 1 + k) (d := d) (k := 0) (y := 1 + k) (by omega) (by omega) (by omega)]
        congr 1; split <;> omega
  · rw [emod_k (x := d - 1 - t + 1) (d := d) (k := 0) (y := d - t) (by omega) (by omega) (by omega)]
    by_cases z1 : t = 1
    · rw [emod_k (x := 2 * d + 1 - t) (d := d) (k := 2) (y := 0) (by omega) (by omega) (by omega)]
      by_cases e1 : k = d - 2
      · rw [if_pos e1]; congr 1; split <;> omega
      · rw [if_neg e1]
        by_cases e2 : k = d - 1
        · rw [if_pos e2]; congr 1; split <;> omega
        · rw [if_neg e2, emod_k (x := d - t + 1 + k) (d := d) (k := 1) (y := k) (by omega) (by omega) (by omega)]
          congr 1; split <;> omega
    · rw [emod_k (x := 2 * d + 1 - t) (d := d) (k := 1) (y := d + 1 - t) (by omega) (by omega) (by omega)]
      by_cases e1 : k = d - 2
      · rw [if_pos e1]; congr 1; split <;> omega
      · rw [if_neg e1]
        by_cases e2 : k = d - 1
        · rw [if_pos e2]; congr 1; split <;> omega
        · rw [if_neg e2]
          by_cases z2 : d + 1 - t + k < d
          · rw [if_pos z2, emod_k (x := d - t + 1 + k) (d := d) (k := 0) (y := d + 1 - t + k) (by omega) (by omega) (by omega)]
          · rw [if_neg z2, emod_k (x := d - t + 1 + k) (d := d) (k := 1) (y := d + 1 - t + k - d) (by omega) (by omega) (by omega)]
theorem column_is {d c s r k : Int} (h : Sound d c s) (hr : 0 ≤ r) (k0 : 0 ≤ k) (k1 : k < d) : ravelinref03_Column.f d c s r k = some ((fst d r + k) % d) := by
  obtain ⟨⟨h1, h2⟩, ⟨h3, h4⟩, ⟨h5, h6⟩⟩ := h
  have m := mod_bd r (d := d) (by omega)
  have qb := mod_bd (d - 1 - r % d + 1) (d := d) (by omega)
  unfold ravelinref03_Column.f fst
  rw [if_neg (by omega), tmod_e hr, w64 (x := d - 2) (by omega) (by omega), w64 (x := d - 1) (by omega) (by omega), w64 (x := d - 1 - r % d) (by omega) (by omega), w64 (x := d - 1 - r % d + 1) (by omega) (by omega), tmod_e (x := d - 1 - r % d + 1) (by omega),
    w64 (x := (d - 1 - r % d + 1) % d + 1) (by omega) (by omega), w64 (x := (d - 1 - r % d + 1) % d + 1 + k) (by omega) (by omega), tmod_e (x := (d - 1 - r % d + 1) % d + 1 + k) (by omega)]
  exact column_aux h1 m.1 m.2 k0 k1
/-! ### the reference's Map: counted up -/
theorem succ_dm (x : Int) {d : Int} (h : 0 < d) : (x % d + 1 = d → (x + 1) / d = x / d + 1 ∧ (x + 1) % d = 0) ∧ (x % d + 1 ≠ d → (x + 1) / d = x / d ∧ (x + 1) % d = x % d + 1) := by
  have e := div_add x d
  have b := mod_bd x h
  have m : d * (x / d + 1) = d * (x / d) + d := by rw [Int.mul_add, Int.mul_one]
  constructor
  · intro hx
    exact ⟨ediv_k (k := x / d + 1) (y := 0) (by omega) (by omega) (by omega), emod_k (k := x / d + 1) (y := 0) (by omega) (by omega) (by omega)⟩
  · intro hx
    exact ⟨ediv_k (k := x / d) (y := x % d + 1) (by omega) (by omega) (by omega), emod_k (k := x / d) (y := x % d + 1) (by omega) (by omega) (by omega)⟩
theorem stripe_is {l m c : Int} (c0 : 0 < c) : l / (m * c) = l / c / m := by rw [Int.mul_comm, Int.ediv_ediv_of_nonneg (by omega)]

theorem rmap_loop {d c s l : Int} (h : Sound d c s) (h1 : l < (d - 2) * c * s) (n : Nat) : ∀ (k : Nat) (i : Int), 0 ≤ i → i ≤ l → l - i = n → n < k →
    ravelinref03_Map.l0 k l i d c s (i / ((d - 2) * c)) (i / c % (d - 2)) (i % c) = some (l / ((d - 2) * c), l / c % (d - 2), l % c, diskOf d c l, atOf d c l, 0) := by
  have z := sizes h
  have g := h
  obtain ⟨⟨g1, g2⟩, ⟨g3, g4⟩, ⟨g5, g6⟩⟩ := g
  induction n with
  | zero =>
    intro k i h0 hi hd hk
    obtain ⟨k, rfl⟩ : ∃ m, k = m + 1 := ⟨k - 1, by omega⟩
    obtain rfl : i = l := by omega
    have b := place_bd h h0 h1
    have p := mul_bd (a := i / ((d - 2) * c)) (b := c) (A := 64) (B := 8) (by omega) (by omega) (by omega) (by omega)
    simp only [ravelinref03_Map.l0]
    rw [if_neg (by omega), column_is h b.1.1 b.2.1.1 (by omega)]
    simp only [Option.bind_some]
    rw [w64 (x := i / ((d - 2) * c) * c) (by omega) (by omega), w64 (x := i / ((d - 2) * c) * c + i % c) (by omega) (by omega)]
    rfl
  | succ n ih =>
    intro k i h0 hi hd hk
    obtain ⟨k, rfl⟩ : ∃ m, k = m + 1 := ⟨k - 1, by omega⟩
    have b := place_bd h h0 (by omega : i < (d - 2) * c * s)
    have ih' := ih k (i + 1) (by omega) (by omega) (by omega) (by omega)
    have s1 := succ_dm i (d := c) (by omega)
    have s2 := succ_dm (i / c) (d := d - 2) (by omega)
    have c0 : 0 < c := by omega
    rw [stripe_is c0] at ih' b ⊢
    simp only [ravelinref03_Map.l0]
    rw [if_pos (by omega), w64 (x := i % c + 1) (by omega) (by omega), w64 (x := d - 2) (by omega) (by omega), w64 (x := i / c % (d - 2) + 1) (by omega) (by omega), w64 (x := i + 1) (by omega) (by omega), w64 (x := i / c / (d - 2) + 1) (by omega) (by omega)]
    by_cases e1 : i % c + 1 = c
    · rw [if_pos e1]
      obtain ⟨a1, a2⟩ := s1.1 e1
      rw [a1, a2] at ih'
      by_cases e2 : i / c % (d - 2) + 1 = d - 2
      · rw [if_pos e2]
        obtain ⟨a3, a4⟩ := s2.1 e2
        rw [a3, a4] at ih'
        exact ih'
      · rw [if_neg e2]
        obtain ⟨a3, a4⟩ := s2.2 e2
        rw [a3, a4] at ih'
        exact ih'
    · rw [if_neg e1]
      obtain ⟨a1, a2⟩ := s1.2 e1
      rw [a1, a2] at ih'
      rw [if_neg (by omega)]
      exact ih'
theorem rmap_yes {d c s l : Int} (h : Sound d c s) (h0 : 0 ≤ l) (h1 : l < (d - 2) * c * s) :
    ravelinref03_Map.f (l.toNat + 2) d c s l = some (l / ((d - 2) * c), l / c % (d - 2), l % c, diskOf d c l, atOf d c l, 0) := by
  have r := rmap_loop h h1 l.toNat (l.toNat + 1) 0 (by omega) h0 (by omega) (by omega)
  unfold ravelinref03_Map.f
  rw [rcapacity_yes h]
  simp only [Option.bind_some, if_true]
  rw [if_neg (by omega)]
  have e : decide (l ≥ (d - 2) * c * s) = false := by simp; omega
  rw [e]
  simp only [ravelinref03_Map.j0]
  simpa using r
theorem rmap_far {d c s l : Int} (h : Sound d c s) (h1 : ¬ (0 ≤ l ∧ l < (d - 2) * c * s)) : ravelinref03_Map.f 2 d c s l = some (0, 0, 0, 0, 0, 2) := by
  unfold ravelinref03_Map.f
  rw [rcapacity_yes h]
  simp only [Option.bind_some, if_true]
  by_cases h2 : l < 0
  · rw [if_pos h2]
    simp [ravelinref03_Map.j0]
  · rw [if_neg h2]
    have e : decide (l ≥ (d - 2) * c * s) = true := by simp; omega
    rw [e]
    simp [ravelinref03_Map.j0]
theorem rmap_no {d c s l : Int} (h : ¬ Sound d c s) : ravelinref03_Map.f 2 d c s l = some (0, 0, 0, 0, 0, 1) := by
  unfold ravelinref03_Map.f
  rw [rcapacity_no h]
  rfl

theorem law (d c s l : Int) : ∃ k, ravelinlaw03_LayoutMaps.f k d c s l = some true := by
  unfold ravelinlaw03_LayoutMaps.f
  by_cases h : Sound d c s
  · by_cases h1 : 0 ≤ l ∧ l < (d - 2) * c * s
    · refine ⟨l.toNat + 2, ?_⟩
      rw [map_yes h h1.1 h1.2, rmap_yes h h1.1 h1.2, awake_is]
      simp
    · refine ⟨2, ?_⟩
      rw [map_far h h1, rmap_far h h1, awake_is]
      simp
  · refine ⟨2, ?_⟩
    rw [map_no h, rmap_no h, awake_is]
    simp

end Go.Proofs.Ytgedclbfednhlaa.PureLayoutMaps
