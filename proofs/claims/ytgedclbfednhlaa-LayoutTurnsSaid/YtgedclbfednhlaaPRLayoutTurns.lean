/- Proved here: the plain law of LayoutTurns: what the printed functions of the law compute is true, for whatever numbers. No condition. -/
import Derived.Test.YtgedclbfednhlaaPLayoutTurnsy5
set_option linter.unusedVariables false
set_option linter.unusedSimpArgs false
namespace Go.Proofs.Ytgedclbfednhlaa.PureLayoutTurns
open Go.RowKit Go.Proofs.Ytgedclbfednhlaa.PLayoutTurns Go.Proofs.YtgedclbfednhlaaW.PrintWords Go.Proofs.YtgedclbfednhlaaW.PrintLast

/-! ### numbers -/
theorem w64 {x : Int} (h : -9223372036854775808 ≤ x) (h' : x ≤ 9223372036854775807) : wrap64 x = x := by unfold wrap64; omega
theorem mul_bd {a b A B : Int} (a0 : 0 ≤ a) (a1 : a ≤ A) (b0 : 0 ≤ b) (b1 : b ≤ B) : 0 ≤ a * b ∧ a * b ≤ A * B :=
  ⟨Int.mul_nonneg a0 b0, Int.mul_le_mul a1 b1 b0 (Int.le_trans a0 a1)⟩
theorem emod_k {x d y k : Int} (h : x = d * k + y) (h0 : 0 ≤ y) (h1 : y < d) : x % d = y := by
  rw [h, Int.mul_add_emod_self_left, Int.emod_eq_of_lt h0 h1]
theorem ediv_k {x d y k : Int} (h : x = d * k + y) (h0 : 0 ≤ y) (h1 : y < d) : x / d = k := by
  rw [h, Int.mul_add_ediv_left _ _ (by omega), Int.ediv_eq_zero_of_lt h0 h1, Int.add_zero]
theorem tmod_e {x d : Int} (h : 0 ≤ x) : Int.tmod x d = x % d := Int.tmod_eq_emod_of_nonneg h
theorem tdiv_e {x d : Int} (h : 0 ≤ x) : Int.tdiv x d = x / d := Int.tdiv_eq_ediv_of_nonneg h
theorem div_add (x d : Int) : x = d * (x / d) + x % d := (Int.mul_ediv_add_emod x d).symm
theorem mod_bd (x : Int) {d : Int} (h : 0 < d) : 0 ≤ x % d ∧ x % d < d := ⟨Int.emod_nonneg _ (by omega), Int.emod_lt_of_pos _ h⟩
theorem div_bd {x d m : Int} (h : 0 < d) (hx : 0 ≤ x) (hm : x < d * m) : 0 ≤ x / d ∧ x / d < m :=
  ⟨Int.ediv_nonneg hx (by omega), Int.ediv_lt_of_lt_mul h (by rwa [Int.mul_comm] at hm)⟩

def Sound (d c s : Int) : Prop := (4 ≤ d ∧ d ≤ 32) ∧ (1 ≤ c ∧ c ≤ 8) ∧ (1 ≤ s ∧ s ≤ 64)
/-- the disk of data column 0 -/
def fst (d r : Int) : Int := (2 * d + 1 - r % d) % d
theorem fst_bd {d r : Int} (h : 0 < d) : 0 ≤ fst d r ∧ fst d r < d := mod_bd _ h
theorem turn {d f c : Int} (f0 : 0 ≤ f) (f1 : f < d) (c0 : 0 ≤ c) (c1 : c < d) : (f + c) % d = if f + c < d then f + c else f + c - d := by
  split
  · exact emod_k (k := 0) (by omega) (by omega) (by omega)
  · exact emod_k (k := 1) (by omega) (by omega) (by omega)
theorem back {d f p : Int} (f0 : 0 ≤ f) (f1 : f < d) (p0 : 0 ≤ p) (p1 : p < d) : (p - f + d) % d = if f ≤ p then p - f else p - f + d := by
  split
  · exact emod_k (k := 1) (by omega) (by omega) (by omega)
  · exact emod_k (k := 0) (by omega) (by omega) (by omega)
/-- a column's disk leads back to the column -/
theorem turn_back {d f c p : Int} (f0 : 0 ≤ f) (f1 : f < d) (c0 : 0 ≤ c) (c1 : c < d) (p0 : 0 ≤ p) (p1 : p < d) : (f + c) % d = p ↔ c = (p - f + d) % d := by
  rw [turn f0 f1 c0 c1, back f0 f1 p0 p1]
  split <;> split <;> omega
theorem row_at {c st off : Int} (c0 : 0 < c) (o0 : 0 ≤ off) (o1 : off < c) : (st * c + off) / c = st ∧ (st * c + off) % c = off :=
  ⟨ediv_k (k := st) (y := off) (by rw [Int.mul_comm]) o0 o1, emod_k (k := st) (by rw [Int.mul_comm]) o0 o1⟩
theorem lt_rows {c st off s : Int} (o1 : off < c) (c0 : 0 < c) (s1 : st < s) : st * c + off < c * s := by
  have h : c * (st + 1) ≤ c * s := Int.mul_le_mul_of_nonneg_left (by omega) (by omega)
  rw [Int.mul_add, Int.mul_comm c st] at h
  omega

/-! ### the program: Check, Capacity, first, Map -/
theorem check_yes {d c s : Int} (h : Sound d c s) : layout_Check.f d c s = some 0 := by
  obtain ⟨⟨h1, h2⟩, ⟨h3, h4⟩, ⟨h5, h6⟩⟩ := h
  unfold layout_Check.f
  rw [if_neg (by omega), if_neg (by omega), if_neg (by omega), if_neg (by omega), if_neg (by omega), if_neg (by omega)]
theorem check_no {d c s : Int} (h : ¬ Sound d c s) : layout_Check.f d c s = some 1 := by
  unfold layout_Check.f
  unfold Sound at h
  repeat' (split; rfl)
  exact absurd ⟨⟨by omega, by omega⟩, ⟨by omega, by omega⟩, ⟨by omega, by omega⟩⟩ h
/-- the bounds of the products -/
theorem sizes {d c s : Int} (h : Sound d c s) : (0 < (d - 2) * c ∧ (d - 2) * c ≤ 240) ∧ (0 < c * s ∧ c * s ≤ 512) ∧ (0 < (d - 2) * c * s ∧ (d - 2) * c * s ≤ 15360) := by
  obtain ⟨⟨h1, h2⟩, ⟨h3, h4⟩, ⟨h5, h6⟩⟩ := h
  have a := mul_bd (a := d - 2) (b := c) (A := 30) (B := 8) (by omega) (by omega) (by omega) (by omega)
  have a' : 0 < (d - 2) * c := Int.mul_pos (by omega) (by omega)
  have b := mul_bd (a := c) (b := s) (A := 8) (B := 64) (by omega) (by omega) (by omega) (by omega)
  have b' : 0 < c * s := Int.mul_pos (by omega) (by omega)
  have e := mul_bd (a := (d - 2) * c) (b := s) (A := 240) (B := 64) (by omega) (by omega) (by omega) (by omega)
  have e' : 0 < (d - 2) * c * s := Int.mul_pos a' (by omega)
  omega
theorem capacity_yes {d c s : Int} (h : Sound d c s) : layout_Capacity.f d c s = some ((d - 2) * c * s, 0) := by
  have z := sizes h
  have g := h
  obtain ⟨⟨h1, h2⟩, ⟨h3, h4⟩, ⟨h5, h6⟩⟩ := g
  unfold layout_Capacity.f
  rw [check_yes h]
  simp only [Option.bind_some, if_true]
  rw [w64 (x := d - 2) (by omega) (by omega), w64 (x := (d - 2) * c) (by omega) (by omega), w64 (x := (d - 2) * c * s) (by omega) (by omega)]
theorem capacity_no {d c s : Int} (h : ¬ Sound d c s) : layout_Capacity.f d c s = some (0, 1) := by
  unfold layout_Capacity.f
  rw [check_no h]
  rfl
theorem first_is {d c s r : Int} (h : Sound d c s) (hr : 0 ≤ r) (hr' : r ≤ 1000000) : layout_first.f d c s r = some (fst d r) := by
  obtain ⟨⟨h1, h2⟩, ⟨h3, h4⟩, ⟨h5, h6⟩⟩ := h
  have m := mod_bd r (d := d) (by omega)
  unfold layout_first.f fst
  rw [if_neg (by omega), tmod_e hr, w64 (x := 2 * d) (by omega) (by omega), w64 (x := 2 * d + 1) (by omega) (by omega), w64 (x := 2 * d + 1 - r % d) (by omega) (by omega), tmod_e (by omega)]
/-- a sector's place -/
def diskOf (d c l : Int) : Int := (fst d (l / ((d - 2) * c)) + l / c % (d - 2)) % d
def atOf (d c l : Int) : Int := l / ((d - 2) * c) * c + l % c
theorem place_bd {d c s l : Int} (h : Sound d c s) (h0 : 0 ≤ l) (h1 : l < (d - 2) * c * s) :
    (0 ≤ l / ((d - 2) * c) ∧ l / ((d - 2) * c) < s) ∧ (0 ≤ l / c % (d - 2) ∧ l / c % (d - 2) < d - 2) ∧ (0 ≤ l % c ∧ l % c < c) ∧ (0 ≤ diskOf d c l ∧ diskOf d c l < d) ∧ (0 ≤ atOf d c l ∧ atOf d c l < c * s) ∧ (0 ≤ l / c ∧ l / c ≤ l) := by
  have z := sizes h
  have g := h
  obtain ⟨⟨g1, g2⟩, ⟨g3, g4⟩, ⟨g5, g6⟩⟩ := g
  have a := div_bd (m := s) z.1.1 h0 h1
  have m := mod_bd l (d := c) (by omega)
  refine ⟨a, mod_bd _ (by omega), m, mod_bd _ (by omega), ⟨?_, ?_⟩, Int.ediv_nonneg h0 (by omega), Int.ediv_le_self _ h0⟩
  · unfold atOf
    have := Int.mul_nonneg a.1 (show 0 ≤ c by omega)
    omega
  · exact lt_rows m.2 (by omega) a.2
theorem map_yes {d c s l : Int} (h : Sound d c s) (h0 : 0 ≤ l) (h1 : l < (d - 2) * c * s) :
    layout_Map.f d c s l = some (l / ((d - 2) * c), l / c % (d - 2), l % c, diskOf d c l, atOf d c l, 0) := by
  have z := sizes h
  have b := place_bd h h0 h1
  have g := h
  obtain ⟨⟨g1, g2⟩, ⟨g3, g4⟩, ⟨g5, g6⟩⟩ := g
  have f := fst_bd (d := d) (r := l / ((d - 2) * c)) (by omega)
  have p := mul_bd (a := l / ((d - 2) * c)) (b := c) (A := 64) (B := 8) (by omega) (by omega) (by omega) (by omega)
  unfold layout_Map.f
  rw [capacity_yes h]
  simp only [Option.bind_some, if_true]
  rw [if_neg (by omega), if_neg (by omega), w64 (x := d - 2) (by omega) (by omega), w64 (x := (d - 2) * c) (by omega) (by omega), if_neg (by omega), if_neg (by omega), if_neg (by omega),
    tdiv_e h0, tdiv_e h0, tmod_e h0, w64 (x := l / ((d - 2) * c)) (by omega) (by omega), w64 (x := l / c) (by omega) (by omega), first_is h b.1.1 (by omega)]
  simp only [Option.bind_some]
  rw [if_neg (by omega), tmod_e b.2.2.2.2.2.1, w64 (x := fst d (l / ((d - 2) * c)) + l / c % (d - 2)) (by omega) (by omega), tmod_e (by omega), w64 (x := l / ((d - 2) * c) * c) (by omega) (by omega),
    w64 (x := l / ((d - 2) * c) * c + l % c) (by omega) (by omega)]
  rfl
theorem map_far {d c s l : Int} (h : Sound d c s) (h1 : ¬ (0 ≤ l ∧ l < (d - 2) * c * s)) : layout_Map.f d c s l = some (0, 0, 0, 0, 0, 2) := by
  unfold layout_Map.f
  rw [capacity_yes h]
  simp only [Option.bind_some, if_true]
  by_cases h2 : l < 0
  · rw [if_pos h2]
  · rw [if_neg h2, if_pos (by omega)]
theorem map_no {d c s l : Int} (h : ¬ Sound d c s) : layout_Map.f d c s l = some (0, 0, 0, 0, 0, 1) := by
  unfold layout_Map.f
  rw [capacity_no h]
  rfl
theorem awake_is : ravelinlaw03_awake.f = some true := by decide +kernel
/-! ### Row -/
def cellAt (d c st off i : Int) : S27 := ⟨(fst d st + i) % d, st * c + off⟩
def cellsTo (d c st off : Int) (n : Nat) : List S27 := (List.range n).map fun (i : Nat) => cellAt d c st off (i : Int)
theorem cells_len (d c st off : Int) (n : Nat) : (cellsTo d c st off n).length = n := by simp [cellsTo]
theorem cells_succ (d c st off : Int) (n : Nat) : cellsTo d c st off (n + 1) = cellsTo d c st off n ++ [cellAt d c st off n] := by simp [cellsTo, List.range_succ]
def InRow (c s st off : Int) : Prop := (0 ≤ st ∧ st < s) ∧ (0 ≤ off ∧ off < c)
theorem row_loop {d c s st off : Int} (h : Sound d c s) (hr : InRow c s st off) (n : Nat) : ∀ (k i : Nat), (i : Int) + n = d → n < k →
    layout_Row.l0 k st off (cellsTo d c st off i) d i d c s = some (cellsTo d c st off d.toNat, 0) := by
  have g := h
  obtain ⟨⟨g1, g2⟩, ⟨g3, g4⟩, ⟨g5, g6⟩⟩ := g
  obtain ⟨⟨r0, r1⟩, ⟨o0, o1⟩⟩ := hr
  have f := fst_bd (d := d) (r := st) (by omega)
  have m := mul_bd (a := st) (b := c) (A := 63) (B := 8) (by omega) (by omega) (by omega) (by omega)
  induction n with
  | zero =>
    intro k i hd hk
    obtain ⟨k, rfl⟩ : ∃ m, k = m + 1 := ⟨k - 1, by omega⟩
    simp only [layout_Row.l0]
    rw [if_neg (by omega), show d.toNat = i from by omega]
  | succ n ih =>
    intro k i hd hk
    obtain ⟨k, rfl⟩ : ∃ m, k = m + 1 := ⟨k - 1, by omega⟩
    simp only [layout_Row.l0]
    rw [if_pos (by omega), first_is h r0 (by omega)]
    simp only [Option.bind_some]
    rw [if_neg (by omega), cells_len, if_pos (by omega), w64 (x := fst d st + i) (by omega) (by omega), tmod_e (by omega), w64 (x := st * c) (by omega) (by omega), w64 (x := st * c + off) (by omega) (by omega), w64 (x := (i : Int) + 1) (by omega) (by omega)]
    have := ih k (i + 1) (by omega) (by omega)
    rw [cells_succ] at this
    simpa [cellAt] using this
theorem row_yes {d c s st off : Int} (h : Sound d c s) (hr : InRow c s st off) (k : Nat) (hk : 34 ≤ k) : layout_Row.f k d c s st off = some (cellsTo d c st off d.toNat, 0) := by
  have l := fun k hk => row_loop h hr d.toNat k 0 (by have := h.1.1; omega) hk
  have g := h
  obtain ⟨⟨g1, g2⟩, ⟨g3, g4⟩, ⟨g5, g6⟩⟩ := g
  obtain ⟨⟨r0, r1⟩, ⟨o0, o1⟩⟩ := hr
  obtain ⟨k, rfl⟩ : ∃ m, k = m + 1 := ⟨k - 1, by omega⟩
  unfold layout_Row.f
  rw [check_yes h]
  simp only [Option.bind_some, if_true]
  rw [if_neg (by omega), if_neg (by omega), if_neg (by omega)]
  have e : decide (off ≥ c) = false := by simp; omega
  rw [e]
  simp only [layout_Row.j0]
  rw [if_neg (by decide)]
  exact l k (by omega)
theorem row_far {d c s st off : Int} (h : Sound d c s) (hr : ¬ InRow c s st off) (k : Nat) : layout_Row.f (k + 1) d c s st off = some ([], 2) := by
  unfold InRow at hr
  unfold layout_Row.f
  rw [check_yes h]
  simp only [Option.bind_some, if_true]
  by_cases h1 : st < 0
  · rw [if_pos h1]; simp [layout_Row.j0]
  · rw [if_neg h1]
    by_cases h2 : st ≥ s
    · rw [if_pos h2]; simp [layout_Row.j0]
    · rw [if_neg h2]
      by_cases h3 : off < 0
      · rw [if_pos h3]; simp [layout_Row.j0]
      · rw [if_neg h3]
        have e : decide (off ≥ c) = true := by simp; omega
        rw [e]
        simp [layout_Row.j0]
theorem row_no {d c s st off : Int} (h : ¬ Sound d c s) (k : Nat) : layout_Row.f k d c s st off = some ([], 1) := by
  unfold layout_Row.f
  rw [check_no h]
  rfl

/-! ### turns -/
theorem rd_cells {d c st off : Int} {n i : Nat} (h : i < n) : rd_T27 (cellsTo d c st off n) (i : Int) = cellAt d c st off i := by
  unfold rd_T27 cellsTo
  simp [h]
theorem fst_cases {d r : Int} (hd : 4 ≤ d) : fst d r = if r % d = 0 then 1 else if r % d = 1 then 0 else d + 1 - r % d := by
  have m := mod_bd r (d := d) (by omega)
  unfold fst
  split
  · exact emod_k (k := 2) (by omega) (by omega) (by omega)
  · split
    · exact emod_k (k := 2) (by omega) (by omega) (by omega)
    · exact emod_k (k := 1) (by omega) (by omega) (by omega)
theorem mod_next {d r : Int} (hd : 4 ≤ d) : (r + 1) % d = if r % d + 1 = d then 0 else r % d + 1 := by
  have m := mod_bd r (d := d) (by omega)
  have e := div_add r d
  split
  · exact emod_k (k := r / d + 1) (by rw [Int.mul_add]; omega) (by omega) (by omega)
  · exact emod_k (k := r / d) (by omega) (by omega) (by omega)
theorem fst_next {d r : Int} (hd : 4 ≤ d) : fst d (r + 1) = if fst d r = 0 then d - 1 else fst d r - 1 := by
  have m := mod_bd r (d := d) (by omega)
  rw [fst_cases hd, fst_cases hd, mod_next hd]
  repeat' split
  all_goals omega
theorem next_disk {d r i : Int} (hd : 4 ≤ d) (i0 : 0 ≤ i) (i1 : i < d) : (fst d (r + 1) + i) % d = ((fst d r + i) % d + d - 1) % d := by
  have f := fst_bd (d := d) (r := r) (by omega)
  have f' := fst_bd (d := d) (r := r + 1) (by omega)
  have e := fst_next (d := d) (r := r) hd
  have v := mod_bd (fst d r + i) (d := d) (by omega)
  have t := turn f.1 f.2 i0 i1
  rw [turn f'.1 f'.2 i0 i1]
  have w : ((fst d r + i) % d + d - 1) % d = if (fst d r + i) % d = 0 then d - 1 else (fst d r + i) % d - 1 := by
    split
    · exact emod_k (k := 0) (by omega) (by omega) (by omega)
    · exact emod_k (k := 1) (by omega) (by omega) (by omega)
  rw [w, t]
  clear w t v
  repeat' split
  all_goals (split at e <;> omega)
theorem disk_inj {d r i j : Int} (hd : 4 ≤ d) (i0 : 0 ≤ i) (i1 : i < d) (j0 : 0 ≤ j) (j1 : j < d) (h : (fst d r + i) % d = (fst d r + j) % d) : i = j := by
  have f := fst_bd (d := d) (r := r) (by omega)
  rw [turn f.1 f.2 i0 i1, turn f.1 f.2 j0 j1] at h
  split at h <;> split at h <;> omega
/-- what the list of seen disks holds behind i places -/
def Seen (d st : Int) (i : Nat) (l : List Bool) : Prop := l.length = 32 ∧ ∀ p : Nat, l.getD p false = true → ∃ j : Nat, j < i ∧ (p : Int) = (fst d st + j) % d
theorem seen_zero (d st : Int) : Seen d st 0 (List.replicate 32 false) := by
  refine ⟨by simp, fun p hp => ?_⟩
  rw [List.getD_eq_getElem?_getD, List.getElem?_replicate] at hp
  split at hp <;> simp at hp
theorem seen_next {d st : Int} {i : Nat} {l : List Bool} (h : Seen d st i l) (hd : 0 < d) : Seen d st (i + 1) (l.set ((fst d st + i) % d).toNat true) := by
  have v := mod_bd (fst d st + i) hd
  refine ⟨by simp [h.1], fun p hp => ?_⟩
  by_cases e : ((fst d st + i) % d).toNat = p
  · exact ⟨i, by omega, by omega⟩
  · rw [List.getD_eq_getElem?_getD, List.getElem?_set_ne e, ← List.getD_eq_getElem?_getD] at hp
    obtain ⟨j, hj, hp⟩ := h.2 p hp
    exact ⟨j, by omega, hp⟩
theorem l1_true {d c s st off : Int} (h : Sound d c s) (hr : InRow c s st off) (n : Nat) : ∀ (k i : Nat), (i : Int) + n = d → 2 * n + 2 < k →
    ravelinlaw03_LayoutTurns.l1 k (cellsTo d c st off d.toNat) (cellsTo d c (st + 1) off d.toNat) i d c s = some true := by
  have g := h
  obtain ⟨⟨g1, g2⟩, ⟨g3, g4⟩, ⟨g5, g6⟩⟩ := g
  obtain ⟨⟨r0, r1⟩, ⟨o0, o1⟩⟩ := hr
  have f := fst_bd (d := d) (r := st) (by omega)
  induction n with
  | zero =>
    intro k i hd hk
    obtain ⟨k, rfl⟩ : ∃ m, k = m + 1 + 1 := ⟨k - 2, by omega⟩
    simp only [ravelinlaw03_LayoutTurns.l1, cells_len]
    rw [if_neg (by omega)]
    simp only [ravelinlaw03_LayoutTurns.j2, cells_len]
    rw [if_neg (by decide), if_pos (by omega)]
    congr 1
    rw [beq_iff_eq]
    omega
  | succ n ih =>
    intro k i hd hk
    obtain ⟨k, rfl⟩ : ∃ m, k = m + 1 + 1 := ⟨k - 2, by omega⟩
    have hi : i < d.toNat := by omega
    have v := mod_bd (fst d st + i) (d := d) (by omega)
    simp only [ravelinlaw03_LayoutTurns.l1, cells_len]
    rw [if_pos (by omega), decide_eq_true (show (i : Int) < (d.toNat : Int) by omega)]
    simp only [ravelinlaw03_LayoutTurns.j2, cells_len, if_true]
    rw [if_pos (by omega), if_pos (by omega), if_pos (by omega), if_neg (by omega), rd_cells hi, rd_cells hi]
    rw [if_pos (show (cellAt d c (st + 1) off i).f0 = Int.tmod (wrap64 (wrap64 ((cellAt d c st off i).f0 + d) - 1)) d from by
      show (fst d (st + 1) + i) % d = Int.tmod (wrap64 (wrap64 ((fst d st + i) % d + d) - 1)) d
      rw [w64 (x := (fst d st + i) % d + d) (by omega) (by omega), w64 (x := (fst d st + i) % d + d - 1) (by omega) (by omega), tmod_e (by omega)]
      exact next_disk g1 (by omega) (by omega)), w64 (x := (i : Int) + 1) (by omega) (by omega)]
    exact ih k (i + 1) (by omega) (by omega)
theorem l0_true {d c s st off : Int} (h : Sound d c s) (hr : InRow c s st off) (n : Nat) : ∀ (k i : Nat) (l : List Bool), Seen d st i l → (i : Int) + n = d → n + 110 < k →
    ravelinlaw03_LayoutTurns.l0 k st off (cellsTo d c st off d.toNat) l i d c s = some true := by
  have hr0 := hr
  have g := h
  obtain ⟨⟨g1, g2⟩, ⟨g3, g4⟩, ⟨g5, g6⟩⟩ := g
  obtain ⟨⟨r0, r1⟩, ⟨o0, o1⟩⟩ := hr
  have f := fst_bd (d := d) (r := st) (by omega)
  have m := mul_bd (a := st) (b := c) (A := 63) (B := 8) (by omega) (by omega) (by omega) (by omega)
  induction n with
  | zero =>
    intro k i l hs hd hk
    obtain ⟨k, rfl⟩ : ∃ m, k = m + 1 := ⟨k - 1, by omega⟩
    simp only [ravelinlaw03_LayoutTurns.l0, cells_len]
    rw [if_neg (by omega), w64 (x := st + 1) (by omega) (by omega)]
    by_cases hn : st + 1 < s
    · rw [row_yes h ⟨⟨by omega, hn⟩, o0, o1⟩ k (by omega)]
      simp only [Option.bind_some, if_true]
      have := l1_true h hr0 d.toNat k 0 (by omega) (by omega)
      simpa using this
    · obtain ⟨k, rfl⟩ : ∃ m, k = m + 1 := ⟨k - 1, by omega⟩
      rw [row_far h (fun e => hn e.1.2) k]
      simp only [Option.bind_some]
      rw [if_neg (by decide), if_pos (by omega), w64 (x := s - 1) (by omega) (by omega)]
      congr 1
      rw [beq_iff_eq]
      omega
  | succ n ih =>
    intro k i l hs hd hk
    obtain ⟨k, rfl⟩ : ∃ m, k = m + 1 := ⟨k - 1, by omega⟩
    have hi : i < d.toNat := by omega
    have v := mod_bd (fst d st + i) (d := d) (by omega)
    simp only [ravelinlaw03_LayoutTurns.l0, cells_len]
    rw [if_pos (by omega), if_pos (by omega), rd_cells hi]
    have e0 : (cellAt d c st off i).f0 = (fst d st + i) % d := rfl
    have hns : ¬ rdOf false l (cellAt d c st off i).f0 = true := by
      intro e
      obtain ⟨j, hj, he⟩ := hs.2 _ e
      have := disk_inj (r := st) (i := i) (j := j) g1 (by omega) (by omega) (by omega) (by omega) (by rw [← he]; omega)
      omega
    rw [if_neg (show ¬ (cellAt d c st off i).f0 < 0 by omega), if_neg (show ¬ (cellAt d c st off i).f0 ≥ d by omega), if_pos (show 0 ≤ (cellAt d c st off i).f0 by omega), if_pos (show (cellAt d c st off i).f0 < (l.length : Int) by rw [hs.1]; omega), if_neg hns,
      if_pos (show (cellAt d c st off i).f1 = wrap64 (wrap64 (st * c) + off) from by
        show st * c + off = _
        rw [w64 (x := st * c) (by omega) (by omega), w64 (x := st * c + off) (by omega) (by omega)]), w64 (x := (i : Int) + 1) (by omega) (by omega)]
    exact ih k (i + 1) _ (seen_next hs (by omega)) (by omega) (by omega)
theorem law (d c s st off : Int) : ∃ k, ravelinlaw03_LayoutTurns.f k d c s st off = some true := by
  refine ⟨200, ?_⟩
  unfold ravelinlaw03_LayoutTurns.f
  rw [awake_is]
  simp only [Option.bind_some, if_true]
  by_cases h : Sound d c s
  · by_cases hr : InRow c s st off
    · rw [row_yes h hr 200 (by omega)]
      simp only [Option.bind_some, if_true]
      rw [if_pos (by decide)]
      have := l0_true h hr d.toNat 200 0 _ (seen_zero d st) (by have := h.1.1; omega) (by have := h.1.2; omega)
      simpa using this
    · rw [row_far h hr 199]
      rfl
  · rw [row_no h 200]
    rfl

end Go.Proofs.Ytgedclbfednhlaa.PureLayoutTurns
