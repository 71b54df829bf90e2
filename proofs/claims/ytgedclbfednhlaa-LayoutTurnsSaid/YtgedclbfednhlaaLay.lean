/-
  Check, first, Capacity of the layout by contract. Helper text; no statement is proved here.
-/
import Derived.Test.YtgedclbfednhlaaBase
import Derived.Test.YtgedclbfednhlaaInv1
import Derived.Test.YtgedclbfednhlaaEq
import Derived.Deep.QuietTactic
import Derived.BigQuiet
import Derived.StillTailTactics
set_option linter.unusedVariables false
set_option linter.unusedSimpArgs false
namespace Go.Proofs.Ytgedclbfednhlaa.Lay
open Go.RowKit Go.Proofs.Ytgedclbfednhlaa.Base Go.Proofs.Ytgedclbfednhlaa.Laws Go.Proofs.Ytgedclbfednhlaa.Inv
def Sound (d c s : Int) : Prop := (4 ≤ d ∧ d ≤ 32) ∧ (1 ≤ c ∧ c ≤ 8) ∧ (1 ≤ s ∧ s ≤ 64)
/-- a form's cells -/
def geo (d c s : Int) : List Value := [.int .i64 d, .int .i64 c, .int .i64 s]
theorem check_yes {d c s : Int} (h : Sound d c s) (w : World) : Calls Try.prog 16 #[.agg (geo d c s).toArray] w fun e w' => e = .returned (.int .i64 0) ∧ Below w.heap.size w w' := by
  obtain ⟨⟨h1, h2⟩, ⟨h3, h4⟩, ⟨h5, h6⟩⟩ := h
  unfold geo
  go_enter Try.func16, Try.ntmps16
  go_wp2
  go_ret
  exact ⟨rfl, (Below.refl _ _).alloc (Nat.le_refl _) _⟩
set_option maxHeartbeats 1000000 in
theorem check_no {d c s : Int} (h : ¬ Sound d c s) (w : World) : Calls Try.prog 16 #[.agg (geo d c s).toArray] w fun e w' => e = .returned (.int .i64 1) ∧ Below w.heap.size w w' := by
  unfold geo
  unfold Sound at h
  have hh : d < 4 ∨ (4 ≤ d ∧ 32 < d) ∨ (4 ≤ d ∧ d ≤ 32 ∧ c < 1) ∨ (4 ≤ d ∧ d ≤ 32 ∧ 1 ≤ c ∧ 8 < c) ∨ (4 ≤ d ∧ d ≤ 32 ∧ 1 ≤ c ∧ c ≤ 8 ∧ s < 1) ∨ (4 ≤ d ∧ d ≤ 32 ∧ 1 ≤ c ∧ c ≤ 8 ∧ 1 ≤ s ∧ 64 < s) := by omega
  clear h
  rcases hh with h1 | ⟨h1, h2⟩ | ⟨h1, h2, h3⟩ | ⟨h1, h2, h3, h4⟩ | ⟨h1, h2, h3, h4, h5⟩ | ⟨h1, h2, h3, h4, h5, h6⟩
  all_goals
    go_enter Try.func16, Try.ntmps16
    go_wp2
    go_ret
    exact ⟨rfl, (Below.refl _ _).alloc (Nat.le_refl _) _⟩
/-- the disk of data column 0 -/
def fst (d r : Int) : Int := (2 * d + 1 - r % d) % d
theorem fst_bd {d r : Int} (h : 0 < d) : 0 ≤ fst d r ∧ fst d r < d := ⟨Int.emod_nonneg _ (by omega), Int.emod_lt_of_pos _ h⟩
set_option maxHeartbeats 1000000 in
theorem first_any {d c s r : Int} (h : Sound d c s) (r0 : 0 ≤ r) (r1 : r ≤ 1000000) (w : World) : Calls Try.prog 22 #[.agg (geo d c s).toArray, .int .i64 r] w fun e w' => e = .returned (.int .i64 (fst d r)) ∧ Below w.heap.size w w' := by
  obtain ⟨⟨h1, h2⟩, _, _⟩ := h
  unfold geo
  have hm0 : 0 ≤ r % d := Int.emod_nonneg _ (by omega)
  have hm1 : r % d < d := Int.emod_lt_of_pos _ (by omega)
  have ht : Int.tmod r d = r % d := Int.tmod_eq_emod_of_nonneg r0
  have hf : Int.tmod (2 * d + 1 - r % d) d = fst d r := Int.tmod_eq_emod_of_nonneg (by omega)
  have hz : ¬ d = 0 := by omega
  have fb := fst_bd (d := d) (r := r) (by omega)
  obtain ⟨f, hfe⟩ : ∃ f, f = fst d r := ⟨_, rfl⟩
  rw [← hfe] at hf fb ⊢
  clear hfe
  go_enter Try.func22, Try.ntmps22
  go_wp2
  go_quiet (fail)
  go_wp2
  go_ret
  exact ⟨rfl, below_drewN ((Below.refl _ _).alloc (Nat.le_refl _) _) _⟩
theorem own_below {w w' : World} {base : Nat} {e : TypeId} {size : Nat} {v : Value} {n : Nat} {xs : List Value} (h : w.ownsRow base e size v n xs) (hb : Below w.heap.size w w') : w'.ownsRow base e size v n xs := by
  obtain ⟨h1, h2⟩ := h
  refine ⟨h1, ?_⟩
  rcases h2 with h2 | ⟨g, cap, cur, e1, hbg, hg, h3⟩
  · exact .inl h2
  · exact .inr ⟨g, cap, cur, e1, hbg, (hb.block g (Array.getElem?_eq_some_iff.1 hg).1).trans hg, h3⟩
theorem src_two {w : World} {g : Nat} {p q : Value} {t : TypeId} (hp : p.oneCell' = true) (hq : q.oneCell' = true) (h : Blk w g [p, q] t) : SrcOf w (some ⟨g, 0, none⟩) 1 2 [p, q] := by
  refine ⟨rfl, by simp [hp, hq], .inr ⟨_, rfl, fun j u hu => ?_⟩⟩
  rw [Addr.add_lit, Nat.zero_add, h.cell]
  exact hu
/-- the first k places of a row -/
def placesTo (d c st off : Int) (k : Nat) : List Value := (List.range k).flatMap fun (i : Nat) => [.int .i64 ((fst d st + i) % d), .int .i64 (st * c + off)]
theorem places_succ (d c st off : Int) (k : Nat) : placesTo d c st off (k + 1) = placesTo d c st off k ++ [.int .i64 ((fst d st + k) % d), .int .i64 (st * c + off)] := by simp [placesTo, List.range_succ]
def InRow (c s st off : Int) : Prop := (0 ≤ st ∧ st < s) ∧ (0 ≤ off ∧ off < c)
set_option maxHeartbeats 1000000 in
theorem row_no {d c s st off : Int} (h : ¬ Sound d c s) (w : World) : Calls Try.prog 18 #[.agg (geo d c s).toArray, .int .i64 st, .int .i64 off] w fun e w' => e = .returned (.tuple #[.slice none 0 0, .int .i64 1]) ∧ Below w.heap.size w w' := by
  have HC := Lib.hid (check_no h)
  have HB0 := Lib.hid (blk_at (w := w) (cs := geo d c s) (t := 23) rfl rfl)
  obtain ⟨l, hl⟩ : ∃ l, l = geo d c s := ⟨_, rfl⟩
  have hl3 : l.length = 3 := by rw [hl]; rfl
  rw [← hl] at HC HB0 ⊢
  clear hl h
  go_enter Try.func18, Try.ntmps18
  go_wp2_with (first | (refine wpList_load_blk rfl 23 _ rfl w.heap.size 0 3 rfl 23 l _ HB0.out Try.underlying23 rfl (by kernel_rfl) (by rw [hl3]; omega) l (by rw [List.drop_zero, List.take_of_length_le (by rw [hl3]; omega)]) ?_))
  refine (HC.out _).mono ?_
  rintro e w' ⟨rfl, hb⟩
  have HB := Lib.hid (((Below.refl _ _).alloc (Nat.le_refl _) _).trans (hb.mono (by simp only [size_alloc]; omega)))
  clear hb
  go_wp2
  go_ret2
  exact ⟨rfl, HB.out⟩
set_option maxHeartbeats 1000000 in
theorem row_far {d c s st off : Int} (h : Sound d c s) (hr : ¬ InRow c s st off) (w : World) : Calls Try.prog 18 #[.agg (geo d c s).toArray, .int .i64 st, .int .i64 off] w fun e w' => e = .returned (.tuple #[.slice none 0 0, .int .i64 2]) ∧ Below w.heap.size w w' := by
  have HC := Lib.hid (check_yes h)
  have HB0 := Lib.hid (blk_at (w := w) (cs := geo d c s) (t := 23) rfl rfl)
  unfold InRow at hr
  have hh : st < 0 ∨ (0 ≤ st ∧ s ≤ st) ∨ (0 ≤ st ∧ st < s ∧ off < 0) ∨ (0 ≤ st ∧ st < s ∧ 0 ≤ off ∧ c ≤ off) := by omega
  clear hr
  obtain ⟨l, hl⟩ : ∃ l, l = geo d c s := ⟨_, rfl⟩
  have hl3 : l.length = 3 := by rw [hl]; rfl
  have HL := Lib.hid hl
  rw [← hl] at HC HB0 ⊢
  clear hl h
  rcases hh with h1 | ⟨h1, h2⟩ | ⟨h1, h2, h3⟩ | ⟨h1, h2, h3, h4⟩
  all_goals
    go_enter Try.func18, Try.ntmps18
    go_wp2_with (first | (refine wpList_load_blk rfl 23 _ rfl w.heap.size 0 3 rfl 23 l _ HB0.out Try.underlying23 rfl (by kernel_rfl) (by rw [hl3]; omega) l (by rw [List.drop_zero, List.take_of_length_le (by rw [hl3]; omega)]) ?_))
    refine (HC.out _).mono ?_
    rintro e w' ⟨rfl, hb⟩
    have HB := Lib.hid (((Below.refl _ _).alloc (Nat.le_refl _) _).trans (hb.mono (by simp only [size_alloc]; omega)))
    have B1 := HB0.out.below hb (by simp only [size_alloc]; omega)
    have c1 := B1.cell 1
    have c2 := B1.cell 2
    rw [HL.out] at c1 c2
    change _ = some (Value.int .i64 c) at c1
    change _ = some (Value.int .i64 s) at c2
    clear hb B1
    go_wp2
    go_ret2
    exact ⟨rfl, HB.out⟩
end Go.Proofs.Ytgedclbfednhlaa.Lay
