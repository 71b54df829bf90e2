/-
  Check and Size of the layout, Check of the reference by contract. Helper text; no statement is proved here.
-/
import Derived.Test.YtmmgejlfcehipaaBase
import Derived.Test.YtmmgejlfcehipaaInv1
import Derived.Test.YtmmgejlfcehipaaEq
import Derived.Test.YtmmgejlfcehipaaInvM
import Derived.Deep.QuietTactic
import Derived.BigQuiet
import Derived.StillTailTactics
set_option linter.unusedVariables false
set_option linter.unusedSimpArgs false
namespace Go.Proofs.Ytmmgejlfcehipaa.Lay
open Go.RowKit Go.Proofs.Ytmmgejlfcehipaa.Base Go.Proofs.Ytmmgejlfcehipaa.Laws Go.Proofs.Ytmmgejlfcehipaa.Inv Go.Proofs.Ytmmgejlfcehipaa.InvM
def Sound (d c s : Int) : Prop := (4 ≤ d ∧ d ≤ 32) ∧ (1 ≤ c ∧ c ≤ 8) ∧ (1 ≤ s ∧ s ≤ 64)
/-- a form's cells -/
def geo (d c s : Int) : List Value := [.int .i64 d, .int .i64 c, .int .i64 s]
theorem check_yes {d c s : Int} (h : Sound d c s) (w : World) : Calls Try.prog 44 #[.agg (geo d c s).toArray] w fun e w' => e = .returned (.int .i64 0) ∧ Below w.heap.size w w' := by
  obtain ⟨⟨h1, h2⟩, ⟨h3, h4⟩, ⟨h5, h6⟩⟩ := h
  unfold geo
  go_enter Try.func44, Try.ntmps44
  go_wp2
  go_ret
  exact ⟨rfl, (Below.refl _ _).alloc (Nat.le_refl _) _⟩
set_option maxHeartbeats 1000000 in
theorem check_no {d c s : Int} (h : ¬ Sound d c s) (w : World) : Calls Try.prog 44 #[.agg (geo d c s).toArray] w fun e w' => e = .returned (.int .i64 1) ∧ Below w.heap.size w w' := by
  unfold geo
  unfold Sound at h
  have hh : d < 4 ∨ (4 ≤ d ∧ 32 < d) ∨ (4 ≤ d ∧ d ≤ 32 ∧ c < 1) ∨ (4 ≤ d ∧ d ≤ 32 ∧ 1 ≤ c ∧ 8 < c) ∨ (4 ≤ d ∧ d ≤ 32 ∧ 1 ≤ c ∧ c ≤ 8 ∧ s < 1) ∨ (4 ≤ d ∧ d ≤ 32 ∧ 1 ≤ c ∧ c ≤ 8 ∧ 1 ≤ s ∧ 64 < s) := by omega
  clear h
  rcases hh with h1 | ⟨h1, h2⟩ | ⟨h1, h2, h3⟩ | ⟨h1, h2, h3, h4⟩ | ⟨h1, h2, h3, h4, h5⟩ | ⟨h1, h2, h3, h4, h5, h6⟩
  all_goals
    go_enter Try.func44, Try.ntmps44
    go_wp2
    go_ret
    exact ⟨rfl, (Below.refl _ _).alloc (Nat.le_refl _) _⟩
theorem rcheck_yes {d c s : Int} (h : Sound d c s) (w : World) : Calls Try.prog 39 #[.agg (geo d c s).toArray] w fun e w' => e = .returned (.int .i64 0) ∧ Below w.heap.size w w' := by
  obtain ⟨⟨h1, h2⟩, ⟨h3, h4⟩, ⟨h5, h6⟩⟩ := h
  unfold geo
  go_enter Try.func39, Try.ntmps39
  go_wp2
  go_ret
  exact ⟨rfl, (Below.refl _ _).alloc (Nat.le_refl _) _⟩
set_option maxHeartbeats 1000000 in
theorem rcheck_no {d c s : Int} (h : ¬ Sound d c s) (w : World) : Calls Try.prog 39 #[.agg (geo d c s).toArray] w fun e w' => e = .returned (.int .i64 1) ∧ Below w.heap.size w w' := by
  unfold geo
  unfold Sound at h
  have hh : d < 4 ∨ (4 ≤ d ∧ 32 < d) ∨ (4 ≤ d ∧ d ≤ 32 ∧ c < 1) ∨ (4 ≤ d ∧ d ≤ 32 ∧ 1 ≤ c ∧ 8 < c) ∨ (4 ≤ d ∧ d ≤ 32 ∧ 1 ≤ c ∧ c ≤ 8 ∧ s < 1) ∨ (4 ≤ d ∧ d ≤ 32 ∧ 1 ≤ c ∧ c ≤ 8 ∧ 1 ≤ s ∧ 64 < s) := by omega
  clear h
  rcases hh with h1 | ⟨h1, h2⟩ | ⟨h1, h2, h3⟩ | ⟨h1, h2, h3, h4⟩ | ⟨h1, h2, h3, h4, h5⟩ | ⟨h1, h2, h3, h4, h5, h6⟩
  all_goals
    go_enter Try.func39, Try.ntmps39
    go_wp2
    go_ret
    exact ⟨rfl, (Below.refl _ _).alloc (Nat.le_refl _) _⟩
set_option maxHeartbeats 1000000 in
theorem size_yes {d c s : Int} (h : Sound d c s) (w : World) : Calls Try.prog 38 #[.agg (geo d c s).toArray] w fun e w' => e = .returned (.tuple #[.int .i64 (c * s), .int .i64 0]) ∧ Below w.heap.size w w' := by
  have HC := Lib.hid (check_yes h)
  have HB0 := Lib.hid (blk_at (w := w) (cs := geo d c s) (t := 50) rfl rfl)
  obtain ⟨⟨g1, g2⟩, ⟨g3, g4⟩, ⟨g5, g6⟩⟩ := h
  have m0 : 0 ≤ c * s := Int.mul_nonneg (by omega) (by omega)
  have m1 : c * s ≤ 8 * 64 := Int.mul_le_mul (by omega) (by omega) (by omega) (by omega)
  have hw : IntKind.i64.wrap (c * s) = c * s := by rw [IntKind.wrap_i64]; omega
  obtain ⟨l, hl⟩ : ∃ l, l = geo d c s := ⟨_, rfl⟩
  have hl3 : l.length = 3 := by rw [hl]; rfl
  have HL := Lib.hid hl
  rw [← hl] at HC HB0 ⊢
  clear hl
  go_enter Try.func38, Try.ntmps38
  go_wp2_with (first | (refine wpList_load_g rfl 50 _ rfl w.heap.size 3 rfl 50 l _ HB0.out Try.underlying50 rfl (by kernel_rfl) hl3 ?_))
  refine (HC.out _).mono ?_
  rintro e w1 ⟨rfl, hb⟩
  have HBL := Lib.hid (((Below.refl _ _).alloc (Nat.le_refl _) _).trans (hb.mono (by simp only [size_alloc]; omega)) : Below w.heap.size w w1)
  have B1 := Lib.hid (HB0.out.below hb (by simp only [size_alloc]; omega))
  have c1 := B1.out.cell 1
  have c2 := B1.out.cell 2
  rw [HL.out] at c1 c2
  change _ = some (Value.int .i64 c) at c1
  change _ = some (Value.int .i64 s) at c2
  clear hb
  go_wp2
  go_ret2
  exact ⟨rfl, HBL.out⟩
theorem size_no {d c s : Int} (h : ¬ Sound d c s) (w : World) : Calls Try.prog 38 #[.agg (geo d c s).toArray] w fun e w' => e = .returned (.tuple #[.int .i64 0, .int .i64 1]) ∧ Below w.heap.size w w' := by
  have HC := Lib.hid (check_no h)
  have HB0 := Lib.hid (blk_at (w := w) (cs := geo d c s) (t := 50) rfl rfl)
  obtain ⟨l, hl⟩ : ∃ l, l = geo d c s := ⟨_, rfl⟩
  have hl3 : l.length = 3 := by rw [hl]; rfl
  rw [← hl] at HC HB0 ⊢
  clear hl
  go_enter Try.func38, Try.ntmps38
  go_wp2_with (first | (refine wpList_load_g rfl 50 _ rfl w.heap.size 3 rfl 50 l _ HB0.out Try.underlying50 rfl (by kernel_rfl) hl3 ?_))
  refine (HC.out _).mono ?_
  rintro e w1 ⟨rfl, hb⟩
  have HBL := Lib.hid (((Below.refl _ _).alloc (Nat.le_refl _) _).trans (hb.mono (by simp only [size_alloc]; omega)) : Below w.heap.size w w1)
  clear hb
  go_wp2
  go_ret2
  exact ⟨rfl, HBL.out⟩
end Go.Proofs.Ytmmgejlfcehipaa.Lay
