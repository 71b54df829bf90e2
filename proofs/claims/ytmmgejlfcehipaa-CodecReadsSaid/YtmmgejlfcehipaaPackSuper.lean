/-
  PackSuper of the codec by contract. Helper text; no statement is proved here.
-/
import Derived.Test.YtmmgejlfcehipaaSupPlain
import Derived.Deep.Cut
set_option linter.unusedVariables false
set_option linter.unusedSimpArgs false
namespace Go.Proofs.Ytmmgejlfcehipaa.Codec
open Go.RowKit Go.Proofs.Ytmmgejlfcehipaa.Base Go.Proofs.Ytmmgejlfcehipaa.Laws Go.Proofs.Ytmmgejlfcehipaa.Lay Go.Proofs.Ytmmgejlfcehipaa.InvM Go.Proofs.Ytmmgejlfcehipaa.Inv
set_option maxHeartbeats 2000000 in
theorem packsuper_form {x : Su} (h : ¬ Sound x.d x.c x.s) (w : World) : Calls Try.prog 23 #[.agg x.cells.toArray] w fun e w' => e = .returned (.tuple #[.slice none 0 0, .int .i64 1]) ∧ Below w.heap.size w w' := by
  have HB0 := Lib.hid (blk_at (w := w) (cs := x.cells) (t := 52) rfl rfl)
  have HS := Lib.hid (fun w' => size_no h w')
  have hg3 : (x.cells.drop 0).take 3 = geo x.d x.c x.s := rfl
  have hx7 : x.cells.length = 7 := rfl
  obtain ⟨cs, hcs⟩ : ∃ cs, cs = x.cells := ⟨_, rfl⟩
  rw [← hcs] at HB0 hg3 hx7 ⊢
  clear hcs
  obtain ⟨l3, hl3⟩ : ∃ l, l = geo x.d x.c x.s := ⟨_, rfl⟩
  rw [← hl3] at HS hg3
  clear hl3
  go_enter Try.func23, Try.ntmps23
  go_wp2_with (first | (refine wpList_load_blk rfl 50 _ rfl w.heap.size 0 3 rfl 52 cs _ HB0.out Try.underlying50 rfl (by kernel_rfl) (by rw [hx7]; omega) l3 hg3 ?_))
  refine (HS.out _).mono ?_
  rintro e w1 ⟨rfl, hb⟩
  have L1 := Lib.hid (((Below.refl _ _).alloc (Nat.le_refl _) _).trans (hb.mono (by simp only [size_alloc]; omega)) : Below w.heap.size w w1)
  clear hb
  go_wp2
  go_ret2
  exact ⟨rfl, L1.out⟩
set_option maxHeartbeats 2000000 in
theorem packsuper_arg {x : Su} (h : Sound x.d x.c x.s) (hn : ¬ ((0 ≤ x.k ∧ x.k < x.d) ∧ (0 ≤ x.m ∧ x.m ≤ x.c * x.s))) (w : World) : Calls Try.prog 23 #[.agg x.cells.toArray] w fun e w' => e = .returned (.tuple #[.slice none 0 0, .int .i64 2]) ∧ Below w.heap.size w w' := by
  have HB0 := Lib.hid (blk_at (w := w) (cs := x.cells) (t := 52) rfl rfl)
  have HS := Lib.hid (fun w' => size_yes h w')
  have hg3 : (x.cells.drop 0).take 3 = geo x.d x.c x.s := rfl
  have hx7 : x.cells.length = 7 := rfl
  have d0 : x.cells[0]? = some (.int .i64 x.d) := rfl
  have d3 : x.cells[3]? = some (.int .i64 x.k) := rfl
  have d6 : x.cells[6]? = some (.int .i64 x.m) := rfl
  obtain ⟨cs, hcs⟩ : ∃ cs, cs = x.cells := ⟨_, rfl⟩
  rw [← hcs] at HB0 hg3 hx7 d0 d3 d6 ⊢
  have D0 := Lib.hid d0
  have D3 := Lib.hid d3
  have D6 := Lib.hid d6
  clear hcs d0 d3 d6
  obtain ⟨l3, hl3⟩ : ∃ l, l = geo x.d x.c x.s := ⟨_, rfl⟩
  rw [← hl3] at HS hg3
  clear hl3
  obtain ⟨cap, hcap⟩ : ∃ cap, cap = x.c * x.s := ⟨_, rfl⟩
  rw [← hcap] at HS hn
  clear hcap h
  obtain ⟨d, c, s, k, arr, seq, m⟩ := x
  simp only at *
  go_enter Try.func23, Try.ntmps23
  go_wp2_with (first | (refine wpList_load_blk rfl 50 _ rfl w.heap.size 0 3 rfl 52 cs _ HB0.out Try.underlying50 rfl (by kernel_rfl) (by rw [hx7]; omega) l3 hg3 ?_))
  refine (HS.out _).mono ?_
  rintro e w1 ⟨rfl, hb⟩
  have L1 := Lib.hid (((Below.refl _ _).alloc (Nat.le_refl _) _).trans (hb.mono (by simp only [size_alloc]; omega)) : Below w.heap.size w w1)
  have B1 := Lib.hid (HB0.out.below hb (by simp only [size_alloc]; omega))
  have c0 := (B1.out.cell 0).trans D0.out
  have c3 := (B1.out.cell 3).trans D3.out
  have c6 := (B1.out.cell 6).trans D6.out
  clear hb
  have hh : k < 0 ∨ (0 ≤ k ∧ d ≤ k) ∨ (0 ≤ k ∧ k < d ∧ m < 0) ∨ (0 ≤ k ∧ k < d ∧ 0 ≤ m ∧ cap < m) := by omega
  clear hn
  rcases hh with h1 | ⟨h1, h2⟩ | ⟨h1, h2, h3⟩ | ⟨h1, h2, h3, h4⟩
  all_goals
    go_wp2
    go_ret2
    exact ⟨rfl, L1.out⟩
end Go.Proofs.Ytmmgejlfcehipaa.Codec
