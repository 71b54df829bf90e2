/-
  Row of the layout by contract. Helper text; no statement is proved here.
-/
import Derived.Test.YtgedclbfednhlaaLay
set_option linter.unusedVariables false
set_option linter.unusedSimpArgs false
namespace Go.Proofs.Ytgedclbfednhlaa.Lay
open Go.RowKit Go.Proofs.Ytgedclbfednhlaa.Base Go.Proofs.Ytgedclbfednhlaa.Laws Go.Proofs.Ytgedclbfednhlaa.Inv
theorem w64 {x : Int} (h : -9223372036854775808 ≤ x) (h' : x ≤ 9223372036854775807) : IntKind.i64.wrap x = x := by rw [IntKind.wrap_i64]; omega
theorem info_place : (Try.prog.info? 27).map (fun i => (i.zero, i.size, i.bytes)) = some (some (.agg #[.int .i64 0, .int .i64 0]), 2, 16) := by kernel_rfl
set_option maxRecDepth 4000 in
set_option maxHeartbeats 2000000 in
theorem row_yes {d c s st off : Int} (h : Sound d c s) (hr : InRow c s st off) (w : World) : Calls Try.prog 18 #[.agg (geo d c s).toArray, .int .i64 st, .int .i64 off] w fun e w' => ∃ v, e = .returned (.tuple #[v, .int .i64 0]) ∧ w'.ownsRow w.heap.size 27 2 v d.toNat (placesTo d c st off d.toNat) ∧ Below w.heap.size w w' := by
  have HC := Lib.hid (check_yes h)
  have HF := Lib.hid (fun w => first_any h hr.1.1 (by have := hr.1.2; have := h.2.2.2; omega) w)
  have HB0 := Lib.hid (blk_at (w := w) (cs := geo d c s) (t := 23) rfl rfl)
  obtain ⟨⟨r0, r1⟩, ⟨o0, o1⟩⟩ := hr
  obtain ⟨⟨g1, g2⟩, ⟨g3, g4⟩, ⟨g5, g6⟩⟩ := h
  have m0 : 0 ≤ st * c := Int.mul_nonneg r0 (by omega)
  have m1 : st * c ≤ 63 * 8 := Int.mul_le_mul (by omega) g4 (by omega) (by omega)
  have fb := fst_bd (d := d) (r := st) (by omega)
  obtain ⟨l, hl⟩ : ∃ l, l = geo d c s := ⟨_, rfl⟩
  have hl3 : l.length = 3 := by rw [hl]; rfl
  have HL := Lib.hid hl
  rw [← hl] at HC HF HB0 ⊢
  clear hl
  have hdd : ((d.toNat : Nat) : Int) = d := by omega
  go_enter Try.func18, Try.ntmps18
  go_wp2_with (first | (refine wpList_load_blk rfl 23 _ rfl w.heap.size 0 3 rfl 23 l _ HB0.out Try.underlying23 rfl (by kernel_rfl) (by rw [hl3]; omega) l (by rw [List.drop_zero, List.take_of_length_le (by rw [hl3]; omega)]) ?_))
  refine (HC.out _).mono ?_
  rintro e w1 ⟨rfl, hb⟩
  have HBL := Lib.hid (((Below.refl _ _).alloc (Nat.le_refl _) _).trans (hb.mono (by simp only [size_alloc]; omega)) : Below w.heap.size w w1)
  have B1 := Lib.hid (HB0.out.below hb (by simp only [size_alloc]; omega))
  have c0 := B1.out.cell 0
  have c1 := B1.out.cell 1
  have c2 := B1.out.cell 2
  rw [HL.out] at c0 c1 c2
  change _ = some (Value.int .i64 d) at c0
  change _ = some (Value.int .i64 c) at c1
  change _ = some (Value.int .i64 s) at c2
  clear hb
  go_wp2
  clear c0 c1 c2
  go_loopw [9, 36] (fun v i wr => ∃ k : Nat, (k : Int) ≤ d ∧ i = .int .i64 k ∧ Blk wr w.heap.size l 23 ∧ wr.ownsRow w.heap.size 27 2 v k (placesTo d c st off k) ∧ Below w.heap.size w wr) (fun _ i _ => (d - intOf i).toNat)
  case atStart => exact ⟨0, by omega, rfl, B1.out, World.ownsRow_nil _ _ _ _, HBL.out⟩
  case round =>
    obtain ⟨k, hk, rfl, b, hown, hb⟩ := hrel
    have B := Lib.hid b
    have HO := Lib.hid hown
    have HB := Lib.hid hb
    clear b hown hb B1 HBL
    by_cases hkd : (k : Int) < d
    · have keep : ∀ (w' w'' : World), (Blk w' w.heap.size l 23 ∧ w'.ownsRow w.heap.size 27 2 u9 k (placesTo d c st off k) ∧ Below w.heap.size w w') → Below w'.heap.size w' w'' → (Blk w'' w.heap.size l 23 ∧ w''.ownsRow w.heap.size 27 2 u9 k (placesTo d c st off k) ∧ Below w.heap.size w w'') :=
        fun w' w'' h hb => ⟨h.1.below hb h.1.lt, own_below h.2.1 hb, h.2.2.trans (hb.mono h.2.2.size)⟩
      have KEEP := Lib.hid keep
      clear keep
      have cell0 : ∀ w', Blk w' w.heap.size l 23 → w'.cell? ⟨w.heap.size, 0, none⟩ = some (Value.int .i64 d) := fun w' h => by rw [h.cell, HL.out]; rfl
      have cell1 : ∀ w', Blk w' w.heap.size l 23 → w'.cell? ⟨w.heap.size, 1, none⟩ = some (Value.int .i64 c) := fun w' h => by rw [h.cell, HL.out]; rfl
      have C0 := Lib.hid cell0
      have C1 := Lib.hid cell1
      clear cell0 cell1
      have hmod : Int.tmod (fst d st + k) d = (fst d st + k) % d := Int.tmod_eq_emod_of_nonneg (by omega)
      have hdz : ¬ d = 0 := by omega
      have hm0 := Int.emod_nonneg (fst d st + k) hdz
      have hm1 := Int.emod_lt_of_pos (fst d st + k) (show 0 < d by omega)
      have HP := Lib.hid (places_succ d c st off k)
      obtain ⟨f, hf⟩ : ∃ f, f = fst d st := ⟨_, rfl⟩
      rw [← hf] at hmod hm0 hm1 HP fb HF
      clear hf
      go_wp2
      refine wp_region_inv_one (fun w' => Blk w' w.heap.size l 23 ∧ w'.ownsRow w.heap.size 27 2 u9 k (placesTo d c st off k) ∧ Below w.heap.size w w') 15 _ (by kernel_rfl) (by kernel_rfl) ⟨B.out.drew, HO.out.drew, HB.out.drew⟩ rfl rfl (fun _ _ _ _ h => h) ?_
      simp only [Act.put, List.setIfInBounds_toArray, List.set_cons_zero, List.set_cons_succ]
      simp only [List.take_succ_cons, List.take_zero, List.drop_succ_cons, List.drop_zero]
      refine inv_load_blk rfl 23 _ rfl w.heap.size 0 3 rfl 23 l _ (fun w' h => h.1) Try.underlying23 rfl (by kernel_rfl) (by rw [hl3]; omega) l (by rw [List.drop_zero, List.take_of_length_le (by rw [hl3]; omega)]) ?_
      simp only [Act.put, List.setIfInBounds_toArray, List.set_cons_zero, List.set_cons_succ]
      refine inv_move _ rfl rfl ?_
      simp only [Act.put, List.setIfInBounds_toArray, List.set_cons_zero, List.set_cons_succ]
      refine inv_call (.int .i64 f) rfl 22 #[.agg l.toArray, .int .i64 st] (fun w' _ => by go_simp) (fun w' h => (HF.out w').mono fun e w'' ⟨he, hb⟩ => ⟨he, KEEP.out _ _ h hb⟩) ?_
      simp only [Act.put, List.setIfInBounds_toArray, List.set_cons_zero, List.set_cons_succ]
      refine inv_move _ rfl rfl ?_
      simp only [Act.put, List.setIfInBounds_toArray, List.set_cons_zero, List.set_cons_succ]
      refine inv_value (.int .i64 (f + k)) rfl (fun w' _ => by go_simp; exact w64 (by omega) (by omega)) ?_
      simp only [Act.put, List.setIfInBounds_toArray, List.set_cons_zero, List.set_cons_succ]
      refine inv_value (.pointer (some ⟨w.heap.size, 0, none⟩)) rfl (fun w' _ => by go_simp) ?_
      simp only [Act.put, List.setIfInBounds_toArray, List.set_cons_zero, List.set_cons_succ]
      refine inv_value (.int .i64 d) rfl (fun w' h => by have c0 := C0.out w' h.1; go_simp) ?_
      simp only [Act.put, List.setIfInBounds_toArray, List.set_cons_zero, List.set_cons_succ]
      refine inv_value (.int .i64 ((f + k) % d)) rfl (fun w' _ => by go_simp) ?_
      simp only [Act.put, List.setIfInBounds_toArray, List.set_cons_zero, List.set_cons_succ]
      refine inv_move _ rfl rfl ?_
      simp only [Act.put, List.setIfInBounds_toArray, List.set_cons_zero, List.set_cons_succ]
      refine inv_value (.pointer (some ⟨w.heap.size, 1, none⟩)) rfl (fun w' _ => by go_simp) ?_
      simp only [Act.put, List.setIfInBounds_toArray, List.set_cons_zero, List.set_cons_succ]
      refine inv_value (.int .i64 c) rfl (fun w' h => by have c0 := C1.out w' h.1; go_simp) ?_
      simp only [Act.put, List.setIfInBounds_toArray, List.set_cons_zero, List.set_cons_succ]
      refine inv_value (.int .i64 (st * c)) rfl (fun w' _ => by go_simp; exact w64 (by omega) (by omega)) ?_
      simp only [Act.put, List.setIfInBounds_toArray, List.set_cons_zero, List.set_cons_succ]
      refine inv_move _ rfl rfl ?_
      simp only [Act.put, List.setIfInBounds_toArray, List.set_cons_zero, List.set_cons_succ]
      refine inv_value (.int .i64 (st * c + off)) rfl (fun w' _ => by go_simp; exact w64 (by omega) (by omega)) ?_
      simp only [Act.put, List.setIfInBounds_toArray, List.set_cons_zero, List.set_cons_succ]
      refine inv_value (.agg #[.int .i64 ((f + k) % d), .int .i64 (st * c + off)]) rfl (fun w' _ => by go_simp) ?_
      simp only [Act.put, List.setIfInBounds_toArray, List.set_cons_zero, List.set_cons_succ]
      refine inv_nil fun w' hI => ?_
      obtain ⟨hb1, ho1, hl1⟩ := hI
      have D1 := Lib.hid hb1
      have D2 := Lib.hid ho1
      have D3 := Lib.hid hl1
      have ds := hl1.size
      clear hb1 ho1 hl1
      go_wp2_with (first | (at_builtin; refine wpList_append_any _ rfl _ _ 37 rfl w.heap.size 27 (.agg #[.int .i64 0, .int .i64 0]) 2 16 Try.underlying37 info_place rfl (by decide) _ _ _ rfl (D2.out.alloc _) _ 1 1 [.int .i64 ((f + k) % d), .int .i64 (st * c + off)] rfl (src_two rfl rfl (blk_at rfl rfl)) ?c1 ?c2 ?c3 ?_))
      case c1 => omega
      case c2 => unfold maxLen; omega
      case c3 => simp only [size_alloc]; omega
      intro v' w5 hown2 hgrow
      rw [← HP.out] at hown2
      have hb5 : Below w.heap.size w w5 := (D3.out.alloc ds _).grown hgrow (by simp only [size_alloc]; omega) (fun k hk => by have := (D2.out.lt k hk).1; omega)
      have E2 := Lib.hid hown2
      have E3 := Lib.hid hb5
      have E1 := Lib.hid ((D1.out.alloc _).grownO hgrow (fun q hq he => by
        subst he
        obtain ⟨_, h2⟩ := D2.out
        rcases h2 with ⟨rfl, _⟩ | ⟨g, cap, cur, rfl, hbg, hg, _⟩
        · cases hq
        · simp only [Value.ownBlock, Option.some.injEq] at hq
          subst hq
          have := D1.out
          unfold Blk at this
          rw [hg] at this
          simp at this))
      go_wp2
      go_roundw
      case rel => exact ⟨k + 1, by omega, by go_num, E1.out, E2.out, E3.out⟩
      case measure => simp [intOf]; omega
    · obtain rfl : k = d.toNat := by omega
      go_wp2
      go_ret2
      exact ⟨_, rfl, HO.out, HB.out⟩
end Go.Proofs.Ytgedclbfednhlaa.Lay
