/-
  slices.Delete of one packet by contract. Helper text; no statement is proved here.
-/
import Derived.Test.YtfjaoompdleljaaLinkC
set_option linter.unusedVariables false
set_option maxRecDepth 20000
set_option linter.unusedSimpArgs false
namespace Go.Proofs.Ytfjaoompdleljaa.Link
open Go.RowKit Go.Proofs.Ytfjaoompdleljaa.Base Go.Proofs.Ytfjaoompdleljaa.Laws Go.Proofs.Ytfjaoompdleljaa.Disk Go.Proofs.Ytfjaoompdleljaa.Row Go.Proofs.Ytfjaoompdleljaa.Flat Go.Proofs.Ytfjaoompdleljaa.InvM
theorem exec_clear {P : Program} {ρ : Operand → Value} {w w' : World} {o : Oper} {t : TypeId} (s : Operand) (ho : o.op = .call { callee := .builtin .clear, args := #[s], argTypes := #[t] }) {v x : Value} (hs : ρ s = v)
    (hr : (Builtin.clear_ #[t] o.type #[v]).run P w = .ok x w') : (execOp ρ o).run P w = .ok (.value x) w' := by
  unfold execOp
  simp only [ho, resolve, invoke, builtin, Sem.run_bind, Sem.run_pure, Result.andThen_ok, List.map_toArray, List.map_cons, List.map_nil, hs, hr]
theorem delete_one (w : World) (base : Nat) (g cap : Nat) (ps : List (Pk × Value)) (n i : Nat) (hn : n = ps.length) (ho : w.ownsRow base 74 5 (.slice (some ⟨g, 0, none⟩) n cap) n (flat pc ps)) (hi : i < n) (hone : ∀ p ∈ ps, p.2.oneCell' = true) :
    Calls Try.prog 42 #[.slice (some ⟨g, 0, none⟩) n cap, .int .i64 (i : Int), .int .i64 ((i + 1 : Nat) : Int)] w fun e w' => e = .returned (.slice (some ⟨g, 0, none⟩) (n - 1) cap) ∧ w'.ownsRow base 74 5 (.slice (some ⟨g, 0, none⟩) (n - 1) cap) (n - 1) (flat pc (ps.take i ++ ps.drop (i + 1))) ∧ w.grownBy w' (some g) := by
  obtain ⟨hl, h2⟩ := ho
  rcases h2 with ⟨e, _⟩ | ⟨g', cap', cur, e, hb, hg, hnc, hcm, hsz, htk⟩
  · cases e
  cases e
  obtain ⟨j, hj⟩ : ∃ j, j = i + 1 := ⟨_, rfl⟩
  rw [← hj]
  have i1 : (i : Int) ≠ (j : Int) := by omega
  have i2 : i ≤ j := by omega
  have i3 : j ≤ n := by omega
  have i4 : j ≤ cap := by omega
  have i5 : n ≤ cap := hnc
  have i6 : i ≤ cap := by omega
  unfold maxLen at hcm
  obtain ⟨i0, hi0, hz0, hz1, hz2⟩ := info_parts info_pk
  obtain ⟨news, hnews⟩ : ∃ news, news = (cur.toList.take (n * 5)).drop (j * 5) := ⟨_, rfl⟩
  have hnl : news.length = (n - j) * 5 := by rw [hnews, List.length_drop, htk, hl]; omega
  have hn1 : ∀ u ∈ news, u.oneCell' = true := by
    intro u hu
    rw [hnews, htk] at hu
    obtain ⟨p, hp, hup⟩ := flat_mem (List.mem_of_mem_drop hu)
    exact pc_one (hone p hp) u hup
  obtain ⟨X, hX⟩ : ∃ X : Option Addr, X = (if cap = j then some (⟨g, 0, none⟩ : Addr) else some ⟨g, j * 5, none⟩) := ⟨_, rfl⟩
  obtain ⟨AD, hAD, hsrc⟩ : ∃ AD : Addr, X = some AD ∧ ∀ t u, news[t]? = some u → w.drew.cell? (AD.add t) = some u := by
    by_cases h : cap = j
    · refine ⟨⟨g, 0, none⟩, by rw [hX, if_pos h], fun t u hu => ?_⟩
      have := (List.getElem?_eq_some_iff.1 hu).1
      omega
    · refine ⟨⟨g, j * 5, none⟩, by rw [hX, if_neg h], fun t u hu => ?_⟩
      rw [Addr.add_lit]
      have ht := (List.getElem?_eq_some_iff.1 hu).1
      rw [hnews, List.getElem?_drop, List.getElem?_take_of_lt (by omega)] at hu
      rw [cell_of_row w.drew g _ _ _ (0, 0) hg]
      simpa using hu
  have HR := Lib.hid (show (Builtin.append_ #[29, 29] 29 #[.slice (some ⟨g, 0, none⟩) i cap, .slice X (n - j) (cap - j)]).run Try.prog w.drew = .ok (.slice (some ⟨g, 0, none⟩) (i + (n - j)) cap) (w.drew.setRow g (cur.toList.take (i * 5) ++ news ++ cur.toList.drop (i * 5 + news.length)).toArray) from by
    rw [hAD]
    have := run_append_room (P := Try.prog) w.drew 29 29 74 i0 Try.underlying29 hi0 g i cap cur hg AD (n - j) (cap - j) news (by rw [hz1]; exact hnl) hsrc hn1 (by omega) (by rw [hz1, hsz]; omega)
    rw [hz1] at this
    exact this)
  obtain ⟨W1, hW1⟩ : ∃ W1, W1 = w.drew.setRow g (cur.toList.take (i * 5) ++ news ++ cur.toList.drop (i * 5 + news.length)).toArray := ⟨_, rfl⟩
  rw [← hW1] at HR
  obtain ⟨m, hm⟩ : ∃ m, m = i + (n - j) := ⟨_, rfl⟩
  rw [← hm] at HR
  obtain ⟨cur1, hcur1⟩ : ∃ cur1, cur1 = (cur.toList.take (i * 5) ++ news ++ cur.toList.drop (i * 5 + news.length)).toArray := ⟨_, rfl⟩
  have hc1 : cur1.size = cap * 5 := by rw [hcur1]; simp [hnl]; omega
  have hg1 : W1.heap[g]? = some (.cells cur1 74 (0, 0)) := by rw [hW1, hcur1]; exact setRow_heap w.drew g _ _ _ _ hg
  obtain ⟨nz, hnz, hcl⟩ := run_clear_row (P := Try.prog) W1 29 74 0 (.agg #[.int .i64 0, .int .u32 0, .int .u32 0, .int .u32 0, .slice none 0 0]) 5 Try.underlying29 (fun w => by simp [zeroValue, typeInfo, hi0, hz0]) rfl (by decide) g (m * 5) (n - m) (cap - m) (by omega) cur1 hg1 (by rw [hc1]; omega)
  obtain ⟨W2, hW2⟩ : ∃ W2, W2 = W1.setRow g (cur1.toList.take (m * 5) ++ nz ++ cur1.toList.drop (m * 5 + nz.length)).toArray := ⟨_, rfl⟩
  rw [← hW2] at hcl
  have hmi : m * 5 = i * 5 + (n - j) * 5 := by omega
  have GR := Lib.hid (show w.grownBy W2 (some g) from by
    rw [hW2, hW1]
    exact grown_trans (w1 := w.drew) ⟨rfl, rfl, rfl, Nat.le_refl _, fun _ _ _ => rfl⟩ (grown_trans (grown_setRow _ _ _) (grown_setRow _ _ _)))
  have OW := Lib.hid (show W2.ownsRow base 74 5 (.slice (some ⟨g, 0, none⟩) m cap) m (flat pc (ps.take i ++ ps.drop j)) from by
    have hlen : (flat pc (ps.take i ++ ps.drop j)).length = m * 5 := by rw [flat_len (m := 5) (fun x _ => rfl), List.length_append, List.length_take, List.length_drop]; omega
    refine ⟨hlen, .inr ⟨g, cap, _, rfl, hb, (by rw [hW2]; exact setRow_heap W1 g _ _ _ _ hg1), by omega, by unfold maxLen; omega, ?_, ?_⟩⟩
    · simp [hnz, hc1]; omega
    · have ht1 : cur1.toList.take (m * 5) = cur.toList.take (i * 5) ++ news := by
        rw [hcur1]
        rw [List.take_append_of_le_length (by simp [hnl]; omega)]
        exact List.take_of_length_le (by simp [hnl]; omega)
      have hsp : flat pc ps = flat pc (ps.take i) ++ flat pc (ps.drop i) := by rw [← flat_append, List.take_append_drop]
      have hsq : flat pc ps = flat pc (ps.take j) ++ flat pc (ps.drop j) := by rw [← flat_append, List.take_append_drop]
      have hli : (flat pc (ps.take i)).length = i * 5 := by rw [flat_len (m := 5) (fun x _ => rfl), List.length_take]; omega
      have hlj : (flat pc (ps.take j)).length = j * 5 := by rw [flat_len (m := 5) (fun x _ => rfl), List.length_take]; omega
      have hi5 : cur.toList.take (i * 5) = flat pc (ps.take i) := by
        have h1 : (cur.toList.take (n * 5)).take (i * 5) = cur.toList.take (i * 5) := by rw [List.take_take, Nat.min_eq_left (by omega)]
        rw [← h1, htk, hsp, ← hli, List.take_left]
      have hn5 : news = flat pc (ps.drop j) := by
        rw [hnews, htk, hsq, ← hlj, List.drop_left]
      rw [List.append_assoc, List.take_append_of_le_length (by simp; omega), List.take_of_length_le (by simp; omega), ht1, hi5, hn5, flat_append])
  have HCL := Lib.hid hcl
  have HX := Lib.hid hX
  have HM := Lib.hid hm
  have HW1 := Lib.hid hW1
  have m1 : m < cap := by omega
  have m2 : m ≤ n := by omega
  have m3 : ¬ cap = m := by omega
  have HMN := Lib.hid (show m + 1 = n by omega)
  clear hX hm hW1 hAD hsrc hn1 hnl hnews hcl hg1 hW2 hcur1 hc1 hnz hmi
  have HN := Lib.hid hn
  have HJ := Lib.hid hj
  have HG := Lib.hid hg
  have HT := Lib.hid htk
  have HS := Lib.hid hsz
  clear hn hj hg htk hsz hl
  go_enter Try.func42, Try.ntmps42
  go_upto_region 5 with (fail)
  refine InvL.wp_region_inv_tail (fun d w' => InvL.At 6 (fun w' => w' = w.drew) (fun w' => w' = W1) d w') 7 (by kernel_rfl) (by kernel_rfl) ?hI ?_
  case hI => exact InvL.At.start (by rfl) rfl
  simp only [List.take_succ_cons, List.take_zero, List.drop_succ_cons, List.drop_zero]
  refine InvL.invl_value (.slice (some ⟨g, 0, none⟩) n cap) rfl (fun d w' h => by go_simp; all_goals rfl) (fun d w' _ h => InvL.At.keep (by decide) id id h) ?_
  simp only [Act.put, List.setIfInBounds_toArray, List.set_cons_zero, List.set_cons_succ]
  refine InvL.invl_value (.int .i64 (i : Int)) rfl (fun d w' h => by go_simp; all_goals rfl) (fun d w' _ h => InvL.At.keep (by decide) id id h) ?_
  simp only [Act.put, List.setIfInBounds_toArray, List.set_cons_zero, List.set_cons_succ]
  refine InvL.invl_value (.slice (some ⟨g, 0, none⟩) i cap) rfl (fun d w' h => by go_simp; all_goals rfl) (fun d w' _ h => InvL.At.keep (by decide) id id h) ?_
  simp only [Act.put, List.setIfInBounds_toArray, List.set_cons_zero, List.set_cons_succ]
  refine InvL.invl_value (.slice (some ⟨g, 0, none⟩) n cap) rfl (fun d w' h => by go_simp; all_goals rfl) (fun d w' _ h => InvL.At.keep (by decide) id id h) ?_
  simp only [Act.put, List.setIfInBounds_toArray, List.set_cons_zero, List.set_cons_succ]
  refine InvL.invl_value (.int .i64 (j : Int)) rfl (fun d w' h => by go_simp; all_goals rfl) (fun d w' _ h => InvL.At.keep (by decide) id id h) ?_
  simp only [Act.put, List.setIfInBounds_toArray, List.set_cons_zero, List.set_cons_succ]
  refine InvL.invl_value (.slice X (n - j) (cap - j)) rfl (fun d w' h => by rw [HX.out]; go_simp; all_goals rfl) (fun d w' _ h => InvL.At.keep (by decide) id id h) ?_
  simp only [Act.put, List.setIfInBounds_toArray, List.set_cons_zero, List.set_cons_succ]
  refine InvL.invl_world (.slice (some ⟨g, 0, none⟩) m cap) rfl (fun d w' hd h => ⟨W1, by have e := h.before hd; subst e; exact exec_append _ _ rfl rfl rfl HR.out, InvL.At.now hd rfl⟩) ?_
  simp only [Act.put, List.setIfInBounds_toArray, List.set_cons_zero, List.set_cons_succ]
  refine InvL.invl_nil fun w6 hI => ?_
  have e6 := hI.done (by rfl)
  subst e6
  clear HR HX
  have hcl' := HCL.out
  go_wp2_with fail
  go_ret
  have e := HMN.out
  rw [show n - 1 = m by omega]
  exact ⟨rfl, OW.out, GR.out⟩
end Go.Proofs.Ytfjaoompdleljaa.Link
