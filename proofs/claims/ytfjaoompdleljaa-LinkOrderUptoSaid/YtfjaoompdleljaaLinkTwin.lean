/-
  Twin of a link by contract. Helper text; no statement is proved here.
-/
import Derived.Test.YtfjaoompdleljaaLv
set_option linter.unusedVariables false
set_option maxRecDepth 20000
set_option linter.unusedSimpArgs false
namespace Go.Proofs.Ytfjaoompdleljaa.Link
open Go.RowKit Go.Proofs.Ytfjaoompdleljaa.Base Go.Proofs.Ytfjaoompdleljaa.Laws Go.Proofs.Ytfjaoompdleljaa.Disk Go.Proofs.Ytfjaoompdleljaa.Row Go.Proofs.Ytfjaoompdleljaa.Flat Go.Proofs.Ytfjaoompdleljaa.InvM Go.Proofs.Ytfjaoompdleljaa.Inv Go.Proofs.Ytfjaoompdleljaa.InvL Go.Proofs.Ytfjaoompdleljaa.InvC Go.Proofs.Ytfjaoompdleljaa.InvG Go.Proofs.Ytfjaoompdleljaa.Codec
section
variable {w : World} {bl : Nat} {V : Nat → Value} {A : List Nat} {k : Lk}
theorem twin_no (h : LinkAt w bl V A k) (i : Int) (hi : i < 0 ∨ (k.fl.length : Int) ≤ i) : Calls Try.prog 22 #[.pointer (some ⟨bl, 0, none⟩), .int .i64 i] w fun e w' => e = .returned (.int .i64 2) ∧ w = w' := by
  obtain ⟨a, c, e, _⟩ := h.slF
  have c9 : w.cell? ⟨bl, 9, none⟩ = some (V 4) := h.cell 9
  rw [e] at c9
  obtain ⟨n, hn⟩ : ∃ n, n = k.fl.length := ⟨_, rfl⟩
  rw [← hn] at c9 hi
  clear h e hn
  by_cases h1 : i < 0
  · clear hi c9
    go_enter Try.func22, Try.ntmps22
    go_wp2_with fail
    go_ret
    exact ⟨rfl, rfl⟩
  · have h2 : (n : Int) ≤ i := by omega
    clear hi
    go_enter Try.func22, Try.ntmps22
    go_wp2_with fail
    go_ret
    exact ⟨rfl, rfl⟩
theorem twin_full (h : LinkAt w bl V A k) (i : Nat) (hi : i < k.fl.length) (hf : ¬ k.fl.length < 1024) : Calls Try.prog 22 #[.pointer (some ⟨bl, 0, none⟩), .int .i64 (i : Int)] w fun e w' => e = .returned (.int .i64 9) ∧ w = w' := by
  obtain ⟨a, c, e, _⟩ := h.slF
  have c9 : w.cell? ⟨bl, 9, none⟩ = some (V 4) := h.cell 9
  rw [e] at c9
  have RM := Lib.hid (room_any h)
  rw [decide_eq_false hf] at RM
  obtain ⟨n, hn⟩ : ∃ n, n = k.fl.length := ⟨_, rfl⟩
  rw [← hn] at c9 hi
  have h1 : ¬ ((n : Int) ≤ i) := by omega
  clear h e hn hf
  go_enter Try.func22, Try.ntmps22
  go_wp2_with (go_at_call 32; refine RM.out.mono ?_; intro e w' hh; have he := hh.1; have hw := hh.2; subst he; subst w'; clear hh)
  go_ret
  exact ⟨rfl, rfl⟩
def Lk.twin (k : Lk) (i : Nat) : Lk := match k.fl[i]? with | some p => { k with fl := k.fl ++ [p] } | none => k
set_option maxHeartbeats 2000000 in
theorem twin_ok (h : LinkAt w bl V A k) (i : Nat) (hi : i < k.fl.length) (hf : k.fl.length < 1024) : Calls Try.prog 22 #[.pointer (some ⟨bl, 0, none⟩), .int .i64 (i : Int)] w fun e w' => e = .returned (.int .i64 0) ∧ ∃ V', Goes w bl V A w' V' (k.twin i) := by
  obtain ⟨p, hp⟩ : ∃ p, k.fl[i]? = some p := ⟨_, List.getElem?_eq_getElem hi⟩
  obtain ⟨g, cap, y, p', hp', hv4, hY, hcs, hgr, hml⟩ := h.lessAt i hi
  obtain rfl : p = p' := by rw [hp] at hp'; exact Option.some.inj hp'
  unfold maxLen at hml
  have c9 : w.cell? ⟨bl, 9, none⟩ = some (V 4) := h.cell 9
  rw [hv4] at c9
  have RM := Lib.hid (room_any h)
  rw [decide_eq_true hf] at RM
  have HF := Lib.hid hf
  have HP := Lib.hid hp
  have H0 := Lib.hid h
  have hlt := h.head.lt
  have HV4 := Lib.hid hv4
  have hgl := (h.reach_lt hgr).2
  obtain ⟨n, hn⟩ : ∃ n, n = k.fl.length := ⟨_, rfl⟩
  have HN := Lib.hid hn
  rw [← hn] at c9 hi hml HV4
  have h1 : ¬ ((n : Int) ≤ i) := by omega
  obtain ⟨ya, yc, hy, _, _⟩ := hY.slice
  obtain ⟨yl, hyl⟩ : ∃ yl, yl = p.m.B.length := ⟨_, rfl⟩
  rw [← hyl] at hy
  obtain ⟨pv, hpv⟩ : ∃ pv, pv = pc (p, y) := ⟨_, rfl⟩
  have HPV := Lib.hid hpv
  have LD := Lib.hid (show ∀ j v, pv[j]? = some v → w.cell? ((⟨g, i * 5, none⟩ : Addr).add j) = some v from fun j v hj => by
    rw [Addr.add_lit]
    exact hcs j v (by rw [← hpv]; exact hj))
  have P5 := Lib.hid (show pv.length = 5 by rw [hpv]; rfl)
  have P1 := Lib.hid (show ∀ u ∈ pv, u.oneCell' = true by rw [hpv]; exact pc_one hY.one)
  have Z2 := Lib.hid (blk_at (w := w) (g := w.heap.size) (cs := zpk) (t := 74) (arr := #[.int .i64 0, .int .u32 0, .int .u32 0, .int .u32 0, .slice none 0 0]) rfl rfl)
  have HY := Lib.hid hY
  have HYS := Lib.hid hy
  clear hp hp' hv4 hY hcs hgr hpv hy hyl hn h hf
  go_enter Try.func22, Try.ntmps22
  go_upto_region 6 with (first | (go_at_call 32; refine RM.out.mono ?_; intro e w' hh; have he := hh.1; have hw := hh.2; subst he; subst w'; clear hh) | (refine wpList_value_g rfl (.agg pv.toArray) (exec_load_from rfl rfl LD.out Try.underlying74 rfl (by kernel_rfl) P5.out) ?_) | (refine wpList_store_blk rfl 74 _ _ rfl w.heap.size 0 5 rfl 74 zpk pv rfl Z2.out (by kernel_rfl) P5.out (by decide) P1.out ?_; intro w3 z3 g3; have Z3 := Lib.hid z3; have G3 := Lib.hid g3; clear z3 g3))
  have B3 := Lib.hid (below_grown ((Below.refl w.heap.size w).alloc (Nat.le_refl _) _) G3.out (by simp) (Nat.le_refl _))
  obtain ⟨pb, hpb⟩ : ∃ pb, pb = w.heap.size := ⟨_, rfl⟩
  have P6 := Lib.hid (show Blk w3 pb (pc (p, y)) 74 from by have := Z3.out; rw [put_all _ _ (by rw [P5.out]; rfl), ← hpb, HPV.out] at this; exact this)
  have hs3 : pb < w3.heap.size := P6.out.lt
  have Y3 := HY.out.move (Only.of_below (S := []) B3.out) (by simp) (fun x hx => .inl hx)
  obtain ⟨ca, cc, w4, hcl, hY4, hb4⟩ := clone_body Y3 (pb :: (reach bl V ++ A)) (fun x hx => by
    rcases List.mem_cons.1 hx with rfl | hx
    · exact hs3
    rcases List.mem_append.1 hx with hx | hx
    · have := (H0.out.reach_lt hx).2; omega
    · have := H0.out.out x hx; omega)
  have P64 := Lib.hid (P6.out.below hb4 hs3)
  rw [HYS.out] at hcl
  have CB := Lib.hid hcl
  have q4 : w3.cell? ⟨pb, 4, none⟩ = some (.slice ya yl yc) := by rw [← HYS.out]; exact P6.out.cell 4
  have q44 : w4.cell? ⟨pb, 4, none⟩ = some (.slice ya yl yc) := by rw [← HYS.out]; exact P64.out.cell 4
  have f44 : w4.frozen? ⟨pb, 4, none⟩ = false := P64.out.frozen 4
  rw [← hpb]
  have HPB := Lib.hid hpb
  clear Z3 Z2 LD G3 Y3 hcl hpb
  simp only [Act.put]
  go_upto_region 7 with (go_at_call 33; refine CB.out.mono ?_; intro e w' hh; have he := hh.1; have hw := hh.2; subst he; subst w'; clear hh)
  obtain ⟨bn, hbn⟩ : ∃ bn, bn = p.m.B.length := ⟨_, rfl⟩
  rw [← hbn] at hY4 ⊢
  obtain ⟨w5, hw5⟩ : ∃ w5, w5 = w4.setCell ⟨pb, 4, none⟩ (.slice ca bn cc) := ⟨_, rfl⟩
  obtain ⟨qv, hqv⟩ : ∃ qv, qv = pc (p, .slice ca bn cc) := ⟨_, rfl⟩
  have Q5 := Lib.hid (show qv.length = 5 by rw [hqv]; rfl)
  have P65 := Lib.hid (show Blk w5 pb qv 74 from by rw [hw5, hqv]; exact P64.out.setCell 4 _)
  have hb5 : Below pb w w5 := by
    have h4 : Below pb w w4 := by rw [HPB.out]; exact B3.out.trans (hb4.mono (by have := HPB.out; omega))
    rw [hw5]
    exact h4.setCell (Nat.le_refl _) _
  have B5 := Lib.hid (show Below w.heap.size w w5 from HPB.out ▸ hb5)
  have hs5 : pb < w5.heap.size := P65.out.lt
  have Y5 := Lib.hid (show Body w5 (reach bl V ++ A) (.slice ca bn cc) p.m.B from by
    rw [hw5]
    exact hY4.move (T := [pb]) ((Only.refl [pb] w4).setCell (by simp) 4 _) (by simp) (fun x hx => .inl (List.mem_cons_of_mem _ hx)))
  have H5 := Lib.hid (H0.out.below B5.out)
  rw [← hw5]
  clear hw5 q44 f44 q4 P64 P6 hY4 hb5 hb4 hbn
  obtain ⟨w6, hw6⟩ : ∃ w6, w6 = w5.drew.alloc (.cells qv.toArray 74) := ⟨_, rfl⟩
  have b6 : Below w5.heap.size w5 w6 := hw6 ▸ ((Below.refl w5.heap.size w5).drew.alloc (Nat.le_refl _) _)
  have K6 := Lib.hid (H5.out.below b6)
  have Y6 := Y5.out.move (Only.of_below (S := []) b6) (by simp) (fun x hx => .inl hx)
  have Z6 : Blk w6 w5.heap.size (pc (p, .slice ca bn cc)) 74 := by rw [hw6, ← hqv]; exact blk_at rfl rfl
  obtain ⟨v', w7, hr7, hg7, hc7, hf7, gr7, va, vc, rfl⟩ := K6.out.more p (.slice ca bn cc) Y6 Z6 HF.out
  rw [← HN.out, HV4.out] at hr7
  rw [← HN.out] at hg7
  rw [HV4.out] at hc7
  have r5 : w5.drew.cell? ⟨bl, 9, none⟩ = some (.slice (some ⟨g, 0, none⟩) n cap) := by rw [← HV4.out]; exact H5.out.cell 9
  have r6 : w6.cell? ⟨bl, 9, none⟩ = some (.slice (some ⟨g, 0, none⟩) n cap) := by rw [← HV4.out]; exact K6.out.cell 9
  have hpg : ∀ x, (V 4).ownBlock = some x → pb ≠ x := fun x hx e => by
    have := (H0.out.row 4 (by decide) hx).2
    have := HPB.out
    omega
  have P5d : Blk w5.drew pb qv 74 := P65.out.drew
  have P66 : Blk w6 pb qv 74 := P65.out.below b6 hs5
  have P67 : Blk w7 pb qv 74 := P66.grownO gr7 hpg
  obtain ⟨m, hm⟩ : ∃ m, m = n + 1 := ⟨_, rfl⟩
  rw [← hm] at hr7 hg7
  have Q := Lib.hid (show ∀ d w', At2 6 7 (fun w' => w' = w5.drew) (fun w' => w' = w6) (fun w' => w' = w7) d w' → w'.cell? ⟨bl, 9, none⟩ = some (.slice (some ⟨g, 0, none⟩) n cap) ∧ Blk w' pb qv 74 from fun d w' h => by
    rcases h.any with rfl | rfl | rfl
    · exact ⟨r5, P5d⟩
    · exact ⟨r6, P66⟩
    · exact ⟨hc7, P67⟩)
  have HRD := Lib.hid hr7
  have HGD := Lib.hid hg7
  have HW6 := Lib.hid hw6
  have QD := Lib.hid hc7
  have FD := Lib.hid hf7
  have LC := Lib.hid b6
  clear hr7 hg7 hw6 r5 r6 P5d P66 P67 hc7 hf7 gr7 hpg b6 Y6 Z6 hm hqv
  refine wp_region_gate_tail (fun d w' => At2 6 7 (fun w' => w' = w5.drew) (fun w' => w' = w6) (fun w' => w' = w7) d w') 8 (by kernel_rfl) (by kernel_rfl) ?hI ?_
  case hI => exact At2.start (by rfl) (by rfl) rfl
  simp only [List.take_succ_cons, List.take_zero, List.drop_succ_cons, List.drop_zero]
  refine InvC.invc_value (.pointer (some ⟨bl, 0, none⟩)) (fun u hu => by cases hu) rfl (fun d w' _ _ h => by go_simp; all_goals rfl) (fun d w' _ _ h => At2.keep (by decide) (by decide) h) ?_
  simp only [Act.put, List.setIfInBounds_toArray, List.set_cons_zero, List.set_cons_succ]
  refine InvC.invc_value (.pointer (some ⟨bl, 0, none⟩)) (fun u hu => by cases hu) rfl (fun d w' _ _ h => by go_simp; all_goals rfl) (fun d w' _ _ h => At2.keep (by decide) (by decide) h) ?_
  simp only [Act.put, List.setIfInBounds_toArray, List.set_cons_zero, List.set_cons_succ]
  refine InvC.invc_value (.pointer (some ⟨bl, 0, none⟩)) (fun u hu => by cases hu) rfl (fun d w' _ _ h => by go_simp; all_goals rfl) (fun d w' _ _ h => At2.keep (by decide) (by decide) h) ?_
  simp only [Act.put, List.setIfInBounds_toArray, List.set_cons_zero, List.set_cons_succ]
  refine InvC.invc_value (.pointer (some ⟨bl, 9, none⟩)) (fun u hu => by cases hu) rfl (fun d w' _ _ h => by go_simp; all_goals rfl) (fun d w' _ _ h => At2.keep (by decide) (by decide) h) ?_
  simp only [Act.put, List.setIfInBounds_toArray, List.set_cons_zero, List.set_cons_succ]
  refine InvC.invc_value (.slice (some ⟨g, 0, none⟩) n cap) (fun u hu => by cases hu) rfl (fun d w' _ _ h => by have q := (Q.out d w' h).1; go_simp) (fun d w' _ _ h => At2.keep (by decide) (by decide) h) ?_
  simp only [Act.put, List.setIfInBounds_toArray, List.set_cons_zero, List.set_cons_succ]
  refine InvC.invc_value (.agg qv.toArray) (fun u hu => by cases hu) rfl (fun d w' _ _ h => exec_load (cs := qv) (t := 74) rfl rfl (Q.out d w' h).2 Try.underlying74 rfl (by kernel_rfl) Q5.out) (fun d w' _ _ h => At2.keep (by decide) (by decide) h) ?_
  simp only [Act.put, List.setIfInBounds_toArray, List.set_cons_zero, List.set_cons_succ]
  refine InvC.invc_world (.slice (some ⟨w5.heap.size, 0, none⟩) 1 1) (fun u hu => by cases hu) rfl (fun d w' hd hG h => ⟨w6, by
    have e := (h.at_p hd).1
    subst e
    rw [HW6.out]
    exact exec_build_one rfl rfl Try.underlying29 info_pk Q5.out (by decide) (by decide), At2.did_p (by decide) hd h rfl⟩) ?_
  simp only [Act.put, List.setIfInBounds_toArray, List.set_cons_zero, List.set_cons_succ]
  refine InvC.invc_world (.slice va m vc) (fun u hu => by cases hu) rfl (fun d w' hd hG h => ⟨w7, by
    have e := h.at_q hd (hG.of (by kernel_rfl))
    subst e
    exact exec_append _ _ rfl rfl rfl HRD.out, At2.did_q (by decide) hd (hG.of (by kernel_rfl)) rfl⟩) ?_
  simp only [Act.put, List.setIfInBounds_toArray, List.set_cons_zero, List.set_cons_succ]
  refine InvC.invc_nil fun w8 hI => ?_
  have e6 := hI.done (by rfl)
  subst e6
  have q4 := QD.out
  have f4 := FD.out
  have GO3 := Lib.hid (((Goes.of_below H0.out B5.out).keep LC.out).trans HGD.out)
  clear Q QD FD HRD HW6 LC HGD K6
  go_wp2_with fail
  go_ret
  have e : k.twin i = { k with fl := k.fl ++ [p] } := by unfold Lk.twin; rw [HP.out]
  rw [e]
  exact ⟨rfl, _, GO3.out⟩
end
end Go.Proofs.Ytfjaoompdleljaa.Link
