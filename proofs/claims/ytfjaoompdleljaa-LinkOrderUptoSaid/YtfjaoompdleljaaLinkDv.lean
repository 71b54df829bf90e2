/-
  Deliver of a link by contract. Helper text; no statement is proved here.
-/
import Derived.Test.YtfjaoompdleljaaLinkDe
import Derived.Deep.QuietTactic
set_option linter.unusedVariables false
set_option maxRecDepth 20000
set_option linter.unusedSimpArgs false
namespace Go.Proofs.Ytfjaoompdleljaa.Link
open Go.RowKit Go.Proofs.Ytfjaoompdleljaa.Base Go.Proofs.Ytfjaoompdleljaa.Laws Go.Proofs.Ytfjaoompdleljaa.Disk Go.Proofs.Ytfjaoompdleljaa.Row Go.Proofs.Ytfjaoompdleljaa.Flat Go.Proofs.Ytfjaoompdleljaa.InvM Go.Proofs.Ytfjaoompdleljaa.Inv Go.Proofs.Ytfjaoompdleljaa.InvL Go.Proofs.Ytfjaoompdleljaa.InvC Go.Proofs.Ytfjaoompdleljaa.InvG
theorem Goes.drewN {w w' : World} {bl : Nat} {V V' : Nat → Value} {A : List Nat} {k' : Lk} (h : Goes w bl V A w' V' k') (n : Nat) : Goes w bl V A (w'.drewN n) V' k' := h.keep ⟨rfl, rfl, rfl, Nat.le_refl _, fun _ _ => rfl⟩
theorem Body.drewN {w : World} {S : List Nat} {v : Value} {B : List UInt8} (h : Body w S v B) (n : Nat) : Body (w.drewN n) S v B := h.move (T := []) ((Only.refl [] w).drewN n) (by simp) (fun x hx => .inl hx)
section
variable {w : World} {bl : Nat} {V : Nat → Value} {A : List Nat} {k : Lk}
theorem deliver_no (h : LinkAt w bl V A k) (i : Int) (hi : i < 0 ∨ (k.fl.length : Int) ≤ i) : Calls Try.prog 15 #[.pointer (some ⟨bl, 0, none⟩), .int .i64 i] w fun e w' => e = .returned (.int .i64 2) ∧ Below w.heap.size w w' := by
  have TN := Lib.hid (take_no h i hi)
  clear h hi
  go_enter Try.func15, Try.ntmps15
  go_wp2_with fail
  refine TN.out.mono ?_
  rintro e w1 ⟨rfl, hb⟩
  have HB := Lib.hid hb
  have hs := hb.size
  have Z := Lib.hid (blk_at (w := w1) (g := w1.heap.size) (cs := zpk) (t := 74) (arr := #[.int .i64 0, .int .u32 0, .int .u32 0, .int .u32 0, .slice none 0 0]) rfl rfl)
  clear hb TN
  go_wp2_with (first | (refine wpList_store_blk rfl 74 _ _ rfl w1.heap.size 0 5 rfl 74 zpk zpk rfl Z.out (by kernel_rfl) rfl (by decide) (by decide) ?_; intro w2 z2 g2; have L2 := Lib.hid (below_grown ((HB.out.alloc hs _)) g2 (by simp; omega) hs); clear z2 g2))
  go_ret
  exact ⟨rfl, L2.out⟩
set_option maxHeartbeats 2000000 in
theorem deliver_ok0 (h : LinkAt w bl V A k) (i : Nat) (p : Pk) (hp : k.fl[i]? = some p) (hf : p.f = 1) (hgot : ((k.en 0).got.length + 1) * 24 ≤ 140737488355328) : Calls Try.prog 15 #[.pointer (some ⟨bl, 0, none⟩), .int .i64 (i : Int)] w fun e w' => e = .returned (.int .i64 0) ∧ ∃ V', Goes w bl V A w' V' ((k.less i).comes p) := by
  have hi : i < k.fl.length := (List.getElem?_eq_some_iff.1 hp).1
  have TN := Lib.hid (take_ok h i hi)
  have HPI := Lib.hid hp
  have HGT := Lib.hid hgot
  clear h hi hp hgot
  go_enter Try.func15, Try.ntmps15
  go_wp2_with fail
  refine TN.out.mono ?_
  rintro e w1 ⟨p', y, V1, hp', rfl, hG, hY⟩
  obtain rfl : p = p' := by have := HPI.out; rw [hp'] at this; exact (Option.some.inj this).symm
  have HG1 := Lib.hid hG
  have HY1 := Lib.hid hY
  obtain ⟨pv, hpv⟩ : ∃ pv, pv = pc (p, y) := ⟨_, rfl⟩
  have HPV := Lib.hid hpv
  have P5 := Lib.hid (show pv.length = 5 by rw [hpv]; rfl)
  have P1 := Lib.hid (show ∀ u ∈ pv, u.oneCell' = true by rw [hpv]; exact pc_one hY.one)
  have Z := Lib.hid (blk_at (w := w1) (g := w1.heap.size) (cs := zpk) (t := 74) (arr := #[.int .i64 0, .int .u32 0, .int .u32 0, .int .u32 0, .slice none 0 0]) rfl rfl)
  rw [← hpv]
  clear hG hY TN hpv hp'
  go_upto_region 4 with (first | (refine wpList_store_blk rfl 74 _ _ rfl w1.heap.size 0 5 rfl 74 zpk pv rfl Z.out (by kernel_rfl) P5.out (by decide) P1.out ?_; intro w2 z2 g2; have L2 := Lib.hid (below_grown (((Below.refl w1.heap.size w1).alloc (Nat.le_refl _) _)) g2 (by simp) (Nat.le_refl _)); have Z2 := Lib.hid z2; clear z2 g2))
  obtain ⟨pb, hpb⟩ : ∃ pb, pb = w1.heap.size := ⟨_, rfl⟩
  have PB := Lib.hid (show Blk w2 pb (pc (p, y)) 74 from by have := Z2.out; rw [put_all _ _ (by rw [P5.out]; rfl), ← hpb, HPV.out] at this; exact this)
  have PBR := Lib.hid (show pb ∉ reach bl V1 from fun hx => by have := HG1.out.at_.reach_lt hx; omega)
  have G2 := Lib.hid (HG1.out.keep L2.out)
  have Y2 := Lib.hid (HY1.out.move (Only.of_below (S := []) L2.out) (by simp) (fun x hx => .inl hx))
  have q0 : w2.cell? ⟨pb, 0, none⟩ = some (.int .i64 1) := by have := PB.out.cell 0; rw [this]; simp [pc, hf]
  have q1 : w2.cell? ⟨pb, 1, none⟩ = some (.int .u32 (p.m.e : Int)) := PB.out.cell 1
  have q3 : w2.cell? ⟨bl, 0, none⟩ = some (.int .u32 (k.ep : Int)) := G2.out.at_.cell 0
  rw [← hpb]
  clear Z Z2 L2 P1 P5 HPV HG1 HY1 hpb
  go_quiet (fail)
  have PB := Lib.hid (PB.out.drewN nq)
  have G2 := Lib.hid (G2.out.drewN nq)
  have Y2 := Lib.hid (Y2.out.drewN nq)
  have q4 : (w2.drewN nq).cell? ⟨bl, 1, none⟩ = some (V1 0) := G2.out.at_.cell 1
  have q0 : (w2.drewN nq).cell? ⟨pb, 0, none⟩ = some (.int .i64 1) := q0
  obtain ⟨w3, hw3⟩ : ∃ w3, w3 = w2.drewN nq := ⟨_, rfl⟩
  rw [← hw3] at PB G2 Y2 q4 q0 ⊢
  clear hw3
  clear q1 q3
  by_cases he : p.m.e = k.ep
  rotate_left
  · have he' : ¬ ((p.m.e : Int) = (k.ep : Int)) := by omega
    clear PB PBR Y2
    go_wp2_with fail
    go_ret
    refine ⟨rfl, V1, ?_⟩
    have e : (k.less i).comes p = k.less i := if_neg he
    rw [e]
    exact G2.out
  have he' : ((p.m.e : Int) = (k.ep : Int)) := by omega
  have hlt := G2.out.at_.head.lt
  have AC := Lib.hid (show Calls Try.prog 36 #[V1 0, Cl pb] w3 fun e w' => ∃ v' : Value, e = .returned v' ∧ Goes w3 bl V1 A (w'.setCell ⟨bl, 1, none⟩ v') (upd V1 0 v') ((k.less i).ackd 0 p.m.k) ∧ w'.cell? ⟨bl, 1, none⟩ = some (V1 0) ∧ w'.frozen? ⟨bl, 1, none⟩ = false ∧ w3.grownBy w' (V1 0).ownBlock from G2.out.at_.acked 0 (by decide) PB.out PBR.out)
  obtain ⟨vo, hvo⟩ : ∃ vo, vo = V1 0 := ⟨_, rfl⟩
  rw [← hvo] at AC q4
  clear hvo
  unfold Cl at AC
  go_wp2_with (fail)
  refine AC.out.mono ?_
  rintro e w5 ⟨vv, rfl, ga, ca, fa, gg⟩
  obtain ⟨sa, sc, hsv, _⟩ := ga.at_.slO 0 (by decide)
  obtain ⟨sn, hsn⟩ : ∃ sn, sn = (((k.less i).ackd 0 p.m.k).en 0).op.length := ⟨_, rfl⟩
  rw [show 2 * 0 = 0 from rfl, upd_self, ← hsn] at hsv
  subst hsv
  have GA := Lib.hid ga
  clear hsn
  clear ga gg AC
  go_upto_region 9 with (fail)
  obtain ⟨w4, hw4⟩ : ∃ w4, w4 = w5.setCell ⟨bl, 1, none⟩ (.slice sa sn sc) := ⟨_, rfl⟩
  rw [← hw4] at GA ⊢
  clear hw4 ca fa q0 q4
  obtain ⟨kd, hkd⟩ : ∃ kd, kd = (k.less i).ackd 0 p.m.k := ⟨_, rfl⟩
  have HKD := Lib.hid hkd
  rw [← hkd] at GA
  clear hkd
  have G4 := Lib.hid (G2.out.trans GA.out)
  have PB4 := Lib.hid (PB.out.only GA.out.only PBR.out)
  have Y4 := Lib.hid (GA.out.body Y2.out)
  obtain ⟨ya, yc, hy, _, hb64⟩ := Y4.out.slice
  obtain ⟨bn, hbn⟩ : ∃ bn, bn = p.m.B.length := ⟨_, rfl⟩
  rw [← hbn] at hy hb64
  have HY := Lib.hid hy
  have q5 : w4.cell? ⟨pb, 4, none⟩ = some (.slice ya bn yc) := by rw [← hy]; exact PB4.out.cell 4
  clear hy
  by_cases hB : p.m.B = []
  · have hb0 : bn = 0 := by rw [hbn, hB]; rfl
    subst hb0
    have HB0 := Lib.hid hB
    clear PB PBR PB4 Y4 Y2 G2 GA HY hbn hB
    go_wp2_with fail
    go_ret
    refine ⟨rfl, upd V1 0 (.slice sa sn sc), ?_⟩
    have e : (k.less i).comes p = kd := by
      rw [HKD.out]
      unfold Lk.comes
      rw [if_pos (show p.m.e = (k.less i).ep from he), if_pos HB0.out, hf]
    rw [e]
    exact G4.out
  have hb0 : bn ≠ 0 := by rw [hbn]; intro e; exact hB (List.eq_nil_of_length_eq_zero e)
  have HB0 := Lib.hid hB
  clear hB
  obtain ⟨cm, hcm⟩ : ∃ cm, cm = (kd.en 0).come := ⟨_, rfl⟩
  have HCM := Lib.hid hcm
  have q6 : w4.cell? ⟨bl, 3, none⟩ = some (.int .u32 (cm : Int)) := by rw [hcm]; exact G4.out.at_.cell 3
  have q7 : w4.cell? ⟨pb, 2, none⟩ = some (.int .u32 (p.m.s : Int)) := PB4.out.cell 2
  clear hcm hbn G2 Y2
  go_upto_region 11 with (fail)
  have q9 : w4.frozen? ⟨bl, 3, none⟩ = false := G4.out.at_.head.frozen 3
  go_quiet (fail)
  have PB4 := Lib.hid (PB4.out.drewN nq)
  have G4 := Lib.hid (G4.out.drewN nq)
  have Y4 := Lib.hid (Y4.out.drewN nq)
  have q5 : (w4.drewN nq).cell? ⟨pb, 4, none⟩ = some (.slice ya bn yc) := q5
  have q6 : (w4.drewN nq).cell? ⟨bl, 3, none⟩ = some (.int .u32 (cm : Int)) := q6
  have q9 : (w4.drewN nq).frozen? ⟨bl, 3, none⟩ = false := q9
  clear q7
  obtain ⟨w6, hw6⟩ : ∃ w6, w6 = w4.drewN nq := ⟨_, rfl⟩
  rw [← hw6] at PB4 G4 Y4 q5 q6 q9 ⊢
  clear hw6
  obtain ⟨c1, hc1⟩ : ∃ c1, c1 = (cm + 1) % 4294967296 := ⟨_, rfl⟩
  have hw : IntKind.u32.wrap ((cm : Int) + 1) = (c1 : Int) := by rw [IntKind.wrap_u32]; omega
  rw [hw]
  have HC1 := Lib.hid hc1
  clear hw hc1
  by_cases hs : p.m.s = c1
  rotate_left
  · have hs' : ¬ ((p.m.s : Int) = (c1 : Int)) := by omega
    go_upto_region 14 with (fail)
    have hs2 : ¬ (p.m.s = ((kd.en 0).come + 1) % 4294967296) := by rw [← HCM.out, ← HC1.out]; exact hs
    clear q5 q6 hs hs'
    have EQ := Lib.hid (show (k.less i).comes p = kd.answer 0 from by
      unfold Lk.comes Lk.handed
      rw [if_pos (show p.m.e = (k.less i).ep from he), if_neg HB0.out, hf]
      show Lk.answer (if p.m.s = ((((k.less i).ackd 0 p.m.k).en 0).come + 1) % 4294967296 then _ else _) 0 = _
      rw [← HKD.out, if_neg hs2])
    clear HKD HB0 HCM he he' PBR PB4 Y4 HY hs2 hb0 hb64
    have RM := Lib.hid (room_any G4.out.at_)
    by_cases hroom : kd.fl.length < 1024
    · have PT := Lib.hid (show Calls Try.prog 34 #[.pointer (some ⟨bl, 0, none⟩), .int .i64 0, .int .u32 0, .slice none 0 0] w6 fun e w' => e = .returned (.tuple #[]) ∧ ∃ V', Goes w6 bl _ A w' V' (kd.put 0 0 []) from put_any G4.out.at_ 0 (by decide) 0 (S := []) (.inl ⟨rfl, rfl⟩) hroom)
      rw [decide_eq_true hroom] at RM
      have HR := Lib.hid hroom
      clear hroom
      go_wp2_with (first | (go_at_call 32; refine RM.out.mono ?_; rintro e w' ⟨rfl, rfl⟩) | (go_at_call 34; refine PT.out.mono ?_; rintro e w9 ⟨rfl, V9, g9⟩))
      go_ret
      refine ⟨rfl, V9, ?_⟩
      rw [EQ.out, show kd.answer 0 = kd.put 0 0 [] from if_pos HR.out]
      exact G4.out.trans g9
    · rw [decide_eq_false hroom] at RM
      have HR := Lib.hid hroom
      clear hroom
      go_wp2_with (first | (go_at_call 32; refine RM.out.mono ?_; rintro e w' ⟨rfl, rfl⟩))
      go_ret
      refine ⟨rfl, ?_⟩
      rw [EQ.out, show kd.answer 0 = kd from if_neg HR.out]
      exact ⟨_, G4.out⟩
  subst hs
  go_upto_region 13 with (fail)
  have e1 : ((cm : Int) + 1) % 4294967296 = (p.m.s : Int) := by have := HC1.out; omega
  rw [e1]
  have GC := Lib.hid (show Goes w6 bl (upd V1 0 (.slice sa sn sc)) A (w6.setCell ⟨bl, 3, none⟩ (.int .u32 (p.m.s : Int))) (upd V1 0 (.slice sa sn sc)) (kd.come1 0) from by
    refine G4.out.at_.scalar 3 (.int .u32 (p.m.s : Int)) (kd.come1 0) ?_ (fun m => ?_) (fun m => ?_) rfl
    · rw [HC1.out, HCM.out]; rfl
    · unfold Lk.en Lk.come1 Lk.with; by_cases hm : m = 0 <;> simp [hm, Lk.en]
    · unfold Lk.en Lk.come1 Lk.with; by_cases hm : m = 0 <;> simp [hm, Lk.en])
  obtain ⟨w7, hw7⟩ : ∃ w7, w7 = w6.setCell ⟨bl, 3, none⟩ (.int .u32 (p.m.s : Int)) := ⟨_, rfl⟩
  rw [← hw7] at GC ⊢
  clear hw7 q5 q6 q9
  have EQ := Lib.hid (show (k.less i).comes p = ((kd.come1 0).addGot 0 p.m.B).answer 0 from by
    unfold Lk.comes Lk.handed
    rw [if_pos (show p.m.e = (k.less i).ep from he), if_neg HB0.out, hf]
    show Lk.answer (if p.m.s = ((((k.less i).ackd 0 p.m.k).en 0).come + 1) % 4294967296 then _ else _) 0 = _
    rw [← HKD.out, if_pos (by rw [← HCM.out]; exact HC1.out)])
  have PBR6 : pb ∉ reach bl (upd V1 0 (.slice sa sn sc)) := fun hx => by
    rcases GA.out.kin.reach hx with e | e
    · exact PBR.out e
    · have := PB.out.lt; omega
  have PB7 := Lib.hid (PB4.out.only GC.out.only PBR6)
  have Y7 := Lib.hid (GC.out.body Y4.out)
  have hgl : ((kd.come1 0).en 0).got.length = (k.en 0).got.length := by rw [HKD.out]; rfl
  clear GA PB
  obtain ⟨wC, hwC⟩ : ∃ wC, wC = w7.drew.alloc (.cells #[.slice ya bn yc] 23) := ⟨_, rfl⟩
  have lC : Below w7.heap.size w7 wC := hwC ▸ ((Below.refl w7.heap.size w7).drew.alloc (Nat.le_refl _) _)
  have KC := Lib.hid (GC.out.at_.below lC)
  have YC := Y7.out.move (Only.of_below (S := []) lC) (by simp) (fun x hx => .inl hx)
  obtain ⟨v', wD, hrD, hgD, hcD, hfD, grD, va, vc, rfl⟩ := KC.out.moreGot 0 (by decide) p.m.B y YC (g := w7.heap.size) (by rw [hwC, HY.out]; exact blk_at rfl rfl) (by rw [hgl]; exact HGT.out)
  obtain ⟨gn, hgn⟩ : ∃ gn, gn = ((kd.come1 0).en 0).got.length + 1 := ⟨_, rfl⟩
  rw [← hgn] at hrD hgD
  obtain ⟨vo2, hvo2⟩ : ∃ vo2, vo2 = upd V1 0 (.slice sa sn sc) (2 * 0 + 1) := ⟨_, rfl⟩
  have r1 : w7.cell? ⟨bl, 4, none⟩ = some vo2 := by rw [hvo2]; exact GC.out.at_.cell 4
  have r2 : wC.cell? ⟨bl, 4, none⟩ = some vo2 := by rw [hvo2]; exact KC.out.cell 4
  have r3 : wD.cell? ⟨bl, 4, none⟩ = some vo2 := by rw [hvo2]; exact hcD
  have t1 : w7.cell? ⟨pb, 4, none⟩ = some (.slice ya bn yc) := by rw [← HY.out]; exact PB7.out.cell 4
  have t2 : wC.cell? ⟨pb, 4, none⟩ = some (.slice ya bn yc) := by rw [← HY.out]; exact (PB7.out.below lC PB7.out.lt).cell 4
  have hpv7 : ∀ x, (upd V1 0 (.slice sa sn sc) (2 * 0 + 1)).ownBlock = some x → pb ≠ x := fun x hx e => by
    subst e
    rw [show upd V1 0 (.slice sa sn sc) (2 * 0 + 1) = V1 (2 * 0 + 1) from upd_ne (by decide)] at hx
    exact PBR.out (mem_reach.2 (.inr ⟨2 * 0 + 1, by decide, hx⟩))
  have t3 : wD.cell? ⟨pb, 4, none⟩ = some (.slice ya bn yc) := by
    have := ((PB7.out.below lC PB7.out.lt).grownO grD hpv7).cell 4
    rw [← HY.out]; exact this
  rw [← hvo2] at hrD
  have Q := Lib.hid (show ∀ d w', At2 8 9 (fun w' => w' = w7.drew) (fun w' => w' = wC) (fun w' => w' = wD) d w' → w'.cell? ⟨bl, 4, none⟩ = some vo2 ∧ w'.cell? ⟨pb, 4, none⟩ = some (.slice ya bn yc) from fun d w' h => by
    rcases h.any with rfl | rfl | rfl
    · exact ⟨r1, t1⟩
    · exact ⟨r2, t2⟩
    · exact ⟨r3, t3⟩)
  have HRD := Lib.hid hrD
  have HGD := Lib.hid hgD
  have HWC := Lib.hid hwC
  have QD := Lib.hid r3
  have FD := Lib.hid (show wD.frozen? ⟨bl, 4, none⟩ = false from hfD)
  have LC := Lib.hid lC
  clear hrD hgD hwC r1 r2 r3 t1 t2 t3 hcD hfD grD hvo2 hgn hgl lC YC hpv7 PB7 Y7 HY PBR PBR6 Y4 PB4 HCM HKD HB0 HC1 e1 he he' hb0 hb64
  refine wp_region_gate_tail (fun d w' => At2 8 9 (fun w' => w' = w7.drew) (fun w' => w' = wC) (fun w' => w' = wD) d w') 10 (by kernel_rfl) (by kernel_rfl) ?hI ?_
  case hI => exact At2.start (by rfl) (by rfl) rfl
  simp only [List.take_succ_cons, List.take_zero, List.drop_succ_cons, List.drop_zero]
  refine InvC.invc_value (.pointer (some ⟨bl, 1, none⟩)) (fun u hu => by cases hu) rfl (fun d w' _ _ h => by go_simp; all_goals rfl) (fun d w' _ _ h => At2.keep (by decide) (by decide) h) ?_
  simp only [Act.put, List.setIfInBounds_toArray, List.set_cons_zero, List.set_cons_succ]
  refine InvC.invc_value (.pointer (some ⟨bl, 1, none⟩)) (fun u hu => by cases hu) rfl (fun d w' _ _ h => by go_simp; all_goals rfl) (fun d w' _ _ h => At2.keep (by decide) (by decide) h) ?_
  simp only [Act.put, List.setIfInBounds_toArray, List.set_cons_zero, List.set_cons_succ]
  refine InvC.invc_value (.pointer (some ⟨bl, 1, none⟩)) (fun u hu => by cases hu) rfl (fun d w' _ _ h => by go_simp; all_goals rfl) (fun d w' _ _ h => At2.keep (by decide) (by decide) h) ?_
  simp only [Act.put, List.setIfInBounds_toArray, List.set_cons_zero, List.set_cons_succ]
  refine InvC.invc_value (.pointer (some ⟨bl, 4, none⟩)) (fun u hu => by cases hu) rfl (fun d w' _ _ h => by go_simp; all_goals rfl) (fun d w' _ _ h => At2.keep (by decide) (by decide) h) ?_
  simp only [Act.put, List.setIfInBounds_toArray, List.set_cons_zero, List.set_cons_succ]
  refine InvC.invc_value (vo2) (fun u hu => by cases hu) rfl (fun d w' _ _ h => by have q := (Q.out d w' h).1; go_simp) (fun d w' _ _ h => At2.keep (by decide) (by decide) h) ?_
  simp only [Act.put, List.setIfInBounds_toArray, List.set_cons_zero, List.set_cons_succ]
  refine InvC.invc_value (.pointer (some ⟨pb, 1, none⟩)) (fun u hu => by cases hu) rfl (fun d w' _ _ h => by go_simp; all_goals rfl) (fun d w' _ _ h => At2.keep (by decide) (by decide) h) ?_
  simp only [Act.put, List.setIfInBounds_toArray, List.set_cons_zero, List.set_cons_succ]
  refine InvC.invc_value (.pointer (some ⟨pb, 4, none⟩)) (fun u hu => by cases hu) rfl (fun d w' _ _ h => by go_simp; all_goals rfl) (fun d w' _ _ h => At2.keep (by decide) (by decide) h) ?_
  simp only [Act.put, List.setIfInBounds_toArray, List.set_cons_zero, List.set_cons_succ]
  refine InvC.invc_value (.slice ya bn yc) (fun u hu => by cases hu) rfl (fun d w' _ _ h => by have q := (Q.out d w' h).2; go_simp) (fun d w' _ _ h => At2.keep (by decide) (by decide) h) ?_
  simp only [Act.put, List.setIfInBounds_toArray, List.set_cons_zero, List.set_cons_succ]
  refine InvC.invc_world (.slice (some ⟨w7.heap.size, 0, none⟩) 1 1) (fun u hu => by cases hu) rfl (fun d w' hd hG h => ⟨wC, by
    have e := (h.at_p hd).1
    subst e
    rw [HWC.out]
    go_simp, At2.did_p (by decide) hd h rfl⟩) ?_
  simp only [Act.put, List.setIfInBounds_toArray, List.set_cons_zero, List.set_cons_succ]
  refine InvC.invc_world (.slice va gn vc) (fun u hu => by cases hu) rfl (fun d w' hd hG h => ⟨wD, by
    have e := h.at_q hd (hG.of (by kernel_rfl))
    subst e
    exact exec_append _ _ rfl rfl rfl HRD.out, At2.did_q (by decide) hd (hG.of (by kernel_rfl)) rfl⟩) ?_
  simp only [Act.put, List.setIfInBounds_toArray, List.set_cons_zero, List.set_cons_succ]
  refine InvC.invc_nil fun w8 hI => ?_
  have e6 := hI.done (by rfl)
  subst e6
  have q4 := QD.out
  have f4 := FD.out
  have GO3 := Lib.hid (((G4.out.trans GC.out).keep LC.out).trans HGD.out)
  clear Q QD FD HRD HWC LC HGD KC GC G4
  go_upto_region 14 with (fail)
  obtain ⟨w9, hw9⟩ : ∃ w9, w9 = w8.setCell ⟨bl, 4, none⟩ (.slice va gn vc) := ⟨_, rfl⟩
  rw [← hw9] at GO3 ⊢
  clear hw9 q4 f4
  have RM := Lib.hid (room_any GO3.out.at_)
  by_cases hroom : ((kd.come1 0).addGot 0 p.m.B).fl.length < 1024
  · have PT := Lib.hid (show Calls Try.prog 34 #[.pointer (some ⟨bl, 0, none⟩), .int .i64 0, .int .u32 0, .slice none 0 0] w9 fun e w' => e = .returned (.tuple #[]) ∧ ∃ V', Goes w9 bl _ A w' V' (((kd.come1 0).addGot 0 p.m.B).put 0 0 []) from put_any GO3.out.at_ 0 (by decide) 0 (S := []) (.inl ⟨rfl, rfl⟩) hroom)
    rw [decide_eq_true hroom] at RM
    have HR := Lib.hid hroom
    clear hroom
    go_wp2_with (first | (go_at_call 32; refine RM.out.mono ?_; rintro e w' ⟨rfl, rfl⟩) | (go_at_call 34; refine PT.out.mono ?_; rintro e w9 ⟨rfl, V9, g9⟩))
    go_ret
    refine ⟨rfl, V9, ?_⟩
    rw [EQ.out, show ((kd.come1 0).addGot 0 p.m.B).answer 0 = ((kd.come1 0).addGot 0 p.m.B).put 0 0 [] from if_pos HR.out]
    exact GO3.out.trans g9
  · rw [decide_eq_false hroom] at RM
    have HR := Lib.hid hroom
    clear hroom
    go_wp2_with (first | (go_at_call 32; refine RM.out.mono ?_; rintro e w' ⟨rfl, rfl⟩))
    go_ret
    refine ⟨rfl, ?_⟩
    rw [EQ.out, show ((kd.come1 0).addGot 0 p.m.B).answer 0 = ((kd.come1 0).addGot 0 p.m.B) from if_neg HR.out]
    exact ⟨_, GO3.out⟩
set_option maxHeartbeats 2000000 in
theorem deliver_ok1 (h : LinkAt w bl V A k) (i : Nat) (p : Pk) (hp : k.fl[i]? = some p) (hf : p.f = 0) (hgot : ((k.en 1).got.length + 1) * 24 ≤ 140737488355328) : Calls Try.prog 15 #[.pointer (some ⟨bl, 0, none⟩), .int .i64 (i : Int)] w fun e w' => e = .returned (.int .i64 0) ∧ ∃ V', Goes w bl V A w' V' ((k.less i).comes p) := by
  have hi : i < k.fl.length := (List.getElem?_eq_some_iff.1 hp).1
  have TN := Lib.hid (take_ok h i hi)
  have HPI := Lib.hid hp
  have HGT := Lib.hid hgot
  clear h hi hp hgot
  go_enter Try.func15, Try.ntmps15
  go_wp2_with fail
  refine TN.out.mono ?_
  rintro e w1 ⟨p', y, V1, hp', rfl, hG, hY⟩
  obtain rfl : p = p' := by have := HPI.out; rw [hp'] at this; exact (Option.some.inj this).symm
  have HG1 := Lib.hid hG
  have HY1 := Lib.hid hY
  obtain ⟨pv, hpv⟩ : ∃ pv, pv = pc (p, y) := ⟨_, rfl⟩
  have HPV := Lib.hid hpv
  have P5 := Lib.hid (show pv.length = 5 by rw [hpv]; rfl)
  have P1 := Lib.hid (show ∀ u ∈ pv, u.oneCell' = true by rw [hpv]; exact pc_one hY.one)
  have Z := Lib.hid (blk_at (w := w1) (g := w1.heap.size) (cs := zpk) (t := 74) (arr := #[.int .i64 0, .int .u32 0, .int .u32 0, .int .u32 0, .slice none 0 0]) rfl rfl)
  rw [← hpv]
  clear hG hY TN hpv hp'
  go_upto_region 4 with (first | (refine wpList_store_blk rfl 74 _ _ rfl w1.heap.size 0 5 rfl 74 zpk pv rfl Z.out (by kernel_rfl) P5.out (by decide) P1.out ?_; intro w2 z2 g2; have L2 := Lib.hid (below_grown (((Below.refl w1.heap.size w1).alloc (Nat.le_refl _) _)) g2 (by simp) (Nat.le_refl _)); have Z2 := Lib.hid z2; clear z2 g2))
  obtain ⟨pb, hpb⟩ : ∃ pb, pb = w1.heap.size := ⟨_, rfl⟩
  have PB := Lib.hid (show Blk w2 pb (pc (p, y)) 74 from by have := Z2.out; rw [put_all _ _ (by rw [P5.out]; rfl), ← hpb, HPV.out] at this; exact this)
  have PBR := Lib.hid (show pb ∉ reach bl V1 from fun hx => by have := HG1.out.at_.reach_lt hx; omega)
  have G2 := Lib.hid (HG1.out.keep L2.out)
  have Y2 := Lib.hid (HY1.out.move (Only.of_below (S := []) L2.out) (by simp) (fun x hx => .inl hx))
  have q0 : w2.cell? ⟨pb, 0, none⟩ = some (.int .i64 0) := by have := PB.out.cell 0; rw [this]; simp [pc, hf]
  have q1 : w2.cell? ⟨pb, 1, none⟩ = some (.int .u32 (p.m.e : Int)) := PB.out.cell 1
  have q3 : w2.cell? ⟨bl, 0, none⟩ = some (.int .u32 (k.ep : Int)) := G2.out.at_.cell 0
  rw [← hpb]
  clear Z Z2 L2 P1 P5 HPV HG1 HY1 hpb
  go_quiet (fail)
  have PB := Lib.hid (PB.out.drewN nq)
  have G2 := Lib.hid (G2.out.drewN nq)
  have Y2 := Lib.hid (Y2.out.drewN nq)
  have q4 : (w2.drewN nq).cell? ⟨bl, 5, none⟩ = some (V1 2) := G2.out.at_.cell 5
  have q0 : (w2.drewN nq).cell? ⟨pb, 0, none⟩ = some (.int .i64 0) := q0
  obtain ⟨w3, hw3⟩ : ∃ w3, w3 = w2.drewN nq := ⟨_, rfl⟩
  rw [← hw3] at PB G2 Y2 q4 q0 ⊢
  clear hw3
  clear q1 q3
  by_cases he : p.m.e = k.ep
  rotate_left
  · have he' : ¬ ((p.m.e : Int) = (k.ep : Int)) := by omega
    clear PB PBR Y2
    go_wp2_with fail
    go_ret
    refine ⟨rfl, V1, ?_⟩
    have e : (k.less i).comes p = k.less i := if_neg he
    rw [e]
    exact G2.out
  have he' : ((p.m.e : Int) = (k.ep : Int)) := by omega
  have hlt := G2.out.at_.head.lt
  have AC := Lib.hid (show Calls Try.prog 36 #[V1 2, Cl pb] w3 fun e w' => ∃ v' : Value, e = .returned v' ∧ Goes w3 bl V1 A (w'.setCell ⟨bl, 5, none⟩ v') (upd V1 2 v') ((k.less i).ackd 1 p.m.k) ∧ w'.cell? ⟨bl, 5, none⟩ = some (V1 2) ∧ w'.frozen? ⟨bl, 5, none⟩ = false ∧ w3.grownBy w' (V1 2).ownBlock from G2.out.at_.acked 1 (by decide) PB.out PBR.out)
  obtain ⟨vo, hvo⟩ : ∃ vo, vo = V1 2 := ⟨_, rfl⟩
  rw [← hvo] at AC q4
  clear hvo
  unfold Cl at AC
  go_wp2_with (fail)
  refine AC.out.mono ?_
  rintro e w5 ⟨vv, rfl, ga, ca, fa, gg⟩
  obtain ⟨sa, sc, hsv, _⟩ := ga.at_.slO 1 (by decide)
  obtain ⟨sn, hsn⟩ : ∃ sn, sn = (((k.less i).ackd 1 p.m.k).en 1).op.length := ⟨_, rfl⟩
  rw [show 2 * 1 = 2 from rfl, upd_self, ← hsn] at hsv
  subst hsv
  have GA := Lib.hid ga
  clear hsn
  clear ga gg AC
  go_upto_region 9 with (fail)
  obtain ⟨w4, hw4⟩ : ∃ w4, w4 = w5.setCell ⟨bl, 5, none⟩ (.slice sa sn sc) := ⟨_, rfl⟩
  rw [← hw4] at GA ⊢
  clear hw4 ca fa q0 q4
  obtain ⟨kd, hkd⟩ : ∃ kd, kd = (k.less i).ackd 1 p.m.k := ⟨_, rfl⟩
  have HKD := Lib.hid hkd
  rw [← hkd] at GA
  clear hkd
  have G4 := Lib.hid (G2.out.trans GA.out)
  have PB4 := Lib.hid (PB.out.only GA.out.only PBR.out)
  have Y4 := Lib.hid (GA.out.body Y2.out)
  obtain ⟨ya, yc, hy, _, hb64⟩ := Y4.out.slice
  obtain ⟨bn, hbn⟩ : ∃ bn, bn = p.m.B.length := ⟨_, rfl⟩
  rw [← hbn] at hy hb64
  have HY := Lib.hid hy
  have q5 : w4.cell? ⟨pb, 4, none⟩ = some (.slice ya bn yc) := by rw [← hy]; exact PB4.out.cell 4
  clear hy
  by_cases hB : p.m.B = []
  · have hb0 : bn = 0 := by rw [hbn, hB]; rfl
    subst hb0
    have HB0 := Lib.hid hB
    clear PB PBR PB4 Y4 Y2 G2 GA HY hbn hB
    go_wp2_with fail
    go_ret
    refine ⟨rfl, upd V1 2 (.slice sa sn sc), ?_⟩
    have e : (k.less i).comes p = kd := by
      rw [HKD.out]
      unfold Lk.comes
      rw [if_pos (show p.m.e = (k.less i).ep from he), if_pos HB0.out, hf]
    rw [e]
    exact G4.out
  have hb0 : bn ≠ 0 := by rw [hbn]; intro e; exact hB (List.eq_nil_of_length_eq_zero e)
  have HB0 := Lib.hid hB
  clear hB
  obtain ⟨cm, hcm⟩ : ∃ cm, cm = (kd.en 1).come := ⟨_, rfl⟩
  have HCM := Lib.hid hcm
  have q6 : w4.cell? ⟨bl, 7, none⟩ = some (.int .u32 (cm : Int)) := by rw [hcm]; exact G4.out.at_.cell 7
  have q7 : w4.cell? ⟨pb, 2, none⟩ = some (.int .u32 (p.m.s : Int)) := PB4.out.cell 2
  clear hcm hbn G2 Y2
  go_upto_region 11 with (fail)
  have q9 : w4.frozen? ⟨bl, 7, none⟩ = false := G4.out.at_.head.frozen 7
  go_quiet (fail)
  have PB4 := Lib.hid (PB4.out.drewN nq)
  have G4 := Lib.hid (G4.out.drewN nq)
  have Y4 := Lib.hid (Y4.out.drewN nq)
  have q5 : (w4.drewN nq).cell? ⟨pb, 4, none⟩ = some (.slice ya bn yc) := q5
  have q6 : (w4.drewN nq).cell? ⟨bl, 7, none⟩ = some (.int .u32 (cm : Int)) := q6
  have q9 : (w4.drewN nq).frozen? ⟨bl, 7, none⟩ = false := q9
  clear q7
  obtain ⟨w6, hw6⟩ : ∃ w6, w6 = w4.drewN nq := ⟨_, rfl⟩
  rw [← hw6] at PB4 G4 Y4 q5 q6 q9 ⊢
  clear hw6
  obtain ⟨c1, hc1⟩ : ∃ c1, c1 = (cm + 1) % 4294967296 := ⟨_, rfl⟩
  have hw : IntKind.u32.wrap ((cm : Int) + 1) = (c1 : Int) := by rw [IntKind.wrap_u32]; omega
  rw [hw]
  have HC1 := Lib.hid hc1
  clear hw hc1
  by_cases hs : p.m.s = c1
  rotate_left
  · have hs' : ¬ ((p.m.s : Int) = (c1 : Int)) := by omega
    go_upto_region 14 with (fail)
    have hs2 : ¬ (p.m.s = ((kd.en 1).come + 1) % 4294967296) := by rw [← HCM.out, ← HC1.out]; exact hs
    clear q5 q6 hs hs'
    have EQ := Lib.hid (show (k.less i).comes p = kd.answer 1 from by
      unfold Lk.comes Lk.handed
      rw [if_pos (show p.m.e = (k.less i).ep from he), if_neg HB0.out, hf]
      show Lk.answer (if p.m.s = ((((k.less i).ackd 1 p.m.k).en 1).come + 1) % 4294967296 then _ else _) 1 = _
      rw [← HKD.out, if_neg hs2])
    clear HKD HB0 HCM he he' PBR PB4 Y4 HY hs2 hb0 hb64
    have RM := Lib.hid (room_any G4.out.at_)
    by_cases hroom : kd.fl.length < 1024
    · have PT := Lib.hid (show Calls Try.prog 34 #[.pointer (some ⟨bl, 0, none⟩), .int .i64 1, .int .u32 0, .slice none 0 0] w6 fun e w' => e = .returned (.tuple #[]) ∧ ∃ V', Goes w6 bl _ A w' V' (kd.put 1 0 []) from put_any G4.out.at_ 1 (by decide) 0 (S := []) (.inl ⟨rfl, rfl⟩) hroom)
      rw [decide_eq_true hroom] at RM
      have HR := Lib.hid hroom
      clear hroom
      go_wp2_with (first | (go_at_call 32; refine RM.out.mono ?_; rintro e w' ⟨rfl, rfl⟩) | (go_at_call 34; refine PT.out.mono ?_; rintro e w9 ⟨rfl, V9, g9⟩))
      go_ret
      refine ⟨rfl, V9, ?_⟩
      rw [EQ.out, show kd.answer 1 = kd.put 1 0 [] from if_pos HR.out]
      exact G4.out.trans g9
    · rw [decide_eq_false hroom] at RM
      have HR := Lib.hid hroom
      clear hroom
      go_wp2_with (first | (go_at_call 32; refine RM.out.mono ?_; rintro e w' ⟨rfl, rfl⟩))
      go_ret
      refine ⟨rfl, ?_⟩
      rw [EQ.out, show kd.answer 1 = kd from if_neg HR.out]
      exact ⟨_, G4.out⟩
  subst hs
  go_upto_region 13 with (fail)
  have e1 : ((cm : Int) + 1) % 4294967296 = (p.m.s : Int) := by have := HC1.out; omega
  rw [e1]
  have GC := Lib.hid (show Goes w6 bl (upd V1 2 (.slice sa sn sc)) A (w6.setCell ⟨bl, 7, none⟩ (.int .u32 (p.m.s : Int))) (upd V1 2 (.slice sa sn sc)) (kd.come1 1) from by
    refine G4.out.at_.scalar 7 (.int .u32 (p.m.s : Int)) (kd.come1 1) ?_ (fun m => ?_) (fun m => ?_) rfl
    · rw [HC1.out, HCM.out]; rfl
    · unfold Lk.en Lk.come1 Lk.with; by_cases hm : m = 0 <;> simp [hm, Lk.en]
    · unfold Lk.en Lk.come1 Lk.with; by_cases hm : m = 0 <;> simp [hm, Lk.en])
  obtain ⟨w7, hw7⟩ : ∃ w7, w7 = w6.setCell ⟨bl, 7, none⟩ (.int .u32 (p.m.s : Int)) := ⟨_, rfl⟩
  rw [← hw7] at GC ⊢
  clear hw7 q5 q6 q9
  have EQ := Lib.hid (show (k.less i).comes p = ((kd.come1 1).addGot 1 p.m.B).answer 1 from by
    unfold Lk.comes Lk.handed
    rw [if_pos (show p.m.e = (k.less i).ep from he), if_neg HB0.out, hf]
    show Lk.answer (if p.m.s = ((((k.less i).ackd 1 p.m.k).en 1).come + 1) % 4294967296 then _ else _) 1 = _
    rw [← HKD.out, if_pos (by rw [← HCM.out]; exact HC1.out)])
  have PBR6 : pb ∉ reach bl (upd V1 2 (.slice sa sn sc)) := fun hx => by
    rcases GA.out.kin.reach hx with e | e
    · exact PBR.out e
    · have := PB.out.lt; omega
  have PB7 := Lib.hid (PB4.out.only GC.out.only PBR6)
  have Y7 := Lib.hid (GC.out.body Y4.out)
  have hgl : ((kd.come1 1).en 1).got.length = (k.en 1).got.length := by rw [HKD.out]; rfl
  clear GA PB
  obtain ⟨wC, hwC⟩ : ∃ wC, wC = w7.drew.alloc (.cells #[.slice ya bn yc] 23) := ⟨_, rfl⟩
  have lC : Below w7.heap.size w7 wC := hwC ▸ ((Below.refl w7.heap.size w7).drew.alloc (Nat.le_refl _) _)
  have KC := Lib.hid (GC.out.at_.below lC)
  have YC := Y7.out.move (Only.of_below (S := []) lC) (by simp) (fun x hx => .inl hx)
  obtain ⟨v', wD, hrD, hgD, hcD, hfD, grD, va, vc, rfl⟩ := KC.out.moreGot 1 (by decide) p.m.B y YC (g := w7.heap.size) (by rw [hwC, HY.out]; exact blk_at rfl rfl) (by rw [hgl]; exact HGT.out)
  obtain ⟨gn, hgn⟩ : ∃ gn, gn = ((kd.come1 1).en 1).got.length + 1 := ⟨_, rfl⟩
  rw [← hgn] at hrD hgD
  obtain ⟨vo2, hvo2⟩ : ∃ vo2, vo2 = upd V1 2 (.slice sa sn sc) (2 * 1 + 1) := ⟨_, rfl⟩
  have r1 : w7.cell? ⟨bl, 8, none⟩ = some vo2 := by rw [hvo2]; exact GC.out.at_.cell 8
  have r2 : wC.cell? ⟨bl, 8, none⟩ = some vo2 := by rw [hvo2]; exact KC.out.cell 8
  have r3 : wD.cell? ⟨bl, 8, none⟩ = some vo2 := by rw [hvo2]; exact hcD
  have t1 : w7.cell? ⟨pb, 4, none⟩ = some (.slice ya bn yc) := by rw [← HY.out]; exact PB7.out.cell 4
  have t2 : wC.cell? ⟨pb, 4, none⟩ = some (.slice ya bn yc) := by rw [← HY.out]; exact (PB7.out.below lC PB7.out.lt).cell 4
  have hpv7 : ∀ x, (upd V1 2 (.slice sa sn sc) (2 * 1 + 1)).ownBlock = some x → pb ≠ x := fun x hx e => by
    subst e
    rw [show upd V1 2 (.slice sa sn sc) (2 * 1 + 1) = V1 (2 * 1 + 1) from upd_ne (by decide)] at hx
    exact PBR.out (mem_reach.2 (.inr ⟨2 * 1 + 1, by decide, hx⟩))
  have t3 : wD.cell? ⟨pb, 4, none⟩ = some (.slice ya bn yc) := by
    have := ((PB7.out.below lC PB7.out.lt).grownO grD hpv7).cell 4
    rw [← HY.out]; exact this
  rw [← hvo2] at hrD
  have Q := Lib.hid (show ∀ d w', At2 8 9 (fun w' => w' = w7.drew) (fun w' => w' = wC) (fun w' => w' = wD) d w' → w'.cell? ⟨bl, 8, none⟩ = some vo2 ∧ w'.cell? ⟨pb, 4, none⟩ = some (.slice ya bn yc) from fun d w' h => by
    rcases h.any with rfl | rfl | rfl
    · exact ⟨r1, t1⟩
    · exact ⟨r2, t2⟩
    · exact ⟨r3, t3⟩)
  have HRD := Lib.hid hrD
  have HGD := Lib.hid hgD
  have HWC := Lib.hid hwC
  have QD := Lib.hid r3
  have FD := Lib.hid (show wD.frozen? ⟨bl, 8, none⟩ = false from hfD)
  have LC := Lib.hid lC
  clear hrD hgD hwC r1 r2 r3 t1 t2 t3 hcD hfD grD hvo2 hgn hgl lC YC hpv7 PB7 Y7 HY PBR PBR6 Y4 PB4 HCM HKD HB0 HC1 e1 he he' hb0 hb64
  refine wp_region_gate_tail (fun d w' => At2 8 9 (fun w' => w' = w7.drew) (fun w' => w' = wC) (fun w' => w' = wD) d w') 10 (by kernel_rfl) (by kernel_rfl) ?hI ?_
  case hI => exact At2.start (by rfl) (by rfl) rfl
  simp only [List.take_succ_cons, List.take_zero, List.drop_succ_cons, List.drop_zero]
  refine InvC.invc_value (.pointer (some ⟨bl, 5, none⟩)) (fun u hu => by cases hu) rfl (fun d w' _ _ h => by go_simp; all_goals rfl) (fun d w' _ _ h => At2.keep (by decide) (by decide) h) ?_
  simp only [Act.put, List.setIfInBounds_toArray, List.set_cons_zero, List.set_cons_succ]
  refine InvC.invc_value (.pointer (some ⟨bl, 5, none⟩)) (fun u hu => by cases hu) rfl (fun d w' _ _ h => by go_simp; all_goals rfl) (fun d w' _ _ h => At2.keep (by decide) (by decide) h) ?_
  simp only [Act.put, List.setIfInBounds_toArray, List.set_cons_zero, List.set_cons_succ]
  refine InvC.invc_value (.pointer (some ⟨bl, 5, none⟩)) (fun u hu => by cases hu) rfl (fun d w' _ _ h => by go_simp; all_goals rfl) (fun d w' _ _ h => At2.keep (by decide) (by decide) h) ?_
  simp only [Act.put, List.setIfInBounds_toArray, List.set_cons_zero, List.set_cons_succ]
  refine InvC.invc_value (.pointer (some ⟨bl, 8, none⟩)) (fun u hu => by cases hu) rfl (fun d w' _ _ h => by go_simp; all_goals rfl) (fun d w' _ _ h => At2.keep (by decide) (by decide) h) ?_
  simp only [Act.put, List.setIfInBounds_toArray, List.set_cons_zero, List.set_cons_succ]
  refine InvC.invc_value (vo2) (fun u hu => by cases hu) rfl (fun d w' _ _ h => by have q := (Q.out d w' h).1; go_simp) (fun d w' _ _ h => At2.keep (by decide) (by decide) h) ?_
  simp only [Act.put, List.setIfInBounds_toArray, List.set_cons_zero, List.set_cons_succ]
  refine InvC.invc_value (.pointer (some ⟨pb, 1, none⟩)) (fun u hu => by cases hu) rfl (fun d w' _ _ h => by go_simp; all_goals rfl) (fun d w' _ _ h => At2.keep (by decide) (by decide) h) ?_
  simp only [Act.put, List.setIfInBounds_toArray, List.set_cons_zero, List.set_cons_succ]
  refine InvC.invc_value (.pointer (some ⟨pb, 4, none⟩)) (fun u hu => by cases hu) rfl (fun d w' _ _ h => by go_simp; all_goals rfl) (fun d w' _ _ h => At2.keep (by decide) (by decide) h) ?_
  simp only [Act.put, List.setIfInBounds_toArray, List.set_cons_zero, List.set_cons_succ]
  refine InvC.invc_value (.slice ya bn yc) (fun u hu => by cases hu) rfl (fun d w' _ _ h => by have q := (Q.out d w' h).2; go_simp) (fun d w' _ _ h => At2.keep (by decide) (by decide) h) ?_
  simp only [Act.put, List.setIfInBounds_toArray, List.set_cons_zero, List.set_cons_succ]
  refine InvC.invc_world (.slice (some ⟨w7.heap.size, 0, none⟩) 1 1) (fun u hu => by cases hu) rfl (fun d w' hd hG h => ⟨wC, by
    have e := (h.at_p hd).1
    subst e
    rw [HWC.out]
    go_simp, At2.did_p (by decide) hd h rfl⟩) ?_
  simp only [Act.put, List.setIfInBounds_toArray, List.set_cons_zero, List.set_cons_succ]
  refine InvC.invc_world (.slice va gn vc) (fun u hu => by cases hu) rfl (fun d w' hd hG h => ⟨wD, by
    have e := h.at_q hd (hG.of (by kernel_rfl))
    subst e
    exact exec_append _ _ rfl rfl rfl HRD.out, At2.did_q (by decide) hd (hG.of (by kernel_rfl)) rfl⟩) ?_
  simp only [Act.put, List.setIfInBounds_toArray, List.set_cons_zero, List.set_cons_succ]
  refine InvC.invc_nil fun w8 hI => ?_
  have e6 := hI.done (by rfl)
  subst e6
  have q4 := QD.out
  have f4 := FD.out
  have GO3 := Lib.hid (((G4.out.trans GC.out).keep LC.out).trans HGD.out)
  clear Q QD FD HRD HWC LC HGD KC GC G4
  go_upto_region 14 with (fail)
  obtain ⟨w9, hw9⟩ : ∃ w9, w9 = w8.setCell ⟨bl, 8, none⟩ (.slice va gn vc) := ⟨_, rfl⟩
  rw [← hw9] at GO3 ⊢
  clear hw9 q4 f4
  have RM := Lib.hid (room_any GO3.out.at_)
  by_cases hroom : ((kd.come1 1).addGot 1 p.m.B).fl.length < 1024
  · have PT := Lib.hid (show Calls Try.prog 34 #[.pointer (some ⟨bl, 0, none⟩), .int .i64 1, .int .u32 0, .slice none 0 0] w9 fun e w' => e = .returned (.tuple #[]) ∧ ∃ V', Goes w9 bl _ A w' V' (((kd.come1 1).addGot 1 p.m.B).put 1 0 []) from put_any GO3.out.at_ 1 (by decide) 0 (S := []) (.inl ⟨rfl, rfl⟩) hroom)
    rw [decide_eq_true hroom] at RM
    have HR := Lib.hid hroom
    clear hroom
    go_wp2_with (first | (go_at_call 32; refine RM.out.mono ?_; rintro e w' ⟨rfl, rfl⟩) | (go_at_call 34; refine PT.out.mono ?_; rintro e w9 ⟨rfl, V9, g9⟩))
    go_ret
    refine ⟨rfl, V9, ?_⟩
    rw [EQ.out, show ((kd.come1 1).addGot 1 p.m.B).answer 1 = ((kd.come1 1).addGot 1 p.m.B).put 1 0 [] from if_pos HR.out]
    exact GO3.out.trans g9
  · rw [decide_eq_false hroom] at RM
    have HR := Lib.hid hroom
    clear hroom
    go_wp2_with (first | (go_at_call 32; refine RM.out.mono ?_; rintro e w' ⟨rfl, rfl⟩))
    go_ret
    refine ⟨rfl, ?_⟩
    rw [EQ.out, show ((kd.come1 1).addGot 1 p.m.B).answer 1 = ((kd.come1 1).addGot 1 p.m.B) from if_neg HR.out]
    exact ⟨_, GO3.out⟩
theorem deliver_any (h : LinkAt w bl V A k) (i : Nat) (p : Pk) (hp : k.fl[i]? = some p) (hf : p.f < 2) (hgot : ∀ n, n < 2 → ((k.en n).got.length + 1) * 24 ≤ 140737488355328) : Calls Try.prog 15 #[.pointer (some ⟨bl, 0, none⟩), .int .i64 (i : Int)] w fun e w' => e = .returned (.int .i64 0) ∧ ∃ V', Goes w bl V A w' V' ((k.less i).comes p) := by
  obtain e | e : p.f = 0 ∨ p.f = 1 := by omega
  · exact deliver_ok1 h i p hp e (hgot 1 (by decide))
  · exact deliver_ok0 h i p hp e (hgot 0 (by decide))
end
end Go.Proofs.Ytfjaoompdleljaa.Link
