/-
  Send, Renew of a link by contract. Helper text; no statement is proved here.
-/
import Derived.Test.YtfjaoompdleljaaLinkFl
set_option linter.unusedVariables false
set_option maxRecDepth 20000
set_option linter.unusedSimpArgs false
namespace Go.Proofs.Ytfjaoompdleljaa.Link
open Go.RowKit Go.Proofs.Ytfjaoompdleljaa.Base Go.Proofs.Ytfjaoompdleljaa.Laws Go.Proofs.Ytfjaoompdleljaa.Disk Go.Proofs.Ytfjaoompdleljaa.Row Go.Proofs.Ytfjaoompdleljaa.Flat Go.Proofs.Ytfjaoompdleljaa.InvM Go.Proofs.Ytfjaoompdleljaa.Inv Go.Proofs.Ytfjaoompdleljaa.InvL Go.Proofs.Ytfjaoompdleljaa.InvC Go.Proofs.Ytfjaoompdleljaa.InvG
def Lk.sendE (k : Lk) (n : Int) (l : Nat) : Int := if n < 0 ∨ 1 < n ∨ l < 1 ∨ 64 < l then 2 else if k.fl.length < 1024 ∧ (k.en n.toNat).op.length < 256 then 0 else 9
def Lk.sends (k : Lk) (n : Int) (B : List UInt8) : Lk := if k.sendE n B.length = 0 then k.send n.toNat B else k
section
variable {w : World} {bl : Nat} {V : Nat → Value} {A : List Nat} {k : Lk}
theorem send_any (h : LinkAt w bl V A k) (n : Int) (a : Option Addr) (l c : Nat) (B : List UInt8) (hb : Bts w a l c B) (hout : 0 < l → ∀ g o, a = some ⟨g, o, none⟩ → g ∉ reach bl V) : Calls Try.prog 11 #[.pointer (some ⟨bl, 0, none⟩), .int .i64 n, .slice a l c] w fun e w' => e = .returned (.int .i64 (k.sendE n l)) ∧ ∃ V', Goes w bl V A w' V' (k.sends n B) := by
  have hl : B.length = l := hb.1
  by_cases h1 : n < 0 ∨ 1 < n ∨ l < 1 ∨ 64 < l
  · refine (send_arg (some ⟨bl, 0, none⟩) n a l c h1 w).mono ?_
    rintro e w' ⟨rfl, rfl⟩
    have e : k.sendE n l = 2 := if_pos h1
    unfold Lk.sends
    rw [hl, e]
    exact ⟨rfl, V, Goes.refl h⟩
  · have hn : n = 0 ∨ n = 1 := by omega
    by_cases h2 : k.fl.length < 1024 ∧ (k.en n.toNat).op.length < 256
    · have e : k.sendE n l = 0 := by unfold Lk.sendE; rw [if_neg h1, if_pos h2]
      unfold Lk.sends
      rw [hl, e, if_pos rfl]
      rcases hb.2.2.2 with h4 | ⟨g, o, rfl, _⟩
      · omega
      rcases hn with rfl | rfl
      · exact send_ok0 h g o c l B hl (by omega) (by omega) hb h2.1 h2.2 (hout (by omega) g o rfl)
      · exact send_ok1 h g o c l B hl (by omega) (by omega) hb h2.1 h2.2 (hout (by omega) g o rfl)
    · have e : k.sendE n l = 9 := by unfold Lk.sendE; rw [if_neg h1, if_neg h2]
      unfold Lk.sends
      rw [hl, e]
      rcases hn with rfl | rfl
      · refine (send_full0 h a l c (by omega) (by omega) h2).mono ?_
        rintro e w' ⟨rfl, rfl⟩
        exact ⟨rfl, V, Goes.refl h⟩
      · refine (send_full1 h a l c (by omega) (by omega) h2).mono ?_
        rintro e w' ⟨rfl, rfl⟩
        exact ⟨rfl, V, Goes.refl h⟩
theorem renew_no (h : LinkAt w bl V A k) (e : Nat) (he : e ≤ k.ep) : Calls Try.prog 13 #[.pointer (some ⟨bl, 0, none⟩), .int .u32 (e : Int)] w fun x w' => x = .returned (.int .i64 2) ∧ w = w' := by
  have c0 : w.cell? ⟨bl, 0, none⟩ = some (.int .u32 (k.ep : Int)) := h.cell 0
  have he' : (e : Int) ≤ (k.ep : Int) := by omega
  clear h
  go_enter Try.func13, Try.ntmps13
  go_wp2_with fail
  go_ret
  exact ⟨rfl, rfl⟩
def Lk.renew (k : Lk) (e : Nat) : Lk := ⟨e, ⟨[], 0, 0, k.a.got⟩, ⟨[], 0, 0, k.b.got⟩, k.fl⟩
theorem invc_store {P : Program} {I : Array Bool → World → Prop} {G : Nat → Array Bool → Prop} {ops : Array Oper} {Q : Act → Prop} {i : Nat} {a : Act} {o : Oper} {rest : List Oper} (hw : Region.wanted o (yielded ops a.tmps) = true) (hr : ∀ d w, d.getD i true = false → G i d → I d w → ∃ w', (execOp a.eval o).run P w = .ok .skip w' ∧ I (d.setIfInBounds i true) w')
    (h : wpInvC P I G (fun _ => none) ops Q (i + 1) rest (a.put o.dst undef)) : wpInvC P I G (fun _ => none) ops Q i (o :: rest) a :=
  ⟨undef, ⟨(fun u hu => by cases hu), .inl ⟨hw, fun d w hd hG hI => by obtain ⟨w', h1, h2⟩ := hr d w hd hG hI; rw [h1]; exact ⟨rfl, h2⟩⟩⟩, h⟩
def Lk.clr (k : Lk) (n : Nat) : Lk := k.with n { k.en n with op := [] }
def Lk.sent0 (k : Lk) (n : Nat) : Lk := k.with n { k.en n with sent := 0 }
def Lk.come0 (k : Lk) (n : Nat) : Lk := k.with n { k.en n with come := 0 }
theorem LinkAt.cleared (h : LinkAt w bl V A k) (n : Nat) (hn : n < 2) : Goes w bl V A (w.setCell ⟨bl, 1 + 4 * n, none⟩ (.slice none 0 0)) (upd V (2 * n) (.slice none 0 0)) (k.clr n) := by
  refine h.turned (2 * n) (by omega) (.slice none 0 0) (1 + 4 * n) (k.clr n) (below_grownBy (Below.refl _ _)) (.inr (.inr rfl)) ?_ (fun m hm hne => ?_) (fun m hm _ => ?_) (fun _ => ?_) (fun m hm e => ?_) (fun m hm e => by omega) (fun e => by omega)
  · obtain rfl | rfl : n = 0 ∨ n = 1 := by omega
    · rfl
    · rfl
  · obtain ⟨rfl, rfl⟩ | ⟨rfl, rfl⟩ : (n = 0 ∧ m = 1) ∨ (n = 1 ∧ m = 0) := by omega
    · rfl
    · rfl
  · obtain rfl | rfl : n = 0 ∨ n = 1 := by omega
    · obtain rfl | rfl : m = 0 ∨ m = 1 := by omega
      · rfl
      · rfl
    · obtain rfl | rfl : m = 0 ∨ m = 1 := by omega
      · rfl
      · rfl
  · obtain rfl | rfl : n = 0 ∨ n = 1 := by omega
    · rfl
    · rfl
  · obtain rfl : m = n := by omega
    have e : ((k.clr m).en m).op = [] := by
      obtain rfl | rfl : m = 0 ∨ m = 1 := by omega
      · rfl
      · rfl
    rw [e]
    exact RowOf.nil
theorem en_with (k : Lk) (n m : Nat) (e : En) (hn : n < 2) (hm : m < 2) : (k.with n e).en m = if m = n then e else k.en m := by
  obtain rfl | rfl : n = 0 ∨ n = 1 := by omega
  · obtain rfl | rfl : m = 0 ∨ m = 1 := by omega
    · rfl
    · rfl
  · obtain rfl | rfl : m = 0 ∨ m = 1 := by omega
    · rfl
    · rfl
theorem LinkAt.sentAt (h : LinkAt w bl V A k) (n : Nat) (hn : n < 2) : Goes w bl V A (w.setCell ⟨bl, 2 + 4 * n, none⟩ (.int .u32 0)) V (k.sent0 n) := by
  refine h.scalar _ _ _ ?_ (fun m => ?_) (fun m => ?_) ?_ <;> (obtain rfl | rfl : n = 0 ∨ n = 1 := by omega) <;> first | rfl | (unfold Lk.sent0 Lk.en Lk.with; by_cases hm : m = 0 <;> simp [hm, Lk.en])
theorem LinkAt.comeAt (h : LinkAt w bl V A k) (n : Nat) (hn : n < 2) : Goes w bl V A (w.setCell ⟨bl, 3 + 4 * n, none⟩ (.int .u32 0)) V (k.come0 n) := by
  refine h.scalar _ _ _ ?_ (fun m => ?_) (fun m => ?_) ?_ <;> (obtain rfl | rfl : n = 0 ∨ n = 1 := by omega) <;> first | rfl | (unfold Lk.come0 Lk.en Lk.with; by_cases hm : m = 0 <;> simp [hm, Lk.en])
theorem LinkAt.epochAt (h : LinkAt w bl V A k) (e : Nat) : Goes w bl V A (w.setCell ⟨bl, 0, none⟩ (.int .u32 (e : Int))) V { k with ep := e } :=
  h.scalar _ _ _ rfl (fun m => rfl) (fun m => rfl) rfl
theorem renew_ok (h : LinkAt w bl V A k) (e : Nat) (he : k.ep < e) : Calls Try.prog 13 #[.pointer (some ⟨bl, 0, none⟩), .int .u32 (e : Int)] w fun x w' => x = .returned (.int .i64 0) ∧ ∃ V', Goes w bl V A w' V' (k.renew e) := by
  have c0 : w.cell? ⟨bl, 0, none⟩ = some (.int .u32 (k.ep : Int)) := h.cell 0
  have f0 := h.head.frozen 0
  have he' : ¬ ((e : Int) ≤ (k.ep : Int)) := by omega
  have H := Lib.hid h
  clear h
  go_enter Try.func13, Try.ntmps13
  go_wp2_with fail
  obtain ⟨w0, hw0⟩ : ∃ w0, w0 = w.setCell ⟨bl, 0, none⟩ (.int .u32 (e : Int)) := ⟨_, rfl⟩
  have G0 := Lib.hid (show Goes w bl V A w0 V { k with ep := e } from hw0 ▸ H.out.epochAt e)
  rw [← hw0]
  clear hw0 c0 f0 H
  refine wp_loop_rounds 3 ?_
  rw [rounds_succ]
  go_wp2_with fail
  have gA := G0.out.at_.drew
  have gB := gA.cleared 0 (by decide)
  have gC := gB.at_.sentAt 0 (by decide)
  have gD := gC.at_.comeAt 0 (by decide)
  obtain ⟨wB, hwB⟩ : ∃ wB, wB = w0.drew.setCell ⟨bl, 1, none⟩ (.slice none 0 0) := ⟨_, rfl⟩
  obtain ⟨wC, hwC⟩ : ∃ wC, wC = wB.setCell ⟨bl, 2, none⟩ (.int .u32 0) := ⟨_, rfl⟩
  obtain ⟨wD, hwD⟩ : ∃ wD, wD = wC.setCell ⟨bl, 3, none⟩ (.int .u32 0) := ⟨_, rfl⟩
  have GT := Lib.hid (show Goes w bl V A wD _ _ from by rw [hwD, hwC, hwB]; exact (((G0.out.keep ((Below.refl _ _).drew)).trans gB).trans gC).trans gD)
  obtain ⟨x1, cA⟩ : ∃ x, w0.drew.cell? ⟨bl, 1, none⟩ = some x := ⟨_, (gA.cell 1).trans rfl⟩
  have fA : w0.drew.frozen? ⟨bl, 1, none⟩ = false := gA.head.frozen 1
  obtain ⟨x2, cB⟩ : ∃ x, wB.cell? ⟨bl, 2, none⟩ = some x := ⟨_, by rw [hwB]; exact (gB.at_.cell 2).trans rfl⟩
  have fB : wB.frozen? ⟨bl, 2, none⟩ = false := by rw [hwB]; exact gB.at_.head.frozen 2
  obtain ⟨x3, cC⟩ : ∃ x, wC.cell? ⟨bl, 3, none⟩ = some x := ⟨_, by rw [hwC, hwB]; exact (gC.at_.cell 3).trans rfl⟩
  have fC : wC.frozen? ⟨bl, 3, none⟩ = false := by rw [hwC, hwB]; exact gC.at_.head.frozen 3
  have CC := Lib.hid cC
  have FC := Lib.hid fC
  have HWB := Lib.hid hwB
  have HWC := Lib.hid hwC
  have HWD := Lib.hid hwD
  clear gA gB gC gD G0 cC fC hwB hwC hwD
  refine wp_region_gate_tail (fun d w' => At2 10 15 (fun w' => w' = w0.drew) (fun w' => w' = wB) (fun w' => w' = wC) d w') 20 (by kernel_rfl) (by kernel_rfl) ?hI ?_
  case hI => exact At2.start (by rfl) (by rfl) rfl
  simp only [List.take_succ_cons, List.take_zero, List.drop_succ_cons, List.drop_zero]
  refine InvC.invc_value (.pointer (some ⟨bl, 0, none⟩)) (fun u hu => by cases hu) rfl (fun d w' _ _ h => by go_simp; all_goals rfl) (fun d w' _ _ h => At2.keep (by decide) (by decide) h) ?_
  simp only [Act.put, List.setIfInBounds_toArray, List.set_cons_zero, List.set_cons_succ]
  refine InvC.invc_value (.int .i64 0) (fun u hu => by cases hu) rfl (fun d w' _ _ h => by go_simp; all_goals rfl) (fun d w' _ _ h => At2.keep (by decide) (by decide) h) ?_
  simp only [Act.put, List.setIfInBounds_toArray, List.set_cons_zero, List.set_cons_succ]
  refine InvC.invc_value (.pointer (some ⟨bl, 0, none⟩)) (fun u hu => by cases hu) rfl (fun d w' _ _ h => by go_simp; all_goals rfl) (fun d w' _ _ h => At2.keep (by decide) (by decide) h) ?_
  simp only [Act.put, List.setIfInBounds_toArray, List.set_cons_zero, List.set_cons_succ]
  refine InvC.invc_value (.int .i64 0) (fun u hu => by cases hu) rfl (fun d w' _ _ h => by go_simp; all_goals rfl) (fun d w' _ _ h => At2.keep (by decide) (by decide) h) ?_
  simp only [Act.put, List.setIfInBounds_toArray, List.set_cons_zero, List.set_cons_succ]
  refine InvC.invc_value (.pointer (some ⟨bl, 0, none⟩)) (fun u hu => by cases hu) rfl (fun d w' _ _ h => by go_simp; all_goals rfl) (fun d w' _ _ h => At2.keep (by decide) (by decide) h) ?_
  simp only [Act.put, List.setIfInBounds_toArray, List.set_cons_zero, List.set_cons_succ]
  refine InvC.invc_value (.int .i64 0) (fun u hu => by cases hu) rfl (fun d w' _ _ h => by go_simp; all_goals rfl) (fun d w' _ _ h => At2.keep (by decide) (by decide) h) ?_
  simp only [Act.put, List.setIfInBounds_toArray, List.set_cons_zero, List.set_cons_succ]
  refine InvC.invc_value (.pointer (some ⟨bl, 0, none⟩)) (fun u hu => by cases hu) rfl (fun d w' _ _ h => by go_simp; all_goals rfl) (fun d w' _ _ h => At2.keep (by decide) (by decide) h) ?_
  simp only [Act.put, List.setIfInBounds_toArray, List.set_cons_zero, List.set_cons_succ]
  refine InvC.invc_value (.pointer (some ⟨bl, 1, none⟩)) (fun u hu => by cases hu) rfl (fun d w' _ _ h => by go_simp; all_goals rfl) (fun d w' _ _ h => At2.keep (by decide) (by decide) h) ?_
  simp only [Act.put, List.setIfInBounds_toArray, List.set_cons_zero, List.set_cons_succ]
  refine InvC.invc_value (.pointer (some ⟨bl, 1, none⟩)) (fun u hu => by cases hu) rfl (fun d w' _ _ h => by go_simp; all_goals rfl) (fun d w' _ _ h => At2.keep (by decide) (by decide) h) ?_
  simp only [Act.put, List.setIfInBounds_toArray, List.set_cons_zero, List.set_cons_succ]
  refine InvC.invc_value (.pointer (some ⟨bl, 1, none⟩)) (fun u hu => by cases hu) rfl (fun d w' _ _ h => by go_simp; all_goals rfl) (fun d w' _ _ h => At2.keep (by decide) (by decide) h) ?_
  simp only [Act.put, List.setIfInBounds_toArray, List.set_cons_zero, List.set_cons_succ]
  refine invc_store rfl (fun d w' hd hG h => ⟨wB, by
    have e := (h.at_p hd).1
    subst e
    rw [HWB.out]
    go_simp, At2.did_p (by decide) hd h rfl⟩) ?_
  simp only [Act.put, List.setIfInBounds_toArray, List.set_cons_zero, List.set_cons_succ]
  refine InvC.invc_value (.pointer (some ⟨bl, 0, none⟩)) (fun u hu => by cases hu) rfl (fun d w' _ _ h => by go_simp; all_goals rfl) (fun d w' _ _ h => At2.keep (by decide) (by decide) h) ?_
  simp only [Act.put, List.setIfInBounds_toArray, List.set_cons_zero, List.set_cons_succ]
  refine InvC.invc_value (.pointer (some ⟨bl, 1, none⟩)) (fun u hu => by cases hu) rfl (fun d w' _ _ h => by go_simp; all_goals rfl) (fun d w' _ _ h => At2.keep (by decide) (by decide) h) ?_
  simp only [Act.put, List.setIfInBounds_toArray, List.set_cons_zero, List.set_cons_succ]
  refine InvC.invc_value (.pointer (some ⟨bl, 1, none⟩)) (fun u hu => by cases hu) rfl (fun d w' _ _ h => by go_simp; all_goals rfl) (fun d w' _ _ h => At2.keep (by decide) (by decide) h) ?_
  simp only [Act.put, List.setIfInBounds_toArray, List.set_cons_zero, List.set_cons_succ]
  refine InvC.invc_value (.pointer (some ⟨bl, 2, none⟩)) (fun u hu => by cases hu) rfl (fun d w' _ _ h => by go_simp; all_goals rfl) (fun d w' _ _ h => At2.keep (by decide) (by decide) h) ?_
  simp only [Act.put, List.setIfInBounds_toArray, List.set_cons_zero, List.set_cons_succ]
  refine invc_store rfl (fun d w' hd hG h => ⟨wC, by
    have e := h.at_q hd (hG.of (by kernel_rfl))
    subst e
    rw [HWC.out]
    go_simp, At2.did_q (by decide) hd (hG.of (by kernel_rfl)) rfl⟩) ?_
  simp only [Act.put, List.setIfInBounds_toArray, List.set_cons_zero, List.set_cons_succ]
  refine InvC.invc_value (.pointer (some ⟨bl, 0, none⟩)) (fun u hu => by cases hu) rfl (fun d w' _ _ h => by go_simp; all_goals rfl) (fun d w' _ _ h => At2.keep (by decide) (by decide) h) ?_
  simp only [Act.put, List.setIfInBounds_toArray, List.set_cons_zero, List.set_cons_succ]
  refine InvC.invc_value (.pointer (some ⟨bl, 1, none⟩)) (fun u hu => by cases hu) rfl (fun d w' _ _ h => by go_simp; all_goals rfl) (fun d w' _ _ h => At2.keep (by decide) (by decide) h) ?_
  simp only [Act.put, List.setIfInBounds_toArray, List.set_cons_zero, List.set_cons_succ]
  refine InvC.invc_value (.pointer (some ⟨bl, 1, none⟩)) (fun u hu => by cases hu) rfl (fun d w' _ _ h => by go_simp; all_goals rfl) (fun d w' _ _ h => At2.keep (by decide) (by decide) h) ?_
  simp only [Act.put, List.setIfInBounds_toArray, List.set_cons_zero, List.set_cons_succ]
  refine InvC.invc_value (.pointer (some ⟨bl, 3, none⟩)) (fun u hu => by cases hu) rfl (fun d w' _ _ h => by go_simp; all_goals rfl) (fun d w' _ _ h => At2.keep (by decide) (by decide) h) ?_
  simp only [Act.put, List.setIfInBounds_toArray, List.set_cons_zero, List.set_cons_succ]
  refine InvC.invc_nil fun w9 hI => ?_
  have e6 := hI.done (by rfl)
  subst e6
  have c9 := CC.out
  have f9 := FC.out
  clear cA fA cB fB CC FC
  go_wp2_with fail
  obtain ⟨w1, hw1⟩ : ∃ w1, w1 = w9.setCell ⟨bl, 3, none⟩ (.int .u32 0) := ⟨_, rfl⟩
  rw [← hw1]
  have G3 := Lib.hid (show Goes w bl V A w1 _ _ from by rw [hw1, ← HWD.out]; exact GT.out)
  clear hw1 HWD HWC HWB GT
  rw [rounds_succ]
  go_wp2_with fail
  have gA := G3.out.at_.drew
  have gB := gA.cleared 1 (by decide)
  have gC := gB.at_.sentAt 1 (by decide)
  have gD := gC.at_.comeAt 1 (by decide)
  obtain ⟨wB, hwB⟩ : ∃ wB, wB = w1.drew.setCell ⟨bl, 5, none⟩ (.slice none 0 0) := ⟨_, rfl⟩
  obtain ⟨wC, hwC⟩ : ∃ wC, wC = wB.setCell ⟨bl, 6, none⟩ (.int .u32 0) := ⟨_, rfl⟩
  obtain ⟨wD, hwD⟩ : ∃ wD, wD = wC.setCell ⟨bl, 7, none⟩ (.int .u32 0) := ⟨_, rfl⟩
  have GT := Lib.hid (show Goes w bl V A wD _ _ from by rw [hwD, hwC, hwB]; exact (((G3.out.keep ((Below.refl _ _).drew)).trans gB).trans gC).trans gD)
  obtain ⟨x1, cA⟩ : ∃ x, w1.drew.cell? ⟨bl, 5, none⟩ = some x := ⟨_, (gA.cell 5).trans rfl⟩
  have fA : w1.drew.frozen? ⟨bl, 5, none⟩ = false := gA.head.frozen 5
  obtain ⟨x2, cB⟩ : ∃ x, wB.cell? ⟨bl, 6, none⟩ = some x := ⟨_, by rw [hwB]; exact (gB.at_.cell 6).trans rfl⟩
  have fB : wB.frozen? ⟨bl, 6, none⟩ = false := by rw [hwB]; exact gB.at_.head.frozen 6
  obtain ⟨x3, cC⟩ : ∃ x, wC.cell? ⟨bl, 7, none⟩ = some x := ⟨_, by rw [hwC, hwB]; exact (gC.at_.cell 7).trans rfl⟩
  have fC : wC.frozen? ⟨bl, 7, none⟩ = false := by rw [hwC, hwB]; exact gC.at_.head.frozen 7
  have CC := Lib.hid cC
  have FC := Lib.hid fC
  have HWB := Lib.hid hwB
  have HWC := Lib.hid hwC
  have HWD := Lib.hid hwD
  clear gA gB gC gD G3 cC fC hwB hwC hwD
  refine wp_region_gate_tail (fun d w' => At2 10 15 (fun w' => w' = w1.drew) (fun w' => w' = wB) (fun w' => w' = wC) d w') 20 (by kernel_rfl) (by kernel_rfl) ?hI ?_
  case hI => exact At2.start (by rfl) (by rfl) rfl
  simp only [List.take_succ_cons, List.take_zero, List.drop_succ_cons, List.drop_zero]
  refine InvC.invc_value (.pointer (some ⟨bl, 0, none⟩)) (fun u hu => by cases hu) rfl (fun d w' _ _ h => by go_simp; all_goals rfl) (fun d w' _ _ h => At2.keep (by decide) (by decide) h) ?_
  simp only [Act.put, List.setIfInBounds_toArray, List.set_cons_zero, List.set_cons_succ]
  refine InvC.invc_value (.int .i64 1) (fun u hu => by cases hu) rfl (fun d w' _ _ h => by go_simp; all_goals rfl) (fun d w' _ _ h => At2.keep (by decide) (by decide) h) ?_
  simp only [Act.put, List.setIfInBounds_toArray, List.set_cons_zero, List.set_cons_succ]
  refine InvC.invc_value (.pointer (some ⟨bl, 0, none⟩)) (fun u hu => by cases hu) rfl (fun d w' _ _ h => by go_simp; all_goals rfl) (fun d w' _ _ h => At2.keep (by decide) (by decide) h) ?_
  simp only [Act.put, List.setIfInBounds_toArray, List.set_cons_zero, List.set_cons_succ]
  refine InvC.invc_value (.int .i64 1) (fun u hu => by cases hu) rfl (fun d w' _ _ h => by go_simp; all_goals rfl) (fun d w' _ _ h => At2.keep (by decide) (by decide) h) ?_
  simp only [Act.put, List.setIfInBounds_toArray, List.set_cons_zero, List.set_cons_succ]
  refine InvC.invc_value (.pointer (some ⟨bl, 0, none⟩)) (fun u hu => by cases hu) rfl (fun d w' _ _ h => by go_simp; all_goals rfl) (fun d w' _ _ h => At2.keep (by decide) (by decide) h) ?_
  simp only [Act.put, List.setIfInBounds_toArray, List.set_cons_zero, List.set_cons_succ]
  refine InvC.invc_value (.int .i64 1) (fun u hu => by cases hu) rfl (fun d w' _ _ h => by go_simp; all_goals rfl) (fun d w' _ _ h => At2.keep (by decide) (by decide) h) ?_
  simp only [Act.put, List.setIfInBounds_toArray, List.set_cons_zero, List.set_cons_succ]
  refine InvC.invc_value (.pointer (some ⟨bl, 0, none⟩)) (fun u hu => by cases hu) rfl (fun d w' _ _ h => by go_simp; all_goals rfl) (fun d w' _ _ h => At2.keep (by decide) (by decide) h) ?_
  simp only [Act.put, List.setIfInBounds_toArray, List.set_cons_zero, List.set_cons_succ]
  refine InvC.invc_value (.pointer (some ⟨bl, 1, none⟩)) (fun u hu => by cases hu) rfl (fun d w' _ _ h => by go_simp; all_goals rfl) (fun d w' _ _ h => At2.keep (by decide) (by decide) h) ?_
  simp only [Act.put, List.setIfInBounds_toArray, List.set_cons_zero, List.set_cons_succ]
  refine InvC.invc_value (.pointer (some ⟨bl, 5, none⟩)) (fun u hu => by cases hu) rfl (fun d w' _ _ h => by go_simp; all_goals rfl) (fun d w' _ _ h => At2.keep (by decide) (by decide) h) ?_
  simp only [Act.put, List.setIfInBounds_toArray, List.set_cons_zero, List.set_cons_succ]
  refine InvC.invc_value (.pointer (some ⟨bl, 5, none⟩)) (fun u hu => by cases hu) rfl (fun d w' _ _ h => by go_simp; all_goals rfl) (fun d w' _ _ h => At2.keep (by decide) (by decide) h) ?_
  simp only [Act.put, List.setIfInBounds_toArray, List.set_cons_zero, List.set_cons_succ]
  refine invc_store rfl (fun d w' hd hG h => ⟨wB, by
    have e := (h.at_p hd).1
    subst e
    rw [HWB.out]
    go_simp, At2.did_p (by decide) hd h rfl⟩) ?_
  simp only [Act.put, List.setIfInBounds_toArray, List.set_cons_zero, List.set_cons_succ]
  refine InvC.invc_value (.pointer (some ⟨bl, 0, none⟩)) (fun u hu => by cases hu) rfl (fun d w' _ _ h => by go_simp; all_goals rfl) (fun d w' _ _ h => At2.keep (by decide) (by decide) h) ?_
  simp only [Act.put, List.setIfInBounds_toArray, List.set_cons_zero, List.set_cons_succ]
  refine InvC.invc_value (.pointer (some ⟨bl, 1, none⟩)) (fun u hu => by cases hu) rfl (fun d w' _ _ h => by go_simp; all_goals rfl) (fun d w' _ _ h => At2.keep (by decide) (by decide) h) ?_
  simp only [Act.put, List.setIfInBounds_toArray, List.set_cons_zero, List.set_cons_succ]
  refine InvC.invc_value (.pointer (some ⟨bl, 5, none⟩)) (fun u hu => by cases hu) rfl (fun d w' _ _ h => by go_simp; all_goals rfl) (fun d w' _ _ h => At2.keep (by decide) (by decide) h) ?_
  simp only [Act.put, List.setIfInBounds_toArray, List.set_cons_zero, List.set_cons_succ]
  refine InvC.invc_value (.pointer (some ⟨bl, 6, none⟩)) (fun u hu => by cases hu) rfl (fun d w' _ _ h => by go_simp; all_goals rfl) (fun d w' _ _ h => At2.keep (by decide) (by decide) h) ?_
  simp only [Act.put, List.setIfInBounds_toArray, List.set_cons_zero, List.set_cons_succ]
  refine invc_store rfl (fun d w' hd hG h => ⟨wC, by
    have e := h.at_q hd (hG.of (by kernel_rfl))
    subst e
    rw [HWC.out]
    go_simp, At2.did_q (by decide) hd (hG.of (by kernel_rfl)) rfl⟩) ?_
  simp only [Act.put, List.setIfInBounds_toArray, List.set_cons_zero, List.set_cons_succ]
  refine InvC.invc_value (.pointer (some ⟨bl, 0, none⟩)) (fun u hu => by cases hu) rfl (fun d w' _ _ h => by go_simp; all_goals rfl) (fun d w' _ _ h => At2.keep (by decide) (by decide) h) ?_
  simp only [Act.put, List.setIfInBounds_toArray, List.set_cons_zero, List.set_cons_succ]
  refine InvC.invc_value (.pointer (some ⟨bl, 1, none⟩)) (fun u hu => by cases hu) rfl (fun d w' _ _ h => by go_simp; all_goals rfl) (fun d w' _ _ h => At2.keep (by decide) (by decide) h) ?_
  simp only [Act.put, List.setIfInBounds_toArray, List.set_cons_zero, List.set_cons_succ]
  refine InvC.invc_value (.pointer (some ⟨bl, 5, none⟩)) (fun u hu => by cases hu) rfl (fun d w' _ _ h => by go_simp; all_goals rfl) (fun d w' _ _ h => At2.keep (by decide) (by decide) h) ?_
  simp only [Act.put, List.setIfInBounds_toArray, List.set_cons_zero, List.set_cons_succ]
  refine InvC.invc_value (.pointer (some ⟨bl, 7, none⟩)) (fun u hu => by cases hu) rfl (fun d w' _ _ h => by go_simp; all_goals rfl) (fun d w' _ _ h => At2.keep (by decide) (by decide) h) ?_
  simp only [Act.put, List.setIfInBounds_toArray, List.set_cons_zero, List.set_cons_succ]
  refine InvC.invc_nil fun w9 hI => ?_
  have e6 := hI.done (by rfl)
  subst e6
  have c9 := CC.out
  have f9 := FC.out
  clear cA fA cB fB CC FC
  go_wp2_with fail
  obtain ⟨w2, hw2⟩ : ∃ w2, w2 = w9.setCell ⟨bl, 7, none⟩ (.int .u32 0) := ⟨_, rfl⟩
  rw [← hw2]
  have G6 := Lib.hid (show Goes w bl V A w2 _ _ from by rw [hw2, ← HWD.out]; exact GT.out)
  clear hw2 HWD HWC HWB GT
  rw [rounds_succ]
  go_wp2_with fail
  go_ret
  exact ⟨rfl, _, G6.out⟩
end
end Go.Proofs.Ytfjaoompdleljaa.Link
