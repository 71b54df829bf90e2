/-
  room and Send of a link by contract. Helper text; no statement is proved here.
-/
import Derived.Test.YtfjaoompdleljaaLinkR
import Derived.Test.YtfjaoompdleljaaLinkNil
set_option linter.unusedVariables false
set_option maxRecDepth 20000
set_option linter.unusedSimpArgs false
namespace Go.Proofs.Ytfjaoompdleljaa.Link
open Go.RowKit Go.Proofs.Ytfjaoompdleljaa.Base Go.Proofs.Ytfjaoompdleljaa.Laws Go.Proofs.Ytfjaoompdleljaa.Disk Go.Proofs.Ytfjaoompdleljaa.Row Go.Proofs.Ytfjaoompdleljaa.Flat Go.Proofs.Ytfjaoompdleljaa.InvM Go.Proofs.Ytfjaoompdleljaa.Inv Go.Proofs.Ytfjaoompdleljaa.InvL Go.Proofs.Ytfjaoompdleljaa.InvC Go.Proofs.Ytfjaoompdleljaa.InvG Go.Proofs.Ytfjaoompdleljaa.Codec
section
variable {w : World} {bl : Nat} {V : Nat → Value} {A : List Nat} {k : Lk}
theorem LinkAt.slF (h : LinkAt w bl V A k) : ∃ a c, V 4 = .slice a k.fl.length c ∧ k.fl.length ≤ c := by
  obtain ⟨ps, e, h1, h2⟩ := h.fl
  obtain ⟨a, c, e1, e2, _⟩ := own_slice h1 (by decide)
  rw [← e]
  exact ⟨a, c, by simpa using e1, by simpa using e2⟩
theorem LinkAt.slO (h : LinkAt w bl V A k) (n : Nat) (hn : n < 2) : ∃ a c, V (2 * n) = .slice a (k.en n).op.length c ∧ (k.en n).op.length ≤ c := by
  obtain ⟨ps, e, h1, h2⟩ := h.o n hn
  obtain ⟨a, c, e1, e2, _⟩ := own_slice h1 (by decide)
  rw [← e]
  exact ⟨a, c, by simpa using e1, by simpa using e2⟩
theorem LinkAt.slG (h : LinkAt w bl V A k) (n : Nat) (hn : n < 2) : ∃ a c, V (2 * n + 1) = .slice a (k.en n).got.length c ∧ (k.en n).got.length ≤ c := by
  obtain ⟨ps, e, h1, h2⟩ := h.g n hn
  obtain ⟨a, c, e1, e2, _⟩ := own_slice h1 (by decide)
  rw [← e]
  exact ⟨a, c, by simpa using e1, by simpa using e2⟩
theorem room_any (h : LinkAt w bl V A k) : Calls Try.prog 32 #[.pointer (some ⟨bl, 0, none⟩)] w fun e w' => e = .returned (.bool (decide (k.fl.length < 1024))) ∧ w = w' := by
  obtain ⟨a, c, e, _⟩ := h.slF
  have c9 : w.cell? ⟨bl, 9, none⟩ = some (V 4) := h.cell 9
  rw [e] at c9
  obtain ⟨n, hn⟩ : ∃ n, n = k.fl.length := ⟨_, rfl⟩
  rw [← hn] at c9 ⊢
  clear h e hn
  by_cases hl : n < 1024
  · have hl' : (n : Int) < 1024 := by omega
    rw [decide_eq_true hl]
    go_enter Try.func32, Try.ntmps32
    go_wp2_with fail
    go_ret
    exact ⟨rfl, rfl⟩
  · have hl' : ¬ (n : Int) < 1024 := by omega
    rw [decide_eq_false hl]
    go_enter Try.func32, Try.ntmps32
    go_wp2_with fail
    go_ret
    exact ⟨rfl, rfl⟩
theorem send_arg (p : Option Addr) (n : Int) (a : Option Addr) (l c : Nat) (hb : n < 0 ∨ 1 < n ∨ l < 1 ∨ 64 < l) (w : World) : Calls Try.prog 11 #[.pointer p, .int .i64 n, .slice a l c] w fun e w' => e = .returned (.int .i64 2) ∧ w = w' := by
  cases p with
  | none => exact send_nil n a l c w
  | some p =>
    by_cases h1 : n < 0
    · go_enter Try.func11, Try.ntmps11
      go_wp2_with fail
      go_ret
      exact ⟨rfl, rfl⟩
    by_cases h2 : 1 < n
    · go_enter Try.func11, Try.ntmps11
      go_wp2_with fail
      go_ret
      exact ⟨rfl, rfl⟩
    by_cases h3 : (l : Int) < 1
    · go_enter Try.func11, Try.ntmps11
      go_wp2_with fail
      go_ret
      exact ⟨rfl, rfl⟩
    · have h4 : (64 : Int) < l := by omega
      clear hb
      go_enter Try.func11, Try.ntmps11
      go_wp2_with fail
      go_ret
      exact ⟨rfl, rfl⟩
theorem send_full0 (h : LinkAt w bl V A k) (a : Option Addr) (l c : Nat) (h1 : 1 ≤ l) (h2 : l ≤ 64) (hf : ¬ (k.fl.length < 1024 ∧ (k.en 0).op.length < 256)) : Calls Try.prog 11 #[.pointer (some ⟨bl, 0, none⟩), .int .i64 0, .slice a l c] w fun e w' => e = .returned (.int .i64 9) ∧ w = w' := by
  have RM := Lib.hid (room_any h)
  obtain ⟨oa, oc, eo, _⟩ := h.slO 0 (by decide)
  have co : w.cell? ⟨bl, 1, none⟩ = some (V 0) := h.cell 1
  have eo' : V 0 = .slice oa (k.en 0).op.length oc := eo
  rw [eo'] at co
  obtain ⟨on, hon⟩ : ∃ on, on = (k.en 0).op.length := ⟨_, rfl⟩
  rw [← hon] at co hf
  have i1 : ¬ ((l : Int) < 1) := by omega
  have i2 : ¬ ((64 : Int) < l) := by omega
  clear h eo eo' hon
  by_cases hr : k.fl.length < 1024
  · rw [decide_eq_true hr] at RM
    have ho : (256 : Int) ≤ on := by omega
    clear hf hr
    go_enter Try.func11, Try.ntmps11
    go_wp2_with (first | (go_at_call 32; refine RM.out.mono ?_; rintro e w' ⟨rfl, rfl⟩))
    go_ret
    exact ⟨rfl, rfl⟩
  · rw [decide_eq_false hr] at RM
    clear hf hr
    go_enter Try.func11, Try.ntmps11
    go_wp2_with (first | (go_at_call 32; refine RM.out.mono ?_; rintro e w' ⟨rfl, rfl⟩))
    go_ret
    exact ⟨rfl, rfl⟩
theorem send_full1 (h : LinkAt w bl V A k) (a : Option Addr) (l c : Nat) (h1 : 1 ≤ l) (h2 : l ≤ 64) (hf : ¬ (k.fl.length < 1024 ∧ (k.en 1).op.length < 256)) : Calls Try.prog 11 #[.pointer (some ⟨bl, 0, none⟩), .int .i64 1, .slice a l c] w fun e w' => e = .returned (.int .i64 9) ∧ w = w' := by
  have RM := Lib.hid (room_any h)
  obtain ⟨oa, oc, eo, _⟩ := h.slO 1 (by decide)
  have co : w.cell? ⟨bl, 5, none⟩ = some (V 2) := h.cell 5
  have eo' : V 2 = .slice oa (k.en 1).op.length oc := eo
  rw [eo'] at co
  obtain ⟨on, hon⟩ : ∃ on, on = (k.en 1).op.length := ⟨_, rfl⟩
  rw [← hon] at co hf
  have i1 : ¬ ((l : Int) < 1) := by omega
  have i2 : ¬ ((64 : Int) < l) := by omega
  clear h eo eo' hon
  by_cases hr : k.fl.length < 1024
  · rw [decide_eq_true hr] at RM
    have ho : (256 : Int) ≤ on := by omega
    clear hf hr
    go_enter Try.func11, Try.ntmps11
    go_wp2_with (first | (go_at_call 32; refine RM.out.mono ?_; rintro e w' ⟨rfl, rfl⟩))
    go_ret
    exact ⟨rfl, rfl⟩
  · rw [decide_eq_false hr] at RM
    clear hf hr
    go_enter Try.func11, Try.ntmps11
    go_wp2_with (first | (go_at_call 32; refine RM.out.mono ?_; rintro e w' ⟨rfl, rfl⟩))
    go_ret
    exact ⟨rfl, rfl⟩
set_option maxHeartbeats 2000000 in
theorem send_ok0 (h : LinkAt w bl V A k) (g o c bn : Nat) (B : List UInt8) (hbn : B.length = bn) (h0 : 1 ≤ bn) (h64 : bn ≤ 64) (hb : Bts w (some ⟨g, o, none⟩) bn c B) (hfl : k.fl.length < 1024) (hop : (k.en 0).op.length < 256) (hbb : g ∉ reach bl V) : Calls Try.prog 11 #[.pointer (some ⟨bl, 0, none⟩), .int .i64 0, .slice (some ⟨g, o, none⟩) bn c] w fun e w' => e = .returned (.int .i64 0) ∧ ∃ V', Goes w bl V A w' V' (k.send 0 B) := by
  have hlt := h.head.lt
  have RM := Lib.hid (room_any h)
  rw [decide_eq_true hfl] at RM
  obtain ⟨oa, oc, eo, _⟩ := h.slO 0 (by decide)
  have co : w.cell? ⟨bl, 1, none⟩ = some (V 0) := h.cell 1
  have eo' : V 0 = .slice oa (k.en 0).op.length oc := eo
  rw [eo'] at co
  obtain ⟨on, hon⟩ : ∃ on, on = (k.en 0).op.length := ⟨_, rfl⟩
  rw [← hon] at co
  have ho : (on : Int) < 256 := by omega
  have i1 : (1 : Int) ≤ bn := by omega
  have i2 : (bn : Int) ≤ 64 := by omega
  obtain ⟨sn, hsn⟩ : ∃ sn, sn = (k.en 0).sent := ⟨_, rfl⟩
  have cs : w.cell? ⟨bl, 2, none⟩ = some (.int .u32 (sn : Int)) := by rw [hsn]; exact h.cell 2
  have fs : w.frozen? ⟨bl, 2, none⟩ = false := h.head.frozen 2
  have H0 := Lib.hid h
  have HB := Lib.hid hb
  have HSN := Lib.hid hsn
  have HBN := Lib.hid hbn
  have HOP := Lib.hid hop
  clear h eo eo' hon hb hsn hbn hop
  go_enter Try.func11, Try.ntmps11
  go_upto_region 7 with (first | (go_at_call 32; refine RM.out.mono ?_; rintro e w' ⟨rfl, rfl⟩))
  have e1 : ((sn : Int) + 1) % 4294967296 = (((sn + 1) % 4294967296 : Nat) : Int) := by omega
  obtain ⟨s1, hs1⟩ : ∃ s1, s1 = (sn + 1) % 4294967296 := ⟨_, rfl⟩
  rw [e1, ← hs1]
  obtain ⟨w1, hw1⟩ : ∃ w1, w1 = w.setCell ⟨bl, 2, none⟩ (.int .u32 (s1 : Int)) := ⟨_, rfl⟩
  rw [← hw1]
  have GO1 := Lib.hid (show Goes w bl V A w1 V (k.bump 0) from hw1 ▸ H0.out.scalar 2 _ (k.bump 0) (by rw [hs1, HSN.out]; rfl) (fun m => by cases m <;> rfl) (fun m => by cases m <;> rfl) rfl)
  have HB1 := Lib.hid (bts_only HB.out GO1.out.only hbb)
  have HS1 := Lib.hid (show s1 = ((k.en 0).sent + 1) % 4294967296 by rw [hs1, HSN.out])
  obtain ⟨hbB, hlB, hsB⟩ := cloneW_is w1.drew bn B HBN.out (by omega)
  have CX := Lib.hid (clone_exact ⟨g, o, none⟩ bn c B (by omega) (by omega) w1.drew HB1.out)
  obtain ⟨wB, hwB⟩ : ∃ wB, wB = cloneW w1.drew bn B := ⟨_, rfl⟩
  obtain ⟨cc, hcc⟩ : ∃ cc, cc = cloneC w1.drew bn := ⟨_, rfl⟩
  obtain ⟨cA, hcA⟩ : ∃ cA, cA = w1.drew.heap.size + 1 := ⟨_, rfl⟩
  rw [← hwB, ← hcc, ← hcA] at CX hbB
  rw [← hwB] at hlB hsB
  have hcA' : cA = w1.heap.size + 1 := hcA
  have lB : Below w1.heap.size w1 wB := (Below.refl w1.heap.size w1).drew.trans hlB
  obtain ⟨mv, hmv⟩ : ∃ mv, mv = mc (⟨0, s1, 0, B⟩, .slice (some ⟨cA, 0, none⟩) bn cc) := ⟨_, rfl⟩
  have BM := Lib.hid (show Try.prog.built 71 [(1, .int .u32 (s1 : Int)), (3, .slice (some ⟨cA, 0, none⟩) bn cc)] = some mv.toArray from by rw [hmv]; kernel_rfl)
  have HM4 := Lib.hid (show mv.length = 4 by rw [hmv]; rfl)
  obtain ⟨wC, hwC⟩ : ∃ wC, wC = wB.alloc (.cells mv.toArray 71) := ⟨_, rfl⟩
  have lC : Below wB.heap.size wB wC := hwC ▸ (Below.refl _ _).alloc (Nat.le_refl _) _
  have lC1 : Below w1.heap.size w1 wC := lB.trans (lC.mono lB.size)
  have KC := Lib.hid (GO1.out.at_.below lC1)
  have YC : Body wC (reach bl V ++ A) (.slice (some ⟨cA, 0, none⟩) bn cc) B := by
    have e := HBN.out
    subst e
    refine .inr ⟨cA, 0, cc, rfl, h0, h64, hbB.below lC (Nat.le_refl _), fun hx => ?_⟩
    rcases List.mem_append.1 hx with hx | hx
    · have := GO1.out.at_.reach_lt hx; omega
    · have := GO1.out.at_.out cA hx; omega
  obtain ⟨v', wD, hrD, hgD, hcD, hfD, grD, va, vc, rfl⟩ := KC.out.moreOpen 0 (by decide) ⟨0, s1, 0, B⟩ (.slice (some ⟨cA, 0, none⟩) bn cc) YC (g := wB.heap.size) (by rw [hwC, hmv]; exact blk_at rfl rfl) (by have := HOP.out; show (k.en 0).op.length < 1024; omega)
  have HRD := Lib.hid hrD
  have HGD := Lib.hid hgD
  have HWB := Lib.hid hwB
  have HWC := Lib.hid hwC
  have HSB := Lib.hid (show wB.heap.size = cA + 1 by omega)
  have HCA := Lib.hid hcA
  have LB := Lib.hid lB
  have LC1 := Lib.hid lC1
  have q1 : w1.cell? ⟨bl, 1, none⟩ = some (V 0) := GO1.out.at_.cell 1
  have q2 : wB.cell? ⟨bl, 1, none⟩ = some (V 0) := (GO1.out.at_.below lB).cell 1
  have q3 : wC.cell? ⟨bl, 1, none⟩ = some (V 0) := KC.out.cell 1
  have q4 : wD.cell? ⟨bl, 1, none⟩ = some (V 0) := hcD
  have p1 : w1.cell? ⟨bl, 2, none⟩ = some (.int .u32 (s1 : Int)) := by rw [HS1.out]; exact GO1.out.at_.cell 2
  have p2 : wB.cell? ⟨bl, 2, none⟩ = some (.int .u32 (s1 : Int)) := by rw [HS1.out]; exact (GO1.out.at_.below lB).cell 2
  have p3 : wC.cell? ⟨bl, 2, none⟩ = some (.int .u32 (s1 : Int)) := by rw [HS1.out]; exact KC.out.cell 2
  have p4 : wD.cell? ⟨bl, 2, none⟩ = some (.int .u32 (s1 : Int)) := by
    have := (KC.out.head.grownO grD (fun x hx => by have := KC.out.row 0 (by decide) hx; omega)).cell 2
    rw [HS1.out]; exact this
  obtain ⟨vo, hvo⟩ : ∃ vo, vo = V 0 := ⟨_, rfl⟩
  have HVO := Lib.hid hvo
  rw [← hvo] at q1 q2 q3 q4
  have HRD' := Lib.hid (show (Builtin.append_ #[48, 48] 48 #[vo, .slice (some ⟨cA + 1, 0, none⟩) 1 1]).run Try.prog wC = .ok (.slice va ((k.en 0).op.length + 1) vc) wD from by rw [hvo, ← HSB.out]; exact HRD.out)
  obtain ⟨fn, hfn⟩ : ∃ fn, fn = (k.en 0).op.length + 1 := ⟨_, rfl⟩
  rw [← hfn] at HRD'
  have HGD' := Lib.hid (show Goes wC bl V A (wD.setCell ⟨bl, 1, none⟩ (.slice va fn vc)) (upd V 0 (.slice va fn vc)) ((k.bump 0).addOpen 0 ⟨0, s1, 0, B⟩) from by rw [hfn]; exact HGD.out)
  have Q := Lib.hid (show ∀ d w', At3 10 12 13 (fun w' => w' = w1.drew) (fun w' => w' = wB) (fun w' => w' = wC) (fun w' => w' = wD) d w' → w'.cell? ⟨bl, 1, none⟩ = some vo ∧ w'.cell? ⟨bl, 2, none⟩ = some (.int .u32 (s1 : Int)) from fun d w' h => by
    rcases h.any with rfl | rfl | rfl | rfl
    · exact ⟨q1, p1⟩
    · exact ⟨q2, p2⟩
    · exact ⟨q3, p3⟩
    · exact ⟨q4, p4⟩)
  have QD := Lib.hid q4
  have FD := Lib.hid (show wD.frozen? ⟨bl, 1, none⟩ = false from hfD)
  clear hs1 hw1 hwB hcc hcA hcA' hlB hsB hbB lB hmv hwC lC lC1 YC hrD hgD hcD hfD grD q1 q2 q3 q4 p1 p2 p3 p4 hvo HRD HGD HVO hfn KC RM co cs fs ho HSN HOP
  refine wp_region_gate_tail (fun d w' => At3 10 12 13 (fun w' => w' = w1.drew) (fun w' => w' = wB) (fun w' => w' = wC) (fun w' => w' = wD) d w') 16 (by kernel_rfl) (by kernel_rfl) ?hI ?_
  case hI => exact At3.start (by rfl) (by rfl) (by rfl) rfl
  simp only [List.take_succ_cons, List.take_zero, List.drop_succ_cons, List.drop_zero]
  refine InvC.invc_value (.pointer (some ⟨bl, 1, none⟩)) (fun u hu => by cases hu) rfl (fun d w' _ _ h => by go_simp; all_goals rfl) (fun d w' _ _ h => At3.keep (by decide) (by decide) (by decide) h) ?_
  simp only [Act.put, List.setIfInBounds_toArray, List.set_cons_zero, List.set_cons_succ]
  refine InvC.invc_value (.pointer (some ⟨bl, 1, none⟩)) (fun u hu => by cases hu) rfl (fun d w' _ _ h => by go_simp; all_goals rfl) (fun d w' _ _ h => At3.keep (by decide) (by decide) (by decide) h) ?_
  simp only [Act.put, List.setIfInBounds_toArray, List.set_cons_zero, List.set_cons_succ]
  refine InvC.invc_value (.pointer (some ⟨bl, 1, none⟩)) (fun u hu => by cases hu) rfl (fun d w' _ _ h => by go_simp; all_goals rfl) (fun d w' _ _ h => At3.keep (by decide) (by decide) (by decide) h) ?_
  simp only [Act.put, List.setIfInBounds_toArray, List.set_cons_zero, List.set_cons_succ]
  refine InvC.invc_value (.pointer (some ⟨bl, 1, none⟩)) (fun u hu => by cases hu) rfl (fun d w' _ _ h => by go_simp; all_goals rfl) (fun d w' _ _ h => At3.keep (by decide) (by decide) (by decide) h) ?_
  simp only [Act.put, List.setIfInBounds_toArray, List.set_cons_zero, List.set_cons_succ]
  refine InvC.invc_value (vo) (fun u hu => by cases hu) rfl (fun d w' _ _ h => by have q := (Q.out d w' h).1; go_simp) (fun d w' _ _ h => At3.keep (by decide) (by decide) (by decide) h) ?_
  simp only [Act.put, List.setIfInBounds_toArray, List.set_cons_zero, List.set_cons_succ]
  refine InvC.invc_value (.pointer (some ⟨bl, 1, none⟩)) (fun u hu => by cases hu) rfl (fun d w' _ _ h => by go_simp; all_goals rfl) (fun d w' _ _ h => At3.keep (by decide) (by decide) (by decide) h) ?_
  simp only [Act.put, List.setIfInBounds_toArray, List.set_cons_zero, List.set_cons_succ]
  refine InvC.invc_value (.pointer (some ⟨bl, 1, none⟩)) (fun u hu => by cases hu) rfl (fun d w' _ _ h => by go_simp; all_goals rfl) (fun d w' _ _ h => At3.keep (by decide) (by decide) (by decide) h) ?_
  simp only [Act.put, List.setIfInBounds_toArray, List.set_cons_zero, List.set_cons_succ]
  refine InvC.invc_value (.pointer (some ⟨bl, 2, none⟩)) (fun u hu => by cases hu) rfl (fun d w' _ _ h => by go_simp; all_goals rfl) (fun d w' _ _ h => At3.keep (by decide) (by decide) (by decide) h) ?_
  simp only [Act.put, List.setIfInBounds_toArray, List.set_cons_zero, List.set_cons_succ]
  refine InvC.invc_value (.int .u32 (s1 : Int)) (fun u hu => by cases hu) rfl (fun d w' _ _ h => by have q := (Q.out d w' h).2; go_simp) (fun d w' _ _ h => At3.keep (by decide) (by decide) (by decide) h) ?_
  simp only [Act.put, List.setIfInBounds_toArray, List.set_cons_zero, List.set_cons_succ]
  refine InvC.invc_value (.slice (some ⟨g, o, none⟩) bn c) (fun u hu => by cases hu) rfl (fun d w' _ _ h => by go_simp; all_goals rfl) (fun d w' _ _ h => At3.keep (by decide) (by decide) (by decide) h) ?_
  simp only [Act.put, List.setIfInBounds_toArray, List.set_cons_zero, List.set_cons_succ]
  refine InvC.invc_call (.slice (some ⟨cA, 0, none⟩) bn cc) (fun u hu => by cases hu) rfl 33 #[.slice (some ⟨g, o, none⟩) bn c] (fun d w' _ => by go_simp) (fun d w' hd hG h => by
    have e := h.at_p hd
    subst e
    exact CX.out.mono fun e w'' ⟨he, h2⟩ => ⟨he, by rw [h2]; exact At3.did_p (by decide) (by decide) hd h rfl⟩) ?_
  simp only [Act.put, List.setIfInBounds_toArray, List.set_cons_zero, List.set_cons_succ]
  refine InvC.invc_value (.agg mv.toArray) (fun u hu => by cases hu) rfl (fun d w' _ _ h => exec_build (vs := [(1, .int .u32 (s1 : Int)), (3, .slice (some ⟨cA, 0, none⟩) bn cc)]) rfl rfl BM.out) (fun d w' _ _ h => At3.keep (by decide) (by decide) (by decide) h) ?_
  simp only [Act.put, List.setIfInBounds_toArray, List.set_cons_zero, List.set_cons_succ]
  refine InvC.invc_world (.slice (some ⟨cA + 1, 0, none⟩) 1 1) (fun u hu => by cases hu) rfl (fun d w' hd hG h => ⟨wC, by
    have e := h.at_q hd (hG.of2 (j := 11) (by kernel_rfl) (by kernel_rfl))
    subst e
    rw [← HSB.out, HWC.out]
    exact exec_build_one rfl rfl Try.underlying48 info_mk HM4.out (by decide) (by decide), At3.did_q (by decide) (by decide) hd (hG.of2 (j := 11) (by kernel_rfl) (by kernel_rfl)) h rfl⟩) ?_
  simp only [Act.put, List.setIfInBounds_toArray, List.set_cons_zero, List.set_cons_succ]
  refine InvC.invc_world (.slice va fn vc) (fun u hu => by cases hu) rfl (fun d w' hd hG h => ⟨wD, by
    have e := h.at_r hd (hG.of (by kernel_rfl))
    subst e
    exact exec_append _ _ rfl rfl rfl HRD'.out, At3.did_r (by decide) (by decide) hd (hG.of (by kernel_rfl)) h rfl⟩) ?_
  simp only [Act.put, List.setIfInBounds_toArray, List.set_cons_zero, List.set_cons_succ]
  refine InvC.invc_value (.pointer (some ⟨bl, 1, none⟩)) (fun u hu => by cases hu) rfl (fun d w' _ _ h => by go_simp; all_goals rfl) (fun d w' _ _ h => At3.keep (by decide) (by decide) (by decide) h) ?_
  simp only [Act.put, List.setIfInBounds_toArray, List.set_cons_zero, List.set_cons_succ]
  refine InvC.invc_value (.pointer (some ⟨bl, 1, none⟩)) (fun u hu => by cases hu) rfl (fun d w' _ _ h => by go_simp; all_goals rfl) (fun d w' _ _ h => At3.keep (by decide) (by decide) (by decide) h) ?_
  simp only [Act.put, List.setIfInBounds_toArray, List.set_cons_zero, List.set_cons_succ]
  refine InvC.invc_nil fun w6 hI => ?_
  have e6 := hI.done (by rfl)
  subst e6
  have q4 := QD.out
  have f4 := FD.out
  have GO3 := Lib.hid ((GO1.out.trans (Goes.of_below GO1.out.at_ LC1.out)).trans HGD'.out)
  clear Q QD FD HRD' HWC HWB HSB HCA LB LC1 HM4 BM CX HB1 HGD' GO1
  go_upto_region 8 with (fail)
  obtain ⟨w7, hw7⟩ : ∃ w7, w7 = w6.setCell ⟨bl, 1, none⟩ (.slice va fn vc) := ⟨_, rfl⟩
  rw [← hw7] at GO3 ⊢
  have c7 : w7.cell? ⟨bl, 2, none⟩ = some (.int .u32 (s1 : Int)) := by rw [HS1.out]; exact GO3.out.at_.cell 2
  have PT := Lib.hid (show Calls Try.prog 34 #[.pointer (some ⟨bl, 0, none⟩), .int .i64 0, .int .u32 (s1 : Int), .slice (some ⟨g, o, none⟩) bn c] w7 fun e w' => e = .returned (.tuple #[]) ∧ ∃ V', Goes w7 bl (upd V 0 (.slice va fn vc)) A w' V' (((k.bump 0).addOpen 0 ⟨0, s1, 0, B⟩).put 0 s1 B) from put_any GO3.out.at_ 0 (by decide) s1 (S := []) (v := .slice (some ⟨g, o, none⟩) bn c) (B := B) (by
    have e := HBN.out
    subst e
    exact .inr ⟨g, o, c, rfl, h0, h64, bts_only HB.out GO3.out.only hbb, by simp⟩) hfl)
  clear hw7 q4 f4
  go_wp2_with (first | (go_at_call 34; refine PT.out.mono ?_; rintro e w8 ⟨rfl, V8, g8⟩))
  go_ret
  refine ⟨rfl, V8, ?_⟩
  have e : k.send 0 B = ((k.bump 0).addOpen 0 ⟨0, s1, 0, B⟩).put 0 s1 B := by rw [HS1.out]; rfl
  rw [e]
  exact GO3.out.trans g8
set_option maxHeartbeats 2000000 in
theorem send_ok1 (h : LinkAt w bl V A k) (g o c bn : Nat) (B : List UInt8) (hbn : B.length = bn) (h0 : 1 ≤ bn) (h64 : bn ≤ 64) (hb : Bts w (some ⟨g, o, none⟩) bn c B) (hfl : k.fl.length < 1024) (hop : (k.en 1).op.length < 256) (hbb : g ∉ reach bl V) : Calls Try.prog 11 #[.pointer (some ⟨bl, 0, none⟩), .int .i64 1, .slice (some ⟨g, o, none⟩) bn c] w fun e w' => e = .returned (.int .i64 0) ∧ ∃ V', Goes w bl V A w' V' (k.send 1 B) := by
  have hlt := h.head.lt
  have RM := Lib.hid (room_any h)
  rw [decide_eq_true hfl] at RM
  obtain ⟨oa, oc, eo, _⟩ := h.slO 1 (by decide)
  have co : w.cell? ⟨bl, 5, none⟩ = some (V 2) := h.cell 5
  have eo' : V 2 = .slice oa (k.en 1).op.length oc := eo
  rw [eo'] at co
  obtain ⟨on, hon⟩ : ∃ on, on = (k.en 1).op.length := ⟨_, rfl⟩
  rw [← hon] at co
  have ho : (on : Int) < 256 := by omega
  have i1 : (1 : Int) ≤ bn := by omega
  have i2 : (bn : Int) ≤ 64 := by omega
  obtain ⟨sn, hsn⟩ : ∃ sn, sn = (k.en 1).sent := ⟨_, rfl⟩
  have cs : w.cell? ⟨bl, 6, none⟩ = some (.int .u32 (sn : Int)) := by rw [hsn]; exact h.cell 6
  have fs : w.frozen? ⟨bl, 6, none⟩ = false := h.head.frozen 6
  have H0 := Lib.hid h
  have HB := Lib.hid hb
  have HSN := Lib.hid hsn
  have HBN := Lib.hid hbn
  have HOP := Lib.hid hop
  clear h eo eo' hon hb hsn hbn hop
  go_enter Try.func11, Try.ntmps11
  go_upto_region 7 with (first | (go_at_call 32; refine RM.out.mono ?_; rintro e w' ⟨rfl, rfl⟩))
  have e1 : ((sn : Int) + 1) % 4294967296 = (((sn + 1) % 4294967296 : Nat) : Int) := by omega
  obtain ⟨s1, hs1⟩ : ∃ s1, s1 = (sn + 1) % 4294967296 := ⟨_, rfl⟩
  rw [e1, ← hs1]
  obtain ⟨w1, hw1⟩ : ∃ w1, w1 = w.setCell ⟨bl, 6, none⟩ (.int .u32 (s1 : Int)) := ⟨_, rfl⟩
  rw [← hw1]
  have GO1 := Lib.hid (show Goes w bl V A w1 V (k.bump 1) from hw1 ▸ H0.out.scalar 6 _ (k.bump 1) (by rw [hs1, HSN.out]; rfl) (fun m => by cases m <;> rfl) (fun m => by cases m <;> rfl) rfl)
  have HB1 := Lib.hid (bts_only HB.out GO1.out.only hbb)
  have HS1 := Lib.hid (show s1 = ((k.en 1).sent + 1) % 4294967296 by rw [hs1, HSN.out])
  obtain ⟨hbB, hlB, hsB⟩ := cloneW_is w1.drew bn B HBN.out (by omega)
  have CX := Lib.hid (clone_exact ⟨g, o, none⟩ bn c B (by omega) (by omega) w1.drew HB1.out)
  obtain ⟨wB, hwB⟩ : ∃ wB, wB = cloneW w1.drew bn B := ⟨_, rfl⟩
  obtain ⟨cc, hcc⟩ : ∃ cc, cc = cloneC w1.drew bn := ⟨_, rfl⟩
  obtain ⟨cA, hcA⟩ : ∃ cA, cA = w1.drew.heap.size + 1 := ⟨_, rfl⟩
  rw [← hwB, ← hcc, ← hcA] at CX hbB
  rw [← hwB] at hlB hsB
  have hcA' : cA = w1.heap.size + 1 := hcA
  have lB : Below w1.heap.size w1 wB := (Below.refl w1.heap.size w1).drew.trans hlB
  obtain ⟨mv, hmv⟩ : ∃ mv, mv = mc (⟨0, s1, 0, B⟩, .slice (some ⟨cA, 0, none⟩) bn cc) := ⟨_, rfl⟩
  have BM := Lib.hid (show Try.prog.built 71 [(1, .int .u32 (s1 : Int)), (3, .slice (some ⟨cA, 0, none⟩) bn cc)] = some mv.toArray from by rw [hmv]; kernel_rfl)
  have HM4 := Lib.hid (show mv.length = 4 by rw [hmv]; rfl)
  obtain ⟨wC, hwC⟩ : ∃ wC, wC = wB.alloc (.cells mv.toArray 71) := ⟨_, rfl⟩
  have lC : Below wB.heap.size wB wC := hwC ▸ (Below.refl _ _).alloc (Nat.le_refl _) _
  have lC1 : Below w1.heap.size w1 wC := lB.trans (lC.mono lB.size)
  have KC := Lib.hid (GO1.out.at_.below lC1)
  have YC : Body wC (reach bl V ++ A) (.slice (some ⟨cA, 0, none⟩) bn cc) B := by
    have e := HBN.out
    subst e
    refine .inr ⟨cA, 0, cc, rfl, h0, h64, hbB.below lC (Nat.le_refl _), fun hx => ?_⟩
    rcases List.mem_append.1 hx with hx | hx
    · have := GO1.out.at_.reach_lt hx; omega
    · have := GO1.out.at_.out cA hx; omega
  obtain ⟨v', wD, hrD, hgD, hcD, hfD, grD, va, vc, rfl⟩ := KC.out.moreOpen 1 (by decide) ⟨0, s1, 0, B⟩ (.slice (some ⟨cA, 0, none⟩) bn cc) YC (g := wB.heap.size) (by rw [hwC, hmv]; exact blk_at rfl rfl) (by have := HOP.out; show (k.en 1).op.length < 1024; omega)
  have HRD := Lib.hid hrD
  have HGD := Lib.hid hgD
  have HWB := Lib.hid hwB
  have HWC := Lib.hid hwC
  have HSB := Lib.hid (show wB.heap.size = cA + 1 by omega)
  have HCA := Lib.hid hcA
  have LB := Lib.hid lB
  have LC1 := Lib.hid lC1
  have q1 : w1.cell? ⟨bl, 5, none⟩ = some (V 2) := GO1.out.at_.cell 5
  have q2 : wB.cell? ⟨bl, 5, none⟩ = some (V 2) := (GO1.out.at_.below lB).cell 5
  have q3 : wC.cell? ⟨bl, 5, none⟩ = some (V 2) := KC.out.cell 5
  have q4 : wD.cell? ⟨bl, 5, none⟩ = some (V 2) := hcD
  have p1 : w1.cell? ⟨bl, 6, none⟩ = some (.int .u32 (s1 : Int)) := by rw [HS1.out]; exact GO1.out.at_.cell 6
  have p2 : wB.cell? ⟨bl, 6, none⟩ = some (.int .u32 (s1 : Int)) := by rw [HS1.out]; exact (GO1.out.at_.below lB).cell 6
  have p3 : wC.cell? ⟨bl, 6, none⟩ = some (.int .u32 (s1 : Int)) := by rw [HS1.out]; exact KC.out.cell 6
  have p4 : wD.cell? ⟨bl, 6, none⟩ = some (.int .u32 (s1 : Int)) := by
    have := (KC.out.head.grownO grD (fun x hx => by have := KC.out.row 2 (by decide) hx; omega)).cell 6
    rw [HS1.out]; exact this
  obtain ⟨vo, hvo⟩ : ∃ vo, vo = V 2 := ⟨_, rfl⟩
  have HVO := Lib.hid hvo
  rw [← hvo] at q1 q2 q3 q4
  have HRD' := Lib.hid (show (Builtin.append_ #[48, 48] 48 #[vo, .slice (some ⟨cA + 1, 0, none⟩) 1 1]).run Try.prog wC = .ok (.slice va ((k.en 1).op.length + 1) vc) wD from by rw [hvo, ← HSB.out]; exact HRD.out)
  obtain ⟨fn, hfn⟩ : ∃ fn, fn = (k.en 1).op.length + 1 := ⟨_, rfl⟩
  rw [← hfn] at HRD'
  have HGD' := Lib.hid (show Goes wC bl V A (wD.setCell ⟨bl, 5, none⟩ (.slice va fn vc)) (upd V 2 (.slice va fn vc)) ((k.bump 1).addOpen 1 ⟨0, s1, 0, B⟩) from by rw [hfn]; exact HGD.out)
  have Q := Lib.hid (show ∀ d w', At3 10 12 13 (fun w' => w' = w1.drew) (fun w' => w' = wB) (fun w' => w' = wC) (fun w' => w' = wD) d w' → w'.cell? ⟨bl, 5, none⟩ = some vo ∧ w'.cell? ⟨bl, 6, none⟩ = some (.int .u32 (s1 : Int)) from fun d w' h => by
    rcases h.any with rfl | rfl | rfl | rfl
    · exact ⟨q1, p1⟩
    · exact ⟨q2, p2⟩
    · exact ⟨q3, p3⟩
    · exact ⟨q4, p4⟩)
  have QD := Lib.hid q4
  have FD := Lib.hid (show wD.frozen? ⟨bl, 5, none⟩ = false from hfD)
  clear hs1 hw1 hwB hcc hcA hcA' hlB hsB hbB lB hmv hwC lC lC1 YC hrD hgD hcD hfD grD q1 q2 q3 q4 p1 p2 p3 p4 hvo HRD HGD HVO hfn KC RM co cs fs ho HSN HOP
  refine wp_region_gate_tail (fun d w' => At3 10 12 13 (fun w' => w' = w1.drew) (fun w' => w' = wB) (fun w' => w' = wC) (fun w' => w' = wD) d w') 16 (by kernel_rfl) (by kernel_rfl) ?hI ?_
  case hI => exact At3.start (by rfl) (by rfl) (by rfl) rfl
  simp only [List.take_succ_cons, List.take_zero, List.drop_succ_cons, List.drop_zero]
  refine InvC.invc_value (.pointer (some ⟨bl, 5, none⟩)) (fun u hu => by cases hu) rfl (fun d w' _ _ h => by go_simp; all_goals rfl) (fun d w' _ _ h => At3.keep (by decide) (by decide) (by decide) h) ?_
  simp only [Act.put, List.setIfInBounds_toArray, List.set_cons_zero, List.set_cons_succ]
  refine InvC.invc_value (.pointer (some ⟨bl, 5, none⟩)) (fun u hu => by cases hu) rfl (fun d w' _ _ h => by go_simp; all_goals rfl) (fun d w' _ _ h => At3.keep (by decide) (by decide) (by decide) h) ?_
  simp only [Act.put, List.setIfInBounds_toArray, List.set_cons_zero, List.set_cons_succ]
  refine InvC.invc_value (.pointer (some ⟨bl, 5, none⟩)) (fun u hu => by cases hu) rfl (fun d w' _ _ h => by go_simp; all_goals rfl) (fun d w' _ _ h => At3.keep (by decide) (by decide) (by decide) h) ?_
  simp only [Act.put, List.setIfInBounds_toArray, List.set_cons_zero, List.set_cons_succ]
  refine InvC.invc_value (.pointer (some ⟨bl, 5, none⟩)) (fun u hu => by cases hu) rfl (fun d w' _ _ h => by go_simp; all_goals rfl) (fun d w' _ _ h => At3.keep (by decide) (by decide) (by decide) h) ?_
  simp only [Act.put, List.setIfInBounds_toArray, List.set_cons_zero, List.set_cons_succ]
  refine InvC.invc_value (vo) (fun u hu => by cases hu) rfl (fun d w' _ _ h => by have q := (Q.out d w' h).1; go_simp) (fun d w' _ _ h => At3.keep (by decide) (by decide) (by decide) h) ?_
  simp only [Act.put, List.setIfInBounds_toArray, List.set_cons_zero, List.set_cons_succ]
  refine InvC.invc_value (.pointer (some ⟨bl, 5, none⟩)) (fun u hu => by cases hu) rfl (fun d w' _ _ h => by go_simp; all_goals rfl) (fun d w' _ _ h => At3.keep (by decide) (by decide) (by decide) h) ?_
  simp only [Act.put, List.setIfInBounds_toArray, List.set_cons_zero, List.set_cons_succ]
  refine InvC.invc_value (.pointer (some ⟨bl, 5, none⟩)) (fun u hu => by cases hu) rfl (fun d w' _ _ h => by go_simp; all_goals rfl) (fun d w' _ _ h => At3.keep (by decide) (by decide) (by decide) h) ?_
  simp only [Act.put, List.setIfInBounds_toArray, List.set_cons_zero, List.set_cons_succ]
  refine InvC.invc_value (.pointer (some ⟨bl, 6, none⟩)) (fun u hu => by cases hu) rfl (fun d w' _ _ h => by go_simp; all_goals rfl) (fun d w' _ _ h => At3.keep (by decide) (by decide) (by decide) h) ?_
  simp only [Act.put, List.setIfInBounds_toArray, List.set_cons_zero, List.set_cons_succ]
  refine InvC.invc_value (.int .u32 (s1 : Int)) (fun u hu => by cases hu) rfl (fun d w' _ _ h => by have q := (Q.out d w' h).2; go_simp) (fun d w' _ _ h => At3.keep (by decide) (by decide) (by decide) h) ?_
  simp only [Act.put, List.setIfInBounds_toArray, List.set_cons_zero, List.set_cons_succ]
  refine InvC.invc_value (.slice (some ⟨g, o, none⟩) bn c) (fun u hu => by cases hu) rfl (fun d w' _ _ h => by go_simp; all_goals rfl) (fun d w' _ _ h => At3.keep (by decide) (by decide) (by decide) h) ?_
  simp only [Act.put, List.setIfInBounds_toArray, List.set_cons_zero, List.set_cons_succ]
  refine InvC.invc_call (.slice (some ⟨cA, 0, none⟩) bn cc) (fun u hu => by cases hu) rfl 33 #[.slice (some ⟨g, o, none⟩) bn c] (fun d w' _ => by go_simp) (fun d w' hd hG h => by
    have e := h.at_p hd
    subst e
    exact CX.out.mono fun e w'' ⟨he, h2⟩ => ⟨he, by rw [h2]; exact At3.did_p (by decide) (by decide) hd h rfl⟩) ?_
  simp only [Act.put, List.setIfInBounds_toArray, List.set_cons_zero, List.set_cons_succ]
  refine InvC.invc_value (.agg mv.toArray) (fun u hu => by cases hu) rfl (fun d w' _ _ h => exec_build (vs := [(1, .int .u32 (s1 : Int)), (3, .slice (some ⟨cA, 0, none⟩) bn cc)]) rfl rfl BM.out) (fun d w' _ _ h => At3.keep (by decide) (by decide) (by decide) h) ?_
  simp only [Act.put, List.setIfInBounds_toArray, List.set_cons_zero, List.set_cons_succ]
  refine InvC.invc_world (.slice (some ⟨cA + 1, 0, none⟩) 1 1) (fun u hu => by cases hu) rfl (fun d w' hd hG h => ⟨wC, by
    have e := h.at_q hd (hG.of2 (j := 11) (by kernel_rfl) (by kernel_rfl))
    subst e
    rw [← HSB.out, HWC.out]
    exact exec_build_one rfl rfl Try.underlying48 info_mk HM4.out (by decide) (by decide), At3.did_q (by decide) (by decide) hd (hG.of2 (j := 11) (by kernel_rfl) (by kernel_rfl)) h rfl⟩) ?_
  simp only [Act.put, List.setIfInBounds_toArray, List.set_cons_zero, List.set_cons_succ]
  refine InvC.invc_world (.slice va fn vc) (fun u hu => by cases hu) rfl (fun d w' hd hG h => ⟨wD, by
    have e := h.at_r hd (hG.of (by kernel_rfl))
    subst e
    exact exec_append _ _ rfl rfl rfl HRD'.out, At3.did_r (by decide) (by decide) hd (hG.of (by kernel_rfl)) h rfl⟩) ?_
  simp only [Act.put, List.setIfInBounds_toArray, List.set_cons_zero, List.set_cons_succ]
  refine InvC.invc_value (.pointer (some ⟨bl, 5, none⟩)) (fun u hu => by cases hu) rfl (fun d w' _ _ h => by go_simp; all_goals rfl) (fun d w' _ _ h => At3.keep (by decide) (by decide) (by decide) h) ?_
  simp only [Act.put, List.setIfInBounds_toArray, List.set_cons_zero, List.set_cons_succ]
  refine InvC.invc_value (.pointer (some ⟨bl, 5, none⟩)) (fun u hu => by cases hu) rfl (fun d w' _ _ h => by go_simp; all_goals rfl) (fun d w' _ _ h => At3.keep (by decide) (by decide) (by decide) h) ?_
  simp only [Act.put, List.setIfInBounds_toArray, List.set_cons_zero, List.set_cons_succ]
  refine InvC.invc_nil fun w6 hI => ?_
  have e6 := hI.done (by rfl)
  subst e6
  have q4 := QD.out
  have f4 := FD.out
  have GO3 := Lib.hid ((GO1.out.trans (Goes.of_below GO1.out.at_ LC1.out)).trans HGD'.out)
  clear Q QD FD HRD' HWC HWB HSB HCA LB LC1 HM4 BM CX HB1 HGD' GO1
  go_upto_region 8 with (fail)
  obtain ⟨w7, hw7⟩ : ∃ w7, w7 = w6.setCell ⟨bl, 5, none⟩ (.slice va fn vc) := ⟨_, rfl⟩
  rw [← hw7] at GO3 ⊢
  have c7 : w7.cell? ⟨bl, 6, none⟩ = some (.int .u32 (s1 : Int)) := by rw [HS1.out]; exact GO3.out.at_.cell 6
  have PT := Lib.hid (show Calls Try.prog 34 #[.pointer (some ⟨bl, 0, none⟩), .int .i64 1, .int .u32 (s1 : Int), .slice (some ⟨g, o, none⟩) bn c] w7 fun e w' => e = .returned (.tuple #[]) ∧ ∃ V', Goes w7 bl (upd V 2 (.slice va fn vc)) A w' V' (((k.bump 1).addOpen 1 ⟨0, s1, 0, B⟩).put 1 s1 B) from put_any GO3.out.at_ 1 (by decide) s1 (S := []) (v := .slice (some ⟨g, o, none⟩) bn c) (B := B) (by
    have e := HBN.out
    subst e
    exact .inr ⟨g, o, c, rfl, h0, h64, bts_only HB.out GO3.out.only hbb, by simp⟩) hfl)
  clear hw7 q4 f4
  go_wp2_with (first | (go_at_call 34; refine PT.out.mono ?_; rintro e w8 ⟨rfl, V8, g8⟩))
  go_ret
  refine ⟨rfl, V8, ?_⟩
  have e : k.send 1 B = ((k.bump 1).addOpen 1 ⟨0, s1, 0, B⟩).put 1 s1 B := by rw [HS1.out]; rfl
  rw [e]
  exact GO3.out.trans g8
end
end Go.Proofs.Ytfjaoompdleljaa.Link
