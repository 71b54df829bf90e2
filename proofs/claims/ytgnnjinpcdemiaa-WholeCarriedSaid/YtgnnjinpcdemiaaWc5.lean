/-
  Helper texts, joined in build order; no statement is proved here.
-/
import Derived.Deep.QuietTactic
import Derived.Test.YtgnnjinpcdemiaaWc4
/-
  room and Send of a link by contract. Helper text; no statement is proved here.
-/
set_option linter.unusedVariables false
set_option maxRecDepth 20000
set_option linter.unusedSimpArgs false
namespace Go.Proofs.Ytgnnjinpcdemiaa.Link
open Go.RowKit Go.Proofs.Ytgnnjinpcdemiaa.Base Go.Proofs.Ytgnnjinpcdemiaa.Laws Go.Proofs.Ytgnnjinpcdemiaa.Disk Go.Proofs.Ytgnnjinpcdemiaa.Row Go.Proofs.Ytgnnjinpcdemiaa.Flat Go.Proofs.Ytgnnjinpcdemiaa.InvM Go.Proofs.Ytgnnjinpcdemiaa.Inv Go.Proofs.Ytgnnjinpcdemiaa.InvL Go.Proofs.Ytgnnjinpcdemiaa.InvC Go.Proofs.Ytgnnjinpcdemiaa.InvG Go.Proofs.Ytgnnjinpcdemiaa.Codec
section
variable {w : World} {bl : Nat} {V : Nat → Value} {A : List Nat} {k : Lk}
theorem LinkAt.slF (h : LinkAt w bl V A k) : ∃ a c, V 4 = .slice a k.fl.length c ∧ k.fl.length ≤ c := by
  obtain ⟨ps, e, h1, h2⟩ := h.fl
  obtain ⟨a, c, e1, e2, _⟩ := own_slice h1 (by decide)
  rw [← e]
  exact ⟨a, c, by simpa using e1, by simpa using e2⟩
theorem LinkAt.slO (h : LinkAt w bl V A k) (n : Nat) (hn : n < 2) : ∃ a c, V (2 * n) = .slice a (k.en n).op.length c ∧ (k.en n).op.length ≤ c := by
  obtain ⟨ps, e, h1, h2⟩ := h.o n hn
  obtain ⟨a, c, e1, e2, _⟩ := own_slice h1 (by decide)
  rw [← e]
  exact ⟨a, c, by simpa using e1, by simpa using e2⟩
theorem LinkAt.slG (h : LinkAt w bl V A k) (n : Nat) (hn : n < 2) : ∃ a c, V (2 * n + 1) = .slice a (k.en n).got.length c ∧ (k.en n).got.length ≤ c := by
  obtain ⟨ps, e, h1, h2⟩ := h.g n hn
  obtain ⟨a, c, e1, e2, _⟩ := own_slice h1 (by decide)
  rw [← e]
  exact ⟨a, c, by simpa using e1, by simpa using e2⟩
theorem room_any (h : LinkAt w bl V A k) : Calls Try.prog 24 #[.pointer (some ⟨bl, 0, none⟩)] w fun e w' => e = .returned (.bool (decide (k.fl.length < 1024))) ∧ w = w' := by
  obtain ⟨a, c, e, _⟩ := h.slF
  have c9 : w.cell? ⟨bl, 9, none⟩ = some (V 4) := h.cell 9
  rw [e] at c9
  obtain ⟨n, hn⟩ : ∃ n, n = k.fl.length := ⟨_, rfl⟩
  rw [← hn] at c9 ⊢
  clear h e hn
  by_cases hl : n < 1024
  · have hl' : (n : Int) < 1024 := by omega
    rw [decide_eq_true hl]
    go_enter Try.func24, Try.ntmps24
    go_wp2_with fail
    go_ret
    exact ⟨rfl, rfl⟩
  · have hl' : ¬ (n : Int) < 1024 := by omega
    rw [decide_eq_false hl]
    go_enter Try.func24, Try.ntmps24
    go_wp2_with fail
    go_ret
    exact ⟨rfl, rfl⟩
theorem send_arg (p : Option Addr) (n : Int) (a : Option Addr) (l c : Nat) (hb : n < 0 ∨ 1 < n ∨ l < 1 ∨ 64 < l) (w : World) : Calls Try.prog 7 #[.pointer p, .int .i64 n, .slice a l c] w fun e w' => e = .returned (.int .i64 2) ∧ w = w' := by
  cases p with
  | none => exact send_nil n a l c w
  | some p =>
    by_cases h1 : n < 0
    · go_enter Try.func7, Try.ntmps7
      go_wp2_with fail
      go_ret
      exact ⟨rfl, rfl⟩
    by_cases h2 : 1 < n
    · go_enter Try.func7, Try.ntmps7
      go_wp2_with fail
      go_ret
      exact ⟨rfl, rfl⟩
    by_cases h3 : (l : Int) < 1
    · go_enter Try.func7, Try.ntmps7
      go_wp2_with fail
      go_ret
      exact ⟨rfl, rfl⟩
    · have h4 : (64 : Int) < l := by omega
      clear hb
      go_enter Try.func7, Try.ntmps7
      go_wp2_with fail
      go_ret
      exact ⟨rfl, rfl⟩
theorem send_full0 (h : LinkAt w bl V A k) (a : Option Addr) (l c : Nat) (h1 : 1 ≤ l) (h2 : l ≤ 64) (hf : ¬ (k.fl.length < 1024 ∧ (k.en 0).op.length < 256)) : Calls Try.prog 7 #[.pointer (some ⟨bl, 0, none⟩), .int .i64 0, .slice a l c] w fun e w' => e = .returned (.int .i64 9) ∧ w = w' := by
  have RM := Lib.hid (room_any h)
  obtain ⟨oa, oc, eo, _⟩ := h.slO 0 (by decide)
  have co : w.cell? ⟨bl, 1, none⟩ = some (V 0) := h.cell 1
  have eo' : V 0 = .slice oa (k.en 0).op.length oc := eo
  rw [eo'] at co
  obtain ⟨on, hon⟩ : ∃ on, on = (k.en 0).op.length := ⟨_, rfl⟩
  rw [← hon] at co hf
  have i1 : ¬ ((l : Int) < 1) := by omega
  have i2 : ¬ ((64 : Int) < l) := by omega
  clear h eo eo' hon
  by_cases hr : k.fl.length < 1024
  · rw [decide_eq_true hr] at RM
    have ho : (256 : Int) ≤ on := by omega
    clear hf hr
    go_enter Try.func7, Try.ntmps7
    go_wp2_with (first | (go_at_call 24; refine RM.out.mono ?_; rintro e w' ⟨rfl, rfl⟩))
    go_ret
    exact ⟨rfl, rfl⟩
  · rw [decide_eq_false hr] at RM
    clear hf hr
    go_enter Try.func7, Try.ntmps7
    go_wp2_with (first | (go_at_call 24; refine RM.out.mono ?_; rintro e w' ⟨rfl, rfl⟩))
    go_ret
    exact ⟨rfl, rfl⟩
theorem send_full1 (h : LinkAt w bl V A k) (a : Option Addr) (l c : Nat) (h1 : 1 ≤ l) (h2 : l ≤ 64) (hf : ¬ (k.fl.length < 1024 ∧ (k.en 1).op.length < 256)) : Calls Try.prog 7 #[.pointer (some ⟨bl, 0, none⟩), .int .i64 1, .slice a l c] w fun e w' => e = .returned (.int .i64 9) ∧ w = w' := by
  have RM := Lib.hid (room_any h)
  obtain ⟨oa, oc, eo, _⟩ := h.slO 1 (by decide)
  have co : w.cell? ⟨bl, 5, none⟩ = some (V 2) := h.cell 5
  have eo' : V 2 = .slice oa (k.en 1).op.length oc := eo
  rw [eo'] at co
  obtain ⟨on, hon⟩ : ∃ on, on = (k.en 1).op.length := ⟨_, rfl⟩
  rw [← hon] at co hf
  have i1 : ¬ ((l : Int) < 1) := by omega
  have i2 : ¬ ((64 : Int) < l) := by omega
  clear h eo eo' hon
  by_cases hr : k.fl.length < 1024
  · rw [decide_eq_true hr] at RM
    have ho : (256 : Int) ≤ on := by omega
    clear hf hr
    go_enter Try.func7, Try.ntmps7
    go_wp2_with (first | (go_at_call 24; refine RM.out.mono ?_; rintro e w' ⟨rfl, rfl⟩))
    go_ret
    exact ⟨rfl, rfl⟩
  · rw [decide_eq_false hr] at RM
    clear hf hr
    go_enter Try.func7, Try.ntmps7
    go_wp2_with (first | (go_at_call 24; refine RM.out.mono ?_; rintro e w' ⟨rfl, rfl⟩))
    go_ret
    exact ⟨rfl, rfl⟩
set_option maxHeartbeats 2000000 in
theorem send_ok0 (h : LinkAt w bl V A k) (g o c bn : Nat) (B : List UInt8) (hbn : B.length = bn) (h0 : 1 ≤ bn) (h64 : bn ≤ 64) (hb : Bts w (some ⟨g, o, none⟩) bn c B) (hfl : k.fl.length < 1024) (hop : (k.en 0).op.length < 256) (hbb : g ∉ reach bl V) : Calls Try.prog 7 #[.pointer (some ⟨bl, 0, none⟩), .int .i64 0, .slice (some ⟨g, o, none⟩) bn c] w fun e w' => e = .returned (.int .i64 0) ∧ ∃ V', Goes w bl V A w' V' (k.send 0 B) := by
  have hlt := h.head.lt
  have RM := Lib.hid (room_any h)
  rw [decide_eq_true hfl] at RM
  obtain ⟨oa, oc, eo, _⟩ := h.slO 0 (by decide)
  have co : w.cell? ⟨bl, 1, none⟩ = some (V 0) := h.cell 1
  have eo' : V 0 = .slice oa (k.en 0).op.length oc := eo
  rw [eo'] at co
  obtain ⟨on, hon⟩ : ∃ on, on = (k.en 0).op.length := ⟨_, rfl⟩
  rw [← hon] at co
  have ho : (on : Int) < 256 := by omega
  have i1 : (1 : Int) ≤ bn := by omega
  have i2 : (bn : Int) ≤ 64 := by omega
  obtain ⟨sn, hsn⟩ : ∃ sn, sn = (k.en 0).sent := ⟨_, rfl⟩
  have cs : w.cell? ⟨bl, 2, none⟩ = some (.int .u32 (sn : Int)) := by rw [hsn]; exact h.cell 2
  have fs : w.frozen? ⟨bl, 2, none⟩ = false := h.head.frozen 2
  have H0 := Lib.hid h
  have HB := Lib.hid hb
  have HSN := Lib.hid hsn
  have HBN := Lib.hid hbn
  have HOP := Lib.hid hop
  clear h eo eo' hon hb hsn hbn hop
  go_enter Try.func7, Try.ntmps7
  go_upto_region 7 with (first | (go_at_call 24; refine RM.out.mono ?_; rintro e w' ⟨rfl, rfl⟩))
  have e1 : ((sn : Int) + 1) % 4294967296 = (((sn + 1) % 4294967296 : Nat) : Int) := by omega
  obtain ⟨s1, hs1⟩ : ∃ s1, s1 = (sn + 1) % 4294967296 := ⟨_, rfl⟩
  rw [e1, ← hs1]
  obtain ⟨w1, hw1⟩ : ∃ w1, w1 = w.setCell ⟨bl, 2, none⟩ (.int .u32 (s1 : Int)) := ⟨_, rfl⟩
  rw [← hw1]
  have GO1 := Lib.hid (show Goes w bl V A w1 V (k.bump 0) from hw1 ▸ H0.out.scalar 2 _ (k.bump 0) (by rw [hs1, HSN.out]; rfl) (fun m => by cases m <;> rfl) (fun m => by cases m <;> rfl) rfl)
  have HB1 := Lib.hid (bts_only HB.out GO1.out.only hbb)
  have HS1 := Lib.hid (show s1 = ((k.en 0).sent + 1) % 4294967296 by rw [hs1, HSN.out])
  obtain ⟨hbB, hlB, hsB⟩ := cloneW_is w1.drew bn B HBN.out (by omega)
  have CX := Lib.hid (clone_exact ⟨g, o, none⟩ bn c B (by omega) (by omega) w1.drew HB1.out)
  obtain ⟨wB, hwB⟩ : ∃ wB, wB = cloneW w1.drew bn B := ⟨_, rfl⟩
  obtain ⟨cc, hcc⟩ : ∃ cc, cc = cloneC w1.drew bn := ⟨_, rfl⟩
  obtain ⟨cA, hcA⟩ : ∃ cA, cA = w1.drew.heap.size + 1 := ⟨_, rfl⟩
  rw [← hwB, ← hcc, ← hcA] at CX hbB
  rw [← hwB] at hlB hsB
  have hcA' : cA = w1.heap.size + 1 := hcA
  have lB : Below w1.heap.size w1 wB := (Below.refl w1.heap.size w1).drew.trans hlB
  obtain ⟨mv, hmv⟩ : ∃ mv, mv = mc (⟨0, s1, 0, B⟩, .slice (some ⟨cA, 0, none⟩) bn cc) := ⟨_, rfl⟩
  have BM := Lib.hid (show Try.prog.built 75 [(1, .int .u32 (s1 : Int)), (3, .slice (some ⟨cA, 0, none⟩) bn cc)] = some mv.toArray from by rw [hmv]; kernel_rfl)
  have HM4 := Lib.hid (show mv.length = 4 by rw [hmv]; rfl)
  obtain ⟨wC, hwC⟩ : ∃ wC, wC = wB.alloc (.cells mv.toArray 75) := ⟨_, rfl⟩
  have lC : Below wB.heap.size wB wC := hwC ▸ (Below.refl _ _).alloc (Nat.le_refl _) _
  have lC1 : Below w1.heap.size w1 wC := lB.trans (lC.mono lB.size)
  have KC := Lib.hid (GO1.out.at_.below lC1)
  have YC : Body wC (reach bl V ++ A) (.slice (some ⟨cA, 0, none⟩) bn cc) B := by
    have e := HBN.out
    subst e
    refine .inr ⟨cA, 0, cc, rfl, h0, h64, hbB.below lC (Nat.le_refl _), fun hx => ?_⟩
    rcases List.mem_append.1 hx with hx | hx
    · have := GO1.out.at_.reach_lt hx; omega
    · have := GO1.out.at_.out cA hx; omega
  obtain ⟨v', wD, hrD, hgD, hcD, hfD, grD, va, vc, rfl⟩ := KC.out.moreOpen 0 (by decide) ⟨0, s1, 0, B⟩ (.slice (some ⟨cA, 0, none⟩) bn cc) YC (g := wB.heap.size) (by rw [hwC, hmv]; exact blk_at rfl rfl) (by have := HOP.out; show (k.en 0).op.length < 1024; omega)
  have HRD := Lib.hid hrD
  have HGD := Lib.hid hgD
  have HWB := Lib.hid hwB
  have HWC := Lib.hid hwC
  have HSB := Lib.hid (show wB.heap.size = cA + 1 by omega)
  have HCA := Lib.hid hcA
  have LB := Lib.hid lB
  have LC1 := Lib.hid lC1
  have q1 : w1.cell? ⟨bl, 1, none⟩ = some (V 0) := GO1.out.at_.cell 1
  have q2 : wB.cell? ⟨bl, 1, none⟩ = some (V 0) := (GO1.out.at_.below lB).cell 1
  have q3 : wC.cell? ⟨bl, 1, none⟩ = some (V 0) := KC.out.cell 1
  have q4 : wD.cell? ⟨bl, 1, none⟩ = some (V 0) := hcD
  have p1 : w1.cell? ⟨bl, 2, none⟩ = some (.int .u32 (s1 : Int)) := by rw [HS1.out]; exact GO1.out.at_.cell 2
  have p2 : wB.cell? ⟨bl, 2, none⟩ = some (.int .u32 (s1 : Int)) := by rw [HS1.out]; exact (GO1.out.at_.below lB).cell 2
  have p3 : wC.cell? ⟨bl, 2, none⟩ = some (.int .u32 (s1 : Int)) := by rw [HS1.out]; exact KC.out.cell 2
  have p4 : wD.cell? ⟨bl, 2, none⟩ = some (.int .u32 (s1 : Int)) := by
    have := (KC.out.head.grownO grD (fun x hx => by have := KC.out.row 0 (by decide) hx; omega)).cell 2
    rw [HS1.out]; exact this
  obtain ⟨vo, hvo⟩ : ∃ vo, vo = V 0 := ⟨_, rfl⟩
  have HVO := Lib.hid hvo
  rw [← hvo] at q1 q2 q3 q4
  have HRD' := Lib.hid (show (Builtin.append_ #[50, 50] 50 #[vo, .slice (some ⟨cA + 1, 0, none⟩) 1 1]).run Try.prog wC = .ok (.slice va ((k.en 0).op.length + 1) vc) wD from by rw [hvo, ← HSB.out]; exact HRD.out)
  obtain ⟨fn, hfn⟩ : ∃ fn, fn = (k.en 0).op.length + 1 := ⟨_, rfl⟩
  rw [← hfn] at HRD'
  have HGD' := Lib.hid (show Goes wC bl V A (wD.setCell ⟨bl, 1, none⟩ (.slice va fn vc)) (upd V 0 (.slice va fn vc)) ((k.bump 0).addOpen 0 ⟨0, s1, 0, B⟩) from by rw [hfn]; exact HGD.out)
  have Q := Lib.hid (show ∀ d w', At3 10 12 13 (fun w' => w' = w1.drew) (fun w' => w' = wB) (fun w' => w' = wC) (fun w' => w' = wD) d w' → w'.cell? ⟨bl, 1, none⟩ = some vo ∧ w'.cell? ⟨bl, 2, none⟩ = some (.int .u32 (s1 : Int)) from fun d w' h => by
    rcases h.any with rfl | rfl | rfl | rfl
    · exact ⟨q1, p1⟩
    · exact ⟨q2, p2⟩
    · exact ⟨q3, p3⟩
    · exact ⟨q4, p4⟩)
  have QD := Lib.hid q4
  have FD := Lib.hid (show wD.frozen? ⟨bl, 1, none⟩ = false from hfD)
  clear hs1 hw1 hwB hcc hcA hcA' hlB hsB hbB lB hmv hwC lC lC1 YC hrD hgD hcD hfD grD q1 q2 q3 q4 p1 p2 p3 p4 hvo HRD HGD HVO hfn KC RM co cs fs ho HSN HOP
  refine wp_region_gate_tail (fun d w' => At3 10 12 13 (fun w' => w' = w1.drew) (fun w' => w' = wB) (fun w' => w' = wC) (fun w' => w' = wD) d w') 16 (by kernel_rfl) (by kernel_rfl) ?hI ?_
  case hI => exact At3.start (by rfl) (by rfl) (by rfl) rfl
  simp only [List.take_succ_cons, List.take_zero, List.drop_succ_cons, List.drop_zero]
  refine InvC.invc_value (.pointer (some ⟨bl, 1, none⟩)) (fun u hu => by cases hu) rfl (fun d w' _ _ h => by go_simp; all_goals rfl) (fun d w' _ _ h => At3.keep (by decide) (by decide) (by decide) h) ?_
  simp only [Act.put, List.setIfInBounds_toArray, List.set_cons_zero, List.set_cons_succ]
  refine InvC.invc_value (.pointer (some ⟨bl, 1, none⟩)) (fun u hu => by cases hu) rfl (fun d w' _ _ h => by go_simp; all_goals rfl) (fun d w' _ _ h => At3.keep (by decide) (by decide) (by decide) h) ?_
  simp only [Act.put, List.setIfInBounds_toArray, List.set_cons_zero, List.set_cons_succ]
  refine InvC.invc_value (.pointer (some ⟨bl, 1, none⟩)) (fun u hu => by cases hu) rfl (fun d w' _ _ h => by go_simp; all_goals rfl) (fun d w' _ _ h => At3.keep (by decide) (by decide) (by decide) h) ?_
  simp only [Act.put, List.setIfInBounds_toArray, List.set_cons_zero, List.set_cons_succ]
  refine InvC.invc_value (.pointer (some ⟨bl, 1, none⟩)) (fun u hu => by cases hu) rfl (fun d w' _ _ h => by go_simp; all_goals rfl) (fun d w' _ _ h => At3.keep (by decide) (by decide) (by decide) h) ?_
  simp only [Act.put, List.setIfInBounds_toArray, List.set_cons_zero, List.set_cons_succ]
  refine InvC.invc_value (vo) (fun u hu => by cases hu) rfl (fun d w' _ _ h => by have q := (Q.out d w' h).1; go_simp) (fun d w' _ _ h => At3.keep (by decide) (by decide) (by decide) h) ?_
  simp only [Act.put, List.setIfInBounds_toArray, List.set_cons_zero, List.set_cons_succ]
  refine InvC.invc_value (.pointer (some ⟨bl, 1, none⟩)) (fun u hu => by cases hu) rfl (fun d w' _ _ h => by go_simp; all_goals rfl) (fun d w' _ _ h => At3.keep (by decide) (by decide) (by decide) h) ?_
  simp only [Act.put, List.setIfInBounds_toArray, List.set_cons_zero, List.set_cons_succ]
  refine InvC.invc_value (.pointer (some ⟨bl, 1, none⟩)) (fun u hu => by cases hu) rfl (fun d w' _ _ h => by go_simp; all_goals rfl) (fun d w' _ _ h => At3.keep (by decide) (by decide) (by decide) h) ?_
  simp only [Act.put, List.setIfInBounds_toArray, List.set_cons_zero, List.set_cons_succ]
  refine InvC.invc_value (.pointer (some ⟨bl, 2, none⟩)) (fun u hu => by cases hu) rfl (fun d w' _ _ h => by go_simp; all_goals rfl) (fun d w' _ _ h => At3.keep (by decide) (by decide) (by decide) h) ?_
  simp only [Act.put, List.setIfInBounds_toArray, List.set_cons_zero, List.set_cons_succ]
  refine InvC.invc_value (.int .u32 (s1 : Int)) (fun u hu => by cases hu) rfl (fun d w' _ _ h => by have q := (Q.out d w' h).2; go_simp) (fun d w' _ _ h => At3.keep (by decide) (by decide) (by decide) h) ?_
  simp only [Act.put, List.setIfInBounds_toArray, List.set_cons_zero, List.set_cons_succ]
  refine InvC.invc_value (.slice (some ⟨g, o, none⟩) bn c) (fun u hu => by cases hu) rfl (fun d w' _ _ h => by go_simp; all_goals rfl) (fun d w' _ _ h => At3.keep (by decide) (by decide) (by decide) h) ?_
  simp only [Act.put, List.setIfInBounds_toArray, List.set_cons_zero, List.set_cons_succ]
  refine InvC.invc_call (.slice (some ⟨cA, 0, none⟩) bn cc) (fun u hu => by cases hu) rfl 25 #[.slice (some ⟨g, o, none⟩) bn c] (fun d w' _ => by go_simp) (fun d w' hd hG h => by
    have e := h.at_p hd
    subst e
    exact CX.out.mono fun e w'' ⟨he, h2⟩ => ⟨he, by rw [h2]; exact At3.did_p (by decide) (by decide) hd h rfl⟩) ?_
  simp only [Act.put, List.setIfInBounds_toArray, List.set_cons_zero, List.set_cons_succ]
  refine InvC.invc_value (.agg mv.toArray) (fun u hu => by cases hu) rfl (fun d w' _ _ h => exec_build (vs := [(1, .int .u32 (s1 : Int)), (3, .slice (some ⟨cA, 0, none⟩) bn cc)]) rfl rfl BM.out) (fun d w' _ _ h => At3.keep (by decide) (by decide) (by decide) h) ?_
  simp only [Act.put, List.setIfInBounds_toArray, List.set_cons_zero, List.set_cons_succ]
  refine InvC.invc_world (.slice (some ⟨cA + 1, 0, none⟩) 1 1) (fun u hu => by cases hu) rfl (fun d w' hd hG h => ⟨wC, by
    have e := h.at_q hd (hG.of2 (j := 11) (by kernel_rfl) (by kernel_rfl))
    subst e
    rw [← HSB.out, HWC.out]
    exact exec_build_one rfl rfl Try.underlying50 info_mk HM4.out (by decide) (by decide), At3.did_q (by decide) (by decide) hd (hG.of2 (j := 11) (by kernel_rfl) (by kernel_rfl)) h rfl⟩) ?_
  simp only [Act.put, List.setIfInBounds_toArray, List.set_cons_zero, List.set_cons_succ]
  refine InvC.invc_world (.slice va fn vc) (fun u hu => by cases hu) rfl (fun d w' hd hG h => ⟨wD, by
    have e := h.at_r hd (hG.of (by kernel_rfl))
    subst e
    exact exec_append _ _ rfl rfl rfl HRD'.out, At3.did_r (by decide) (by decide) hd (hG.of (by kernel_rfl)) h rfl⟩) ?_
  simp only [Act.put, List.setIfInBounds_toArray, List.set_cons_zero, List.set_cons_succ]
  refine InvC.invc_value (.pointer (some ⟨bl, 1, none⟩)) (fun u hu => by cases hu) rfl (fun d w' _ _ h => by go_simp; all_goals rfl) (fun d w' _ _ h => At3.keep (by decide) (by decide) (by decide) h) ?_
  simp only [Act.put, List.setIfInBounds_toArray, List.set_cons_zero, List.set_cons_succ]
  refine InvC.invc_value (.pointer (some ⟨bl, 1, none⟩)) (fun u hu => by cases hu) rfl (fun d w' _ _ h => by go_simp; all_goals rfl) (fun d w' _ _ h => At3.keep (by decide) (by decide) (by decide) h) ?_
  simp only [Act.put, List.setIfInBounds_toArray, List.set_cons_zero, List.set_cons_succ]
  refine InvC.invc_nil fun w6 hI => ?_
  have e6 := hI.done (by rfl)
  subst e6
  have q4 := QD.out
  have f4 := FD.out
  have GO3 := Lib.hid ((GO1.out.trans (Goes.of_below GO1.out.at_ LC1.out)).trans HGD'.out)
  clear Q QD FD HRD' HWC HWB HSB HCA LB LC1 HM4 BM CX HB1 HGD' GO1
  go_upto_region 8 with (fail)
  obtain ⟨w7, hw7⟩ : ∃ w7, w7 = w6.setCell ⟨bl, 1, none⟩ (.slice va fn vc) := ⟨_, rfl⟩
  rw [← hw7] at GO3 ⊢
  have c7 : w7.cell? ⟨bl, 2, none⟩ = some (.int .u32 (s1 : Int)) := by rw [HS1.out]; exact GO3.out.at_.cell 2
  have PT := Lib.hid (show Calls Try.prog 26 #[.pointer (some ⟨bl, 0, none⟩), .int .i64 0, .int .u32 (s1 : Int), .slice (some ⟨g, o, none⟩) bn c] w7 fun e w' => e = .returned (.tuple #[]) ∧ ∃ V', Goes w7 bl (upd V 0 (.slice va fn vc)) A w' V' (((k.bump 0).addOpen 0 ⟨0, s1, 0, B⟩).put 0 s1 B) from put_any GO3.out.at_ 0 (by decide) s1 (S := []) (v := .slice (some ⟨g, o, none⟩) bn c) (B := B) (by
    have e := HBN.out
    subst e
    exact .inr ⟨g, o, c, rfl, h0, h64, bts_only HB.out GO3.out.only hbb, by simp⟩) hfl)
  clear hw7 q4 f4
  go_wp2_with (first | (go_at_call 26; refine PT.out.mono ?_; rintro e w8 ⟨rfl, V8, g8⟩))
  go_ret
  refine ⟨rfl, V8, ?_⟩
  have e : k.send 0 B = ((k.bump 0).addOpen 0 ⟨0, s1, 0, B⟩).put 0 s1 B := by rw [HS1.out]; rfl
  rw [e]
  exact GO3.out.trans g8
set_option maxHeartbeats 2000000 in
theorem send_ok1 (h : LinkAt w bl V A k) (g o c bn : Nat) (B : List UInt8) (hbn : B.length = bn) (h0 : 1 ≤ bn) (h64 : bn ≤ 64) (hb : Bts w (some ⟨g, o, none⟩) bn c B) (hfl : k.fl.length < 1024) (hop : (k.en 1).op.length < 256) (hbb : g ∉ reach bl V) : Calls Try.prog 7 #[.pointer (some ⟨bl, 0, none⟩), .int .i64 1, .slice (some ⟨g, o, none⟩) bn c] w fun e w' => e = .returned (.int .i64 0) ∧ ∃ V', Goes w bl V A w' V' (k.send 1 B) := by
  have hlt := h.head.lt
  have RM := Lib.hid (room_any h)
  rw [decide_eq_true hfl] at RM
  obtain ⟨oa, oc, eo, _⟩ := h.slO 1 (by decide)
  have co : w.cell? ⟨bl, 5, none⟩ = some (V 2) := h.cell 5
  have eo' : V 2 = .slice oa (k.en 1).op.length oc := eo
  rw [eo'] at co
  obtain ⟨on, hon⟩ : ∃ on, on = (k.en 1).op.length := ⟨_, rfl⟩
  rw [← hon] at co
  have ho : (on : Int) < 256 := by omega
  have i1 : (1 : Int) ≤ bn := by omega
  have i2 : (bn : Int) ≤ 64 := by omega
  obtain ⟨sn, hsn⟩ : ∃ sn, sn = (k.en 1).sent := ⟨_, rfl⟩
  have cs : w.cell? ⟨bl, 6, none⟩ = some (.int .u32 (sn : Int)) := by rw [hsn]; exact h.cell 6
  have fs : w.frozen? ⟨bl, 6, none⟩ = false := h.head.frozen 6
  have H0 := Lib.hid h
  have HB := Lib.hid hb
  have HSN := Lib.hid hsn
  have HBN := Lib.hid hbn
  have HOP := Lib.hid hop
  clear h eo eo' hon hb hsn hbn hop
  go_enter Try.func7, Try.ntmps7
  go_upto_region 7 with (first | (go_at_call 24; refine RM.out.mono ?_; rintro e w' ⟨rfl, rfl⟩))
  have e1 : ((sn : Int) + 1) % 4294967296 = (((sn + 1) % 4294967296 : Nat) : Int) := by omega
  obtain ⟨s1, hs1⟩ : ∃ s1, s1 = (sn + 1) % 4294967296 := ⟨_, rfl⟩
  rw [e1, ← hs1]
  obtain ⟨w1, hw1⟩ : ∃ w1, w1 = w.setCell ⟨bl, 6, none⟩ (.int .u32 (s1 : Int)) := ⟨_, rfl⟩
  rw [← hw1]
  have GO1 := Lib.hid (show Goes w bl V A w1 V (k.bump 1) from hw1 ▸ H0.out.scalar 6 _ (k.bump 1) (by rw [hs1, HSN.out]; rfl) (fun m => by cases m <;> rfl) (fun m => by cases m <;> rfl) rfl)
  have HB1 := Lib.hid (bts_only HB.out GO1.out.only hbb)
  have HS1 := Lib.hid (show s1 = ((k.en 1).sent + 1) % 4294967296 by rw [hs1, HSN.out])
  obtain ⟨hbB, hlB, hsB⟩ := cloneW_is w1.drew bn B HBN.out (by omega)
  have CX := Lib.hid (clone_exact ⟨g, o, none⟩ bn c B (by omega) (by omega) w1.drew HB1.out)
  obtain ⟨wB, hwB⟩ : ∃ wB, wB = cloneW w1.drew bn B := ⟨_, rfl⟩
  obtain ⟨cc, hcc⟩ : ∃ cc, cc = cloneC w1.drew bn := ⟨_, rfl⟩
  obtain ⟨cA, hcA⟩ : ∃ cA, cA = w1.drew.heap.size + 1 := ⟨_, rfl⟩
  rw [← hwB, ← hcc, ← hcA] at CX hbB
  rw [← hwB] at hlB hsB
  have hcA' : cA = w1.heap.size + 1 := hcA
  have lB : Below w1.heap.size w1 wB := (Below.refl w1.heap.size w1).drew.trans hlB
  obtain ⟨mv, hmv⟩ : ∃ mv, mv = mc (⟨0, s1, 0, B⟩, .slice (some ⟨cA, 0, none⟩) bn cc) := ⟨_, rfl⟩
  have BM := Lib.hid (show Try.prog.built 75 [(1, .int .u32 (s1 : Int)), (3, .slice (some ⟨cA, 0, none⟩) bn cc)] = some mv.toArray from by rw [hmv]; kernel_rfl)
  have HM4 := Lib.hid (show mv.length = 4 by rw [hmv]; rfl)
  obtain ⟨wC, hwC⟩ : ∃ wC, wC = wB.alloc (.cells mv.toArray 75) := ⟨_, rfl⟩
  have lC : Below wB.heap.size wB wC := hwC ▸ (Below.refl _ _).alloc (Nat.le_refl _) _
  have lC1 : Below w1.heap.size w1 wC := lB.trans (lC.mono lB.size)
  have KC := Lib.hid (GO1.out.at_.below lC1)
  have YC : Body wC (reach bl V ++ A) (.slice (some ⟨cA, 0, none⟩) bn cc) B := by
    have e := HBN.out
    subst e
    refine .inr ⟨cA, 0, cc, rfl, h0, h64, hbB.below lC (Nat.le_refl _), fun hx => ?_⟩
    rcases List.mem_append.1 hx with hx | hx
    · have := GO1.out.at_.reach_lt hx; omega
    · have := GO1.out.at_.out cA hx; omega
  obtain ⟨v', wD, hrD, hgD, hcD, hfD, grD, va, vc, rfl⟩ := KC.out.moreOpen 1 (by decide) ⟨0, s1, 0, B⟩ (.slice (some ⟨cA, 0, none⟩) bn cc) YC (g := wB.heap.size) (by rw [hwC, hmv]; exact blk_at rfl rfl) (by have := HOP.out; show (k.en 1).op.length < 1024; omega)
  have HRD := Lib.hid hrD
  have HGD := Lib.hid hgD
  have HWB := Lib.hid hwB
  have HWC := Lib.hid hwC
  have HSB := Lib.hid (show wB.heap.size = cA + 1 by omega)
  have HCA := Lib.hid hcA
  have LB := Lib.hid lB
  have LC1 := Lib.hid lC1
  have q1 : w1.cell? ⟨bl, 5, none⟩ = some (V 2) := GO1.out.at_.cell 5
  have q2 : wB.cell? ⟨bl, 5, none⟩ = some (V 2) := (GO1.out.at_.below lB).cell 5
  have q3 : wC.cell? ⟨bl, 5, none⟩ = some (V 2) := KC.out.cell 5
  have q4 : wD.cell? ⟨bl, 5, none⟩ = some (V 2) := hcD
  have p1 : w1.cell? ⟨bl, 6, none⟩ = some (.int .u32 (s1 : Int)) := by rw [HS1.out]; exact GO1.out.at_.cell 6
  have p2 : wB.cell? ⟨bl, 6, none⟩ = some (.int .u32 (s1 : Int)) := by rw [HS1.out]; exact (GO1.out.at_.below lB).cell 6
  have p3 : wC.cell? ⟨bl, 6, none⟩ = some (.int .u32 (s1 : Int)) := by rw [HS1.out]; exact KC.out.cell 6
  have p4 : wD.cell? ⟨bl, 6, none⟩ = some (.int .u32 (s1 : Int)) := by
    have := (KC.out.head.grownO grD (fun x hx => by have := KC.out.row 2 (by decide) hx; omega)).cell 6
    rw [HS1.out]; exact this
  obtain ⟨vo, hvo⟩ : ∃ vo, vo = V 2 := ⟨_, rfl⟩
  have HVO := Lib.hid hvo
  rw [← hvo] at q1 q2 q3 q4
  have HRD' := Lib.hid (show (Builtin.append_ #[50, 50] 50 #[vo, .slice (some ⟨cA + 1, 0, none⟩) 1 1]).run Try.prog wC = .ok (.slice va ((k.en 1).op.length + 1) vc) wD from by rw [hvo, ← HSB.out]; exact HRD.out)
  obtain ⟨fn, hfn⟩ : ∃ fn, fn = (k.en 1).op.length + 1 := ⟨_, rfl⟩
  rw [← hfn] at HRD'
  have HGD' := Lib.hid (show Goes wC bl V A (wD.setCell ⟨bl, 5, none⟩ (.slice va fn vc)) (upd V 2 (.slice va fn vc)) ((k.bump 1).addOpen 1 ⟨0, s1, 0, B⟩) from by rw [hfn]; exact HGD.out)
  have Q := Lib.hid (show ∀ d w', At3 10 12 13 (fun w' => w' = w1.drew) (fun w' => w' = wB) (fun w' => w' = wC) (fun w' => w' = wD) d w' → w'.cell? ⟨bl, 5, none⟩ = some vo ∧ w'.cell? ⟨bl, 6, none⟩ = some (.int .u32 (s1 : Int)) from fun d w' h => by
    rcases h.any with rfl | rfl | rfl | rfl
    · exact ⟨q1, p1⟩
    · exact ⟨q2, p2⟩
    · exact ⟨q3, p3⟩
    · exact ⟨q4, p4⟩)
  have QD := Lib.hid q4
  have FD := Lib.hid (show wD.frozen? ⟨bl, 5, none⟩ = false from hfD)
  clear hs1 hw1 hwB hcc hcA hcA' hlB hsB hbB lB hmv hwC lC lC1 YC hrD hgD hcD hfD grD q1 q2 q3 q4 p1 p2 p3 p4 hvo HRD HGD HVO hfn KC RM co cs fs ho HSN HOP
  refine wp_region_gate_tail (fun d w' => At3 10 12 13 (fun w' => w' = w1.drew) (fun w' => w' = wB) (fun w' => w' = wC) (fun w' => w' = wD) d w') 16 (by kernel_rfl) (by kernel_rfl) ?hI ?_
  case hI => exact At3.start (by rfl) (by rfl) (by rfl) rfl
  simp only [List.take_succ_cons, List.take_zero, List.drop_succ_cons, List.drop_zero]
  refine InvC.invc_value (.pointer (some ⟨bl, 5, none⟩)) (fun u hu => by cases hu) rfl (fun d w' _ _ h => by go_simp; all_goals rfl) (fun d w' _ _ h => At3.keep (by decide) (by decide) (by decide) h) ?_
  simp only [Act.put, List.setIfInBounds_toArray, List.set_cons_zero, List.set_cons_succ]
  refine InvC.invc_value (.pointer (some ⟨bl, 5, none⟩)) (fun u hu => by cases hu) rfl (fun d w' _ _ h => by go_simp; all_goals rfl) (fun d w' _ _ h => At3.keep (by decide) (by decide) (by decide) h) ?_
  simp only [Act.put, List.setIfInBounds_toArray, List.set_cons_zero, List.set_cons_succ]
  refine InvC.invc_value (.pointer (some ⟨bl, 5, none⟩)) (fun u hu => by cases hu) rfl (fun d w' _ _ h => by go_simp; all_goals rfl) (fun d w' _ _ h => At3.keep (by decide) (by decide) (by decide) h) ?_
  simp only [Act.put, List.setIfInBounds_toArray, List.set_cons_zero, List.set_cons_succ]
  refine InvC.invc_value (.pointer (some ⟨bl, 5, none⟩)) (fun u hu => by cases hu) rfl (fun d w' _ _ h => by go_simp; all_goals rfl) (fun d w' _ _ h => At3.keep (by decide) (by decide) (by decide) h) ?_
  simp only [Act.put, List.setIfInBounds_toArray, List.set_cons_zero, List.set_cons_succ]
  refine InvC.invc_value (vo) (fun u hu => by cases hu) rfl (fun d w' _ _ h => by have q := (Q.out d w' h).1; go_simp) (fun d w' _ _ h => At3.keep (by decide) (by decide) (by decide) h) ?_
  simp only [Act.put, List.setIfInBounds_toArray, List.set_cons_zero, List.set_cons_succ]
  refine InvC.invc_value (.pointer (some ⟨bl, 5, none⟩)) (fun u hu => by cases hu) rfl (fun d w' _ _ h => by go_simp; all_goals rfl) (fun d w' _ _ h => At3.keep (by decide) (by decide) (by decide) h) ?_
  simp only [Act.put, List.setIfInBounds_toArray, List.set_cons_zero, List.set_cons_succ]
  refine InvC.invc_value (.pointer (some ⟨bl, 5, none⟩)) (fun u hu => by cases hu) rfl (fun d w' _ _ h => by go_simp; all_goals rfl) (fun d w' _ _ h => At3.keep (by decide) (by decide) (by decide) h) ?_
  simp only [Act.put, List.setIfInBounds_toArray, List.set_cons_zero, List.set_cons_succ]
  refine InvC.invc_value (.pointer (some ⟨bl, 6, none⟩)) (fun u hu => by cases hu) rfl (fun d w' _ _ h => by go_simp; all_goals rfl) (fun d w' _ _ h => At3.keep (by decide) (by decide) (by decide) h) ?_
  simp only [Act.put, List.setIfInBounds_toArray, List.set_cons_zero, List.set_cons_succ]
  refine InvC.invc_value (.int .u32 (s1 : Int)) (fun u hu => by cases hu) rfl (fun d w' _ _ h => by have q := (Q.out d w' h).2; go_simp) (fun d w' _ _ h => At3.keep (by decide) (by decide) (by decide) h) ?_
  simp only [Act.put, List.setIfInBounds_toArray, List.set_cons_zero, List.set_cons_succ]
  refine InvC.invc_value (.slice (some ⟨g, o, none⟩) bn c) (fun u hu => by cases hu) rfl (fun d w' _ _ h => by go_simp; all_goals rfl) (fun d w' _ _ h => At3.keep (by decide) (by decide) (by decide) h) ?_
  simp only [Act.put, List.setIfInBounds_toArray, List.set_cons_zero, List.set_cons_succ]
  refine InvC.invc_call (.slice (some ⟨cA, 0, none⟩) bn cc) (fun u hu => by cases hu) rfl 25 #[.slice (some ⟨g, o, none⟩) bn c] (fun d w' _ => by go_simp) (fun d w' hd hG h => by
    have e := h.at_p hd
    subst e
    exact CX.out.mono fun e w'' ⟨he, h2⟩ => ⟨he, by rw [h2]; exact At3.did_p (by decide) (by decide) hd h rfl⟩) ?_
  simp only [Act.put, List.setIfInBounds_toArray, List.set_cons_zero, List.set_cons_succ]
  refine InvC.invc_value (.agg mv.toArray) (fun u hu => by cases hu) rfl (fun d w' _ _ h => exec_build (vs := [(1, .int .u32 (s1 : Int)), (3, .slice (some ⟨cA, 0, none⟩) bn cc)]) rfl rfl BM.out) (fun d w' _ _ h => At3.keep (by decide) (by decide) (by decide) h) ?_
  simp only [Act.put, List.setIfInBounds_toArray, List.set_cons_zero, List.set_cons_succ]
  refine InvC.invc_world (.slice (some ⟨cA + 1, 0, none⟩) 1 1) (fun u hu => by cases hu) rfl (fun d w' hd hG h => ⟨wC, by
    have e := h.at_q hd (hG.of2 (j := 11) (by kernel_rfl) (by kernel_rfl))
    subst e
    rw [← HSB.out, HWC.out]
    exact exec_build_one rfl rfl Try.underlying50 info_mk HM4.out (by decide) (by decide), At3.did_q (by decide) (by decide) hd (hG.of2 (j := 11) (by kernel_rfl) (by kernel_rfl)) h rfl⟩) ?_
  simp only [Act.put, List.setIfInBounds_toArray, List.set_cons_zero, List.set_cons_succ]
  refine InvC.invc_world (.slice va fn vc) (fun u hu => by cases hu) rfl (fun d w' hd hG h => ⟨wD, by
    have e := h.at_r hd (hG.of (by kernel_rfl))
    subst e
    exact exec_append _ _ rfl rfl rfl HRD'.out, At3.did_r (by decide) (by decide) hd (hG.of (by kernel_rfl)) h rfl⟩) ?_
  simp only [Act.put, List.setIfInBounds_toArray, List.set_cons_zero, List.set_cons_succ]
  refine InvC.invc_value (.pointer (some ⟨bl, 5, none⟩)) (fun u hu => by cases hu) rfl (fun d w' _ _ h => by go_simp; all_goals rfl) (fun d w' _ _ h => At3.keep (by decide) (by decide) (by decide) h) ?_
  simp only [Act.put, List.setIfInBounds_toArray, List.set_cons_zero, List.set_cons_succ]
  refine InvC.invc_value (.pointer (some ⟨bl, 5, none⟩)) (fun u hu => by cases hu) rfl (fun d w' _ _ h => by go_simp; all_goals rfl) (fun d w' _ _ h => At3.keep (by decide) (by decide) (by decide) h) ?_
  simp only [Act.put, List.setIfInBounds_toArray, List.set_cons_zero, List.set_cons_succ]
  refine InvC.invc_nil fun w6 hI => ?_
  have e6 := hI.done (by rfl)
  subst e6
  have q4 := QD.out
  have f4 := FD.out
  have GO3 := Lib.hid ((GO1.out.trans (Goes.of_below GO1.out.at_ LC1.out)).trans HGD'.out)
  clear Q QD FD HRD' HWC HWB HSB HCA LB LC1 HM4 BM CX HB1 HGD' GO1
  go_upto_region 8 with (fail)
  obtain ⟨w7, hw7⟩ : ∃ w7, w7 = w6.setCell ⟨bl, 5, none⟩ (.slice va fn vc) := ⟨_, rfl⟩
  rw [← hw7] at GO3 ⊢
  have c7 : w7.cell? ⟨bl, 6, none⟩ = some (.int .u32 (s1 : Int)) := by rw [HS1.out]; exact GO3.out.at_.cell 6
  have PT := Lib.hid (show Calls Try.prog 26 #[.pointer (some ⟨bl, 0, none⟩), .int .i64 1, .int .u32 (s1 : Int), .slice (some ⟨g, o, none⟩) bn c] w7 fun e w' => e = .returned (.tuple #[]) ∧ ∃ V', Goes w7 bl (upd V 2 (.slice va fn vc)) A w' V' (((k.bump 1).addOpen 1 ⟨0, s1, 0, B⟩).put 1 s1 B) from put_any GO3.out.at_ 1 (by decide) s1 (S := []) (v := .slice (some ⟨g, o, none⟩) bn c) (B := B) (by
    have e := HBN.out
    subst e
    exact .inr ⟨g, o, c, rfl, h0, h64, bts_only HB.out GO3.out.only hbb, by simp⟩) hfl)
  clear hw7 q4 f4
  go_wp2_with (first | (go_at_call 26; refine PT.out.mono ?_; rintro e w8 ⟨rfl, V8, g8⟩))
  go_ret
  refine ⟨rfl, V8, ?_⟩
  have e : k.send 1 B = ((k.bump 1).addOpen 1 ⟨0, s1, 0, B⟩).put 1 s1 B := by rw [HS1.out]; rfl
  rw [e]
  exact GO3.out.trans g8
end
end Go.Proofs.Ytgnnjinpcdemiaa.Link
/-
  Open of a link by contract. Helper text; no statement is proved here.
-/
set_option linter.unusedVariables false
set_option maxRecDepth 20000
set_option linter.unusedSimpArgs false
namespace Go.Proofs.Ytgnnjinpcdemiaa.Link
open Go.RowKit Go.Proofs.Ytgnnjinpcdemiaa.Base Go.Proofs.Ytgnnjinpcdemiaa.Laws Go.Proofs.Ytgnnjinpcdemiaa.Disk Go.Proofs.Ytgnnjinpcdemiaa.Row Go.Proofs.Ytgnnjinpcdemiaa.Flat Go.Proofs.Ytgnnjinpcdemiaa.InvM
section
variable {w : World} {bl : Nat} {V : Nat → Value} {A : List Nat} {k : Lk}
theorem open_any (h : LinkAt w bl V A k) (n : Nat) (hn : n < 2) : Calls Try.prog 16 #[.pointer (some ⟨bl, 0, none⟩), .int .i64 (n : Int)] w fun e w' => e = .returned (.int .i64 ((k.en n).op.length : Nat)) ∧ w = w' := by
  obtain ⟨oa, oc, eo, _⟩ := h.slO n hn
  have hc := h.cell (1 + 4 * n)
  obtain ⟨on, hon⟩ : ∃ on, on = (k.en n).op.length := ⟨_, rfl⟩
  rw [← hon] at eo ⊢
  obtain rfl | rfl : n = 0 ∨ n = 1 := by omega
  · have co : w.cell? ⟨bl, 1, none⟩ = some (V 0) := hc
    rw [show V 0 = .slice oa on oc from eo] at co
    clear h eo hon hc
    go_enter Try.func16, Try.ntmps16
    go_wp2_with fail
    go_ret
    exact ⟨rfl, rfl⟩
  · have co : w.cell? ⟨bl, 5, none⟩ = some (V 2) := hc
    rw [show V 2 = .slice oa on oc from eo] at co
    clear h eo hon hc
    go_enter Try.func16, Try.ntmps16
    go_wp2_with fail
    go_ret
    exact ⟨rfl, rfl⟩
theorem open_no (p : Option Addr) (n : Int) (hn : n < 0 ∨ 1 < n) (w : World) : Calls Try.prog 16 #[.pointer p, .int .i64 n] w fun e w' => e = .returned (.int .i64 0) ∧ w = w' := by
  cases p with
  | none => exact open_nil n w
  | some p =>
    by_cases h1 : n < 0
    · go_enter Try.func16, Try.ntmps16
      go_wp2_with fail
      go_ret
      exact ⟨rfl, rfl⟩
    · have h2 : 1 < n := by omega
      go_enter Try.func16, Try.ntmps16
      go_wp2_with fail
      go_ret
      exact ⟨rfl, rfl⟩
end
end Go.Proofs.Ytgnnjinpcdemiaa.Link
/-
  slices.Delete of one packet; take, Drop of a link by contract. Helper text; no statement is proved here.
-/
set_option linter.unusedVariables false
set_option maxRecDepth 20000
set_option linter.unusedSimpArgs false
namespace Go.Proofs.Ytgnnjinpcdemiaa.Link
open Go.RowKit Go.Proofs.Ytgnnjinpcdemiaa.Base Go.Proofs.Ytgnnjinpcdemiaa.Laws Go.Proofs.Ytgnnjinpcdemiaa.Disk Go.Proofs.Ytgnnjinpcdemiaa.Row Go.Proofs.Ytgnnjinpcdemiaa.Flat Go.Proofs.Ytgnnjinpcdemiaa.InvM
section
variable {w : World} {bl : Nat} {V : Nat → Value} {A : List Nat} {k : Lk}
theorem take_no (h : LinkAt w bl V A k) (i : Int) (hi : i < 0 ∨ (k.fl.length : Int) ≤ i) : Calls Try.prog 27 #[.pointer (some ⟨bl, 0, none⟩), .int .i64 i] w fun e w' => e = .returned (.tuple #[.agg zpk.toArray, .bool false]) ∧ Below w.heap.size w w' := by
  obtain ⟨a, c, e, _⟩ := h.slF
  have hlt := h.head.lt
  have c9 : w.cell? ⟨bl, 9, none⟩ = some (V 4) := h.cell 9
  rw [e] at c9
  obtain ⟨n, hn⟩ : ∃ n, n = k.fl.length := ⟨_, rfl⟩
  rw [← hn] at c9 hi
  clear h e hn
  have Z := Lib.hid (blk_at (w := w) (g := w.heap.size) (cs := zpk) (t := 78) (arr := #[.int .i64 0, .int .u32 0, .int .u32 0, .int .u32 0, .slice none 0 0]) rfl rfl)
  by_cases h1 : i < 0
  · clear hi c9
    go_enter Try.func27, Try.ntmps27
    go_upto_region 1 with (fail)
    obtain ⟨w1, hw1⟩ : ∃ w1, w1 = w.alloc (.cells #[.int .i64 0, .int .u32 0, .int .u32 0, .int .u32 0, .slice none 0 0] 78) := ⟨_, rfl⟩
    have L1 := Lib.hid (show Below w.heap.size w w1 from hw1 ▸ ((Below.refl w.heap.size w).alloc (Nat.le_refl _) _))
    rw [← hw1] at Z ⊢
    clear hw1
    go_wp2_with (first | (refine wpList_store_blk rfl 78 _ _ rfl w.heap.size 0 5 rfl 78 zpk zpk rfl Z.out (by kernel_rfl) rfl (by decide) (by decide) ?_; intro w2 z2 g2; have Z2 := Lib.hid (show Blk w2 w.heap.size zpk 78 from z2); have L2 := Lib.hid (below_grown L1.out g2 L1.out.size (Nat.le_refl _)); clear z2 g2))
    exact bodyPost_ret (v := .tuple #[.agg zpk.toArray, .bool false]) (results_cell_two rfl _ _ w.heap.size 78 _ (0, 0) _ _ rfl rfl Z2.out Try.underlying78 rfl (by kernel_rfl)) rfl ⟨rfl, L2.out⟩
  · have h2 : (n : Int) ≤ i := by omega
    clear hi
    go_enter Try.func27, Try.ntmps27
    go_upto_region 1 with (fail)
    obtain ⟨w1, hw1⟩ : ∃ w1, w1 = w.alloc (.cells #[.int .i64 0, .int .u32 0, .int .u32 0, .int .u32 0, .slice none 0 0] 78) := ⟨_, rfl⟩
    have L1 := Lib.hid (show Below w.heap.size w w1 from hw1 ▸ ((Below.refl w.heap.size w).alloc (Nat.le_refl _) _))
    have c9' : w1.cell? ⟨bl, 9, none⟩ = some (.slice a n c) := (Below.cell L1.out (p := ⟨bl, 9, none⟩) hlt).trans c9
    rw [← hw1] at Z ⊢
    clear hw1 c9
    go_wp2_with (first | (refine wpList_store_blk rfl 78 _ _ rfl w.heap.size 0 5 rfl 78 zpk zpk rfl Z.out (by kernel_rfl) rfl (by decide) (by decide) ?_; intro w2 z2 g2; have Z2 := Lib.hid (show Blk w2 w.heap.size zpk 78 from z2); have L2 := Lib.hid (below_grown L1.out g2 L1.out.size (Nat.le_refl _)); clear z2 g2))
    exact bodyPost_ret (v := .tuple #[.agg zpk.toArray, .bool false]) (results_cell_two rfl _ _ w.heap.size 78 _ (0, 0) _ _ rfl rfl Z2.out Try.underlying78 rfl (by kernel_rfl)) rfl ⟨rfl, L2.out⟩
end
end Go.Proofs.Ytgnnjinpcdemiaa.Link
/-
  clear of a stretch of a row; slices of rows. Helper text; no statement is proved here.
-/
set_option linter.unusedVariables false
set_option maxRecDepth 20000
set_option linter.unusedSimpArgs false
namespace Go.Proofs.Ytgnnjinpcdemiaa.Link
open Go.RowKit Go.Proofs.Ytgnnjinpcdemiaa.Base Go.Proofs.Ytgnnjinpcdemiaa.Laws Go.Proofs.Ytgnnjinpcdemiaa.Disk Go.Proofs.Ytgnnjinpcdemiaa.Row Go.Proofs.Ytgnnjinpcdemiaa.Flat Go.Proofs.Ytgnnjinpcdemiaa.InvM
theorem run_clear_row {P : Program} (w : World) (t e ty : TypeId) (z : Value) (m : Nat) (ht : P.underlying t = some (.slice e)) (hv : ∀ w, (zeroValue e).run P w = .ok z w) (hz : z.cells.size = m) (h1 : ∀ u ∈ z.cells, u.oneCell' = true) (g o n c : Nat) (hn : 0 < n)
    (cur : Array Value) (hg : w.heap[g]? = some (.cells cur e (0, 0))) (hfit : o + n * m ≤ cur.size) :
    ∃ news : List Value, news.length = n * m ∧ (Builtin.clear_ #[t] ty #[.slice (some ⟨g, o, none⟩) n c]).run P w = .ok (.tuple #[]) (w.setRow g (cur.toList.take o ++ news ++ cur.toList.drop (o + news.length)).toArray) := by
  refine ⟨(Builtin.zeroCells z.cells n).toList, by simp [size_zeroCells, hz], ?_⟩
  have hl : (Builtin.zeroCells z.cells n).toList.length = n * m := by simp [size_zeroCells, hz]
  have hst := run_storeCells_at P g o e (Builtin.zeroCells z.cells n).toList 0 cur w hg (by rw [hl]; simpa using hfit) (by
    intro u hu
    simp only [Builtin.zeroCells, Array.toList_map, Array.toList_range, List.mem_map, List.mem_range] at hu
    obtain ⟨x, hx, rfl⟩ := hu
    have hp : 0 < z.cells.size := by rcases Nat.eq_zero_or_pos z.cells.size with h | h; rw [h] at hx; simp at hx; exact h
    rw [getElem!_pos z.cells (x % z.cells.size) (Nat.mod_lt _ hp)]
    exact h1 _ (Array.getElem_mem _))
  simp only [Nat.add_zero] at hst
  obtain ⟨m', rfl⟩ : ∃ m', n = m' + 1 := ⟨n - 1, by omega⟩
  simp [Builtin.clear_, run_underlying ht, hv, hst]
end Go.Proofs.Ytgnnjinpcdemiaa.Link
/-
  slices.Delete of one packet by contract. Helper text; no statement is proved here.
-/
set_option linter.unusedVariables false
set_option maxRecDepth 20000
set_option linter.unusedSimpArgs false
namespace Go.Proofs.Ytgnnjinpcdemiaa.Link
open Go.RowKit Go.Proofs.Ytgnnjinpcdemiaa.Base Go.Proofs.Ytgnnjinpcdemiaa.Laws Go.Proofs.Ytgnnjinpcdemiaa.Disk Go.Proofs.Ytgnnjinpcdemiaa.Row Go.Proofs.Ytgnnjinpcdemiaa.Flat Go.Proofs.Ytgnnjinpcdemiaa.InvM
theorem exec_clear {P : Program} {ρ : Operand → Value} {w w' : World} {o : Oper} {t : TypeId} (s : Operand) (ho : o.op = .call { callee := .builtin .clear, args := #[s], argTypes := #[t] }) {v x : Value} (hs : ρ s = v)
    (hr : (Builtin.clear_ #[t] o.type #[v]).run P w = .ok x w') : (execOp ρ o).run P w = .ok (.value x) w' := by
  unfold execOp
  simp only [ho, resolve, invoke, builtin, Sem.run_bind, Sem.run_pure, Result.andThen_ok, List.map_toArray, List.map_cons, List.map_nil, hs, hr]
theorem delete_one (w : World) (base : Nat) (g cap : Nat) (ps : List (Pk × Value)) (n i : Nat) (hn : n = ps.length) (ho : w.ownsRow base 78 5 (.slice (some ⟨g, 0, none⟩) n cap) n (flat pc ps)) (hi : i < n) (hone : ∀ p ∈ ps, p.2.oneCell' = true) :
    Calls Try.prog 46 #[.slice (some ⟨g, 0, none⟩) n cap, .int .i64 (i : Int), .int .i64 ((i + 1 : Nat) : Int)] w fun e w' => e = .returned (.slice (some ⟨g, 0, none⟩) (n - 1) cap) ∧ w'.ownsRow base 78 5 (.slice (some ⟨g, 0, none⟩) (n - 1) cap) (n - 1) (flat pc (ps.take i ++ ps.drop (i + 1))) ∧ w.grownBy w' (some g) := by
  obtain ⟨hl, h2⟩ := ho
  rcases h2 with ⟨e, _⟩ | ⟨g', cap', cur, e, hb, hg, hnc, hcm, hsz, htk⟩
  · cases e
  cases e
  obtain ⟨j, hj⟩ : ∃ j, j = i + 1 := ⟨_, rfl⟩
  rw [← hj]
  have i1 : (i : Int) ≠ (j : Int) := by omega
  have i2 : i ≤ j := by omega
  have i3 : j ≤ n := by omega
  have i4 : j ≤ cap := by omega
  have i5 : n ≤ cap := hnc
  have i6 : i ≤ cap := by omega
  unfold maxLen at hcm
  obtain ⟨i0, hi0, hz0, hz1, hz2⟩ := info_parts info_pk
  obtain ⟨news, hnews⟩ : ∃ news, news = (cur.toList.take (n * 5)).drop (j * 5) := ⟨_, rfl⟩
  have hnl : news.length = (n - j) * 5 := by rw [hnews, List.length_drop, htk, hl]; omega
  have hn1 : ∀ u ∈ news, u.oneCell' = true := by
    intro u hu
    rw [hnews, htk] at hu
    obtain ⟨p, hp, hup⟩ := flat_mem (List.mem_of_mem_drop hu)
    exact pc_one (hone p hp) u hup
  obtain ⟨X, hX⟩ : ∃ X : Option Addr, X = (if cap = j then some (⟨g, 0, none⟩ : Addr) else some ⟨g, j * 5, none⟩) := ⟨_, rfl⟩
  obtain ⟨AD, hAD, hsrc⟩ : ∃ AD : Addr, X = some AD ∧ ∀ t u, news[t]? = some u → w.drew.cell? (AD.add t) = some u := by
    by_cases h : cap = j
    · refine ⟨⟨g, 0, none⟩, by rw [hX, if_pos h], fun t u hu => ?_⟩
      have := (List.getElem?_eq_some_iff.1 hu).1
      omega
    · refine ⟨⟨g, j * 5, none⟩, by rw [hX, if_neg h], fun t u hu => ?_⟩
      rw [Addr.add_lit]
      have ht := (List.getElem?_eq_some_iff.1 hu).1
      rw [hnews, List.getElem?_drop, List.getElem?_take_of_lt (by omega)] at hu
      rw [cell_of_row w.drew g _ _ _ (0, 0) hg]
      simpa using hu
  have HR := Lib.hid (show (Builtin.append_ #[37, 37] 37 #[.slice (some ⟨g, 0, none⟩) i cap, .slice X (n - j) (cap - j)]).run Try.prog w.drew = .ok (.slice (some ⟨g, 0, none⟩) (i + (n - j)) cap) (w.drew.setRow g (cur.toList.take (i * 5) ++ news ++ cur.toList.drop (i * 5 + news.length)).toArray) from by
    rw [hAD]
    have := run_append_room (P := Try.prog) w.drew 37 37 78 i0 Try.underlying37 hi0 g i cap cur hg AD (n - j) (cap - j) news (by rw [hz1]; exact hnl) hsrc hn1 (by omega) (by rw [hz1, hsz]; omega)
    rw [hz1] at this
    exact this)
  obtain ⟨W1, hW1⟩ : ∃ W1, W1 = w.drew.setRow g (cur.toList.take (i * 5) ++ news ++ cur.toList.drop (i * 5 + news.length)).toArray := ⟨_, rfl⟩
  rw [← hW1] at HR
  obtain ⟨m, hm⟩ : ∃ m, m = i + (n - j) := ⟨_, rfl⟩
  rw [← hm] at HR
  obtain ⟨cur1, hcur1⟩ : ∃ cur1, cur1 = (cur.toList.take (i * 5) ++ news ++ cur.toList.drop (i * 5 + news.length)).toArray := ⟨_, rfl⟩
  have hc1 : cur1.size = cap * 5 := by rw [hcur1]; simp [hnl]; omega
  have hg1 : W1.heap[g]? = some (.cells cur1 78 (0, 0)) := by rw [hW1, hcur1]; exact setRow_heap w.drew g _ _ _ _ hg
  obtain ⟨nz, hnz, hcl⟩ := run_clear_row (P := Try.prog) W1 37 78 0 (.agg #[.int .i64 0, .int .u32 0, .int .u32 0, .int .u32 0, .slice none 0 0]) 5 Try.underlying37 (fun w => by simp [zeroValue, typeInfo, hi0, hz0]) rfl (by decide) g (m * 5) (n - m) (cap - m) (by omega) cur1 hg1 (by rw [hc1]; omega)
  obtain ⟨W2, hW2⟩ : ∃ W2, W2 = W1.setRow g (cur1.toList.take (m * 5) ++ nz ++ cur1.toList.drop (m * 5 + nz.length)).toArray := ⟨_, rfl⟩
  rw [← hW2] at hcl
  have hmi : m * 5 = i * 5 + (n - j) * 5 := by omega
  have GR := Lib.hid (show w.grownBy W2 (some g) from by
    rw [hW2, hW1]
    exact grown_trans (w1 := w.drew) ⟨rfl, rfl, rfl, Nat.le_refl _, fun _ _ _ => rfl⟩ (grown_trans (grown_setRow _ _ _) (grown_setRow _ _ _)))
  have OW := Lib.hid (show W2.ownsRow base 78 5 (.slice (some ⟨g, 0, none⟩) m cap) m (flat pc (ps.take i ++ ps.drop j)) from by
    have hlen : (flat pc (ps.take i ++ ps.drop j)).length = m * 5 := by rw [flat_len (m := 5) (fun x _ => rfl), List.length_append, List.length_take, List.length_drop]; omega
    refine ⟨hlen, .inr ⟨g, cap, _, rfl, hb, (by rw [hW2]; exact setRow_heap W1 g _ _ _ _ hg1), by omega, by unfold maxLen; omega, ?_, ?_⟩⟩
    · simp [hnz, hc1]; omega
    · have ht1 : cur1.toList.take (m * 5) = cur.toList.take (i * 5) ++ news := by
        rw [hcur1]
        rw [List.take_append_of_le_length (by simp [hnl]; omega)]
        exact List.take_of_length_le (by simp [hnl]; omega)
      have hsp : flat pc ps = flat pc (ps.take i) ++ flat pc (ps.drop i) := by rw [← flat_append, List.take_append_drop]
      have hsq : flat pc ps = flat pc (ps.take j) ++ flat pc (ps.drop j) := by rw [← flat_append, List.take_append_drop]
      have hli : (flat pc (ps.take i)).length = i * 5 := by rw [flat_len (m := 5) (fun x _ => rfl), List.length_take]; omega
      have hlj : (flat pc (ps.take j)).length = j * 5 := by rw [flat_len (m := 5) (fun x _ => rfl), List.length_take]; omega
      have hi5 : cur.toList.take (i * 5) = flat pc (ps.take i) := by
        have h1 : (cur.toList.take (n * 5)).take (i * 5) = cur.toList.take (i * 5) := by rw [List.take_take, Nat.min_eq_left (by omega)]
        rw [← h1, htk, hsp, ← hli, List.take_left]
      have hn5 : news = flat pc (ps.drop j) := by
        rw [hnews, htk, hsq, ← hlj, List.drop_left]
      rw [List.append_assoc, List.take_append_of_le_length (by simp; omega), List.take_of_length_le (by simp; omega), ht1, hi5, hn5, flat_append])
  have HCL := Lib.hid hcl
  have HX := Lib.hid hX
  have HM := Lib.hid hm
  have HW1 := Lib.hid hW1
  have m1 : m < cap := by omega
  have m2 : m ≤ n := by omega
  have m3 : ¬ cap = m := by omega
  have HMN := Lib.hid (show m + 1 = n by omega)
  clear hX hm hW1 hAD hsrc hn1 hnl hnews hcl hg1 hW2 hcur1 hc1 hnz hmi
  have HN := Lib.hid hn
  have HJ := Lib.hid hj
  have HG := Lib.hid hg
  have HT := Lib.hid htk
  have HS := Lib.hid hsz
  clear hn hj hg htk hsz hl
  go_enter Try.func46, Try.ntmps46
  go_upto_region 5 with (fail)
  refine InvL.wp_region_inv_tail (fun d w' => InvL.At 6 (fun w' => w' = w.drew) (fun w' => w' = W1) d w') 7 (by kernel_rfl) (by kernel_rfl) ?hI ?_
  case hI => exact InvL.At.start (by rfl) rfl
  simp only [List.take_succ_cons, List.take_zero, List.drop_succ_cons, List.drop_zero]
  refine InvL.invl_value (.slice (some ⟨g, 0, none⟩) n cap) rfl (fun d w' h => by go_simp; all_goals rfl) (fun d w' _ h => InvL.At.keep (by decide) id id h) ?_
  simp only [Act.put, List.setIfInBounds_toArray, List.set_cons_zero, List.set_cons_succ]
  refine InvL.invl_value (.int .i64 (i : Int)) rfl (fun d w' h => by go_simp; all_goals rfl) (fun d w' _ h => InvL.At.keep (by decide) id id h) ?_
  simp only [Act.put, List.setIfInBounds_toArray, List.set_cons_zero, List.set_cons_succ]
  refine InvL.invl_value (.slice (some ⟨g, 0, none⟩) i cap) rfl (fun d w' h => by go_simp; all_goals rfl) (fun d w' _ h => InvL.At.keep (by decide) id id h) ?_
  simp only [Act.put, List.setIfInBounds_toArray, List.set_cons_zero, List.set_cons_succ]
  refine InvL.invl_value (.slice (some ⟨g, 0, none⟩) n cap) rfl (fun d w' h => by go_simp; all_goals rfl) (fun d w' _ h => InvL.At.keep (by decide) id id h) ?_
  simp only [Act.put, List.setIfInBounds_toArray, List.set_cons_zero, List.set_cons_succ]
  refine InvL.invl_value (.int .i64 (j : Int)) rfl (fun d w' h => by go_simp; all_goals rfl) (fun d w' _ h => InvL.At.keep (by decide) id id h) ?_
  simp only [Act.put, List.setIfInBounds_toArray, List.set_cons_zero, List.set_cons_succ]
  refine InvL.invl_value (.slice X (n - j) (cap - j)) rfl (fun d w' h => by rw [HX.out]; go_simp; all_goals rfl) (fun d w' _ h => InvL.At.keep (by decide) id id h) ?_
  simp only [Act.put, List.setIfInBounds_toArray, List.set_cons_zero, List.set_cons_succ]
  refine InvL.invl_world (.slice (some ⟨g, 0, none⟩) m cap) rfl (fun d w' hd h => ⟨W1, by have e := h.before hd; subst e; exact exec_append _ _ rfl rfl rfl HR.out, InvL.At.now hd rfl⟩) ?_
  simp only [Act.put, List.setIfInBounds_toArray, List.set_cons_zero, List.set_cons_succ]
  refine InvL.invl_nil fun w6 hI => ?_
  have e6 := hI.done (by rfl)
  subst e6
  clear HR HX
  have hcl' := HCL.out
  go_wp2_with fail
  go_ret
  have e := HMN.out
  rw [show n - 1 = m by omega]
  exact ⟨rfl, OW.out, GR.out⟩
end Go.Proofs.Ytgnnjinpcdemiaa.Link
/-
  take and Drop of a link by contract. Helper text; no statement is proved here.
-/
set_option linter.unusedVariables false
set_option maxRecDepth 20000
set_option linter.unusedSimpArgs false
namespace Go.Proofs.Ytgnnjinpcdemiaa.Link
open Go.RowKit Go.Proofs.Ytgnnjinpcdemiaa.Base Go.Proofs.Ytgnnjinpcdemiaa.Laws Go.Proofs.Ytgnnjinpcdemiaa.Disk Go.Proofs.Ytgnnjinpcdemiaa.Row Go.Proofs.Ytgnnjinpcdemiaa.Flat Go.Proofs.Ytgnnjinpcdemiaa.InvM
theorem Goes.body {w w' : World} {bl : Nat} {V V' : Nat → Value} {A : List Nat} {k' : Lk} {y : Value} {B : List UInt8} (h : Goes w bl V A w' V' k') (hy : Body w (reach bl V ++ A) y B) : Body w' (reach bl V' ++ A) y B :=
  hy.move h.only (fun x hx => List.mem_append_left _ hx) (fun x hx => by
    rcases List.mem_append.1 hx with hx | hx
    · exact (h.kin.reach hx).imp (List.mem_append_left _) id
    · exact .inl (List.mem_append_right _ hx))
def Lk.less (k : Lk) (i : Nat) : Lk := { k with fl := k.fl.take i ++ k.fl.drop (i + 1) }
section
variable {w : World} {bl : Nat} {V : Nat → Value} {A : List Nat} {k : Lk}
/-- the packet at i leaves the list -/
theorem LinkAt.lessAt (h : LinkAt w bl V A k) (i : Nat) (hi : i < k.fl.length) : ∃ g cap y p, k.fl[i]? = some p ∧ V 4 = .slice (some ⟨g, 0, none⟩) k.fl.length cap ∧ Body w (reach bl V ++ A) y p.m.B ∧ (∀ j u, (pc (p, y))[j]? = some u → w.cell? ⟨g, i * 5 + j, none⟩ = some u) ∧ g ∈ reach bl V ∧ k.fl.length ≤ maxLen := by
  obtain ⟨ps, e, h1, h2⟩ := h.fl
  have hlen : ps.length = k.fl.length := by rw [← e]; simp
  obtain ⟨hl, h3⟩ := h1
  rcases h3 with ⟨e1, e2⟩ | ⟨g, cap, cur, e1, hb, hg, hnc, hcm, hsz, htk⟩
  · omega
  obtain ⟨q, hq⟩ : ∃ q, ps[i]? = some q := ⟨_, List.getElem?_eq_getElem (by omega)⟩
  refine ⟨g, cap, q.2, q.1, by rw [← e, List.getElem?_map, hq]; rfl, by rw [← hlen]; exact e1, h2 q (List.mem_of_getElem? hq), fun j u hu => ?_, mem_reach.2 (.inr ⟨4, by decide, by rw [e1]; rfl⟩), by omega⟩
  have hj : j < 5 := (List.getElem?_eq_some_iff.1 hu).1
  have := flat_get (m := 5) (f := pc) (fun x _ => rfl) hq hu
  rw [← htk, List.getElem?_take_of_lt (by omega)] at this
  rw [cell_of_row w g _ _ _ (0, 0) hg]
  simpa using this
theorem LinkAt.delete (h : LinkAt w bl V A k) (i n g cap : Nat) (hn : n = k.fl.length) (hi : i < n) (hv : V 4 = .slice (some ⟨g, 0, none⟩) n cap) :
    Calls Try.prog 46 #[.slice (some ⟨g, 0, none⟩) n cap, .int .i64 (i : Int), .int .i64 ((i + 1 : Nat) : Int)] w fun e w' => e = .returned (.slice (some ⟨g, 0, none⟩) (n - 1) cap) ∧ Goes w bl V A (w'.setCell ⟨bl, 9, none⟩ (.slice (some ⟨g, 0, none⟩) (n - 1) cap)) (upd V 4 (.slice (some ⟨g, 0, none⟩) (n - 1) cap)) (k.less i) ∧ w'.cell? ⟨bl, 9, none⟩ = some (.slice (some ⟨g, 0, none⟩) n cap) ∧ w'.frozen? ⟨bl, 9, none⟩ = false ∧ w.grownBy w' (some g) := by
  obtain ⟨ps, e, h1, h2⟩ := h.fl
  have hlen : ps.length = k.fl.length := by rw [← e]; simp
  rw [hv, show ps.length = n by omega] at h1
  refine (delete_one w (bl + 1) g cap ps n i (by omega) h1 hi (fun p hp => (h2 p hp).one)).mono ?_
  rintro e' w' ⟨rfl, ho, hg⟩
  have hob : (V 4).ownBlock = some g := by rw [hv]; rfl
  have hg' : w.grownBy w' (V 4).ownBlock := by rw [hob]; exact hg
  have hgr : g ∈ reach bl V := mem_reach.2 (.inr ⟨4, by decide, hob⟩)
  have hhead := h.head.grownO hg' (fun x hx => by have := h.row 4 (by decide) hx; omega)
  have hvb : (Value.slice (some ⟨g, 0, none⟩) (n - 1) cap).ownBlock = (V 4).ownBlock := by rw [hob]; rfl
  refine ⟨rfl, h.turned 4 (by decide) _ 9 (k.less i) hg' (.inl hvb) rfl (fun n hn _ => by rfl) (fun n hn _ => by rfl) (fun e => absurd rfl e) (fun n hn e => by omega) (fun n hn e => by omega) (fun _ => ?_), by rw [← hv]; exact hhead.cell 9, hhead.frozen 9, hg⟩
  refine ⟨ps.take i ++ ps.drop (i + 1), by rw [List.map_append, List.map_take, List.map_drop, e]; rfl, ?_, fun p hp => ?_⟩
  · have hl : (ps.take i ++ ps.drop (i + 1)).length = n - 1 := by rw [List.length_append, List.length_take, List.length_drop]; omega
    rw [hl]
    exact ho
  · have hp' : p ∈ ps := by
      rcases List.mem_append.1 hp with hp | hp
      · exact List.mem_of_mem_take hp
      · exact List.mem_of_mem_drop hp
    exact (h2 p hp').move (Only.of_grown hg) (fun x hx => List.mem_append_left _ ((List.mem_singleton.1 hx).symm ▸ hgr)) (reach_upd (by decide) (.inl hvb))
theorem take_ok (h : LinkAt w bl V A k) (i : Nat) (hi : i < k.fl.length) : Calls Try.prog 27 #[.pointer (some ⟨bl, 0, none⟩), .int .i64 (i : Int)] w fun e w' => ∃ p y V', k.fl[i]? = some p ∧ e = .returned (.tuple #[.agg (pc (p, y)).toArray, .bool true]) ∧ Goes w bl V A w' V' (k.less i) ∧ Body w' (reach bl V' ++ A) y p.m.B := by
  obtain ⟨g, cap, y, p, hp, hv4, hy, hcs, hgr, hml⟩ := h.lessAt i hi
  unfold maxLen at hml
  have hlt := h.head.lt
  have c9 : w.cell? ⟨bl, 9, none⟩ = some (V 4) := h.cell 9
  rw [hv4] at c9
  obtain ⟨n, hn⟩ : ∃ n, n = k.fl.length := ⟨_, rfl⟩
  rw [← hn] at c9 hi hv4 hml
  have H0 := Lib.hid h
  have HN := Lib.hid hn
  have HV4 := Lib.hid hv4
  have HY := Lib.hid hy
  have HCS := Lib.hid hcs
  obtain ⟨pv, hpv⟩ : ∃ pv, pv = pc (p, y) := ⟨_, rfl⟩
  have HPV := Lib.hid hpv
  have hil : (i : Int) < n := by omega
  have hgl := (h.reach_lt hgr).2
  clear h hn hv4 hy hcs hpv
  have Z := Lib.hid (blk_at (w := w) (g := w.heap.size) (cs := zpk) (t := 78) (arr := #[.int .i64 0, .int .u32 0, .int .u32 0, .int .u32 0, .slice none 0 0]) rfl rfl)
  go_enter Try.func27, Try.ntmps27
  go_upto_region 1 with (fail)
  obtain ⟨w1, hw1⟩ : ∃ w1, w1 = w.alloc (.cells #[.int .i64 0, .int .u32 0, .int .u32 0, .int .u32 0, .slice none 0 0] 78) := ⟨_, rfl⟩
  have L1 := Lib.hid (show Below w.heap.size w w1 from hw1 ▸ ((Below.refl w.heap.size w).alloc (Nat.le_refl _) _))
  have c9' : w1.cell? ⟨bl, 9, none⟩ = some (.slice (some ⟨g, 0, none⟩) n cap) := (Below.cell L1.out (p := ⟨bl, 9, none⟩) hlt).trans c9
  have hs1 : w.heap.size < w1.heap.size := by rw [hw1]; simp
  rw [← hw1] at Z ⊢
  clear hw1 c9
  go_upto_region 3 with (fail)
  have LD := Lib.hid (show ∀ j v, pv[j]? = some v → w1.cell? ((⟨g, i * 5, none⟩ : Addr).add j) = some v from fun j v hj => by
    rw [Addr.add_lit]
    exact (Below.cell L1.out (p := ⟨g, i * 5 + j, none⟩) hgl).trans (HCS.out j v (by rw [← HPV.out]; exact hj)))
  have P5 := Lib.hid (show pv.length = 5 by rw [HPV.out]; rfl)
  have P1 := Lib.hid (show ∀ u ∈ pv, u.oneCell' = true by rw [HPV.out]; exact pc_one HY.out.one)
  have Z2 := Lib.hid (blk_at (w := w1) (g := w1.heap.size) (cs := zpk) (t := 78) (arr := #[.int .i64 0, .int .u32 0, .int .u32 0, .int .u32 0, .slice none 0 0]) rfl rfl)
  go_upto_region 4 with (first | (refine wpList_value_g rfl (.agg pv.toArray) (exec_load_from rfl rfl LD.out Try.underlying78 rfl (by kernel_rfl) P5.out) ?_) | (refine wpList_store_blk rfl 78 _ _ rfl w1.heap.size 0 5 rfl 78 zpk pv rfl Z2.out (by kernel_rfl) P5.out (by decide) P1.out ?_; intro w3 z3 g3; have Z3 := Lib.hid z3; have G3 := Lib.hid g3; clear z3 g3))
  have hs3 : w1.heap.size < w3.heap.size := Z3.out.lt
  have B3 := Lib.hid (below_grown (L1.out.alloc (Nat.le_of_lt hs1) _) G3.out (by simp; omega) (Nat.le_of_lt hs1))
  have K3 := Lib.hid (H0.out.move (T := []) (A' := w.heap.size :: A) (Only.of_below B3.out) (by simp) (by simp) (fun x hx => by
    have := B3.out.size
    rcases List.mem_cons.1 hx with rfl | hx
    · exact ⟨.inr (Nat.le_refl _), by omega⟩
    · exact ⟨.inl hx, Nat.lt_of_lt_of_le (H0.out.out x hx) this⟩))
  have ZR := Lib.hid (show Blk w3 w.heap.size zpk 78 from (Z.out.alloc _).grown G3.out (by omega))
  have DL := Lib.hid (K3.out.delete i n g cap HN.out hi HV4.out)
  obtain ⟨t6, ht6⟩ : ∃ t6, t6 = w1.heap.size := ⟨_, rfl⟩
  obtain ⟨t4, ht4⟩ : ∃ t4, t4 = w.heap.size := ⟨_, rfl⟩
  have HT4 := Lib.hid ht4
  rw [← ht6] at Z3 hs1 hs3 ⊢
  rw [← ht4] at ZR hs1 ⊢
  have c93 : w3.cell? ⟨bl, 9, none⟩ = some (.slice (some ⟨g, 0, none⟩) n cap) := by rw [← HV4.out]; exact K3.out.cell 9
  have P6 := Lib.hid (show Blk w3 t6 pv 78 from by have := Z3.out; rwa [put_all _ _ (by rw [P5.out]; rfl)] at this)
  have hgg : g < t4 := by omega
  have hbb : bl < t4 := by omega
  have hs4 : t4 < w3.heap.size := ZR.out.lt
  clear G3 Z3 LD Z Z2 c9' L1 HCS ht6 ht4
  have ei : ((i : Int) + 1) = ((i + 1 : Nat) : Int) := by omega
  obtain ⟨j, hj⟩ : ∃ j, j = i + 1 := ⟨_, rfl⟩
  have jb : (j : Int) ≤ 9223372036854775807 := by omega
  rw [← hj] at DL ei
  clear hj
  go_wp2_with fail
  refine DL.out.mono ?_
  rintro e w4 ⟨rfl, hG, hc4, hf4, hg4⟩
  have HG := Lib.hid hG
  have Z4 := Lib.hid ((ZR.out.grown hg4 (by simp; omega)).setCell_far (show t4 ≠ bl by omega) 9 (.slice (some ⟨g, 0, none⟩) (n - 1) cap))
  have P4 := Lib.hid ((P6.out.grown hg4 (by simp; omega)).setCell_far (show t6 ≠ bl by omega) 9 (.slice (some ⟨g, 0, none⟩) (n - 1) cap))
  clear hG hg4 DL
  go_upto_region 5 with (fail)
  obtain ⟨w5, hw5⟩ : ∃ w5, w5 = w4.setCell ⟨bl, 9, none⟩ (.slice (some ⟨g, 0, none⟩) (n - 1) cap) := ⟨_, rfl⟩
  rw [← hw5] at HG Z4 P4 ⊢
  clear hw5 hc4 hf4
  go_wp2_with (first | (refine wpList_value_g rfl (.agg pv.toArray) (exec_load (cs := pv) (t := 78) rfl rfl P4.out Try.underlying78 rfl (by kernel_rfl) P5.out) ?_) | (refine wpList_store_blk rfl 78 _ _ rfl t4 0 5 rfl 78 zpk pv rfl Z4.out (by kernel_rfl) P5.out (by decide) P1.out ?_; intro w6 z6 g6; have Z6 := Lib.hid (show Blk w6 t4 pv 78 by (rw [put_all _ _ (by rw [P5.out]; rfl)] at z6; exact z6)); have G6 := Lib.hid g6; clear z6 g6))
  have hGoes : Goes w bl V A w6 (upd V 4 (.slice (some ⟨g, 0, none⟩) (n - 1) cap)) (k.less i) := by
    have hG := HG.out
    have ht : t4 ∉ reach bl (upd V 4 (.slice (some ⟨g, 0, none⟩) (n - 1) cap)) := fun hx => by
      rcases hG.kin.reach hx with e | e
      · have := H0.out.reach_lt e; have := HT4.out; omega
      · omega
    have ho : Only [t4] w5 w6 := Only.of_grown G6.out
    refine ⟨hG.at_.move ho (by rw [← HT4.out]; simp) (by simpa using ht) (fun x hx => ⟨.inl (by simp [hx]), Nat.lt_of_lt_of_le (hG.at_.out x (by simp [hx])) ho.size⟩), ?_, fun i hi g hg => ?_⟩
    · refine ⟨ho.os.trans (hG.only.os.trans B3.out.os), ho.tape.trans (hG.only.tape.trans B3.out.tape), ho.output.trans (hG.only.output.trans B3.out.output), Nat.le_trans B3.out.size (Nat.le_trans hG.only.size ho.size), fun x hx hn => ?_⟩
      have := HT4.out
      have h3 := B3.out.size
      have h4 := hG.only.size
      exact (ho.block x (by omega) (by simp; omega)).trans ((hG.only.block x (by omega) hn).trans (B3.out.block x hx))
    · rcases hG.kin i hi g hg with e | e
      · exact .inl e
      · exact .inr (by have := B3.out.size; omega)
  have hY : Body w6 (reach bl (upd V 4 (.slice (some ⟨g, 0, none⟩) (n - 1) cap)) ++ A) y p.m.B := hGoes.body HY.out
  exact bodyPost_ret (v := .tuple #[.agg pv.toArray, .bool true]) (results_cell_two rfl _ _ t4 78 _ (0, 0) _ _ rfl rfl Z6.out Try.underlying78 rfl (by rw [List.size_toArray, P5.out]; kernel_rfl)) rfl ⟨p, y, _, hp, by rw [HPV.out], hGoes, hY⟩
end
end Go.Proofs.Ytgnnjinpcdemiaa.Link
/-
  Drop of a link by contract. Helper text; no statement is proved here.
-/
set_option linter.unusedVariables false
set_option maxRecDepth 20000
set_option linter.unusedSimpArgs false
namespace Go.Proofs.Ytgnnjinpcdemiaa.Link
open Go.RowKit Go.Proofs.Ytgnnjinpcdemiaa.Base Go.Proofs.Ytgnnjinpcdemiaa.Laws Go.Proofs.Ytgnnjinpcdemiaa.Disk Go.Proofs.Ytgnnjinpcdemiaa.Row Go.Proofs.Ytgnnjinpcdemiaa.Flat Go.Proofs.Ytgnnjinpcdemiaa.InvM
section
variable {w : World} {bl : Nat} {V : Nat → Value} {A : List Nat} {k : Lk}
theorem drop_no (h : LinkAt w bl V A k) (i : Int) (hi : i < 0 ∨ (k.fl.length : Int) ≤ i) : Calls Try.prog 9 #[.pointer (some ⟨bl, 0, none⟩), .int .i64 i] w fun e w' => e = .returned (.int .i64 2) ∧ Below w.heap.size w w' := by
  have TN := Lib.hid (take_no h i hi)
  clear h hi
  go_enter Try.func9, Try.ntmps9
  go_wp2_with fail
  refine TN.out.mono ?_
  rintro e w1 ⟨rfl, hb⟩
  have HB := Lib.hid hb
  have hs := hb.size
  have Z := Lib.hid (blk_at (w := w1) (g := w1.heap.size) (cs := zpk) (t := 78) (arr := #[.int .i64 0, .int .u32 0, .int .u32 0, .int .u32 0, .slice none 0 0]) rfl rfl)
  clear hb TN
  go_wp2_with (first | (refine wpList_store_blk rfl 78 _ _ rfl w1.heap.size 0 5 rfl 78 zpk zpk rfl Z.out (by kernel_rfl) rfl (by decide) (by decide) ?_; intro w2 z2 g2; have L2 := Lib.hid (below_grown ((HB.out.alloc hs _)) g2 (by simp; omega) hs); clear z2 g2))
  go_ret
  exact ⟨rfl, L2.out⟩
theorem drop_ok (h : LinkAt w bl V A k) (i : Nat) (hi : i < k.fl.length) : Calls Try.prog 9 #[.pointer (some ⟨bl, 0, none⟩), .int .i64 (i : Int)] w fun e w' => e = .returned (.int .i64 0) ∧ ∃ V', Goes w bl V A w' V' (k.less i) := by
  have TN := Lib.hid (take_ok h i hi)
  clear h hi
  go_enter Try.func9, Try.ntmps9
  go_wp2_with fail
  refine TN.out.mono ?_
  rintro e w1 ⟨p, y, V1, hp, rfl, hG, hY⟩
  have HG := Lib.hid hG
  obtain ⟨pv, hpv⟩ : ∃ pv, pv = pc (p, y) := ⟨_, rfl⟩
  have P5 := Lib.hid (show pv.length = 5 by rw [hpv]; rfl)
  have P1 := Lib.hid (show ∀ u ∈ pv, u.oneCell' = true by rw [hpv]; exact pc_one hY.one)
  have Z := Lib.hid (blk_at (w := w1) (g := w1.heap.size) (cs := zpk) (t := 78) (arr := #[.int .i64 0, .int .u32 0, .int .u32 0, .int .u32 0, .slice none 0 0]) rfl rfl)
  rw [← hpv]
  clear hG hY TN hpv hp
  go_wp2_with (first | (refine wpList_store_blk rfl 78 _ _ rfl w1.heap.size 0 5 rfl 78 zpk pv rfl Z.out (by kernel_rfl) P5.out (by decide) P1.out ?_; intro w2 z2 g2; have L2 := Lib.hid (below_grown (((Below.refl w1.heap.size w1).alloc (Nat.le_refl _) _)) g2 (by simp) (Nat.le_refl _)); clear z2 g2))
  go_ret
  exact ⟨rfl, V1, HG.out.keep L2.out⟩
end
end Go.Proofs.Ytgnnjinpcdemiaa.Link
/-
  slices.DeleteFunc of messages by contract. Helper text; no statement is proved here.
-/
set_option linter.unusedVariables false
set_option maxRecDepth 20000
set_option linter.unusedSimpArgs false
namespace Go.Proofs.Ytgnnjinpcdemiaa.Link
open Go.RowKit Go.Proofs.Ytgnnjinpcdemiaa.Base Go.Proofs.Ytgnnjinpcdemiaa.Laws Go.Proofs.Ytgnnjinpcdemiaa.Disk Go.Proofs.Ytgnnjinpcdemiaa.Row Go.Proofs.Ytgnnjinpcdemiaa.Flat Go.Proofs.Ytgnnjinpcdemiaa.InvM
theorem acked_any (w : World) (m : Mk) (v : Value) (hv : v.oneCell' = true) (pb : Nat) (p : Pk) (y : Value) (hp : Blk w pb (pc (p, y)) 78) : Calls Try.prog 29 #[.agg (mc (m, v)).toArray, .pointer (some ⟨pb, 0, none⟩)] w fun e w' => e = .returned (.bool (decide (m.s ≤ p.m.k))) ∧ Below w.heap.size w w' := by
  have c3 : w.cell? ⟨pb, 3, none⟩ = some (.int .u32 (p.m.k : Int)) := hp.cell 3
  have hlt := hp.lt
  clear hp
  go_enter Try.func29, Try.ntmps29
  go_upto_region 1 with (fail)
  obtain ⟨w1, hw1⟩ : ∃ w1, w1 = w.alloc (.cells (mc (m, v)).toArray 75) := ⟨_, rfl⟩
  have c1 : w1.cell? ⟨w.heap.size, 1, none⟩ = some (.int .u32 (m.s : Int)) := by
    have h : Blk w1 w.heap.size (mc (m, v)) 75 := by rw [hw1]; exact blk_at rfl rfl
    exact h.cell 1
  have b1 : Below w.heap.size w w1 := hw1 ▸ ((Below.refl w.heap.size w).alloc (Nat.le_refl _) _)
  have c3' : w1.cell? ⟨pb, 3, none⟩ = some (.int .u32 (p.m.k : Int)) := (Below.cell b1 (p := ⟨pb, 3, none⟩) hlt).trans c3
  rw [← hw1]
  clear hw1 c3
  have B1 := Lib.hid b1
  clear b1
  go_wp2_with fail
  go_ret
  exact ⟨rfl, B1.out⟩
/-- is it kept? -/
def kept (K : Nat) (q : Mk × Value) : Bool := decide (K < q.1.s)
def Cl (pb : Nat) : Value := .func (.func 29) #[] #[.pointer (some ⟨pb, 0, none⟩)]
theorem index_any (w : World) (pb : Nat) (p : Pk) (y : Value) (hp : Blk w pb (pc (p, y)) 78) (ps : List (Mk × Value)) (a : Option Addr) (n c : Nat) (hn : n = ps.length) (hc : ∀ i q, ps[i]? = some q → ∃ g, a = some ⟨g, 0, none⟩ ∧ g < w.heap.size ∧ ∀ j u, (mc q)[j]? = some u → w.cell? ⟨g, i * 4 + j, none⟩ = some u) (h1 : ∀ q ∈ ps, q.2.oneCell' = true) (hm : n ≤ maxLen) :
    Calls Try.prog 47 #[.slice a n c, Cl pb] w fun e w' => ((e = .returned (.int .i64 (-1)) ∧ ps.all (kept p.m.k) = true) ∨ ∃ i : Nat, ∃ q, e = .returned (.int .i64 (i : Int)) ∧ ps[i]? = some q ∧ kept p.m.k q = false ∧ (ps.take i).all (kept p.m.k) = true) ∧ Below w.heap.size w w' := by
  unfold maxLen at hm
  have HP := Lib.hid hp
  have HN := Lib.hid hn
  have HC := Lib.hid hc
  have H1 := Lib.hid h1
  have hlt := hp.lt
  clear hp hn hc h1
  unfold Cl
  go_enter Try.func47, Try.ntmps47
  go_wp2
  go_loopw [8] (fun i wr => ∃ k : Nat, k ≤ n ∧ i = .int .i64 k ∧ (ps.take k).all (kept p.m.k) = true ∧ Below w.heap.size w wr) (fun i _ => n - (intOf i).toNat)
  case atStart => exact ⟨0, by omega, rfl, by simp, Below.refl _ _⟩
  case round =>
    obtain ⟨k, hk, rfl, ht, hb⟩ := hrel
    have HT := Lib.hid ht
    have HB := Lib.hid hb
    have hs := hb.size
    clear ht hb
    by_cases hkn : k < n
    · obtain ⟨q, hq⟩ : ∃ q, ps[k]? = some q := ⟨_, List.getElem?_eq_getElem (by have := HN.out; omega)⟩
      obtain ⟨g, rfl, hg, hcq⟩ := HC.out k q hq
      have HQ := Lib.hid hq
      obtain ⟨mv, hmv⟩ : ∃ mv, mv = mc q := ⟨_, rfl⟩
      have HMV := Lib.hid hmv
      have LD := Lib.hid (show ∀ j v, mv[j]? = some v → wr.cell? ((⟨g, k * 4, none⟩ : Addr).add j) = some v from fun j v hj => by
        rw [Addr.add_lit]
        exact (Below.cell HB.out (p := ⟨g, k * 4 + j, none⟩) hg).trans (hcq j v (by rw [← hmv]; exact hj)))
      have M4 := Lib.hid (show mv.length = 4 by rw [hmv]; rfl)
      clear hq hcq hmv
      go_wp2_with (first | (refine wpList_value_g rfl (.agg mv.toArray) (exec_load_from rfl rfl LD.out Try.underlying75 rfl (by kernel_rfl) M4.out) ?_))
      have AK := acked_any wr q.1 q.2 (H1.out q (List.mem_of_getElem? HQ.out)) pb p y (HP.out.below HB.out hlt)
      rw [show mc (q.1, q.2) = mv from HMV.out.symm] at AK
      refine AK.mono ?_
      rintro e w2 ⟨rfl, hb2⟩
      have HB2 := Lib.hid (HB.out.trans (hb2.mono hs))
      clear hb2 AK
      by_cases hle : q.1.s ≤ p.m.k
      · go_wp2_with fail
        go_ret
        exact ⟨.inr ⟨k, q, rfl, HQ.out, by unfold kept; exact decide_eq_false (by omega), HT.out⟩, HB2.out⟩
      · go_wp2_with fail
        go_roundw
        case rel => exact ⟨k + 1, by omega, by go_num, by rw [take_snoc ps k q HQ.out, List.all_append, HT.out]; simp [kept]; omega, HB2.out⟩
        case measure => simp [intOf]; omega
    · go_wp2_with fail
      go_ret
      refine ⟨.inl ⟨rfl, ?_⟩, HB.out⟩
      have := HT.out
      rwa [List.take_of_length_le (by have := HN.out; omega)] at this
end Go.Proofs.Ytgnnjinpcdemiaa.Link
/-
  slices.DeleteFunc of messages by contract. Helper text; no statement is proved here.
-/
set_option linter.unusedVariables false
set_option maxRecDepth 20000
set_option linter.unusedSimpArgs false
namespace Go.Proofs.Ytgnnjinpcdemiaa.Link
open Go.RowKit Go.Proofs.Ytgnnjinpcdemiaa.Base Go.Proofs.Ytgnnjinpcdemiaa.Laws Go.Proofs.Ytgnnjinpcdemiaa.Disk Go.Proofs.Ytgnnjinpcdemiaa.Row Go.Proofs.Ytgnnjinpcdemiaa.Flat Go.Proofs.Ytgnnjinpcdemiaa.InvM
theorem below_grownBy {w w' : World} {r : Option Nat} (h : Below w.heap.size w w') : w.grownBy w' r := ⟨h.os, h.tape, h.output, h.size, fun k hk _ => h.block k hk⟩
theorem put_app {α : Type} (A B vs : List α) (o : Nat) (h : o + vs.length ≤ A.length) : put (A ++ B) o vs = put A o vs ++ B := by
  unfold put
  rw [List.take_append_of_le_length (by omega), List.drop_append_of_le_length (by omega)]
  simp [List.append_assoc]
theorem set_take_same {α : Type} (l : List α) (i : Nat) (x : α) : (l.set i x).take i = l.take i := by
  rw [List.take_set_of_le (Nat.le_refl _)]
theorem deletefunc_any (w : World) (base pb : Nat) (p : Pk) (y : Value) (hp : Blk w pb (pc (p, y)) 78) (ps : List (Mk × Value)) (v : Value) (ho : w.ownsRow base 75 4 v ps.length (flat mc ps)) (h1 : ∀ q ∈ ps, q.2.oneCell' = true) (hpv : ∀ g, v.ownBlock = some g → g ≠ pb) :
    Calls Try.prog 28 #[v, Cl pb] w fun e w' => ∃ v', e = .returned v' ∧ w'.ownsRow base 75 4 v' (ps.filter (kept p.m.k)).length (flat mc (ps.filter (kept p.m.k))) ∧ w.grownBy w' v.ownBlock ∧ v'.ownBlock = v.ownBlock := by
  obtain ⟨a, n, c, hv, hn, hnm, hcs⟩ : ∃ a n c, v = .slice a n c ∧ n = ps.length ∧ n ≤ maxLen ∧ ∀ i q, ps[i]? = some q → ∃ g, a = some ⟨g, 0, none⟩ ∧ g < w.heap.size ∧ ∀ j u, (mc q)[j]? = some u → w.cell? ⟨g, i * 4 + j, none⟩ = some u := by
    obtain ⟨hl, h2⟩ := ho
    rcases h2 with ⟨rfl, e2⟩ | ⟨g, cap, cur, rfl, hb, hg, hnc, hcm, hsz, htk⟩
    · exact ⟨none, 0, 0, rfl, e2.symm, by unfold maxLen; omega, fun i q hq => by simp [List.eq_nil_of_length_eq_zero e2] at hq⟩
    · refine ⟨_, _, _, rfl, rfl, by omega, fun i q hq => ⟨g, rfl, (Array.getElem?_eq_some_iff.1 hg).1, fun j u hu => ?_⟩⟩
      have hi : i < ps.length := (List.getElem?_eq_some_iff.1 hq).1
      have hj : j < 4 := (List.getElem?_eq_some_iff.1 hu).1
      have := flat_get (m := 4) (f := mc) (fun x _ => rfl) hq hu
      rw [← htk, List.getElem?_take_of_lt (by omega)] at this
      rw [cell_of_row w g _ _ _ (0, 0) hg]
      simpa using this
  have IX := Lib.hid (index_any w pb p y hp ps a n c hn hcs h1 hnm)
  unfold maxLen at hnm
  have HO := Lib.hid ho
  have HP := Lib.hid hp
  have H1 := Lib.hid h1
  have HV := Lib.hid hv
  have HN := Lib.hid hn
  have HPV := Lib.hid hpv
  rw [hv]
  clear hcs hp ho h1 hv hn hpv
  unfold Cl at *
  go_enter Try.func28, Try.ntmps28
  go_wp2_with fail
  refine IX.out.mono ?_
  rintro e w1 ⟨hres, hb1⟩
  have HB1 := Lib.hid hb1
  clear IX hb1
  rcases hres with ⟨rfl, hall⟩ | ⟨ki0, q0, rfl, hq0, hk0, ht0⟩
  · have HA := Lib.hid hall
    clear hall
    go_wp2_with fail
    go_ret
    have e : ps.filter (kept p.m.k) = ps := List.filter_eq_self.2 (List.all_eq_true.1 HA.out)
    rw [e]
    exact ⟨v, by rw [HV.out]; rfl, own_only HO.out (Only.of_below (S := []) HB1.out) (by simp), below_grownBy HB1.out, by rw [HV.out]⟩
  · obtain ⟨g, rfl, hcm, spare, hsp, hblk, hnc, hbg⟩ : ∃ g, a = some ⟨g, 0, none⟩ ∧ c ≤ maxLen ∧ ∃ spare : List Value, spare.length = (c - n) * 4 ∧ Blk w g (flat mc ps ++ spare) 75 ∧ n ≤ c ∧ base ≤ g := by
      obtain ⟨hl, h2⟩ := HO.out
      have hn := HN.out
      rcases h2 with ⟨e1, e2⟩ | ⟨g, cap, cur, e1, hb, hg, hnc, hcm, hsz, htk⟩
      · simp [List.eq_nil_of_length_eq_zero e2] at hq0
      · rw [HV.out] at e1
        cases e1
        refine ⟨g, rfl, hcm, cur.toList.drop (ps.length * 4), ?_, ?_, hnc, hb⟩
        · simp [hsz]; omega
        · unfold Blk
          rw [← htk, List.take_append_drop]
          simpa using hg
    have hgp : g ≠ pb := HPV.out g (by rw [HV.out]; rfl)
    have GP := Lib.hid hgp
    have hki0 : ki0 < n := by have := (List.getElem?_eq_some_iff.1 hq0).1; have := HN.out; omega
    have SP := Lib.hid hsp
    have BL1 := Lib.hid (hblk.below HB1.out hblk.lt)
    have BP1 := Lib.hid (HP.out.below HB1.out HP.out.lt)
    have INI := Lib.hid (show ps.take ki0 = (ps.take (ki0 + 1)).filter (kept p.m.k) by
      rw [take_snoc ps ki0 q0 hq0, List.filter_append, List.filter_eq_self.2 (List.all_eq_true.1 ht0)]
      simp [hk0])
    have G1 := Lib.hid (below_grownBy (r := some g) HB1.out)
    unfold maxLen at hcm
    have HBG := Lib.hid hbg
    have HGL := Lib.hid hblk.lt
    clear hsp hblk hq0 hk0 ht0 hgp hbg
    go_wp2_with fail
    go_loopw [5, 6] (fun i j wr => ∃ ki kj : Nat, ∃ rows : List (Mk × Value), ki < kj ∧ kj ≤ n ∧ i = .int .i64 ki ∧ j = .int .i64 kj ∧ rows.length = n ∧ rows.take ki = (ps.take kj).filter (kept p.m.k) ∧ rows.drop kj = ps.drop kj ∧ Blk wr g (flat mc rows ++ spare) 75 ∧ w.grownBy wr (some g)) (fun i j _ => n - (intOf j).toNat)
    case atStart => exact ⟨ki0, ki0 + 1, ps, by omega, by omega, rfl, by go_num, HN.out.symm, INI.out, rfl, BL1.out, G1.out⟩
    case round =>
      obtain ⟨ki, kj, rows, hlt, hkj, rfl, rfl, hrl, hrt, hrd, hrb, hrg⟩ := hrel
      have RL := Lib.hid hrl
      have RT := Lib.hid hrt
      have RD := Lib.hid hrd
      have RB := Lib.hid hrb
      have RG := Lib.hid hrg
      clear hrl hrt hrd hrb hrg
      by_cases hjn : kj < n
      · obtain ⟨q, hq⟩ : ∃ q, ps[kj]? = some q := ⟨_, List.getElem?_eq_getElem (by have := HN.out; omega)⟩
        have hqr : rows[kj]? = some q := by
          have := congrArg (fun l => l[0]?) RD.out
          simp only [List.getElem?_drop, Nat.add_zero] at this
          rw [this]; exact hq
        have HQ := Lib.hid hq
        obtain ⟨mv, hmv⟩ : ∃ mv, mv = mc q := ⟨_, rfl⟩
        have HMV := Lib.hid hmv
        have LD := Lib.hid (show ∀ j v, mv[j]? = some v → wr.cell? ((⟨g, kj * 4, none⟩ : Addr).add j) = some v from fun j v hj => by
          rw [Addr.add_lit, RB.out.cell]
          rw [List.getElem?_append_left (by
            have := flat_get (m := 4) (f := mc) (fun x _ => rfl) hqr (by rw [← hmv]; exact hj)
            exact (List.getElem?_eq_some_iff.1 this).1)]
          exact flat_get (m := 4) (f := mc) (fun x _ => rfl) hqr (by rw [← hmv]; exact hj))
        have M4 := Lib.hid (show mv.length = 4 by rw [hmv]; rfl)
        have M1 := Lib.hid (show ∀ u ∈ mv, u.oneCell' = true by rw [hmv]; exact mc_one (H1.out q (List.mem_of_getElem? hq)))
        have Z2 := Lib.hid (blk_at (w := wr) (g := wr.heap.size) (cs := zmk) (t := 75) (arr := #[.int .u32 0, .int .u32 0, .int .u32 0, .slice none 0 0]) rfl rfl)
        clear hq hqr hmv
        have jc : kj < c := by omega
        go_upto_region 8 with (first | (refine wpList_value_g rfl (.agg mv.toArray) (exec_load_from rfl rfl LD.out Try.underlying75 rfl (by kernel_rfl) M4.out) ?_) | (refine wpList_store_blk rfl 75 _ _ rfl wr.heap.size 0 4 rfl 75 zmk mv rfl Z2.out (by kernel_rfl) M4.out (by decide) M1.out ?_; intro w3 z3 g3; have Z3 := Lib.hid z3; have G3 := Lib.hid g3; clear z3 g3))
        have B3 := Lib.hid (below_grown ((Below.refl wr.heap.size wr).alloc (Nat.le_refl _) _) G3.out (by simp) (Nat.le_refl _))
        have P6 := Lib.hid (show Blk w3 wr.heap.size mv 75 from by have := Z3.out; rwa [put_all _ _ (by rw [M4.out]; rfl)] at this)
        have hs3 : wr.heap.size < w3.heap.size := P6.out.lt
        have gw : g < wr.heap.size := RB.out.lt
        have RB3 := Lib.hid (RB.out.below B3.out gw)
        have BPr := HP.out.grown RG.out (Ne.symm GP.out)
        have BP3 := BPr.below B3.out BPr.lt
        have pl : pb < w3.heap.size := BP3.lt
        have AK := acked_any w3.drew q.1 q.2 (H1.out q (List.mem_of_getElem? HQ.out)) pb p y BP3
        rw [show mc (q.1, q.2) = mv from HMV.out.symm] at AK
        have AK0 := acked_any w3 q.1 q.2 (H1.out q (List.mem_of_getElem? HQ.out)) pb p y BP3
        rw [show mc (q.1, q.2) = mv from HMV.out.symm] at AK0
        have AK := Lib.hid AK
        have AK0 := Lib.hid AK0
        have RG3 := Lib.hid (grown_trans RG.out (below_grownBy (r := some g) B3.out))
        clear G3 Z3 LD Z2 BPr BP3
        simp only [Act.put]
        go_wp2_with (first | (refine wpList_value_g rfl (.agg mv.toArray) (exec_load (cs := mv) (t := 75) rfl rfl P6.out Try.underlying75 rfl (by kernel_rfl) M4.out) ?_))
        refine AK0.out.mono ?_
        rintro e w4 ⟨rfl, hb4⟩
        have RB4 := Lib.hid (RB3.out.below hb4 (by omega))
        have P64 := Lib.hid (P6.out.below hb4 hs3)
        have RG4 := Lib.hid (grown_trans RG3.out (below_grownBy (r := some g) hb4))
        clear hb4 AK AK0 RB3 P6 RG3 B3 RB RG
        have RDs := Lib.hid (show rows.drop (kj + 1) = ps.drop (kj + 1) by
          have := congrArg (List.drop 1) RD.out
          rwa [List.drop_drop, List.drop_drop] at this)
        by_cases hle : q.1.s ≤ p.m.k
        · go_wp2_with fail
          refine ⟨?_, ?measure⟩
          (repeat apply Exists.intro)
          refine ⟨?rel, rfl⟩
          case rel => exact ⟨ki, kj + 1, rows, by omega, by omega, rfl, by go_num, RL.out, by rw [RT.out, take_snoc ps kj q HQ.out, List.filter_append]; simp [kept]; omega, RDs.out, RB4.out, RG4.out⟩
          case measure => simp [intOf]; omega
        · have hst : put (flat mc rows ++ spare) (ki * 4) mv = flat mc (rows.set ki q) ++ spare := by
            have hlr : (flat mc rows).length = n * 4 := by rw [flat_len (m := 4) (fun x _ => rfl), RL.out]
            rw [put_app _ _ _ _ (by rw [M4.out, hlr]; omega), HMV.out, flat_put (m := 4) (fun x _ => rfl) rfl (by rw [RL.out]; omega)]
          have ST := Lib.hid hst
          have hfit : ki * 4 + 4 ≤ (flat mc rows ++ spare).length := by
            rw [List.length_append, flat_len (m := 4) (fun x _ => rfl), RL.out]; omega
          have ic : ki < n := by omega
          clear hst
          go_wp2_with (first | (refine wpList_value_g rfl (.agg mv.toArray) (exec_load (cs := mv) (t := 75) rfl rfl P64.out Try.underlying75 rfl (by kernel_rfl) M4.out) ?_) | (refine wpList_store_blk rfl 75 _ _ rfl g (ki * 4) 4 rfl 75 _ mv rfl RB4.out (by kernel_rfl) M4.out hfit M1.out ?_; intro w5 z5 g5; rw [ST.out] at z5; have Z5 := Lib.hid z5; have G5 := Lib.hid (grown_trans RG4.out g5); clear z5 g5))
          refine ⟨?_, ?measure⟩
          (repeat apply Exists.intro)
          refine ⟨?rel, rfl⟩
          case rel => exact ⟨ki + 1, kj + 1, rows.set ki q, by omega, by omega, by go_num, by go_num, by rw [List.length_set, RL.out], by
            rw [take_snoc ps kj q HQ.out, List.filter_append, ← RT.out, take_snoc (rows.set ki q) ki q (by rw [List.getElem?_set_self (by rw [RL.out]; omega)]), set_take_same]
            rw [show List.filter (kept p.m.k) [q] = [q] from by rw [List.filter_cons_of_pos (by unfold kept; exact decide_eq_true (by omega))]; rfl], by rw [List.drop_set]; rw [if_pos (by omega)]; exact RDs.out, Z5.out, G5.out⟩
          case measure => simp [intOf]; omega
      · obtain rfl : kj = n := by omega
        obtain ⟨fp, hfp⟩ : ∃ fp, fp = ps.filter (kept p.m.k) := ⟨_, rfl⟩
        have HF := Lib.hid hfp
        have FT := Lib.hid (show rows.take ki = fp by
          have := RT.out
          rwa [List.take_of_length_le (l := ps) (by have := HN.out; omega), ← hfp] at this)
        have FL := Lib.hid (show fp.length = ki by rw [← FT.out, List.length_take, RL.out]; omega)
        have m1 : ki < c := by omega
        have m2 : ki ≤ kj := by omega
        have m3 : ¬ c = ki := by omega
        obtain ⟨i0, hi0, hz0, hz1, hz2⟩ := info_parts info_mk
        obtain ⟨cur1, hcur1⟩ : ∃ cur1, cur1 = (flat mc rows ++ spare).toArray := ⟨_, rfl⟩
        have hlr : (flat mc rows).length = kj * 4 := by rw [flat_len (m := 4) (fun x _ => rfl), RL.out]
        have hc1 : cur1.size = c * 4 := by rw [hcur1]; simp [SP.out, hlr]; omega
        have hg1 : wr.heap[g]? = some (.cells cur1 75 (0, 0)) := by rw [hcur1]; exact RB.out
        obtain ⟨nz, hnz, hcl⟩ := run_clear_row (P := Try.prog) wr 50 75 0 (.agg #[.int .u32 0, .int .u32 0, .int .u32 0, .slice none 0 0]) 4 Try.underlying50 (fun w => by simp [zeroValue, typeInfo, hi0, hz0]) rfl (by decide) g (ki * 4) (kj - ki) (c - ki) (by omega) cur1 hg1 (by rw [hc1]; omega)
        obtain ⟨W2, hW2⟩ : ∃ W2, W2 = wr.setRow g (cur1.toList.take (ki * 4) ++ nz ++ cur1.toList.drop (ki * 4 + nz.length)).toArray := ⟨_, rfl⟩
        rw [← hW2] at hcl
        have GR := Lib.hid (show w.grownBy W2 (some g) from by rw [hW2]; exact grown_trans RG.out (grown_setRow _ _ _))
        have OW := Lib.hid (show W2.ownsRow base 75 4 (.slice (some ⟨g, 0, none⟩) ki c) ki (flat mc fp) from by
          refine ⟨by rw [flat_len (m := 4) (fun x _ => rfl), FL.out], .inr ⟨g, c, _, rfl, HBG.out, (by rw [hW2]; exact setRow_heap wr g _ _ _ _ hg1), by omega, by unfold maxLen; omega, ?_, ?_⟩⟩
          · simp [hnz, hc1]; omega
          · have hlk : (flat mc (rows.take ki)).length = ki * 4 := by rw [flat_len (m := 4) (fun x _ => rfl), List.length_take, RL.out]; omega
            have hsp : flat mc rows = flat mc (rows.take ki) ++ flat mc (rows.drop ki) := by rw [← flat_append, List.take_append_drop]
            have ht1 : cur1.toList.take (ki * 4) = flat mc (rows.take ki) := by
              rw [hcur1]
              rw [List.take_append_of_le_length (by omega), hsp, ← hlk, List.take_left]
            rw [List.append_assoc, List.take_append_of_le_length (by simp; omega), List.take_of_length_le (by rw [List.length_take]; omega), ht1, FT.out])
        have HCL := Lib.hid hcl
        clear hcl hW2 hg1 hc1 hlr hcur1 hnz RB RG RD RT SP hfp hi0 hz0 hz1 hz2
        have hcl' := HCL.out
        go_wp2_with fail
        go_ret
        refine ⟨_, rfl, ?_, by exact GR.out, rfl⟩
        rw [← HF.out, FL.out]
        exact OW.out
end Go.Proofs.Ytgnnjinpcdemiaa.Link
/-
  What is acknowledged leaves the open messages. Helper text; no statement is proved here.
-/
set_option linter.unusedVariables false
set_option maxRecDepth 20000
set_option linter.unusedSimpArgs false
namespace Go.Proofs.Ytgnnjinpcdemiaa.Link
open Go.RowKit Go.Proofs.Ytgnnjinpcdemiaa.Base Go.Proofs.Ytgnnjinpcdemiaa.Laws Go.Proofs.Ytgnnjinpcdemiaa.Disk Go.Proofs.Ytgnnjinpcdemiaa.Row Go.Proofs.Ytgnnjinpcdemiaa.Flat Go.Proofs.Ytgnnjinpcdemiaa.InvM
def Lk.ackd (k : Lk) (n K : Nat) : Lk := k.with n { k.en n with op := (k.en n).op.filter (fun m => decide (K < m.s)) }
def Lk.come1 (k : Lk) (n : Nat) : Lk := k.with n { k.en n with come := ((k.en n).come + 1) % 4294967296 }
def Lk.handed (k : Lk) (n : Nat) (m : Mk) : Lk := if m.s = ((k.en n).come + 1) % 4294967296 then (k.come1 n).addGot n m.B else k
def Lk.answer (k : Lk) (n : Nat) : Lk := if k.fl.length < 1024 then k.put n 0 [] else k
def Lk.comes (k : Lk) (p : Pk) : Lk :=
  if p.m.e = k.ep then
    if p.m.B = [] then k.ackd (1 - p.f) p.m.k else ((k.ackd (1 - p.f) p.m.k).handed (1 - p.f) p.m).answer (1 - p.f)
  else k
section
variable {w : World} {bl : Nat} {V : Nat → Value} {A : List Nat} {k : Lk}
theorem LinkAt.acked (h : LinkAt w bl V A k) (n : Nat) (hn : n < 2) {pb : Nat} {p : Pk} {y : Value} (hp : Blk w pb (pc (p, y)) 78) (hpb : pb ∉ reach bl V) :
    Calls Try.prog 28 #[V (2 * n), Cl pb] w fun e w' => ∃ v' : Value, e = .returned v' ∧ Goes w bl V A (w'.setCell ⟨bl, 1 + 4 * n, none⟩ v') (upd V (2 * n) v') (k.ackd n p.m.k) ∧ w'.cell? ⟨bl, 1 + 4 * n, none⟩ = some (V (2 * n)) ∧ w'.frozen? ⟨bl, 1 + 4 * n, none⟩ = false ∧ w.grownBy w' (V (2 * n)).ownBlock := by
  obtain ⟨ps, e, h1, h2⟩ := h.o n hn
  refine (deletefunc_any w (bl + 1) pb p y hp ps (V (2 * n)) h1 (fun q hq => (h2 q hq).one) (fun g hg e => hpb (mem_reach.2 (.inr ⟨2 * n, by omega, by rw [hg, e]⟩)))).mono ?_
  rintro e' w' ⟨v', rfl, ho, hg, hvb⟩
  have hhead := h.head.grownO hg (fun x hx => by have := h.row (2 * n) (by omega) hx; omega)
  have hin : ∀ x, (V (2 * n)).ownBlock = some x → x ∈ reach bl V ++ A := fun x hx => List.mem_append_left _ (mem_reach.2 (.inr ⟨2 * n, by omega, hx⟩))
  have hon : Only (V (2 * n)).ownBlock.toList w w' := ⟨hg.os, hg.tape, hg.output, hg.size, fun k hk hn => hg.block k hk (by intro e; apply hn; rw [← e]; simp)⟩
  have hmap : (ps.filter (kept p.m.k)).map Prod.fst = ((k.en n).op.filter (fun m => decide (p.m.k < m.s))) := by
    rw [← e, List.filter_map]
    rfl
  refine ⟨v', rfl, h.turned (2 * n) (by omega) v' (1 + 4 * n) (k.ackd n p.m.k) hg (.inl hvb) ?_ (fun m hm hne => ?_) (fun m hm _ => ?_) (fun _ => ?_) (fun m hm e => ?_) (fun m hm e => by omega) (fun e => by omega), ?_, hhead.frozen _, hg⟩
  · obtain rfl | rfl : n = 0 ∨ n = 1 := by omega
    · rfl
    · rfl
  · obtain ⟨rfl, rfl⟩ | ⟨rfl, rfl⟩ : (n = 0 ∧ m = 1) ∨ (n = 1 ∧ m = 0) := by omega
    · rfl
    · rfl
  · obtain rfl | rfl : n = 0 ∨ n = 1 := by omega
    · obtain rfl | rfl : m = 0 ∨ m = 1 := by omega
      · rfl
      · rfl
    · obtain rfl | rfl : m = 0 ∨ m = 1 := by omega
      · rfl
      · rfl
  · obtain rfl | rfl : n = 0 ∨ n = 1 := by omega
    · rfl
    · rfl
  · obtain rfl : m = n := by omega
    have e2 : ((k.ackd m p.m.k).en m).op = (k.en m).op.filter (fun x => decide (p.m.k < x.s)) := by
      obtain rfl | rfl : m = 0 ∨ m = 1 := by omega
      · rfl
      · rfl
    rw [e2]
    exact ⟨_, hmap, ho, fun q hq => (h2 q (List.mem_filter.1 hq).1).move hon (fun x hx => hin x (by simpa using hx)) (reach_upd (by omega) (.inl hvb))⟩
  · rw [hhead.cell]
    obtain rfl | rfl : n = 0 ∨ n = 1 := by omega
    · rfl
    · rfl
end
end Go.Proofs.Ytgnnjinpcdemiaa.Link
/-
  Deliver of a link by contract. Helper text; no statement is proved here.
-/
set_option linter.unusedVariables false
set_option maxRecDepth 20000
set_option linter.unusedSimpArgs false
namespace Go.Proofs.Ytgnnjinpcdemiaa.Link
open Go.RowKit Go.Proofs.Ytgnnjinpcdemiaa.Base Go.Proofs.Ytgnnjinpcdemiaa.Laws Go.Proofs.Ytgnnjinpcdemiaa.Disk Go.Proofs.Ytgnnjinpcdemiaa.Row Go.Proofs.Ytgnnjinpcdemiaa.Flat Go.Proofs.Ytgnnjinpcdemiaa.InvM Go.Proofs.Ytgnnjinpcdemiaa.Inv Go.Proofs.Ytgnnjinpcdemiaa.InvL Go.Proofs.Ytgnnjinpcdemiaa.InvC Go.Proofs.Ytgnnjinpcdemiaa.InvG
theorem Goes.drewN {w w' : World} {bl : Nat} {V V' : Nat → Value} {A : List Nat} {k' : Lk} (h : Goes w bl V A w' V' k') (n : Nat) : Goes w bl V A (w'.drewN n) V' k' := h.keep ⟨rfl, rfl, rfl, Nat.le_refl _, fun _ _ => rfl⟩
theorem Body.drewN {w : World} {S : List Nat} {v : Value} {B : List UInt8} (h : Body w S v B) (n : Nat) : Body (w.drewN n) S v B := h.move (T := []) ((Only.refl [] w).drewN n) (by simp) (fun x hx => .inl hx)
section
variable {w : World} {bl : Nat} {V : Nat → Value} {A : List Nat} {k : Lk}
theorem deliver_no (h : LinkAt w bl V A k) (i : Int) (hi : i < 0 ∨ (k.fl.length : Int) ≤ i) : Calls Try.prog 12 #[.pointer (some ⟨bl, 0, none⟩), .int .i64 i] w fun e w' => e = .returned (.int .i64 2) ∧ Below w.heap.size w w' := by
  have TN := Lib.hid (take_no h i hi)
  clear h hi
  go_enter Try.func12, Try.ntmps12
  go_wp2_with fail
  refine TN.out.mono ?_
  rintro e w1 ⟨rfl, hb⟩
  have HB := Lib.hid hb
  have hs := hb.size
  have Z := Lib.hid (blk_at (w := w1) (g := w1.heap.size) (cs := zpk) (t := 78) (arr := #[.int .i64 0, .int .u32 0, .int .u32 0, .int .u32 0, .slice none 0 0]) rfl rfl)
  clear hb TN
  go_wp2_with (first | (refine wpList_store_blk rfl 78 _ _ rfl w1.heap.size 0 5 rfl 78 zpk zpk rfl Z.out (by kernel_rfl) rfl (by decide) (by decide) ?_; intro w2 z2 g2; have L2 := Lib.hid (below_grown ((HB.out.alloc hs _)) g2 (by simp; omega) hs); clear z2 g2))
  go_ret
  exact ⟨rfl, L2.out⟩
set_option maxHeartbeats 2000000 in
theorem deliver_ok0 (h : LinkAt w bl V A k) (i : Nat) (p : Pk) (hp : k.fl[i]? = some p) (hf : p.f = 1) (hgot : ((k.en 0).got.length + 1) * 24 ≤ 140737488355328) : Calls Try.prog 12 #[.pointer (some ⟨bl, 0, none⟩), .int .i64 (i : Int)] w fun e w' => e = .returned (.int .i64 0) ∧ ∃ V', Goes w bl V A w' V' ((k.less i).comes p) := by
  have hi : i < k.fl.length := (List.getElem?_eq_some_iff.1 hp).1
  have TN := Lib.hid (take_ok h i hi)
  have HPI := Lib.hid hp
  have HGT := Lib.hid hgot
  clear h hi hp hgot
  go_enter Try.func12, Try.ntmps12
  go_wp2_with fail
  refine TN.out.mono ?_
  rintro e w1 ⟨p', y, V1, hp', rfl, hG, hY⟩
  obtain rfl : p = p' := by have := HPI.out; rw [hp'] at this; exact (Option.some.inj this).symm
  have HG1 := Lib.hid hG
  have HY1 := Lib.hid hY
  obtain ⟨pv, hpv⟩ : ∃ pv, pv = pc (p, y) := ⟨_, rfl⟩
  have HPV := Lib.hid hpv
  have P5 := Lib.hid (show pv.length = 5 by rw [hpv]; rfl)
  have P1 := Lib.hid (show ∀ u ∈ pv, u.oneCell' = true by rw [hpv]; exact pc_one hY.one)
  have Z := Lib.hid (blk_at (w := w1) (g := w1.heap.size) (cs := zpk) (t := 78) (arr := #[.int .i64 0, .int .u32 0, .int .u32 0, .int .u32 0, .slice none 0 0]) rfl rfl)
  rw [← hpv]
  clear hG hY TN hpv hp'
  go_upto_region 4 with (first | (refine wpList_store_blk rfl 78 _ _ rfl w1.heap.size 0 5 rfl 78 zpk pv rfl Z.out (by kernel_rfl) P5.out (by decide) P1.out ?_; intro w2 z2 g2; have L2 := Lib.hid (below_grown (((Below.refl w1.heap.size w1).alloc (Nat.le_refl _) _)) g2 (by simp) (Nat.le_refl _)); have Z2 := Lib.hid z2; clear z2 g2))
  obtain ⟨pb, hpb⟩ : ∃ pb, pb = w1.heap.size := ⟨_, rfl⟩
  have PB := Lib.hid (show Blk w2 pb (pc (p, y)) 78 from by have := Z2.out; rw [put_all _ _ (by rw [P5.out]; rfl), ← hpb, HPV.out] at this; exact this)
  have PBR := Lib.hid (show pb ∉ reach bl V1 from fun hx => by have := HG1.out.at_.reach_lt hx; omega)
  have G2 := Lib.hid (HG1.out.keep L2.out)
  have Y2 := Lib.hid (HY1.out.move (Only.of_below (S := []) L2.out) (by simp) (fun x hx => .inl hx))
  have q0 : w2.cell? ⟨pb, 0, none⟩ = some (.int .i64 1) := by have := PB.out.cell 0; rw [this]; simp [pc, hf]
  have q1 : w2.cell? ⟨pb, 1, none⟩ = some (.int .u32 (p.m.e : Int)) := PB.out.cell 1
  have q3 : w2.cell? ⟨bl, 0, none⟩ = some (.int .u32 (k.ep : Int)) := G2.out.at_.cell 0
  rw [← hpb]
  clear Z Z2 L2 P1 P5 HPV HG1 HY1 hpb
  go_quiet (fail)
  have PB := Lib.hid (PB.out.drewN nq)
  have G2 := Lib.hid (G2.out.drewN nq)
  have Y2 := Lib.hid (Y2.out.drewN nq)
  have q4 : (w2.drewN nq).cell? ⟨bl, 1, none⟩ = some (V1 0) := G2.out.at_.cell 1
  have q0 : (w2.drewN nq).cell? ⟨pb, 0, none⟩ = some (.int .i64 1) := q0
  obtain ⟨w3, hw3⟩ : ∃ w3, w3 = w2.drewN nq := ⟨_, rfl⟩
  rw [← hw3] at PB G2 Y2 q4 q0 ⊢
  clear hw3
  clear q1 q3
  by_cases he : p.m.e = k.ep
  rotate_left
  · have he' : ¬ ((p.m.e : Int) = (k.ep : Int)) := by omega
    clear PB PBR Y2
    go_wp2_with fail
    go_ret
    refine ⟨rfl, V1, ?_⟩
    have e : (k.less i).comes p = k.less i := if_neg he
    rw [e]
    exact G2.out
  have he' : ((p.m.e : Int) = (k.ep : Int)) := by omega
  have hlt := G2.out.at_.head.lt
  have AC := Lib.hid (show Calls Try.prog 28 #[V1 0, Cl pb] w3 fun e w' => ∃ v' : Value, e = .returned v' ∧ Goes w3 bl V1 A (w'.setCell ⟨bl, 1, none⟩ v') (upd V1 0 v') ((k.less i).ackd 0 p.m.k) ∧ w'.cell? ⟨bl, 1, none⟩ = some (V1 0) ∧ w'.frozen? ⟨bl, 1, none⟩ = false ∧ w3.grownBy w' (V1 0).ownBlock from G2.out.at_.acked 0 (by decide) PB.out PBR.out)
  obtain ⟨vo, hvo⟩ : ∃ vo, vo = V1 0 := ⟨_, rfl⟩
  rw [← hvo] at AC q4
  clear hvo
  unfold Cl at AC
  go_wp2_with (fail)
  refine AC.out.mono ?_
  rintro e w5 ⟨vv, rfl, ga, ca, fa, gg⟩
  obtain ⟨sa, sc, hsv, _⟩ := ga.at_.slO 0 (by decide)
  obtain ⟨sn, hsn⟩ : ∃ sn, sn = (((k.less i).ackd 0 p.m.k).en 0).op.length := ⟨_, rfl⟩
  rw [show 2 * 0 = 0 from rfl, upd_self, ← hsn] at hsv
  subst hsv
  have GA := Lib.hid ga
  clear hsn
  clear ga gg AC
  go_upto_region 9 with (fail)
  obtain ⟨w4, hw4⟩ : ∃ w4, w4 = w5.setCell ⟨bl, 1, none⟩ (.slice sa sn sc) := ⟨_, rfl⟩
  rw [← hw4] at GA ⊢
  clear hw4 ca fa q0 q4
  obtain ⟨kd, hkd⟩ : ∃ kd, kd = (k.less i).ackd 0 p.m.k := ⟨_, rfl⟩
  have HKD := Lib.hid hkd
  rw [← hkd] at GA
  clear hkd
  have G4 := Lib.hid (G2.out.trans GA.out)
  have PB4 := Lib.hid (PB.out.only GA.out.only PBR.out)
  have Y4 := Lib.hid (GA.out.body Y2.out)
  obtain ⟨ya, yc, hy, _, hb64⟩ := Y4.out.slice
  obtain ⟨bn, hbn⟩ : ∃ bn, bn = p.m.B.length := ⟨_, rfl⟩
  rw [← hbn] at hy hb64
  have HY := Lib.hid hy
  have q5 : w4.cell? ⟨pb, 4, none⟩ = some (.slice ya bn yc) := by rw [← hy]; exact PB4.out.cell 4
  clear hy
  by_cases hB : p.m.B = []
  · have hb0 : bn = 0 := by rw [hbn, hB]; rfl
    subst hb0
    have HB0 := Lib.hid hB
    clear PB PBR PB4 Y4 Y2 G2 GA HY hbn hB
    go_wp2_with fail
    go_ret
    refine ⟨rfl, upd V1 0 (.slice sa sn sc), ?_⟩
    have e : (k.less i).comes p = kd := by
      rw [HKD.out]
      unfold Lk.comes
      rw [if_pos (show p.m.e = (k.less i).ep from he), if_pos HB0.out, hf]
    rw [e]
    exact G4.out
  have hb0 : bn ≠ 0 := by rw [hbn]; intro e; exact hB (List.eq_nil_of_length_eq_zero e)
  have HB0 := Lib.hid hB
  clear hB
  obtain ⟨cm, hcm⟩ : ∃ cm, cm = (kd.en 0).come := ⟨_, rfl⟩
  have HCM := Lib.hid hcm
  have q6 : w4.cell? ⟨bl, 3, none⟩ = some (.int .u32 (cm : Int)) := by rw [hcm]; exact G4.out.at_.cell 3
  have q7 : w4.cell? ⟨pb, 2, none⟩ = some (.int .u32 (p.m.s : Int)) := PB4.out.cell 2
  clear hcm hbn G2 Y2
  go_upto_region 11 with (fail)
  have q9 : w4.frozen? ⟨bl, 3, none⟩ = false := G4.out.at_.head.frozen 3
  go_quiet (fail)
  have PB4 := Lib.hid (PB4.out.drewN nq)
  have G4 := Lib.hid (G4.out.drewN nq)
  have Y4 := Lib.hid (Y4.out.drewN nq)
  have q5 : (w4.drewN nq).cell? ⟨pb, 4, none⟩ = some (.slice ya bn yc) := q5
  have q6 : (w4.drewN nq).cell? ⟨bl, 3, none⟩ = some (.int .u32 (cm : Int)) := q6
  have q9 : (w4.drewN nq).frozen? ⟨bl, 3, none⟩ = false := q9
  clear q7
  obtain ⟨w6, hw6⟩ : ∃ w6, w6 = w4.drewN nq := ⟨_, rfl⟩
  rw [← hw6] at PB4 G4 Y4 q5 q6 q9 ⊢
  clear hw6
  obtain ⟨c1, hc1⟩ : ∃ c1, c1 = (cm + 1) % 4294967296 := ⟨_, rfl⟩
  have hw : IntKind.u32.wrap ((cm : Int) + 1) = (c1 : Int) := by rw [IntKind.wrap_u32]; omega
  first | rw [hw] | rw [show ((cm : Int) + 1) % 4294967296 = (c1 : Int) from by omega]
  have HC1 := Lib.hid hc1
  clear hw hc1
  by_cases hs : p.m.s = c1
  rotate_left
  · have hs' : ¬ ((p.m.s : Int) = (c1 : Int)) := by omega
    go_upto_region 14 with (fail)
    have hs2 : ¬ (p.m.s = ((kd.en 0).come + 1) % 4294967296) := by rw [← HCM.out, ← HC1.out]; exact hs
    clear q5 q6 hs hs'
    have EQ := Lib.hid (show (k.less i).comes p = kd.answer 0 from by
      unfold Lk.comes Lk.handed
      rw [if_pos (show p.m.e = (k.less i).ep from he), if_neg HB0.out, hf]
      show Lk.answer (if p.m.s = ((((k.less i).ackd 0 p.m.k).en 0).come + 1) % 4294967296 then _ else _) 0 = _
      rw [← HKD.out, if_neg hs2])
    clear HKD HB0 HCM he he' PBR PB4 Y4 HY hs2 hb0 hb64
    have RM := Lib.hid (room_any G4.out.at_)
    by_cases hroom : kd.fl.length < 1024
    · have PT := Lib.hid (show Calls Try.prog 26 #[.pointer (some ⟨bl, 0, none⟩), .int .i64 0, .int .u32 0, .slice none 0 0] w6 fun e w' => e = .returned (.tuple #[]) ∧ ∃ V', Goes w6 bl _ A w' V' (kd.put 0 0 []) from put_any G4.out.at_ 0 (by decide) 0 (S := []) (.inl ⟨rfl, rfl⟩) hroom)
      rw [decide_eq_true hroom] at RM
      have HR := Lib.hid hroom
      clear hroom
      go_wp2_with (first | (go_at_call 24; refine RM.out.mono ?_; rintro e w' ⟨rfl, rfl⟩) | (go_at_call 26; refine PT.out.mono ?_; rintro e w9 ⟨rfl, V9, g9⟩))
      go_ret
      refine ⟨rfl, V9, ?_⟩
      rw [EQ.out, show kd.answer 0 = kd.put 0 0 [] from if_pos HR.out]
      exact G4.out.trans g9
    · rw [decide_eq_false hroom] at RM
      have HR := Lib.hid hroom
      clear hroom
      go_wp2_with (first | (go_at_call 24; refine RM.out.mono ?_; rintro e w' ⟨rfl, rfl⟩))
      go_ret
      refine ⟨rfl, ?_⟩
      rw [EQ.out, show kd.answer 0 = kd from if_neg HR.out]
      exact ⟨_, G4.out⟩
  subst hs
  go_upto_region 13 with (fail)
  have e1 : ((cm : Int) + 1) % 4294967296 = (p.m.s : Int) := by have := HC1.out; omega
  rw [e1]
  have GC := Lib.hid (show Goes w6 bl (upd V1 0 (.slice sa sn sc)) A (w6.setCell ⟨bl, 3, none⟩ (.int .u32 (p.m.s : Int))) (upd V1 0 (.slice sa sn sc)) (kd.come1 0) from by
    refine G4.out.at_.scalar 3 (.int .u32 (p.m.s : Int)) (kd.come1 0) ?_ (fun m => ?_) (fun m => ?_) rfl
    · rw [HC1.out, HCM.out]; rfl
    · unfold Lk.en Lk.come1 Lk.with; by_cases hm : m = 0 <;> simp [hm, Lk.en]
    · unfold Lk.en Lk.come1 Lk.with; by_cases hm : m = 0 <;> simp [hm, Lk.en])
  obtain ⟨w7, hw7⟩ : ∃ w7, w7 = w6.setCell ⟨bl, 3, none⟩ (.int .u32 (p.m.s : Int)) := ⟨_, rfl⟩
  rw [← hw7] at GC ⊢
  clear hw7 q5 q6 q9
  have EQ := Lib.hid (show (k.less i).comes p = ((kd.come1 0).addGot 0 p.m.B).answer 0 from by
    unfold Lk.comes Lk.handed
    rw [if_pos (show p.m.e = (k.less i).ep from he), if_neg HB0.out, hf]
    show Lk.answer (if p.m.s = ((((k.less i).ackd 0 p.m.k).en 0).come + 1) % 4294967296 then _ else _) 0 = _
    rw [← HKD.out, if_pos (by rw [← HCM.out]; exact HC1.out)])
  have PBR6 : pb ∉ reach bl (upd V1 0 (.slice sa sn sc)) := fun hx => by
    rcases GA.out.kin.reach hx with e | e
    · exact PBR.out e
    · have := PB.out.lt; omega
  have PB7 := Lib.hid (PB4.out.only GC.out.only PBR6)
  have Y7 := Lib.hid (GC.out.body Y4.out)
  have hgl : ((kd.come1 0).en 0).got.length = (k.en 0).got.length := by rw [HKD.out]; rfl
  clear GA PB
  obtain ⟨wC, hwC⟩ : ∃ wC, wC = w7.drew.alloc (.cells #[.slice ya bn yc] 27) := ⟨_, rfl⟩
  have lC : Below w7.heap.size w7 wC := hwC ▸ ((Below.refl w7.heap.size w7).drew.alloc (Nat.le_refl _) _)
  have KC := Lib.hid (GC.out.at_.below lC)
  have YC := Y7.out.move (Only.of_below (S := []) lC) (by simp) (fun x hx => .inl hx)
  obtain ⟨v', wD, hrD, hgD, hcD, hfD, grD, va, vc, rfl⟩ := KC.out.moreGot 0 (by decide) p.m.B y YC (g := w7.heap.size) (by rw [hwC, HY.out]; exact blk_at rfl rfl) (by rw [hgl]; exact HGT.out)
  obtain ⟨gn, hgn⟩ : ∃ gn, gn = ((kd.come1 0).en 0).got.length + 1 := ⟨_, rfl⟩
  rw [← hgn] at hrD hgD
  obtain ⟨vo2, hvo2⟩ : ∃ vo2, vo2 = upd V1 0 (.slice sa sn sc) (2 * 0 + 1) := ⟨_, rfl⟩
  have r1 : w7.cell? ⟨bl, 4, none⟩ = some vo2 := by rw [hvo2]; exact GC.out.at_.cell 4
  have r2 : wC.cell? ⟨bl, 4, none⟩ = some vo2 := by rw [hvo2]; exact KC.out.cell 4
  have r3 : wD.cell? ⟨bl, 4, none⟩ = some vo2 := by rw [hvo2]; exact hcD
  have t1 : w7.cell? ⟨pb, 4, none⟩ = some (.slice ya bn yc) := by rw [← HY.out]; exact PB7.out.cell 4
  have t2 : wC.cell? ⟨pb, 4, none⟩ = some (.slice ya bn yc) := by rw [← HY.out]; exact (PB7.out.below lC PB7.out.lt).cell 4
  have hpv7 : ∀ x, (upd V1 0 (.slice sa sn sc) (2 * 0 + 1)).ownBlock = some x → pb ≠ x := fun x hx e => by
    subst e
    rw [show upd V1 0 (.slice sa sn sc) (2 * 0 + 1) = V1 (2 * 0 + 1) from upd_ne (by decide)] at hx
    exact PBR.out (mem_reach.2 (.inr ⟨2 * 0 + 1, by decide, hx⟩))
  have t3 : wD.cell? ⟨pb, 4, none⟩ = some (.slice ya bn yc) := by
    have := ((PB7.out.below lC PB7.out.lt).grownO grD hpv7).cell 4
    rw [← HY.out]; exact this
  rw [← hvo2] at hrD
  have Q := Lib.hid (show ∀ d w', At2 8 9 (fun w' => w' = w7.drew) (fun w' => w' = wC) (fun w' => w' = wD) d w' → w'.cell? ⟨bl, 4, none⟩ = some vo2 ∧ w'.cell? ⟨pb, 4, none⟩ = some (.slice ya bn yc) from fun d w' h => by
    rcases h.any with rfl | rfl | rfl
    · exact ⟨r1, t1⟩
    · exact ⟨r2, t2⟩
    · exact ⟨r3, t3⟩)
  have HRD := Lib.hid hrD
  have HGD := Lib.hid hgD
  have HWC := Lib.hid hwC
  have QD := Lib.hid r3
  have FD := Lib.hid (show wD.frozen? ⟨bl, 4, none⟩ = false from hfD)
  have LC := Lib.hid lC
  clear hrD hgD hwC r1 r2 r3 t1 t2 t3 hcD hfD grD hvo2 hgn hgl lC YC hpv7 PB7 Y7 HY PBR PBR6 Y4 PB4 HCM HKD HB0 HC1 e1 he he' hb0 hb64
  refine wp_region_gate_tail (fun d w' => At2 8 9 (fun w' => w' = w7.drew) (fun w' => w' = wC) (fun w' => w' = wD) d w') 10 (by kernel_rfl) (by kernel_rfl) ?hI ?_
  case hI => exact At2.start (by rfl) (by rfl) rfl
  simp only [List.take_succ_cons, List.take_zero, List.drop_succ_cons, List.drop_zero]
  refine InvC.invc_value (.pointer (some ⟨bl, 1, none⟩)) (fun u hu => by cases hu) rfl (fun d w' _ _ h => by go_simp; all_goals rfl) (fun d w' _ _ h => At2.keep (by decide) (by decide) h) ?_
  simp only [Act.put, List.setIfInBounds_toArray, List.set_cons_zero, List.set_cons_succ]
  refine InvC.invc_value (.pointer (some ⟨bl, 1, none⟩)) (fun u hu => by cases hu) rfl (fun d w' _ _ h => by go_simp; all_goals rfl) (fun d w' _ _ h => At2.keep (by decide) (by decide) h) ?_
  simp only [Act.put, List.setIfInBounds_toArray, List.set_cons_zero, List.set_cons_succ]
  refine InvC.invc_value (.pointer (some ⟨bl, 1, none⟩)) (fun u hu => by cases hu) rfl (fun d w' _ _ h => by go_simp; all_goals rfl) (fun d w' _ _ h => At2.keep (by decide) (by decide) h) ?_
  simp only [Act.put, List.setIfInBounds_toArray, List.set_cons_zero, List.set_cons_succ]
  refine InvC.invc_value (.pointer (some ⟨bl, 4, none⟩)) (fun u hu => by cases hu) rfl (fun d w' _ _ h => by go_simp; all_goals rfl) (fun d w' _ _ h => At2.keep (by decide) (by decide) h) ?_
  simp only [Act.put, List.setIfInBounds_toArray, List.set_cons_zero, List.set_cons_succ]
  refine InvC.invc_value (vo2) (fun u hu => by cases hu) rfl (fun d w' _ _ h => by have q := (Q.out d w' h).1; go_simp) (fun d w' _ _ h => At2.keep (by decide) (by decide) h) ?_
  simp only [Act.put, List.setIfInBounds_toArray, List.set_cons_zero, List.set_cons_succ]
  refine InvC.invc_value (.pointer (some ⟨pb, 1, none⟩)) (fun u hu => by cases hu) rfl (fun d w' _ _ h => by go_simp; all_goals rfl) (fun d w' _ _ h => At2.keep (by decide) (by decide) h) ?_
  simp only [Act.put, List.setIfInBounds_toArray, List.set_cons_zero, List.set_cons_succ]
  refine InvC.invc_value (.pointer (some ⟨pb, 4, none⟩)) (fun u hu => by cases hu) rfl (fun d w' _ _ h => by go_simp; all_goals rfl) (fun d w' _ _ h => At2.keep (by decide) (by decide) h) ?_
  simp only [Act.put, List.setIfInBounds_toArray, List.set_cons_zero, List.set_cons_succ]
  refine InvC.invc_value (.slice ya bn yc) (fun u hu => by cases hu) rfl (fun d w' _ _ h => by have q := (Q.out d w' h).2; go_simp) (fun d w' _ _ h => At2.keep (by decide) (by decide) h) ?_
  simp only [Act.put, List.setIfInBounds_toArray, List.set_cons_zero, List.set_cons_succ]
  refine InvC.invc_world (.slice (some ⟨w7.heap.size, 0, none⟩) 1 1) (fun u hu => by cases hu) rfl (fun d w' hd hG h => ⟨wC, by
    have e := (h.at_p hd).1
    subst e
    rw [HWC.out]
    go_simp, At2.did_p (by decide) hd h rfl⟩) ?_
  simp only [Act.put, List.setIfInBounds_toArray, List.set_cons_zero, List.set_cons_succ]
  refine InvC.invc_world (.slice va gn vc) (fun u hu => by cases hu) rfl (fun d w' hd hG h => ⟨wD, by
    have e := h.at_q hd (hG.of (by kernel_rfl))
    subst e
    exact exec_append _ _ rfl rfl rfl HRD.out, At2.did_q (by decide) hd (hG.of (by kernel_rfl)) rfl⟩) ?_
  simp only [Act.put, List.setIfInBounds_toArray, List.set_cons_zero, List.set_cons_succ]
  refine InvC.invc_nil fun w8 hI => ?_
  have e6 := hI.done (by rfl)
  subst e6
  have q4 := QD.out
  have f4 := FD.out
  have GO3 := Lib.hid (((G4.out.trans GC.out).keep LC.out).trans HGD.out)
  clear Q QD FD HRD HWC LC HGD KC GC G4
  go_upto_region 14 with (fail)
  obtain ⟨w9, hw9⟩ : ∃ w9, w9 = w8.setCell ⟨bl, 4, none⟩ (.slice va gn vc) := ⟨_, rfl⟩
  rw [← hw9] at GO3 ⊢
  clear hw9 q4 f4
  have RM := Lib.hid (room_any GO3.out.at_)
  by_cases hroom : ((kd.come1 0).addGot 0 p.m.B).fl.length < 1024
  · have PT := Lib.hid (show Calls Try.prog 26 #[.pointer (some ⟨bl, 0, none⟩), .int .i64 0, .int .u32 0, .slice none 0 0] w9 fun e w' => e = .returned (.tuple #[]) ∧ ∃ V', Goes w9 bl _ A w' V' (((kd.come1 0).addGot 0 p.m.B).put 0 0 []) from put_any GO3.out.at_ 0 (by decide) 0 (S := []) (.inl ⟨rfl, rfl⟩) hroom)
    rw [decide_eq_true hroom] at RM
    have HR := Lib.hid hroom
    clear hroom
    go_wp2_with (first | (go_at_call 24; refine RM.out.mono ?_; rintro e w' ⟨rfl, rfl⟩) | (go_at_call 26; refine PT.out.mono ?_; rintro e w9 ⟨rfl, V9, g9⟩))
    go_ret
    refine ⟨rfl, V9, ?_⟩
    rw [EQ.out, show ((kd.come1 0).addGot 0 p.m.B).answer 0 = ((kd.come1 0).addGot 0 p.m.B).put 0 0 [] from if_pos HR.out]
    exact GO3.out.trans g9
  · rw [decide_eq_false hroom] at RM
    have HR := Lib.hid hroom
    clear hroom
    go_wp2_with (first | (go_at_call 24; refine RM.out.mono ?_; rintro e w' ⟨rfl, rfl⟩))
    go_ret
    refine ⟨rfl, ?_⟩
    rw [EQ.out, show ((kd.come1 0).addGot 0 p.m.B).answer 0 = ((kd.come1 0).addGot 0 p.m.B) from if_neg HR.out]
    exact ⟨_, GO3.out⟩
set_option maxHeartbeats 2000000 in
theorem deliver_ok1 (h : LinkAt w bl V A k) (i : Nat) (p : Pk) (hp : k.fl[i]? = some p) (hf : p.f = 0) (hgot : ((k.en 1).got.length + 1) * 24 ≤ 140737488355328) : Calls Try.prog 12 #[.pointer (some ⟨bl, 0, none⟩), .int .i64 (i : Int)] w fun e w' => e = .returned (.int .i64 0) ∧ ∃ V', Goes w bl V A w' V' ((k.less i).comes p) := by
  have hi : i < k.fl.length := (List.getElem?_eq_some_iff.1 hp).1
  have TN := Lib.hid (take_ok h i hi)
  have HPI := Lib.hid hp
  have HGT := Lib.hid hgot
  clear h hi hp hgot
  go_enter Try.func12, Try.ntmps12
  go_wp2_with fail
  refine TN.out.mono ?_
  rintro e w1 ⟨p', y, V1, hp', rfl, hG, hY⟩
  obtain rfl : p = p' := by have := HPI.out; rw [hp'] at this; exact (Option.some.inj this).symm
  have HG1 := Lib.hid hG
  have HY1 := Lib.hid hY
  obtain ⟨pv, hpv⟩ : ∃ pv, pv = pc (p, y) := ⟨_, rfl⟩
  have HPV := Lib.hid hpv
  have P5 := Lib.hid (show pv.length = 5 by rw [hpv]; rfl)
  have P1 := Lib.hid (show ∀ u ∈ pv, u.oneCell' = true by rw [hpv]; exact pc_one hY.one)
  have Z := Lib.hid (blk_at (w := w1) (g := w1.heap.size) (cs := zpk) (t := 78) (arr := #[.int .i64 0, .int .u32 0, .int .u32 0, .int .u32 0, .slice none 0 0]) rfl rfl)
  rw [← hpv]
  clear hG hY TN hpv hp'
  go_upto_region 4 with (first | (refine wpList_store_blk rfl 78 _ _ rfl w1.heap.size 0 5 rfl 78 zpk pv rfl Z.out (by kernel_rfl) P5.out (by decide) P1.out ?_; intro w2 z2 g2; have L2 := Lib.hid (below_grown (((Below.refl w1.heap.size w1).alloc (Nat.le_refl _) _)) g2 (by simp) (Nat.le_refl _)); have Z2 := Lib.hid z2; clear z2 g2))
  obtain ⟨pb, hpb⟩ : ∃ pb, pb = w1.heap.size := ⟨_, rfl⟩
  have PB := Lib.hid (show Blk w2 pb (pc (p, y)) 78 from by have := Z2.out; rw [put_all _ _ (by rw [P5.out]; rfl), ← hpb, HPV.out] at this; exact this)
  have PBR := Lib.hid (show pb ∉ reach bl V1 from fun hx => by have := HG1.out.at_.reach_lt hx; omega)
  have G2 := Lib.hid (HG1.out.keep L2.out)
  have Y2 := Lib.hid (HY1.out.move (Only.of_below (S := []) L2.out) (by simp) (fun x hx => .inl hx))
  have q0 : w2.cell? ⟨pb, 0, none⟩ = some (.int .i64 0) := by have := PB.out.cell 0; rw [this]; simp [pc, hf]
  have q1 : w2.cell? ⟨pb, 1, none⟩ = some (.int .u32 (p.m.e : Int)) := PB.out.cell 1
  have q3 : w2.cell? ⟨bl, 0, none⟩ = some (.int .u32 (k.ep : Int)) := G2.out.at_.cell 0
  rw [← hpb]
  clear Z Z2 L2 P1 P5 HPV HG1 HY1 hpb
  go_quiet (fail)
  have PB := Lib.hid (PB.out.drewN nq)
  have G2 := Lib.hid (G2.out.drewN nq)
  have Y2 := Lib.hid (Y2.out.drewN nq)
  have q4 : (w2.drewN nq).cell? ⟨bl, 5, none⟩ = some (V1 2) := G2.out.at_.cell 5
  have q0 : (w2.drewN nq).cell? ⟨pb, 0, none⟩ = some (.int .i64 0) := q0
  obtain ⟨w3, hw3⟩ : ∃ w3, w3 = w2.drewN nq := ⟨_, rfl⟩
  rw [← hw3] at PB G2 Y2 q4 q0 ⊢
  clear hw3
  clear q1 q3
  by_cases he : p.m.e = k.ep
  rotate_left
  · have he' : ¬ ((p.m.e : Int) = (k.ep : Int)) := by omega
    clear PB PBR Y2
    go_wp2_with fail
    go_ret
    refine ⟨rfl, V1, ?_⟩
    have e : (k.less i).comes p = k.less i := if_neg he
    rw [e]
    exact G2.out
  have he' : ((p.m.e : Int) = (k.ep : Int)) := by omega
  have hlt := G2.out.at_.head.lt
  have AC := Lib.hid (show Calls Try.prog 28 #[V1 2, Cl pb] w3 fun e w' => ∃ v' : Value, e = .returned v' ∧ Goes w3 bl V1 A (w'.setCell ⟨bl, 5, none⟩ v') (upd V1 2 v') ((k.less i).ackd 1 p.m.k) ∧ w'.cell? ⟨bl, 5, none⟩ = some (V1 2) ∧ w'.frozen? ⟨bl, 5, none⟩ = false ∧ w3.grownBy w' (V1 2).ownBlock from G2.out.at_.acked 1 (by decide) PB.out PBR.out)
  obtain ⟨vo, hvo⟩ : ∃ vo, vo = V1 2 := ⟨_, rfl⟩
  rw [← hvo] at AC q4
  clear hvo
  unfold Cl at AC
  go_wp2_with (fail)
  refine AC.out.mono ?_
  rintro e w5 ⟨vv, rfl, ga, ca, fa, gg⟩
  obtain ⟨sa, sc, hsv, _⟩ := ga.at_.slO 1 (by decide)
  obtain ⟨sn, hsn⟩ : ∃ sn, sn = (((k.less i).ackd 1 p.m.k).en 1).op.length := ⟨_, rfl⟩
  rw [show 2 * 1 = 2 from rfl, upd_self, ← hsn] at hsv
  subst hsv
  have GA := Lib.hid ga
  clear hsn
  clear ga gg AC
  go_upto_region 9 with (fail)
  obtain ⟨w4, hw4⟩ : ∃ w4, w4 = w5.setCell ⟨bl, 5, none⟩ (.slice sa sn sc) := ⟨_, rfl⟩
  rw [← hw4] at GA ⊢
  clear hw4 ca fa q0 q4
  obtain ⟨kd, hkd⟩ : ∃ kd, kd = (k.less i).ackd 1 p.m.k := ⟨_, rfl⟩
  have HKD := Lib.hid hkd
  rw [← hkd] at GA
  clear hkd
  have G4 := Lib.hid (G2.out.trans GA.out)
  have PB4 := Lib.hid (PB.out.only GA.out.only PBR.out)
  have Y4 := Lib.hid (GA.out.body Y2.out)
  obtain ⟨ya, yc, hy, _, hb64⟩ := Y4.out.slice
  obtain ⟨bn, hbn⟩ : ∃ bn, bn = p.m.B.length := ⟨_, rfl⟩
  rw [← hbn] at hy hb64
  have HY := Lib.hid hy
  have q5 : w4.cell? ⟨pb, 4, none⟩ = some (.slice ya bn yc) := by rw [← hy]; exact PB4.out.cell 4
  clear hy
  by_cases hB : p.m.B = []
  · have hb0 : bn = 0 := by rw [hbn, hB]; rfl
    subst hb0
    have HB0 := Lib.hid hB
    clear PB PBR PB4 Y4 Y2 G2 GA HY hbn hB
    go_wp2_with fail
    go_ret
    refine ⟨rfl, upd V1 2 (.slice sa sn sc), ?_⟩
    have e : (k.less i).comes p = kd := by
      rw [HKD.out]
      unfold Lk.comes
      rw [if_pos (show p.m.e = (k.less i).ep from he), if_pos HB0.out, hf]
    rw [e]
    exact G4.out
  have hb0 : bn ≠ 0 := by rw [hbn]; intro e; exact hB (List.eq_nil_of_length_eq_zero e)
  have HB0 := Lib.hid hB
  clear hB
  obtain ⟨cm, hcm⟩ : ∃ cm, cm = (kd.en 1).come := ⟨_, rfl⟩
  have HCM := Lib.hid hcm
  have q6 : w4.cell? ⟨bl, 7, none⟩ = some (.int .u32 (cm : Int)) := by rw [hcm]; exact G4.out.at_.cell 7
  have q7 : w4.cell? ⟨pb, 2, none⟩ = some (.int .u32 (p.m.s : Int)) := PB4.out.cell 2
  clear hcm hbn G2 Y2
  go_upto_region 11 with (fail)
  have q9 : w4.frozen? ⟨bl, 7, none⟩ = false := G4.out.at_.head.frozen 7
  go_quiet (fail)
  have PB4 := Lib.hid (PB4.out.drewN nq)
  have G4 := Lib.hid (G4.out.drewN nq)
  have Y4 := Lib.hid (Y4.out.drewN nq)
  have q5 : (w4.drewN nq).cell? ⟨pb, 4, none⟩ = some (.slice ya bn yc) := q5
  have q6 : (w4.drewN nq).cell? ⟨bl, 7, none⟩ = some (.int .u32 (cm : Int)) := q6
  have q9 : (w4.drewN nq).frozen? ⟨bl, 7, none⟩ = false := q9
  clear q7
  obtain ⟨w6, hw6⟩ : ∃ w6, w6 = w4.drewN nq := ⟨_, rfl⟩
  rw [← hw6] at PB4 G4 Y4 q5 q6 q9 ⊢
  clear hw6
  obtain ⟨c1, hc1⟩ : ∃ c1, c1 = (cm + 1) % 4294967296 := ⟨_, rfl⟩
  have hw : IntKind.u32.wrap ((cm : Int) + 1) = (c1 : Int) := by rw [IntKind.wrap_u32]; omega
  first | rw [hw] | rw [show ((cm : Int) + 1) % 4294967296 = (c1 : Int) from by omega]
  have HC1 := Lib.hid hc1
  clear hw hc1
  by_cases hs : p.m.s = c1
  rotate_left
  · have hs' : ¬ ((p.m.s : Int) = (c1 : Int)) := by omega
    go_upto_region 14 with (fail)
    have hs2 : ¬ (p.m.s = ((kd.en 1).come + 1) % 4294967296) := by rw [← HCM.out, ← HC1.out]; exact hs
    clear q5 q6 hs hs'
    have EQ := Lib.hid (show (k.less i).comes p = kd.answer 1 from by
      unfold Lk.comes Lk.handed
      rw [if_pos (show p.m.e = (k.less i).ep from he), if_neg HB0.out, hf]
      show Lk.answer (if p.m.s = ((((k.less i).ackd 1 p.m.k).en 1).come + 1) % 4294967296 then _ else _) 1 = _
      rw [← HKD.out, if_neg hs2])
    clear HKD HB0 HCM he he' PBR PB4 Y4 HY hs2 hb0 hb64
    have RM := Lib.hid (room_any G4.out.at_)
    by_cases hroom : kd.fl.length < 1024
    · have PT := Lib.hid (show Calls Try.prog 26 #[.pointer (some ⟨bl, 0, none⟩), .int .i64 1, .int .u32 0, .slice none 0 0] w6 fun e w' => e = .returned (.tuple #[]) ∧ ∃ V', Goes w6 bl _ A w' V' (kd.put 1 0 []) from put_any G4.out.at_ 1 (by decide) 0 (S := []) (.inl ⟨rfl, rfl⟩) hroom)
      rw [decide_eq_true hroom] at RM
      have HR := Lib.hid hroom
      clear hroom
      go_wp2_with (first | (go_at_call 24; refine RM.out.mono ?_; rintro e w' ⟨rfl, rfl⟩) | (go_at_call 26; refine PT.out.mono ?_; rintro e w9 ⟨rfl, V9, g9⟩))
      go_ret
      refine ⟨rfl, V9, ?_⟩
      rw [EQ.out, show kd.answer 1 = kd.put 1 0 [] from if_pos HR.out]
      exact G4.out.trans g9
    · rw [decide_eq_false hroom] at RM
      have HR := Lib.hid hroom
      clear hroom
      go_wp2_with (first | (go_at_call 24; refine RM.out.mono ?_; rintro e w' ⟨rfl, rfl⟩))
      go_ret
      refine ⟨rfl, ?_⟩
      rw [EQ.out, show kd.answer 1 = kd from if_neg HR.out]
      exact ⟨_, G4.out⟩
  subst hs
  go_upto_region 13 with (fail)
  have e1 : ((cm : Int) + 1) % 4294967296 = (p.m.s : Int) := by have := HC1.out; omega
  rw [e1]
  have GC := Lib.hid (show Goes w6 bl (upd V1 2 (.slice sa sn sc)) A (w6.setCell ⟨bl, 7, none⟩ (.int .u32 (p.m.s : Int))) (upd V1 2 (.slice sa sn sc)) (kd.come1 1) from by
    refine G4.out.at_.scalar 7 (.int .u32 (p.m.s : Int)) (kd.come1 1) ?_ (fun m => ?_) (fun m => ?_) rfl
    · rw [HC1.out, HCM.out]; rfl
    · unfold Lk.en Lk.come1 Lk.with; by_cases hm : m = 0 <;> simp [hm, Lk.en]
    · unfold Lk.en Lk.come1 Lk.with; by_cases hm : m = 0 <;> simp [hm, Lk.en])
  obtain ⟨w7, hw7⟩ : ∃ w7, w7 = w6.setCell ⟨bl, 7, none⟩ (.int .u32 (p.m.s : Int)) := ⟨_, rfl⟩
  rw [← hw7] at GC ⊢
  clear hw7 q5 q6 q9
  have EQ := Lib.hid (show (k.less i).comes p = ((kd.come1 1).addGot 1 p.m.B).answer 1 from by
    unfold Lk.comes Lk.handed
    rw [if_pos (show p.m.e = (k.less i).ep from he), if_neg HB0.out, hf]
    show Lk.answer (if p.m.s = ((((k.less i).ackd 1 p.m.k).en 1).come + 1) % 4294967296 then _ else _) 1 = _
    rw [← HKD.out, if_pos (by rw [← HCM.out]; exact HC1.out)])
  have PBR6 : pb ∉ reach bl (upd V1 2 (.slice sa sn sc)) := fun hx => by
    rcases GA.out.kin.reach hx with e | e
    · exact PBR.out e
    · have := PB.out.lt; omega
  have PB7 := Lib.hid (PB4.out.only GC.out.only PBR6)
  have Y7 := Lib.hid (GC.out.body Y4.out)
  have hgl : ((kd.come1 1).en 1).got.length = (k.en 1).got.length := by rw [HKD.out]; rfl
  clear GA PB
  obtain ⟨wC, hwC⟩ : ∃ wC, wC = w7.drew.alloc (.cells #[.slice ya bn yc] 27) := ⟨_, rfl⟩
  have lC : Below w7.heap.size w7 wC := hwC ▸ ((Below.refl w7.heap.size w7).drew.alloc (Nat.le_refl _) _)
  have KC := Lib.hid (GC.out.at_.below lC)
  have YC := Y7.out.move (Only.of_below (S := []) lC) (by simp) (fun x hx => .inl hx)
  obtain ⟨v', wD, hrD, hgD, hcD, hfD, grD, va, vc, rfl⟩ := KC.out.moreGot 1 (by decide) p.m.B y YC (g := w7.heap.size) (by rw [hwC, HY.out]; exact blk_at rfl rfl) (by rw [hgl]; exact HGT.out)
  obtain ⟨gn, hgn⟩ : ∃ gn, gn = ((kd.come1 1).en 1).got.length + 1 := ⟨_, rfl⟩
  rw [← hgn] at hrD hgD
  obtain ⟨vo2, hvo2⟩ : ∃ vo2, vo2 = upd V1 2 (.slice sa sn sc) (2 * 1 + 1) := ⟨_, rfl⟩
  have r1 : w7.cell? ⟨bl, 8, none⟩ = some vo2 := by rw [hvo2]; exact GC.out.at_.cell 8
  have r2 : wC.cell? ⟨bl, 8, none⟩ = some vo2 := by rw [hvo2]; exact KC.out.cell 8
  have r3 : wD.cell? ⟨bl, 8, none⟩ = some vo2 := by rw [hvo2]; exact hcD
  have t1 : w7.cell? ⟨pb, 4, none⟩ = some (.slice ya bn yc) := by rw [← HY.out]; exact PB7.out.cell 4
  have t2 : wC.cell? ⟨pb, 4, none⟩ = some (.slice ya bn yc) := by rw [← HY.out]; exact (PB7.out.below lC PB7.out.lt).cell 4
  have hpv7 : ∀ x, (upd V1 2 (.slice sa sn sc) (2 * 1 + 1)).ownBlock = some x → pb ≠ x := fun x hx e => by
    subst e
    rw [show upd V1 2 (.slice sa sn sc) (2 * 1 + 1) = V1 (2 * 1 + 1) from upd_ne (by decide)] at hx
    exact PBR.out (mem_reach.2 (.inr ⟨2 * 1 + 1, by decide, hx⟩))
  have t3 : wD.cell? ⟨pb, 4, none⟩ = some (.slice ya bn yc) := by
    have := ((PB7.out.below lC PB7.out.lt).grownO grD hpv7).cell 4
    rw [← HY.out]; exact this
  rw [← hvo2] at hrD
  have Q := Lib.hid (show ∀ d w', At2 8 9 (fun w' => w' = w7.drew) (fun w' => w' = wC) (fun w' => w' = wD) d w' → w'.cell? ⟨bl, 8, none⟩ = some vo2 ∧ w'.cell? ⟨pb, 4, none⟩ = some (.slice ya bn yc) from fun d w' h => by
    rcases h.any with rfl | rfl | rfl
    · exact ⟨r1, t1⟩
    · exact ⟨r2, t2⟩
    · exact ⟨r3, t3⟩)
  have HRD := Lib.hid hrD
  have HGD := Lib.hid hgD
  have HWC := Lib.hid hwC
  have QD := Lib.hid r3
  have FD := Lib.hid (show wD.frozen? ⟨bl, 8, none⟩ = false from hfD)
  have LC := Lib.hid lC
  clear hrD hgD hwC r1 r2 r3 t1 t2 t3 hcD hfD grD hvo2 hgn hgl lC YC hpv7 PB7 Y7 HY PBR PBR6 Y4 PB4 HCM HKD HB0 HC1 e1 he he' hb0 hb64
  refine wp_region_gate_tail (fun d w' => At2 8 9 (fun w' => w' = w7.drew) (fun w' => w' = wC) (fun w' => w' = wD) d w') 10 (by kernel_rfl) (by kernel_rfl) ?hI ?_
  case hI => exact At2.start (by rfl) (by rfl) rfl
  simp only [List.take_succ_cons, List.take_zero, List.drop_succ_cons, List.drop_zero]
  refine InvC.invc_value (.pointer (some ⟨bl, 5, none⟩)) (fun u hu => by cases hu) rfl (fun d w' _ _ h => by go_simp; all_goals rfl) (fun d w' _ _ h => At2.keep (by decide) (by decide) h) ?_
  simp only [Act.put, List.setIfInBounds_toArray, List.set_cons_zero, List.set_cons_succ]
  refine InvC.invc_value (.pointer (some ⟨bl, 5, none⟩)) (fun u hu => by cases hu) rfl (fun d w' _ _ h => by go_simp; all_goals rfl) (fun d w' _ _ h => At2.keep (by decide) (by decide) h) ?_
  simp only [Act.put, List.setIfInBounds_toArray, List.set_cons_zero, List.set_cons_succ]
  refine InvC.invc_value (.pointer (some ⟨bl, 5, none⟩)) (fun u hu => by cases hu) rfl (fun d w' _ _ h => by go_simp; all_goals rfl) (fun d w' _ _ h => At2.keep (by decide) (by decide) h) ?_
  simp only [Act.put, List.setIfInBounds_toArray, List.set_cons_zero, List.set_cons_succ]
  refine InvC.invc_value (.pointer (some ⟨bl, 8, none⟩)) (fun u hu => by cases hu) rfl (fun d w' _ _ h => by go_simp; all_goals rfl) (fun d w' _ _ h => At2.keep (by decide) (by decide) h) ?_
  simp only [Act.put, List.setIfInBounds_toArray, List.set_cons_zero, List.set_cons_succ]
  refine InvC.invc_value (vo2) (fun u hu => by cases hu) rfl (fun d w' _ _ h => by have q := (Q.out d w' h).1; go_simp) (fun d w' _ _ h => At2.keep (by decide) (by decide) h) ?_
  simp only [Act.put, List.setIfInBounds_toArray, List.set_cons_zero, List.set_cons_succ]
  refine InvC.invc_value (.pointer (some ⟨pb, 1, none⟩)) (fun u hu => by cases hu) rfl (fun d w' _ _ h => by go_simp; all_goals rfl) (fun d w' _ _ h => At2.keep (by decide) (by decide) h) ?_
  simp only [Act.put, List.setIfInBounds_toArray, List.set_cons_zero, List.set_cons_succ]
  refine InvC.invc_value (.pointer (some ⟨pb, 4, none⟩)) (fun u hu => by cases hu) rfl (fun d w' _ _ h => by go_simp; all_goals rfl) (fun d w' _ _ h => At2.keep (by decide) (by decide) h) ?_
  simp only [Act.put, List.setIfInBounds_toArray, List.set_cons_zero, List.set_cons_succ]
  refine InvC.invc_value (.slice ya bn yc) (fun u hu => by cases hu) rfl (fun d w' _ _ h => by have q := (Q.out d w' h).2; go_simp) (fun d w' _ _ h => At2.keep (by decide) (by decide) h) ?_
  simp only [Act.put, List.setIfInBounds_toArray, List.set_cons_zero, List.set_cons_succ]
  refine InvC.invc_world (.slice (some ⟨w7.heap.size, 0, none⟩) 1 1) (fun u hu => by cases hu) rfl (fun d w' hd hG h => ⟨wC, by
    have e := (h.at_p hd).1
    subst e
    rw [HWC.out]
    go_simp, At2.did_p (by decide) hd h rfl⟩) ?_
  simp only [Act.put, List.setIfInBounds_toArray, List.set_cons_zero, List.set_cons_succ]
  refine InvC.invc_world (.slice va gn vc) (fun u hu => by cases hu) rfl (fun d w' hd hG h => ⟨wD, by
    have e := h.at_q hd (hG.of (by kernel_rfl))
    subst e
    exact exec_append _ _ rfl rfl rfl HRD.out, At2.did_q (by decide) hd (hG.of (by kernel_rfl)) rfl⟩) ?_
  simp only [Act.put, List.setIfInBounds_toArray, List.set_cons_zero, List.set_cons_succ]
  refine InvC.invc_nil fun w8 hI => ?_
  have e6 := hI.done (by rfl)
  subst e6
  have q4 := QD.out
  have f4 := FD.out
  have GO3 := Lib.hid (((G4.out.trans GC.out).keep LC.out).trans HGD.out)
  clear Q QD FD HRD HWC LC HGD KC GC G4
  go_upto_region 14 with (fail)
  obtain ⟨w9, hw9⟩ : ∃ w9, w9 = w8.setCell ⟨bl, 8, none⟩ (.slice va gn vc) := ⟨_, rfl⟩
  rw [← hw9] at GO3 ⊢
  clear hw9 q4 f4
  have RM := Lib.hid (room_any GO3.out.at_)
  by_cases hroom : ((kd.come1 1).addGot 1 p.m.B).fl.length < 1024
  · have PT := Lib.hid (show Calls Try.prog 26 #[.pointer (some ⟨bl, 0, none⟩), .int .i64 1, .int .u32 0, .slice none 0 0] w9 fun e w' => e = .returned (.tuple #[]) ∧ ∃ V', Goes w9 bl _ A w' V' (((kd.come1 1).addGot 1 p.m.B).put 1 0 []) from put_any GO3.out.at_ 1 (by decide) 0 (S := []) (.inl ⟨rfl, rfl⟩) hroom)
    rw [decide_eq_true hroom] at RM
    have HR := Lib.hid hroom
    clear hroom
    go_wp2_with (first | (go_at_call 24; refine RM.out.mono ?_; rintro e w' ⟨rfl, rfl⟩) | (go_at_call 26; refine PT.out.mono ?_; rintro e w9 ⟨rfl, V9, g9⟩))
    go_ret
    refine ⟨rfl, V9, ?_⟩
    rw [EQ.out, show ((kd.come1 1).addGot 1 p.m.B).answer 1 = ((kd.come1 1).addGot 1 p.m.B).put 1 0 [] from if_pos HR.out]
    exact GO3.out.trans g9
  · rw [decide_eq_false hroom] at RM
    have HR := Lib.hid hroom
    clear hroom
    go_wp2_with (first | (go_at_call 24; refine RM.out.mono ?_; rintro e w' ⟨rfl, rfl⟩))
    go_ret
    refine ⟨rfl, ?_⟩
    rw [EQ.out, show ((kd.come1 1).addGot 1 p.m.B).answer 1 = ((kd.come1 1).addGot 1 p.m.B) from if_neg HR.out]
    exact ⟨_, GO3.out⟩
theorem deliver_any (h : LinkAt w bl V A k) (i : Nat) (p : Pk) (hp : k.fl[i]? = some p) (hf : p.f < 2) (hgot : ∀ n, n < 2 → ((k.en n).got.length + 1) * 24 ≤ 140737488355328) : Calls Try.prog 12 #[.pointer (some ⟨bl, 0, none⟩), .int .i64 (i : Int)] w fun e w' => e = .returned (.int .i64 0) ∧ ∃ V', Goes w bl V A w' V' ((k.less i).comes p) := by
  obtain e | e : p.f = 0 ∨ p.f = 1 := by omega
  · exact deliver_ok1 h i p hp e (hgot 1 (by decide))
  · exact deliver_ok0 h i p hp e (hgot 0 (by decide))
end
end Go.Proofs.Ytgnnjinpcdemiaa.Link
/-
  Got of a link by contract. Helper text; no statement is proved here.
-/
set_option linter.unusedVariables false
set_option maxRecDepth 20000
set_option linter.unusedSimpArgs false
namespace Go.Proofs.Ytgnnjinpcdemiaa.Link
open Go.RowKit Go.Proofs.Ytgnnjinpcdemiaa.Base Go.Proofs.Ytgnnjinpcdemiaa.Laws Go.Proofs.Ytgnnjinpcdemiaa.Disk Go.Proofs.Ytgnnjinpcdemiaa.Row Go.Proofs.Ytgnnjinpcdemiaa.Flat Go.Proofs.Ytgnnjinpcdemiaa.InvM
/-- a body is cloned -/
theorem clone_body {w : World} {S : List Nat} {y : Value} {B : List UInt8} (hy : Body w S y B) (S' : List Nat) (hS : ∀ x ∈ S', x < w.heap.size) : ∃ a c w1, Calls Try.prog 25 #[y] w (fun e w' => e = .returned (.slice a B.length c) ∧ w' = w1) ∧ Body w1 S' (.slice a B.length c) B ∧ Below w.heap.size w w1 := by
  rcases hy with ⟨rfl, rfl⟩ | ⟨g, o, c, rfl, h1, h2, h3, h4⟩
  · exact ⟨none, 0, w, (clone_none w).mono (fun e w' h => ⟨h.1, h.2.symm⟩), .inl ⟨rfl, rfl⟩, Below.refl _ _⟩
  · obtain ⟨i1, i2, i3⟩ := cloneW_is w B.length B rfl (by omega)
    refine ⟨some ⟨w.heap.size + 1, 0, none⟩, cloneC w B.length, cloneW w B.length B, clone_exact ⟨g, o, none⟩ B.length c B h1 (by omega) w h3, .inr ⟨_, _, _, rfl, h1, h2, i1, fun hx => ?_⟩, i2⟩
    have := hS _ hx
    omega
theorem RowOf.below {α : Type} {w w' : World} {base : Nat} {S : List Nat} {t : TypeId} {m : Nat} {f : α × Value → List Value} {body : α → List UInt8} {v : Value} {xs : List α} (h : RowOf w base S t m f body v xs) {N : Nat} (hb : Below w.heap.size w w') : RowOf w' base S t m f body v xs :=
  h.move (Only.of_below (S := []) hb) (by simp) (fun x hx => .inl hx) (by simp)
/-- what stands at a place of a row -/
theorem RowOf.at_ {α : Type} {w : World} {base : Nat} {S : List Nat} {t : TypeId} {m : Nat} {f : α × Value → List Value} {body : α → List UInt8} {v : Value} {xs : List α} (h : RowOf w base S t m f body v xs) (hm : ∀ p, (f p).length = m) (i : Nat) (x : α) (hx : xs[i]? = some x) :
    ∃ g c y, v = .slice (some ⟨g, 0, none⟩) xs.length c ∧ g < w.heap.size ∧ (∀ j u, (f (x, y))[j]? = some u → w.cell? ⟨g, i * m + j, none⟩ = some u) ∧ Body w S y (body x) := by
  obtain ⟨ps, e, ⟨hl, h2⟩, h3⟩ := h
  have hlen : ps.length = xs.length := by rw [← e]; simp
  have hi : i < xs.length := (List.getElem?_eq_some_iff.1 hx).1
  rcases h2 with ⟨e1, e2⟩ | ⟨g, cap, cur, e1, hb, hg, hnc, hcm, hsz, htk⟩
  · omega
  obtain ⟨q, hq⟩ : ∃ q, ps[i]? = some q := ⟨_, List.getElem?_eq_getElem (by omega)⟩
  have hqx : q.1 = x := by
    have : xs[i]? = some q.1 := by rw [← e, List.getElem?_map, hq]; rfl
    rw [hx] at this
    exact (Option.some.inj this).symm
  refine ⟨g, cap, q.2, by rw [← hlen]; exact e1, (Array.getElem?_eq_some_iff.1 hg).1, fun j u hu => ?_, by rw [← hqx]; exact h3 q (List.mem_of_getElem? hq)⟩
  have hj : j < m := by have := (List.getElem?_eq_some_iff.1 hu).1; rw [hm] at this; exact this
  have := flat_get (m := m) (f := f) (fun x _ => hm x) hq (by rw [show (x, q.2) = q by rw [← hqx]] at hu; exact hu)
  rw [← htk, List.getElem?_take_of_lt (by
    have h1 : (i + 1) * m ≤ ps.length * m := Nat.mul_le_mul_right m (by omega)
    rw [Nat.add_mul] at h1
    omega)] at this
  rw [cell_of_row w g _ _ _ (0, 0) hg]
  simpa using this
section
variable {w : World} {bl : Nat} {V : Nat → Value} {A : List Nat} {k : Lk}
theorem got_ok0 (h : LinkAt w bl V A k) (hgot : ((k.en 0).got.length + 1) * 24 ≤ 140737488355328) : Calls Try.prog 13 #[.pointer (some ⟨bl, 0, none⟩), .int .i64 0] w fun e w' => ∃ v, e = .returned v ∧ RowOf w' w.heap.size (v.ownBlock.toList ++ (reach bl V ++ A)) 27 1 gc id v (k.en 0).got ∧ Below w.heap.size w w' := by
  obtain ⟨ga, gcp, ev, _⟩ := h.slG 0 (by decide)
  have co : w.cell? ⟨bl, 4, none⟩ = some (V 1) := h.cell 4
  rw [show V 1 = .slice ga (k.en 0).got.length gcp from ev] at co
  have RW := Lib.hid (h.g 0 (by decide))
  rw [ev] at RW
  obtain ⟨gs, hgs⟩ : ∃ gs, gs = (k.en 0).got := ⟨_, rfl⟩
  obtain ⟨n, hn⟩ : ∃ n, n = gs.length := ⟨_, rfl⟩
  rw [← hgs] at RW hgot
  rw [← hgs, ← hn] at co
  have HN := Lib.hid hn
  have SS := Lib.hid (show ∀ x ∈ reach bl V ++ A, x < w.heap.size from fun x hx => by
    rcases List.mem_append.1 hx with hx | hx
    · exact (h.reach_lt hx).2
    · exact h.out x hx)
  have hlt := h.head.lt
  have HGS := Lib.hid hgs
  clear hn h ev hgs
  rw [show (k.en 0).got = gs from HGS.out.symm]
  rw [show gs.length = n from HN.out.symm] at hgot RW
  go_enter Try.func13, Try.ntmps13
  go_wp2
  go_loopw [26, 5] (fun i v wr => ∃ kk : Nat, kk ≤ n ∧ i = .int .i64 kk ∧ RowOf wr w.heap.size (v.ownBlock.toList ++ (reach bl V ++ A)) 27 1 gc id v (gs.take kk) ∧ Below w.heap.size w wr) (fun i _ _ => n - (intOf i).toNat)
  case atStart => exact ⟨0, by omega, rfl, RowOf.nil, Below.refl _ _⟩
  case round =>
    obtain ⟨kk, hk, rfl, hr, hb⟩ := hrel
    have HR := Lib.hid hr
    have HB := Lib.hid hb
    have hsz := hb.size
    clear hr hb
    by_cases hkn : kk < n
    · obtain ⟨B, hB⟩ : ∃ B, gs[kk]? = some B := ⟨_, List.getElem?_eq_getElem (by have := HN.out; omega)⟩
      have HBB := Lib.hid hB
      obtain ⟨g, c', y, ee, hg, hcy, hY⟩ := RW.out.at_ (fun _ => rfl) kk B hB
      rw [← HN.out] at ee
      cases ee
      have cy : wr.cell? ⟨g, kk, none⟩ = some y := by
        have := hcy 0 y rfl
        rw [Nat.mul_one, Nat.add_zero] at this
        exact (Below.cell HB.out (p := ⟨g, kk, none⟩) hg).trans this
      have hYr := hY.move (Only.of_below (S := []) HB.out) (by simp) (fun x hx => .inl hx)
      obtain ⟨ca, cc, w1, hcl, hY1, hb1⟩ := clone_body hYr (u5.ownBlock.toList ++ (reach bl V ++ A)) (fun x hx => by
        rcases List.mem_append.1 hx with hx | hx
        · exact (HR.out.lt (by simpa using hx)).2
        · exact Nat.lt_of_lt_of_le (SS.out x hx) hsz)
      have CB := Lib.hid hcl
      have HB1 := Lib.hid hb1
      have hs1 := hb1.size
      obtain ⟨w2, hw2⟩ : ∃ w2, w2 = w1.alloc (.cells #[.slice ca B.length cc] 27) := ⟨_, rfl⟩
      have b2 : Below w1.heap.size w1 w2 := hw2 ▸ (Below.refl w1.heap.size w1).alloc (Nat.le_refl _) _
      have hR2 := (HR.out.below (N := 0) hb1).below (N := 0) b2
      have hY2 := hY1.move (Only.of_below (S := []) b2) (by simp) (fun x hx => .inl hx)
      have hz2 : Blk w2 w1.heap.size [.slice ca B.length cc] 27 := by rw [hw2]; exact blk_at rfl rfl
      have hlk : (gs.take kk).length = kk := by rw [List.length_take]; have := HN.out; omega
      obtain ⟨v', w3, hr3, hrow, hg3, hvb, va, vc, hvs⟩ := hR2.append 42 42 (.slice none 0 0) 24 Try.underlying42 info_bs rfl (by decide) B (.slice ca B.length cc) hY2 (c := 1) (src_blk hz2 rfl (gc_one rfl)) (by rw [hlk]; omega) (by rw [hlk]; unfold maxLen; omega) (by have := b2.size; omega) (fun g hg => List.mem_append_left _ (by rw [hg]; simp))
      rw [hlk] at hvs
      have HR3 := Lib.hid (show RowOf w3 w.heap.size (v'.ownBlock.toList ++ (reach bl V ++ A)) 27 1 gc id v' (gs.take (kk + 1)) from by
        rw [take_snoc gs kk B HBB.out]
        refine hrow _ (fun x hx => ?_)
        rcases List.mem_append.1 hx with hx | hx
        · rcases hvb with e | e
          · rw [e] at hx; exact .inl (List.mem_append_left _ hx)
          · rw [e] at hx; simp at hx; exact .inr (by omega)
        · exact .inl (List.mem_append_right _ hx))
      have HB3 := Lib.hid (show Below w.heap.size w w3 from by
        have hb2 : Below w.heap.size w w2 := (HB.out.trans (hb1.mono hsz)).trans (b2.mono (by omega))
        refine ⟨hg3.os.trans hb2.os, hg3.tape.trans hb2.tape, hg3.output.trans hb2.output, Nat.le_trans hb2.size hg3.size, fun x hx => (hg3.block x (Nat.lt_of_lt_of_le hx hb2.size) (fun e => ?_)).trans (hb2.block x hx)⟩
        have := (HR.out.lt e.symm).1
        omega)
      have HW2 := Lib.hid hw2
      have HRUN := Lib.hid (hw2 ▸ hr3)
      subst hvs
      clear hr3 hrow hg3 hvb hw2 b2 hR2 hY2 hz2 hcl hY1 hb1 hYr hB
      go_wp2_with (first | (go_at_call 25; refine CB.out.mono ?_; rintro e w' ⟨rfl, rfl⟩) | (at_builtin; refine wpList_world_gg rfl (.slice va (kk + 1) vc) (w' := w3) (exec_append _ _ rfl rfl rfl HRUN.out) ?_))
      refine ⟨⟨kk + 1, by omega, by go_num, HR3.out, HB3.out⟩, ?_⟩
      simp [intOf]; omega
    · go_wp2
      go_ret
      refine ⟨_, rfl, ?_, HB.out⟩
      have := HR.out
      rwa [List.take_of_length_le (by have := HN.out; omega)] at this
theorem got_ok1 (h : LinkAt w bl V A k) (hgot : ((k.en 1).got.length + 1) * 24 ≤ 140737488355328) : Calls Try.prog 13 #[.pointer (some ⟨bl, 0, none⟩), .int .i64 1] w fun e w' => ∃ v, e = .returned v ∧ RowOf w' w.heap.size (v.ownBlock.toList ++ (reach bl V ++ A)) 27 1 gc id v (k.en 1).got ∧ Below w.heap.size w w' := by
  obtain ⟨ga, gcp, ev, _⟩ := h.slG 1 (by decide)
  have co : w.cell? ⟨bl, 8, none⟩ = some (V 3) := h.cell 8
  rw [show V 3 = .slice ga (k.en 1).got.length gcp from ev] at co
  have RW := Lib.hid (h.g 1 (by decide))
  rw [ev] at RW
  obtain ⟨gs, hgs⟩ : ∃ gs, gs = (k.en 1).got := ⟨_, rfl⟩
  obtain ⟨n, hn⟩ : ∃ n, n = gs.length := ⟨_, rfl⟩
  rw [← hgs] at RW hgot
  rw [← hgs, ← hn] at co
  have HN := Lib.hid hn
  have SS := Lib.hid (show ∀ x ∈ reach bl V ++ A, x < w.heap.size from fun x hx => by
    rcases List.mem_append.1 hx with hx | hx
    · exact (h.reach_lt hx).2
    · exact h.out x hx)
  have hlt := h.head.lt
  have HGS := Lib.hid hgs
  clear hn h ev hgs
  rw [show (k.en 1).got = gs from HGS.out.symm]
  rw [show gs.length = n from HN.out.symm] at hgot RW
  go_enter Try.func13, Try.ntmps13
  go_wp2
  go_loopw [26, 5] (fun i v wr => ∃ kk : Nat, kk ≤ n ∧ i = .int .i64 kk ∧ RowOf wr w.heap.size (v.ownBlock.toList ++ (reach bl V ++ A)) 27 1 gc id v (gs.take kk) ∧ Below w.heap.size w wr) (fun i _ _ => n - (intOf i).toNat)
  case atStart => exact ⟨0, by omega, rfl, RowOf.nil, Below.refl _ _⟩
  case round =>
    obtain ⟨kk, hk, rfl, hr, hb⟩ := hrel
    have HR := Lib.hid hr
    have HB := Lib.hid hb
    have hsz := hb.size
    clear hr hb
    by_cases hkn : kk < n
    · obtain ⟨B, hB⟩ : ∃ B, gs[kk]? = some B := ⟨_, List.getElem?_eq_getElem (by have := HN.out; omega)⟩
      have HBB := Lib.hid hB
      obtain ⟨g, c', y, ee, hg, hcy, hY⟩ := RW.out.at_ (fun _ => rfl) kk B hB
      rw [← HN.out] at ee
      cases ee
      have cy : wr.cell? ⟨g, kk, none⟩ = some y := by
        have := hcy 0 y rfl
        rw [Nat.mul_one, Nat.add_zero] at this
        exact (Below.cell HB.out (p := ⟨g, kk, none⟩) hg).trans this
      have hYr := hY.move (Only.of_below (S := []) HB.out) (by simp) (fun x hx => .inl hx)
      obtain ⟨ca, cc, w1, hcl, hY1, hb1⟩ := clone_body hYr (u5.ownBlock.toList ++ (reach bl V ++ A)) (fun x hx => by
        rcases List.mem_append.1 hx with hx | hx
        · exact (HR.out.lt (by simpa using hx)).2
        · exact Nat.lt_of_lt_of_le (SS.out x hx) hsz)
      have CB := Lib.hid hcl
      have HB1 := Lib.hid hb1
      have hs1 := hb1.size
      obtain ⟨w2, hw2⟩ : ∃ w2, w2 = w1.alloc (.cells #[.slice ca B.length cc] 27) := ⟨_, rfl⟩
      have b2 : Below w1.heap.size w1 w2 := hw2 ▸ (Below.refl w1.heap.size w1).alloc (Nat.le_refl _) _
      have hR2 := (HR.out.below (N := 0) hb1).below (N := 0) b2
      have hY2 := hY1.move (Only.of_below (S := []) b2) (by simp) (fun x hx => .inl hx)
      have hz2 : Blk w2 w1.heap.size [.slice ca B.length cc] 27 := by rw [hw2]; exact blk_at rfl rfl
      have hlk : (gs.take kk).length = kk := by rw [List.length_take]; have := HN.out; omega
      obtain ⟨v', w3, hr3, hrow, hg3, hvb, va, vc, hvs⟩ := hR2.append 42 42 (.slice none 0 0) 24 Try.underlying42 info_bs rfl (by decide) B (.slice ca B.length cc) hY2 (c := 1) (src_blk hz2 rfl (gc_one rfl)) (by rw [hlk]; omega) (by rw [hlk]; unfold maxLen; omega) (by have := b2.size; omega) (fun g hg => List.mem_append_left _ (by rw [hg]; simp))
      rw [hlk] at hvs
      have HR3 := Lib.hid (show RowOf w3 w.heap.size (v'.ownBlock.toList ++ (reach bl V ++ A)) 27 1 gc id v' (gs.take (kk + 1)) from by
        rw [take_snoc gs kk B HBB.out]
        refine hrow _ (fun x hx => ?_)
        rcases List.mem_append.1 hx with hx | hx
        · rcases hvb with e | e
          · rw [e] at hx; exact .inl (List.mem_append_left _ hx)
          · rw [e] at hx; simp at hx; exact .inr (by omega)
        · exact .inl (List.mem_append_right _ hx))
      have HB3 := Lib.hid (show Below w.heap.size w w3 from by
        have hb2 : Below w.heap.size w w2 := (HB.out.trans (hb1.mono hsz)).trans (b2.mono (by omega))
        refine ⟨hg3.os.trans hb2.os, hg3.tape.trans hb2.tape, hg3.output.trans hb2.output, Nat.le_trans hb2.size hg3.size, fun x hx => (hg3.block x (Nat.lt_of_lt_of_le hx hb2.size) (fun e => ?_)).trans (hb2.block x hx)⟩
        have := (HR.out.lt e.symm).1
        omega)
      have HW2 := Lib.hid hw2
      have HRUN := Lib.hid (hw2 ▸ hr3)
      subst hvs
      clear hr3 hrow hg3 hvb hw2 b2 hR2 hY2 hz2 hcl hY1 hb1 hYr hB
      go_wp2_with (first | (go_at_call 25; refine CB.out.mono ?_; rintro e w' ⟨rfl, rfl⟩) | (at_builtin; refine wpList_world_gg rfl (.slice va (kk + 1) vc) (w' := w3) (exec_append _ _ rfl rfl rfl HRUN.out) ?_))
      refine ⟨⟨kk + 1, by omega, by go_num, HR3.out, HB3.out⟩, ?_⟩
      simp [intOf]; omega
    · go_wp2
      go_ret
      refine ⟨_, rfl, ?_, HB.out⟩
      have := HR.out
      rwa [List.take_of_length_le (by have := HN.out; omega)] at this
theorem got_any (h : LinkAt w bl V A k) (n : Nat) (hn : n < 2) (hgot : ((k.en n).got.length + 1) * 24 ≤ 140737488355328) : Calls Try.prog 13 #[.pointer (some ⟨bl, 0, none⟩), .int .i64 (n : Int)] w fun e w' => ∃ v, e = .returned v ∧ RowOf w' w.heap.size (v.ownBlock.toList ++ (reach bl V ++ A)) 27 1 gc id v (k.en n).got ∧ Below w.heap.size w w' := by
  obtain rfl | rfl : n = 0 ∨ n = 1 := by omega
  · exact got_ok0 h hgot
  · exact got_ok1 h hgot
theorem got_no (p : Option Addr) (n : Int) (hn : n < 0 ∨ 1 < n) (w : World) : Calls Try.prog 13 #[.pointer p, .int .i64 n] w fun e w' => e = .returned (.slice none 0 0) ∧ w = w' := by
  cases p with
  | none => exact got_nil n w
  | some p =>
    by_cases h1 : n < 0
    · go_enter Try.func13, Try.ntmps13
      go_wp2_with fail
      go_ret
      exact ⟨rfl, rfl⟩
    · have h2 : 1 < n := by omega
      go_enter Try.func13, Try.ntmps13
      go_wp2_with fail
      go_ret
      exact ⟨rfl, rfl⟩
end
end Go.Proofs.Ytgnnjinpcdemiaa.Link
/-
  Flight of a link by contract. Helper text; no statement is proved here.
-/
set_option linter.unusedVariables false
set_option maxRecDepth 20000
set_option linter.unusedSimpArgs false
namespace Go.Proofs.Ytgnnjinpcdemiaa.Link
open Go.RowKit Go.Proofs.Ytgnnjinpcdemiaa.Base Go.Proofs.Ytgnnjinpcdemiaa.Laws Go.Proofs.Ytgnnjinpcdemiaa.Disk Go.Proofs.Ytgnnjinpcdemiaa.Row Go.Proofs.Ytgnnjinpcdemiaa.Flat Go.Proofs.Ytgnnjinpcdemiaa.InvM Go.Proofs.Ytgnnjinpcdemiaa.Codec
section
variable {w : World} {bl : Nat} {V : Nat → Value} {A : List Nat} {k : Lk}
set_option maxHeartbeats 2000000 in
theorem flight_any (h : LinkAt w bl V A k) (hfl : k.fl.length ≤ 1024) : Calls Try.prog 8 #[.pointer (some ⟨bl, 0, none⟩)] w fun e w' => ∃ v, e = .returned v ∧ RowOf w' w.heap.size (v.ownBlock.toList ++ (reach bl V ++ A)) 78 5 pc (·.m.B) v k.fl ∧ Below w.heap.size w w' := by
  obtain ⟨ga, gcp, ev, _⟩ := h.slF
  have co : w.cell? ⟨bl, 9, none⟩ = some (V 4) := h.cell 9
  rw [ev] at co
  have RW := Lib.hid h.fl
  rw [ev] at RW
  obtain ⟨gs, hgs⟩ : ∃ gs, gs = k.fl := ⟨_, rfl⟩
  obtain ⟨n, hn⟩ : ∃ n, n = gs.length := ⟨_, rfl⟩
  rw [← hgs] at RW hfl
  rw [← hgs, ← hn] at co
  have HN := Lib.hid hn
  have SS := Lib.hid (show ∀ x ∈ reach bl V ++ A, x < w.heap.size from fun x hx => by
    rcases List.mem_append.1 hx with hx | hx
    · exact (h.reach_lt hx).2
    · exact h.out x hx)
  have hlt := h.head.lt
  have HGS := Lib.hid hgs
  clear hn h ev hgs
  rw [show k.fl = gs from HGS.out.symm]
  rw [show gs.length = n from HN.out.symm] at hfl RW
  go_enter Try.func8, Try.ntmps8
  go_wp2
  go_loopw [13, 3] (fun i v wr => ∃ kk : Nat, kk ≤ n ∧ i = .int .i64 kk ∧ RowOf wr w.heap.size (v.ownBlock.toList ++ (reach bl V ++ A)) 78 5 pc (·.m.B) v (gs.take kk) ∧ Below w.heap.size w wr) (fun i _ _ => n - (intOf i).toNat)
  case atStart => exact ⟨0, by omega, rfl, RowOf.nil, Below.refl _ _⟩
  case round =>
    obtain ⟨kk, hk, rfl, hr, hb⟩ := hrel
    have HR := Lib.hid hr
    have HB := Lib.hid hb
    have hsz := hb.size
    clear hr hb
    by_cases hkn : kk < n
    · obtain ⟨p, hp⟩ : ∃ p, gs[kk]? = some p := ⟨_, List.getElem?_eq_getElem (by have := HN.out; omega)⟩
      have HPP := Lib.hid hp
      obtain ⟨g, c', y, ee, hg, hcy, hY⟩ := RW.out.at_ (fun _ => rfl) kk p hp
      rw [← HN.out] at ee
      cases ee
      obtain ⟨ya, yc, hy, _, _⟩ := hY.slice
      obtain ⟨yl, hyl⟩ : ∃ yl, yl = p.m.B.length := ⟨_, rfl⟩
      rw [← hyl] at hy
      obtain ⟨pv, hpv⟩ : ∃ pv, pv = pc (p, y) := ⟨_, rfl⟩
      have HPV := Lib.hid hpv
      have LD := Lib.hid (show ∀ j v, pv[j]? = some v → wr.cell? ((⟨g, kk * 5, none⟩ : Addr).add j) = some v from fun j v hj => by
        rw [Addr.add_lit]
        exact (Below.cell HB.out (p := ⟨g, kk * 5 + j, none⟩) hg).trans (hcy j v (by rw [← hpv]; exact hj)))
      have P5 := Lib.hid (show pv.length = 5 by rw [hpv]; rfl)
      have P1 := Lib.hid (show ∀ u ∈ pv, u.oneCell' = true by rw [hpv]; exact pc_one hY.one)
      have Z2 := Lib.hid (blk_at (w := wr) (g := wr.heap.size) (cs := zpk) (t := 78) (arr := #[.int .i64 0, .int .u32 0, .int .u32 0, .int .u32 0, .slice none 0 0]) rfl rfl)
      have HY := Lib.hid (hY.move (Only.of_below (S := []) HB.out) (by simp) (fun x hx => .inl hx))
      have HYS := Lib.hid hy
      clear hp hcy hY hpv hy hyl
      go_upto_region 7 with (first | (refine wpList_value_g rfl (.agg pv.toArray) (exec_load_from rfl rfl LD.out Try.underlying78 rfl (by kernel_rfl) P5.out) ?_) | (refine wpList_store_blk rfl 78 _ _ rfl wr.heap.size 0 5 rfl 78 zpk pv rfl Z2.out (by kernel_rfl) P5.out (by decide) P1.out ?_; intro w3 z3 g3; have Z3 := Lib.hid z3; have G3 := Lib.hid g3; clear z3 g3))
      have B3 := Lib.hid (below_grown ((Below.refl wr.heap.size wr).alloc (Nat.le_refl _) _) G3.out (by simp) (Nat.le_refl _))
      obtain ⟨pb, hpb⟩ : ∃ pb, pb = wr.heap.size := ⟨_, rfl⟩
      have P6 := Lib.hid (show Blk w3 pb (pc (p, y)) 78 from by have := Z3.out; rw [put_all _ _ (by rw [P5.out]; rfl), ← hpb, HPV.out] at this; exact this)
      have hs3 : pb < w3.heap.size := P6.out.lt
      have Y3 := HY.out.move (Only.of_below (S := []) B3.out) (by simp) (fun x hx => .inl hx)
      obtain ⟨ca, cc, w4, hcl, hY4, hb4⟩ := clone_body Y3 (pb :: (u3.ownBlock.toList ++ (reach bl V ++ A))) (fun x hx => by
        rcases List.mem_cons.1 hx with rfl | hx
        · exact hs3
        rcases List.mem_append.1 hx with hx | hx
        · have := (HR.out.lt (by simpa using hx)).2; omega
        · have := SS.out x hx; omega)
      have P64 := Lib.hid (P6.out.below hb4 hs3)
      rw [HYS.out] at hcl
      have CB := Lib.hid hcl
      have q4 : w3.cell? ⟨pb, 4, none⟩ = some (.slice ya yl yc) := by rw [← HYS.out]; exact P6.out.cell 4
      have q44 : w4.cell? ⟨pb, 4, none⟩ = some (.slice ya yl yc) := by rw [← HYS.out]; exact P64.out.cell 4
      have f44 : w4.frozen? ⟨pb, 4, none⟩ = false := P64.out.frozen 4
      rw [← hpb]
      have HPB := Lib.hid hpb
      clear Z3 Z2 LD G3 Y3 hcl hpb
      simp only [Act.put]
      go_upto_region 8 with (go_at_call 25; refine CB.out.mono ?_; intro e w' hh; have he := hh.1; have hw := hh.2; subst he; subst w'; clear hh)
      obtain ⟨w5, hw5⟩ : ∃ w5, w5 = w4.setCell ⟨pb, 4, none⟩ (.slice ca p.m.B.length cc) := ⟨_, rfl⟩
      obtain ⟨qv, hqv⟩ : ∃ qv, qv = pc (p, .slice ca p.m.B.length cc) := ⟨_, rfl⟩
      have Q5 := Lib.hid (show qv.length = 5 by rw [hqv]; rfl)
      have P65 := Lib.hid (show Blk w5 pb qv 78 from by rw [hw5, hqv]; exact P64.out.setCell 4 _)
      have hb5 : Below pb wr w5 := by
        have h4 : Below pb wr w4 := by rw [HPB.out]; exact B3.out.trans (hb4.mono (by have := HPB.out; omega))
        rw [hw5]
        exact h4.setCell (Nat.le_refl _) _
      have hs5 : pb < w5.heap.size := P65.out.lt
      have hY5 : Body w5 (pb :: (u3.ownBlock.toList ++ (reach bl V ++ A))) (.slice ca p.m.B.length cc) p.m.B := by
        rw [hw5]
        exact hY4.move (T := [pb]) ((Only.refl [pb] w4).setCell (by simp) 4 _) (by simp) (fun x hx => .inl hx)
      rw [← hw5]
      clear hw5 q44 f44 q4 P64 P6 hY4
      obtain ⟨w6, hw6⟩ : ∃ w6, w6 = w5.alloc (.cells qv.toArray 78) := ⟨_, rfl⟩
      have b6 : Below w5.heap.size w5 w6 := hw6 ▸ (Below.refl w5.heap.size w5).alloc (Nat.le_refl _) _
      have hb6 : Below pb wr w6 := hb5.trans (b6.mono (by omega))
      have hR6 := HR.out.below (N := 0) (HPB.out ▸ hb6)
      have hY6 : Body w6 (u3.ownBlock.toList ++ (reach bl V ++ A)) (.slice ca p.m.B.length cc) p.m.B := hY5.move (Only.of_below (S := []) b6) (by simp) (fun x hx => .inl (List.mem_cons_of_mem _ hx))
      have hz6 : Blk w6 w5.heap.size (pc (p, .slice ca p.m.B.length cc)) 78 := by rw [hw6, ← hqv]; exact blk_at rfl rfl
      have hlk : (gs.take kk).length = kk := by rw [List.length_take]; have := HN.out; omega
      obtain ⟨v', w7, hr7, hrow, hg7, hvb, va, vc, hvs⟩ := hR6.append 37 37 (.agg #[.int .i64 0, .int .u32 0, .int .u32 0, .int .u32 0, .slice none 0 0]) 48 Try.underlying37 info_pk rfl (by decide) p (.slice ca p.m.B.length cc) hY6 (c := 1) (src_blk hz6 rfl (pc_one rfl)) (by rw [hlk]; omega) (by rw [hlk]; unfold maxLen; omega) (by have := b6.size; have := HPB.out; omega) (fun g hg => List.mem_append_left _ (by rw [hg]; simp))
      rw [hlk] at hvs
      have HR7 := Lib.hid (show RowOf w7 w.heap.size (v'.ownBlock.toList ++ (reach bl V ++ A)) 78 5 pc (·.m.B) v' (gs.take (kk + 1)) from by
        rw [take_snoc gs kk p HPP.out]
        refine hrow _ (fun x hx => ?_)
        rcases List.mem_append.1 hx with hx | hx
        · rcases hvb with e | e
          · rw [e] at hx; exact .inl (List.mem_append_left _ hx)
          · rw [e] at hx; simp at hx; exact .inr (by have := HPB.out; omega)
        · exact .inl (List.mem_append_right _ hx))
      have HB7 := Lib.hid (show Below w.heap.size w w7 from by
        have h6 : Below w.heap.size w w6 := HB.out.trans (hb6.mono (by have := HPB.out; omega))
        exact h6.grown hg7 (by have := b6.size; have := HPB.out; omega) (fun k e => (HR.out.lt e).1))
      have HRUN := Lib.hid (hw6 ▸ hr7)
      subst hvs
      clear hr7 hrow hg7 hvb hw6 b6 hR6 hY6 hz6 hb6 hb5 hY5 hqv
      go_wp2_with (first | (refine wpList_value_g rfl (.agg qv.toArray) (exec_load (cs := qv) (t := 78) rfl rfl P65.out Try.underlying78 rfl (by kernel_rfl) Q5.out) ?_) | (refine wpList_world_gg rfl (.slice (some ⟨w5.heap.size, 0, none⟩) 1 1) (w' := w5.alloc (.cells qv.toArray 78)) (exec_build_one rfl rfl Try.underlying37 info_pk Q5.out (by decide) (by decide)) ?_) | (at_builtin; refine wpList_world_gg rfl (.slice va (kk + 1) vc) (w' := w7) (exec_append _ _ rfl rfl rfl HRUN.out) ?_))
      refine ⟨⟨kk + 1, by omega, by go_num, HR7.out, HB7.out⟩, ?_⟩
      simp [intOf]; omega
    · go_wp2
      go_ret
      refine ⟨_, rfl, ?_, HB.out⟩
      have := HR.out
      rwa [List.take_of_length_le (by have := HN.out; omega)] at this
end
end Go.Proofs.Ytgnnjinpcdemiaa.Link
/-
  Send, Renew of a link by contract. Helper text; no statement is proved here.
-/
set_option linter.unusedVariables false
set_option maxRecDepth 20000
set_option linter.unusedSimpArgs false
namespace Go.Proofs.Ytgnnjinpcdemiaa.Link
open Go.RowKit Go.Proofs.Ytgnnjinpcdemiaa.Base Go.Proofs.Ytgnnjinpcdemiaa.Laws Go.Proofs.Ytgnnjinpcdemiaa.Disk Go.Proofs.Ytgnnjinpcdemiaa.Row Go.Proofs.Ytgnnjinpcdemiaa.Flat Go.Proofs.Ytgnnjinpcdemiaa.InvM Go.Proofs.Ytgnnjinpcdemiaa.Inv Go.Proofs.Ytgnnjinpcdemiaa.InvL Go.Proofs.Ytgnnjinpcdemiaa.InvC Go.Proofs.Ytgnnjinpcdemiaa.InvG
def Lk.sendE (k : Lk) (n : Int) (l : Nat) : Int := if n < 0 ∨ 1 < n ∨ l < 1 ∨ 64 < l then 2 else if k.fl.length < 1024 ∧ (k.en n.toNat).op.length < 256 then 0 else 9
def Lk.sends (k : Lk) (n : Int) (B : List UInt8) : Lk := if k.sendE n B.length = 0 then k.send n.toNat B else k
section
variable {w : World} {bl : Nat} {V : Nat → Value} {A : List Nat} {k : Lk}
theorem send_any (h : LinkAt w bl V A k) (n : Int) (a : Option Addr) (l c : Nat) (B : List UInt8) (hb : Bts w a l c B) (hout : 0 < l → ∀ g o, a = some ⟨g, o, none⟩ → g ∉ reach bl V) : Calls Try.prog 7 #[.pointer (some ⟨bl, 0, none⟩), .int .i64 n, .slice a l c] w fun e w' => e = .returned (.int .i64 (k.sendE n l)) ∧ ∃ V', Goes w bl V A w' V' (k.sends n B) := by
  have hl : B.length = l := hb.1
  by_cases h1 : n < 0 ∨ 1 < n ∨ l < 1 ∨ 64 < l
  · refine (send_arg (some ⟨bl, 0, none⟩) n a l c h1 w).mono ?_
    rintro e w' ⟨rfl, rfl⟩
    have e : k.sendE n l = 2 := if_pos h1
    unfold Lk.sends
    rw [hl, e]
    exact ⟨rfl, V, Goes.refl h⟩
  · have hn : n = 0 ∨ n = 1 := by omega
    by_cases h2 : k.fl.length < 1024 ∧ (k.en n.toNat).op.length < 256
    · have e : k.sendE n l = 0 := by unfold Lk.sendE; rw [if_neg h1, if_pos h2]
      unfold Lk.sends
      rw [hl, e, if_pos rfl]
      rcases hb.2.2.2 with h4 | ⟨g, o, rfl, _⟩
      · omega
      rcases hn with rfl | rfl
      · exact send_ok0 h g o c l B hl (by omega) (by omega) hb h2.1 h2.2 (hout (by omega) g o rfl)
      · exact send_ok1 h g o c l B hl (by omega) (by omega) hb h2.1 h2.2 (hout (by omega) g o rfl)
    · have e : k.sendE n l = 9 := by unfold Lk.sendE; rw [if_neg h1, if_neg h2]
      unfold Lk.sends
      rw [hl, e]
      rcases hn with rfl | rfl
      · refine (send_full0 h a l c (by omega) (by omega) h2).mono ?_
        rintro e w' ⟨rfl, rfl⟩
        exact ⟨rfl, V, Goes.refl h⟩
      · refine (send_full1 h a l c (by omega) (by omega) h2).mono ?_
        rintro e w' ⟨rfl, rfl⟩
        exact ⟨rfl, V, Goes.refl h⟩
def Lk.renew (k : Lk) (e : Nat) : Lk := ⟨e, ⟨[], 0, 0, k.a.got⟩, ⟨[], 0, 0, k.b.got⟩, k.fl⟩
theorem invc_store {P : Program} {I : Array Bool → World → Prop} {G : Nat → Array Bool → Prop} {ops : Array Oper} {Q : Act → Prop} {i : Nat} {a : Act} {o : Oper} {rest : List Oper} (hw : Region.wanted o (yielded ops a.tmps) = true) (hr : ∀ d w, d.getD i true = false → G i d → I d w → ∃ w', (execOp a.eval o).run P w = .ok .skip w' ∧ I (d.setIfInBounds i true) w')
    (h : wpInvC P I G (fun _ => none) ops Q (i + 1) rest (a.put o.dst undef)) : wpInvC P I G (fun _ => none) ops Q i (o :: rest) a :=
  ⟨undef, ⟨(fun u hu => by cases hu), .inl ⟨hw, fun d w hd hG hI => by obtain ⟨w', h1, h2⟩ := hr d w hd hG hI; rw [h1]; exact ⟨rfl, h2⟩⟩⟩, h⟩
def Lk.clr (k : Lk) (n : Nat) : Lk := k.with n { k.en n with op := [] }
def Lk.sent0 (k : Lk) (n : Nat) : Lk := k.with n { k.en n with sent := 0 }
def Lk.come0 (k : Lk) (n : Nat) : Lk := k.with n { k.en n with come := 0 }
theorem LinkAt.cleared (h : LinkAt w bl V A k) (n : Nat) (hn : n < 2) : Goes w bl V A (w.setCell ⟨bl, 1 + 4 * n, none⟩ (.slice none 0 0)) (upd V (2 * n) (.slice none 0 0)) (k.clr n) := by
  refine h.turned (2 * n) (by omega) (.slice none 0 0) (1 + 4 * n) (k.clr n) (below_grownBy (Below.refl _ _)) (.inr (.inr rfl)) ?_ (fun m hm hne => ?_) (fun m hm _ => ?_) (fun _ => ?_) (fun m hm e => ?_) (fun m hm e => by omega) (fun e => by omega)
  · obtain rfl | rfl : n = 0 ∨ n = 1 := by omega
    · rfl
    · rfl
  · obtain ⟨rfl, rfl⟩ | ⟨rfl, rfl⟩ : (n = 0 ∧ m = 1) ∨ (n = 1 ∧ m = 0) := by omega
    · rfl
    · rfl
  · obtain rfl | rfl : n = 0 ∨ n = 1 := by omega
    · obtain rfl | rfl : m = 0 ∨ m = 1 := by omega
      · rfl
      · rfl
    · obtain rfl | rfl : m = 0 ∨ m = 1 := by omega
      · rfl
      · rfl
  · obtain rfl | rfl : n = 0 ∨ n = 1 := by omega
    · rfl
    · rfl
  · obtain rfl : m = n := by omega
    have e : ((k.clr m).en m).op = [] := by
      obtain rfl | rfl : m = 0 ∨ m = 1 := by omega
      · rfl
      · rfl
    rw [e]
    exact RowOf.nil
theorem en_with (k : Lk) (n m : Nat) (e : En) (hn : n < 2) (hm : m < 2) : (k.with n e).en m = if m = n then e else k.en m := by
  obtain rfl | rfl : n = 0 ∨ n = 1 := by omega
  · obtain rfl | rfl : m = 0 ∨ m = 1 := by omega
    · rfl
    · rfl
  · obtain rfl | rfl : m = 0 ∨ m = 1 := by omega
    · rfl
    · rfl
theorem LinkAt.sentAt (h : LinkAt w bl V A k) (n : Nat) (hn : n < 2) : Goes w bl V A (w.setCell ⟨bl, 2 + 4 * n, none⟩ (.int .u32 0)) V (k.sent0 n) := by
  refine h.scalar _ _ _ ?_ (fun m => ?_) (fun m => ?_) ?_ <;> (obtain rfl | rfl : n = 0 ∨ n = 1 := by omega) <;> first | rfl | (unfold Lk.sent0 Lk.en Lk.with; by_cases hm : m = 0 <;> simp [hm, Lk.en])
theorem LinkAt.comeAt (h : LinkAt w bl V A k) (n : Nat) (hn : n < 2) : Goes w bl V A (w.setCell ⟨bl, 3 + 4 * n, none⟩ (.int .u32 0)) V (k.come0 n) := by
  refine h.scalar _ _ _ ?_ (fun m => ?_) (fun m => ?_) ?_ <;> (obtain rfl | rfl : n = 0 ∨ n = 1 := by omega) <;> first | rfl | (unfold Lk.come0 Lk.en Lk.with; by_cases hm : m = 0 <;> simp [hm, Lk.en])
theorem LinkAt.epochAt (h : LinkAt w bl V A k) (e : Nat) : Goes w bl V A (w.setCell ⟨bl, 0, none⟩ (.int .u32 (e : Int))) V { k with ep := e } :=
  h.scalar _ _ _ rfl (fun m => rfl) (fun m => rfl) rfl
end
end Go.Proofs.Ytgnnjinpcdemiaa.Link
/-
  awake by contract. Helper text; no statement is proved here.
-/
set_option linter.unusedVariables false
set_option maxRecDepth 20000
set_option linter.unusedSimpArgs false
namespace Go.Proofs.Ytgnnjinpcdemiaa.Link
open Go.RowKit Go.Proofs.Ytgnnjinpcdemiaa.Base Go.Proofs.Ytgnnjinpcdemiaa.Laws Go.Proofs.Ytgnnjinpcdemiaa.Disk Go.Proofs.Ytgnnjinpcdemiaa.Row Go.Proofs.Ytgnnjinpcdemiaa.Flat Go.Proofs.Ytgnnjinpcdemiaa.InvM
def k0 : Lk := ⟨0, ⟨[], 0, 0, []⟩, ⟨[], 0, 0, []⟩, []⟩
def k1 : Lk := k0.send 0 [5]
def k2 : Lk := (k1.less 0).comes ⟨0, ⟨0, 1, 0, [5]⟩⟩
theorem k1_got (n : Nat) (hn : n < 2) : ((k1.en n).got.length + 1) * 24 ≤ 140737488355328 := by
  obtain rfl | rfl : n = 0 ∨ n = 1 := by omega
  · decide
  · decide
end Go.Proofs.Ytgnnjinpcdemiaa.Link
/-
  Slices that came in, read as lists. Helper text; no statement is proved here.
-/
set_option linter.unusedVariables false
set_option maxRecDepth 20000
set_option linter.unusedSimpArgs false
namespace Go.Proofs.Ytgnnjinpcdemiaa.Flat
open Go.RowKit Go.Proofs.Ytgnnjinpcdemiaa.Base Go.Proofs.Ytgnnjinpcdemiaa.Laws
section
variable {H : Type} {enc : TypeId × Value → H} {base : Nat} {spare : Nat → Bool} {held : Bool} {W : World}
theorem cellsu8 : Try.prog.cellsOf 5 = 1 := by kernel_rfl
theorem bytesu8 : Try.prog.bytesOf 5 = 1 := by kernel_rfl
/-- bytes that came in -/
theorem bytes_in {a : Option Addr} {len cap : Nat} (h : Opens.LfOk enc Try.prog W base spare held (.slice 5) (.slice a len cap)) : ∃ l, Bts W a len cap l ∧ len ≤ 140737488351232 := by
  obtain ⟨l, h1, h2, h3, h4, h5⟩ := Opens.bytes_of_lf Try.underlying5 cellsu8 bytesu8 h
  exact ⟨l, ⟨h1, h2, h3, h5⟩, h4⟩
/-- pieces that came in -/
theorem sl_in {α : Type} {f : α → List Value} {Ok : α → Prop} {e : TypeId} {m : Nat} {ks : List Opens.Lf} (hm0 : 0 < m) (hlv : Opens.leaves Try.prog 8 e = some ks) (hce : Try.prog.cellsOf e = m)
    (hin : ∀ cs : List Value, cs.length = m → Opens.Fits enc Try.prog W base spare held ks cs → ∃ x, cs = f x ∧ Ok x)
    {a : Option Addr} {len cap : Nat} (h : Opens.LfOk enc Try.prog W base spare held (.slice e) (.slice a len cap)) : ∃ l, Sl W f m a len cap l ∧ (∀ x ∈ l, Ok x) ∧ len * Try.prog.bytesOf e ≤ reachBytes := by
  rcases h with h | ⟨ad, len', cap', h, hb, hl, hm, hr, hq⟩
  · simp only [Value.slice.injEq] at h
    obtain ⟨rfl, rfl, rfl⟩ := h
    exact ⟨[], sl_nil _ _ (by unfold maxLen; omega), by simp, by simp⟩
  · simp only [Value.slice.injEq] at h
    obtain ⟨rfl, rfl, rfl⟩ := h
    rw [hce] at hq
    obtain ⟨xs, hxl, hxs⟩ := Opens.choose_list (q := fun i (x : α) => Ok x ∧ (f x).length = m ∧ ∀ j u, (f x)[j]? = some u → W.cell? ((ad.add (i * m)).add j) = some u) len fun i hi => by
      obtain ⟨cs, n, y, h1, h2, h3⟩ := hq i hi
      have hf := Opens.fits_of_trod 8 _ _ hlv n cs y h2 h3
      obtain ⟨_, hcl, hc⟩ := World.cells?_some h1
      obtain ⟨x, rfl, hok⟩ := hin cs hcl hf
      refine ⟨x, hok, hcl, fun j u hu => ?_⟩
      have hj := (List.getElem?_eq_some_iff.1 hu).1
      rw [hcl] at hj
      rw [hc j hj]
      exact hu
    have hlen : ∀ x ∈ xs, (f x).length = m := fun x hx => by
      obtain ⟨i, hi⟩ := List.mem_iff_getElem?.1 hx
      exact (hxs i x hi).2.1
    refine ⟨xs, ⟨hxl, hl, hm, hlen, ?_⟩, fun x hx => by
      obtain ⟨i, hi⟩ := List.mem_iff_getElem?.1 hx
      exact (hxs i x hi).1, hr⟩
    by_cases h0 : len = 0
    · exact .inl h0
    · obtain ⟨x0, hx0⟩ : ∃ u, xs[0]? = some u := ⟨_, List.getElem?_eq_getElem (by omega)⟩
      obtain ⟨_, hl0, hc0⟩ := hxs 0 x0 hx0
      obtain ⟨v0, hv0⟩ : ∃ v, (f x0)[0]? = some v := ⟨_, List.getElem?_eq_getElem (by omega)⟩
      have hs := World.cell?_spot (hc0 0 v0 hv0)
      obtain ⟨b, o, sp⟩ := ad
      have hsp : sp = none := by simpa [Addr.add] using hs
      subst hsp
      refine .inr ⟨b, o, rfl, fun j u hu => ?_⟩
      have hj := (List.getElem?_eq_some_iff.1 hu).1
      rw [flat_len hlen] at hj
      have hi : j / m < xs.length := Nat.div_lt_of_lt_mul (by rw [Nat.mul_comm]; exact hj)
      obtain ⟨x, hx⟩ : ∃ r, xs[j / m]? = some r := ⟨_, List.getElem?_eq_getElem hi⟩
      obtain ⟨_, hlx, hcells⟩ := hxs _ x hx
      have hmj : j % m < (f x).length := by rw [hlx]; exact Nat.mod_lt _ hm0
      have hg : (f x)[j % m]? = some ((f x)[j % m]'hmj) := List.getElem?_eq_getElem hmj
      have e := flat_get hlen hx hg
      have hd : j / m * m + j % m = j := by rw [Nat.mul_comm]; exact Nat.div_add_mod _ _
      rw [hd, hu] at e
      have := hcells _ _ hg
      rw [← Option.some.inj e] at this
      simp only [Addr.add_lit] at this
      rw [show o + j = o + j / m * m + j % m from by rw [Nat.add_assoc, hd]]
      exact this
end
end Go.Proofs.Ytgnnjinpcdemiaa.Flat
/-
  Slices of bytes in a slice that came in. Helper text; no statement is proved here.
-/
set_option linter.unusedVariables false
set_option maxRecDepth 20000
set_option linter.unusedSimpArgs false
namespace Go.Proofs.Ytgnnjinpcdemiaa.Flat
open Go.RowKit Go.Proofs.Ytgnnjinpcdemiaa.Base Go.Proofs.Ytgnnjinpcdemiaa.Laws
/-- slices of bytes in a slice -/
def Pcs (w : World) (a : Option Addr) (n cap : Nat) (ps : List (List UInt8)) : Prop :=
  ps.length = n ∧ n ≤ cap ∧ cap ≤ maxLen ∧ n ≤ 11728124029612 ∧ (n = 0 ∨ ∃ b o, a = some ⟨b, o, none⟩ ∧ ∀ i p, ps[i]? = some p → ∃ a' len' cap', w.cell? ⟨b, o + i, none⟩ = some (.slice a' len' cap') ∧ Bts w a' len' cap' p ∧ len' ≤ 140737488351232)
section
variable {H : Type} {enc : TypeId × Value → H} {base : Nat} {spare : Nat → Bool} {held : Bool} {W : World}
def gp (p : List UInt8 × Value) : List Value := [p.2]
theorem pcs_in {a : Option Addr} {len cap : Nat} (h : Opens.LfOk enc Try.prog W base spare held (.slice 27) (.slice a len cap)) : ∃ ps, Pcs W a len cap ps := by
  obtain ⟨l, ⟨h1, h2, h3, h4, h5⟩, hok, hb⟩ := sl_in (f := gp) (m := 1) (Ok := fun p => ∃ a l c, p.2 = .slice a l c ∧ Bts W a l c p.1 ∧ l ≤ 140737488351232) (ks := [.slice 5]) (by decide) (by kernel_rfl) (by kernel_rfl) (fun cs hcs hf => by
    obtain ⟨c, cs', rfl, hc, _⟩ := hf.next
    obtain rfl : cs' = [] := List.eq_nil_of_length_eq_zero (by simpa using hcs)
    rcases hc with rfl | ⟨a', l', c', rfl, hr⟩
    · exact ⟨([], .slice none 0 0), rfl, none, 0, 0, rfl, ⟨rfl, Nat.le_refl _, by unfold maxLen; omega, .inl rfl⟩, by omega⟩
    · obtain ⟨u, hu, hl⟩ := bytes_in (a := some a') (len := l') (cap := c') (.inr ⟨a', l', c', rfl, hr⟩)
      exact ⟨(u, .slice (some a') l' c'), rfl, some a', l', c', rfl, hu, hl⟩) h
  have hbo : Try.prog.bytesOf 27 = 24 := by kernel_rfl
  rw [hbo] at hb
  refine ⟨l.map Prod.fst, by simp [h1], h2, h3, by unfold reachBytes at hb; omega, ?_⟩
  rcases h5 with h5 | ⟨b, o, rfl, hc⟩
  · exact .inl h5
  · refine .inr ⟨b, o, rfl, fun i p hp => ?_⟩
    rw [List.getElem?_map] at hp
    obtain ⟨q, hq, rfl⟩ := Option.map_eq_some_iff.1 hp
    obtain ⟨a', l', c', e, hb', hl'⟩ := hok q (List.mem_of_getElem? hq)
    refine ⟨a', l', c', ?_, hb', hl'⟩
    have := hc (i * 1 + 0) q.2 (flat_get (m := 1) (f := gp) (fun x _ => rfl) hq rfl)
    rw [e] at this
    simpa using this
end
end Go.Proofs.Ytgnnjinpcdemiaa.Flat
/-
  A link that lives, beside what was there when the call began. Helper text; no statement is proved here.
-/
set_option linter.unusedVariables false
set_option maxRecDepth 20000
set_option linter.unusedSimpArgs false
namespace Go.Proofs.Ytgnnjinpcdemiaa.Link
open Go.RowKit Go.Proofs.Ytgnnjinpcdemiaa.Base Go.Proofs.Ytgnnjinpcdemiaa.Laws Go.Proofs.Ytgnnjinpcdemiaa.Disk Go.Proofs.Ytgnnjinpcdemiaa.Row Go.Proofs.Ytgnnjinpcdemiaa.Flat Go.Proofs.Ytgnnjinpcdemiaa.InvM
/-- a link of blocks from bl on, and nothing of what was there has changed -/
def Lv (w0 : World) (bl : Nat) (A : List Nat) (k : Lk) (w : World) : Prop := ∃ V, LinkAt w bl V A k ∧ Below w0.heap.size w0 w ∧ w0.heap.size ≤ bl
section
variable {w0 w w' : World} {bl : Nat} {A : List Nat} {k k' : Lk}
theorem Goes.lv {V V' : Nat → Value} (h : LinkAt w bl V A k) (hb : Below w0.heap.size w0 w) (hbl : w0.heap.size ≤ bl) (g : Goes w bl V A w' V' k') : Lv w0 bl A k' w' := by
  have h1 := hb.size
  refine ⟨V', g.at_, hb.trans ⟨g.only.os, g.only.tape, g.only.output, g.only.size, fun x hx => g.only.block x (by omega) fun hm => ?_⟩, hbl⟩
  have := h.reach_lt hm
  omega
theorem Lv.goesB (h : Lv w0 bl A k w) (hb : Below w.heap.size w w') : Lv w0 bl A k w' := by
  obtain ⟨V, h1, h2, h3⟩ := h
  exact Goes.lv h1 h2 h3 (Goes.of_below h1 hb)
theorem lv_new (h : Below w0.heap.size w0 w) : Calls Try.prog 4 #[] w fun e w' => e = .returned (.pointer (some ⟨w.heap.size, 0, none⟩)) ∧ Lv w0 w.heap.size [] k0 w' := by
  refine (new_any w).mono ?_
  rintro e w' ⟨rfl, h1, h2⟩
  exact ⟨rfl, _, h1, h.trans (h2.mono h.size), h.size⟩
theorem lv_send (h : Lv w0 bl A k w) (n : Int) (a : Option Addr) (l c : Nat) (B : List UInt8) (hb : Bts w a l c B) (hin : 0 < l → ∀ g o, a = some ⟨g, o, none⟩ → g < w0.heap.size) : Calls Try.prog 7 #[.pointer (some ⟨bl, 0, none⟩), .int .i64 n, .slice a l c] w fun e w' => e = .returned (.int .i64 (k.sendE n l)) ∧ Lv w0 bl A (k.sends n B) w' := by
  obtain ⟨V, h1, h2, h3⟩ := h
  refine (send_any h1 n a l c B hb (fun hl g o e hx => by have := h1.reach_lt hx; have := hin hl g o e; omega)).mono ?_
  rintro e w' ⟨rfl, V', g⟩
  exact ⟨rfl, Goes.lv h1 h2 h3 g⟩
theorem lv_flight (h : Lv w0 bl A k w) (hfl : k.fl.length ≤ 1024) : Calls Try.prog 8 #[.pointer (some ⟨bl, 0, none⟩)] w fun e w' => ∃ a c, e = .returned (.slice a k.fl.length c) ∧ Lv w0 bl A k w' := by
  obtain ⟨V, h1, h2, h3⟩ := h
  refine (flight_any h1 hfl).mono ?_
  rintro e w' ⟨v, rfl, hr, hb⟩
  obtain ⟨ps, e, ho, _⟩ := hr
  obtain ⟨a, c, e1, _⟩ := own_slice ho (by decide)
  exact ⟨a, c, by rw [e1, ← e]; simp, Goes.lv h1 h2 h3 (Goes.of_below h1 hb)⟩
theorem lv_open (h : Lv w0 bl A k w) (n : Nat) (hn : n < 2) : Calls Try.prog 16 #[.pointer (some ⟨bl, 0, none⟩), .int .i64 (n : Int)] w fun e w' => e = .returned (.int .i64 ((k.en n).op.length : Nat)) ∧ w = w' := by
  obtain ⟨V, h1, h2, h3⟩ := h
  exact open_any h1 n hn
def Lk.dels (k : Lk) (i : Nat) : Lk := match k.fl[i]? with | some p => (k.less i).comes p | none => k
theorem lv_deliver (h : Lv w0 bl A k w) (i : Nat) (hi : i < k.fl.length) (hf : ∀ p ∈ k.fl, p.f < 2) (hg : ∀ n, n < 2 → ((k.en n).got.length + 1) * 24 ≤ 140737488355328) : Calls Try.prog 12 #[.pointer (some ⟨bl, 0, none⟩), .int .i64 (i : Int)] w fun e w' => e = .returned (.int .i64 0) ∧ Lv w0 bl A (k.dels i) w' := by
  obtain ⟨V, h1, h2, h3⟩ := h
  obtain ⟨p, hp⟩ : ∃ p, k.fl[i]? = some p := ⟨_, List.getElem?_eq_getElem hi⟩
  refine (deliver_any h1 i p hp (hf p (List.mem_of_getElem? hp)) hg).mono ?_
  rintro e w' ⟨rfl, V', g⟩
  refine ⟨rfl, ?_⟩
  unfold Lk.dels
  rw [hp]
  exact Goes.lv h1 h2 h3 g
/-- a slice of bodies, each readable -/
def Txt (w : World) (v : Value) (l : List (List UInt8)) : Prop := ∃ a c, v = .slice a l.length c ∧ l.length ≤ maxLen ∧ l.length ≤ c ∧ ∀ i B, l[i]? = some B → ∃ g a' c', a = some ⟨g, 0, none⟩ ∧ w.cell? ⟨g, i, none⟩ = some (.slice a' B.length c') ∧ Bts w a' B.length c' B
theorem txt_of_row {base : Nat} {S : List Nat} {v : Value} {l : List (List UInt8)} (h : RowOf w base S 27 1 gc id v l) : Txt w v l := by
  obtain ⟨ps, e, ho, hb⟩ := h
  have hlen : ps.length = l.length := by rw [← e]; simp
  rcases ho.2 with ⟨e1, e2⟩ | ⟨g, cap, cur, e1, hbs, hg, hnc, hcm, hsz, htk⟩
  · have : l = [] := List.eq_nil_of_length_eq_zero (by omega)
    subst this
    exact ⟨none, 0, e1, by unfold maxLen; simp, by simp, fun i B hB => by simp at hB⟩
  · refine ⟨some ⟨g, 0, none⟩, cap, by rw [e1, hlen], by omega, by omega, fun i B hB => ?_⟩
    obtain ⟨g', c, y, e2, _, hc, hy⟩ := (show RowOf w base S 27 1 gc id v l from ⟨ps, e, ho, hb⟩).at_ (fun _ => rfl) i B hB
    rw [e1, hlen] at e2
    cases e2
    obtain ⟨a', c', rfl, hbt, _⟩ := hy.slice
    have := hc 0 _ rfl
    exact ⟨g, a', c', rfl, by simpa using this, hbt⟩
theorem lv_got (h : Lv w0 bl A k w) (n : Nat) (hn : n < 2) (hg : ((k.en n).got.length + 1) * 24 ≤ 140737488355328) : Calls Try.prog 13 #[.pointer (some ⟨bl, 0, none⟩), .int .i64 (n : Int)] w fun e w' => ∃ v, e = .returned v ∧ Txt w' v (k.en n).got ∧ Lv w0 bl A k w' := by
  obtain ⟨V, h1, h2, h3⟩ := h
  refine (got_any h1 n hn hg).mono ?_
  rintro e w' ⟨v, rfl, hr, hb⟩
  exact ⟨v, rfl, txt_of_row hr, Goes.lv h1 h2 h3 (Goes.of_below h1 hb)⟩
end
end Go.Proofs.Ytgnnjinpcdemiaa.Link
/-
  Tick of a link by contract. Helper text; no statement is proved here.
-/
set_option linter.unusedVariables false
set_option maxRecDepth 20000
set_option linter.unusedSimpArgs false
namespace Go.Proofs.Ytgnnjinpcdemiaa.Link
open Go.RowKit Go.Proofs.Ytgnnjinpcdemiaa.Base Go.Proofs.Ytgnnjinpcdemiaa.Laws Go.Proofs.Ytgnnjinpcdemiaa.Disk Go.Proofs.Ytgnnjinpcdemiaa.Row Go.Proofs.Ytgnnjinpcdemiaa.Flat Go.Proofs.Ytgnnjinpcdemiaa.InvM
def Lk.try1 (k : Lk) (n : Nat) (m : Mk) : Lk := if k.fl.length < 1024 then k.put n m.s m.B else k
def Lk.tries (k : Lk) (n : Nat) (ms : List Mk) : Lk := ms.foldl (fun k m => k.try1 n m) k
theorem tries_snoc (k : Lk) (n : Nat) (ms : List Mk) (m : Mk) : k.tries n (ms ++ [m]) = (k.tries n ms).try1 n m := by
  unfold Lk.tries; rw [List.foldl_append]; rfl
theorem try1_en (k : Lk) (n : Nat) (m : Mk) : (k.try1 n m).ep = k.ep ∧ (k.try1 n m).a = k.a ∧ (k.try1 n m).b = k.b ∧ k.fl.length ≤ (k.try1 n m).fl.length ∧ (k.fl.length ≤ 1024 → (k.try1 n m).fl.length ≤ 1024) := by
  unfold Lk.try1
  split
  · refine ⟨rfl, rfl, rfl, ?_, fun h => ?_⟩
    · show k.fl.length ≤ (k.fl ++ [_]).length; simp
    · show (k.fl ++ [_]).length ≤ 1024; simp; omega
  · exact ⟨rfl, rfl, rfl, Nat.le_refl _, fun h => h⟩
theorem tries_en (k : Lk) (n : Nat) (ms : List Mk) : (k.tries n ms).ep = k.ep ∧ (k.tries n ms).a = k.a ∧ (k.tries n ms).b = k.b ∧ k.fl.length ≤ (k.tries n ms).fl.length ∧ (k.fl.length ≤ 1024 → (k.tries n ms).fl.length ≤ 1024) := by
  unfold Lk.tries
  induction ms generalizing k with
  | nil => exact ⟨rfl, rfl, rfl, Nat.le_refl _, fun h => h⟩
  | cons m ms ih =>
    obtain ⟨h1, h2, h3, h4, h5⟩ := ih (k.try1 n m)
    obtain ⟨g1, g2, g3, g4, g5⟩ := try1_en k n m
    exact ⟨h1.trans g1, h2.trans g2, h3.trans g3, Nat.le_trans g4 h4, fun h => h5 (g5 h)⟩
def Lk.tick (k : Lk) : Lk := (k.tries 0 k.a.op).tries 1 k.b.op
section
variable {w : World} {bl : Nat} {V : Nat → Value} {A : List Nat} {k : Lk}
set_option maxHeartbeats 2000000 in
theorem tick_any (h : LinkAt w bl V A k) (hfl : k.fl.length ≤ 1024) (hop : ∀ n, n < 2 → (k.en n).op.length ≤ 256) : Calls Try.prog 11 #[.pointer (some ⟨bl, 0, none⟩)] w fun e w' => e = .returned (.int .i64 ((k.tick.fl.length - k.fl.length : Nat) : Int)) ∧ ∃ V', Goes w bl V A w' V' k.tick := by
  obtain ⟨F0, hF0⟩ : ∃ F0, F0 = k.fl.length := ⟨_, rfl⟩
  have HF := Lib.hid hF0
  have HOP := Lib.hid hop
  have G0 := Lib.hid (Goes.refl h)
  rw [← hF0] at hfl ⊢
  clear h hop hF0
  go_enter Try.func11, Try.ntmps11
  go_wp2_with fail
  refine wp_loop_rounds 3 ?_
  rw [rounds_succ]
  obtain ⟨ops0, hops0⟩ : ∃ o, o = (k.en 0).op := ⟨_, rfl⟩
  obtain ⟨oa0, oc0, ov0, _⟩ := G0.out.at_.slO 0 (by decide)
  obtain ⟨N0, hN0⟩ : ∃ N, N = ops0.length := ⟨_, rfl⟩
  have hN256_0 : N0 ≤ 256 := by rw [hN0, hops0]; exact HOP.out 0 (by decide)
  rw [← hops0, ← hN0] at ov0
  have c0 : w.cell? ⟨bl, 1, none⟩ = some (.slice oa0 N0 oc0) := by rw [← ov0]; exact G0.out.at_.cell 1
  have HN0 := Lib.hid hN0
  have HO0 := Lib.hid hops0
  have HV0 := Lib.hid ov0
  clear hops0 hN0 ov0
  go_wp2_with fail
  go_loopw [20, 3] (fun i nn wr => ∃ j : Nat, ∃ V', j ≤ N0 ∧ i = .int .i64 j ∧ nn = .int .i64 (((k.tries 0 (ops0.take j)).fl.length - F0 : Nat) : Int) ∧ Goes w bl V A wr V' (k.tries 0 (ops0.take j)) ∧ V' 0 = .slice oa0 N0 oc0) (fun i _ _ => N0 - (intOf i).toNat)
  case atStart => exact ⟨0, _, by omega, rfl, (by have := HF.out; show _ = Value.int .i64 ((k.fl.length - F0 : Nat) : Int); rw [show k.fl.length - F0 = 0 by omega]; rfl), G0.out, HV0.out⟩
  case round =>
    obtain ⟨j, V', hj, rfl, rfl, hg, hv'⟩ := hrel
    have HG := Lib.hid hg
    have HV' := Lib.hid hv'
    clear hg hv'
    by_cases hjn : j < N0
    · obtain ⟨m, hm⟩ : ∃ m, ops0[j]? = some m := ⟨_, List.getElem?_eq_getElem (by have := HN0.out; omega)⟩
      have HM := Lib.hid hm
      have hops : ((k.tries 0 (ops0.take j)).en 0).op = ops0 := by
        have := congrArg En.op (tries_en k 0 (ops0.take j)).2.1
        exact this.trans HO0.out.symm
      obtain ⟨g, c', y, ee, hgl, hcy, hY⟩ := (HG.out.at_.o 0 (by decide)).at_ (fun _ => rfl) j m (by rw [hops]; exact hm)
      rw [show V' (2 * 0) = _ from HV'.out] at ee
      obtain ⟨rfl, _, _⟩ : oa0 = some ⟨g, 0, none⟩ ∧ True ∧ True := by
        simp only [Value.slice.injEq] at ee
        exact ⟨ee.1, trivial, trivial⟩
      obtain ⟨ya, yc, hy, _, _⟩ := hY.slice
      obtain ⟨yl, hyl⟩ : ∃ yl, yl = m.B.length := ⟨_, rfl⟩
      rw [← hyl] at hy
      obtain ⟨mv, hmv⟩ : ∃ mv, mv = mc (m, y) := ⟨_, rfl⟩
      have HMV := Lib.hid hmv
      have LD := Lib.hid (show ∀ i v, mv[i]? = some v → wr.cell? ((⟨g, j * 4, none⟩ : Addr).add i) = some v from fun i v hi => by
        rw [Addr.add_lit]
        exact hcy i v (by rw [← hmv]; exact hi))
      have M4 := Lib.hid (show mv.length = 4 by rw [hmv]; rfl)
      have M1 := Lib.hid (show ∀ u ∈ mv, u.oneCell' = true by rw [hmv]; exact mc_one hY.one)
      have Z2 := Lib.hid (blk_at (w := wr) (g := wr.heap.size) (cs := zmk) (t := 75) (arr := #[.int .u32 0, .int .u32 0, .int .u32 0, .slice none 0 0]) rfl rfl)
      have HY := Lib.hid hY
      have HYS := Lib.hid hy
      clear hm hops ee hcy hY hmv hy hyl
      go_upto_region 10 with (first | (refine wpList_value_g rfl (.agg mv.toArray) (exec_load_from rfl rfl LD.out Try.underlying75 rfl (by kernel_rfl) M4.out) ?_) | (refine wpList_store_blk rfl 75 _ _ rfl wr.heap.size 0 4 rfl 75 zmk mv rfl Z2.out (by kernel_rfl) M4.out (by decide) M1.out ?_; intro w3 z3 g3; have Z3 := Lib.hid z3; have G3 := Lib.hid g3; clear z3 g3))
      have B3 := Lib.hid (below_grown ((Below.refl wr.heap.size wr).alloc (Nat.le_refl _) _) G3.out (by simp) (Nat.le_refl _))
      obtain ⟨pb, hpb⟩ : ∃ pb, pb = wr.heap.size := ⟨_, rfl⟩
      have P6 := Lib.hid (show Blk w3 pb (mc (m, y)) 75 from by have := Z3.out; rw [put_all _ _ (by rw [M4.out]; rfl), ← hpb, HMV.out] at this; exact this)
      have H3 := Lib.hid (HG.out.keep B3.out)
      have Y3 := Lib.hid (HY.out.move (Only.of_below (S := []) B3.out) (by simp) (fun x hx => .inl hx))
      have q1 : w3.cell? ⟨pb, 1, none⟩ = some (.int .u32 (m.s : Int)) := P6.out.cell 1
      have q3 : w3.cell? ⟨pb, 3, none⟩ = some (.slice ya yl yc) := by rw [← HYS.out]; exact P6.out.cell 3
      have SN := Lib.hid (show k.tries 0 (ops0.take (j + 1)) = (k.tries 0 (ops0.take j)).try1 0 m from by rw [take_snoc ops0 j m HM.out, tries_snoc])
      have GE := Lib.hid (show F0 ≤ (k.tries 0 (ops0.take j)).fl.length from by have := (tries_en k 0 (ops0.take j)).2.2.2.1; have := HF.out; omega)
      have LE4 := Lib.hid (show (k.tries 0 (ops0.take j)).fl.length ≤ 1024 from (tries_en k 0 (ops0.take j)).2.2.2.2 (by have := HF.out; omega))
      have RM := Lib.hid (room_any H3.out.at_)
      obtain ⟨kj, hkj⟩ : ∃ kj, kj = k.tries 0 (ops0.take j) := ⟨_, rfl⟩
      have HKJ := Lib.hid hkj
      rw [← hkj] at SN GE LE4 RM H3 ⊢
      rw [← hpb]
      clear Z3 Z2 LD G3 hpb hkj
      simp only [Act.put]
      by_cases hroom : kj.fl.length < 1024
      · have PT := Lib.hid (put_any4 H3.out.at_ 0 (by decide) m.s Y3.out hroom)
        rw [decide_eq_true hroom] at RM
        rw [HYS.out] at PT
        have SP := Lib.hid (show kj.try1 0 m = kj.put 0 m.s m.B from if_pos hroom)
        have d1 : (kj.fl.length - F0 : Nat) ≤ 1024 := by have := LE4.out; omega
        obtain ⟨dd, hdd⟩ : ∃ dd, dd = kj.fl.length - F0 := ⟨_, rfl⟩
        have DD := Lib.hid hdd
        rw [← hdd] at d1 ⊢
        clear hroom hdd
        go_wp2_with (first | (go_at_call 24; refine RM.out.mono ?_; intro e w' hh; have he := hh.1; have hw := hh.2; subst he; subst w'; clear hh) | (go_at_call 26; refine PT.out.mono ?_; rintro e w9 ⟨rfl, v9, g9⟩; have G9 := Lib.hid g9; clear g9))
        refine ⟨?rel, ?measure⟩
        case rel =>
          refine ⟨j + 1, upd V' 4 v9, by omega, by go_num, ?_, ?_, ?_⟩
          · rw [SN.out, SP.out]
            show _ = Value.int .i64 (((kj.fl ++ [_]).length - F0 : Nat) : Int)
            have := DD.out
            have := GE.out
            rw [List.length_append]
            simp only [List.length_singleton]
            congr 1
            omega
          · rw [SN.out, SP.out]; exact H3.out.trans G9.out
          · rw [upd_ne (by decide)]; exact HV'.out
        case measure => simp [intOf]; omega
      · rw [decide_eq_false hroom] at RM
        have SP := Lib.hid (show kj.try1 0 m = kj from if_neg hroom)
        clear hroom
        go_wp2_with (first | (go_at_call 24; refine RM.out.mono ?_; intro e w' hh; have he := hh.1; have hw := hh.2; subst he; subst w'; clear hh))
        refine ⟨?rel, ?measure⟩
        case rel => exact ⟨j + 1, V', by omega, by go_num, by rw [SN.out, SP.out], by rw [SN.out, SP.out]; exact H3.out, HV'.out⟩
        case measure => simp [intOf]; omega
    · have e5 := HN0.out
      rw [List.take_of_length_le (by omega)] at HG ⊢
      obtain ⟨w1, hw1⟩ : ∃ x, x = wr := ⟨_, rfl⟩
      obtain ⟨V1, hV1⟩ : ∃ x, x = V' := ⟨_, rfl⟩
      rw [← hw1, ← hV1] at HG
      rw [← hw1]
      clear hw1 hV1 HV' e5
      obtain ⟨K1, hK1⟩ : ∃ x, x = k.tries 0 ops0 := ⟨_, rfl⟩
      have HK1 := Lib.hid hK1
      rw [← hK1] at HG ⊢
      have G1 := Lib.hid HG.out
      clear HG hK1
      have K1G : F0 ≤ K1.fl.length := by have := (tries_en k 0 ops0).2.2.2.1; have := HF.out; rw [HK1.out]; omega
      have K1L : K1.fl.length ≤ 1024 := by rw [HK1.out]; exact (tries_en k 0 ops0).2.2.2.2 (by have := HF.out; omega)
      go_wp2_with fail
      rw [rounds_succ]
      obtain ⟨ops1, hops1⟩ : ∃ o, o = (K1.en 1).op := ⟨_, rfl⟩
      obtain ⟨oa1, oc1, ov1, _⟩ := G1.out.at_.slO 1 (by decide)
      obtain ⟨N1, hN1⟩ : ∃ N, N = ops1.length := ⟨_, rfl⟩
      have hN256_1 : N1 ≤ 256 := by rw [hN1, hops1]; exact (by have := HOP.out 1 (by decide); have e : K1.b = k.b := by { rw [HK1.out]; exact (tries_en k 0 ops0).2.2.1 }; show K1.b.op.length ≤ 256; rw [e]; exact this)
      rw [← hops1, ← hN1] at ov1
      have c1 : w1.cell? ⟨bl, 5, none⟩ = some (.slice oa1 N1 oc1) := by rw [← ov1]; exact G1.out.at_.cell 5
      have HN1 := Lib.hid hN1
      have HO1 := Lib.hid hops1
      have HV1 := Lib.hid ov1
      clear hops1 hN1 ov1
      go_wp2_with fail
      go_loopw [20, 3] (fun i nn wr => ∃ j : Nat, ∃ V', j ≤ N1 ∧ i = .int .i64 j ∧ nn = .int .i64 (((K1.tries 1 (ops1.take j)).fl.length - F0 : Nat) : Int) ∧ Goes w bl V A wr V' (K1.tries 1 (ops1.take j)) ∧ V' 2 = .slice oa1 N1 oc1) (fun i _ _ => N1 - (intOf i).toNat)
      case atStart => exact ⟨0, _, by omega, rfl, rfl, G1.out, HV1.out⟩
      case round =>
        obtain ⟨j, V', hj, rfl, rfl, hg, hv'⟩ := hrel
        have HG := Lib.hid hg
        have HV' := Lib.hid hv'
        clear hg hv'
        by_cases hjn : j < N1
        · obtain ⟨m, hm⟩ : ∃ m, ops1[j]? = some m := ⟨_, List.getElem?_eq_getElem (by have := HN1.out; omega)⟩
          have HM := Lib.hid hm
          have hops : ((K1.tries 1 (ops1.take j)).en 1).op = ops1 := by
            have := congrArg En.op (tries_en K1 1 (ops1.take j)).2.2.1
            exact this.trans HO1.out.symm
          obtain ⟨g, c', y, ee, hgl, hcy, hY⟩ := (HG.out.at_.o 1 (by decide)).at_ (fun _ => rfl) j m (by rw [hops]; exact hm)
          rw [show V' (2 * 1) = _ from HV'.out] at ee
          obtain ⟨rfl, _, _⟩ : oa1 = some ⟨g, 0, none⟩ ∧ True ∧ True := by
            simp only [Value.slice.injEq] at ee
            exact ⟨ee.1, trivial, trivial⟩
          obtain ⟨ya, yc, hy, _, _⟩ := hY.slice
          obtain ⟨yl, hyl⟩ : ∃ yl, yl = m.B.length := ⟨_, rfl⟩
          rw [← hyl] at hy
          obtain ⟨mv, hmv⟩ : ∃ mv, mv = mc (m, y) := ⟨_, rfl⟩
          have HMV := Lib.hid hmv
          have LD := Lib.hid (show ∀ i v, mv[i]? = some v → wr.cell? ((⟨g, j * 4, none⟩ : Addr).add i) = some v from fun i v hi => by
            rw [Addr.add_lit]
            exact hcy i v (by rw [← hmv]; exact hi))
          have M4 := Lib.hid (show mv.length = 4 by rw [hmv]; rfl)
          have M1 := Lib.hid (show ∀ u ∈ mv, u.oneCell' = true by rw [hmv]; exact mc_one hY.one)
          have Z2 := Lib.hid (blk_at (w := wr) (g := wr.heap.size) (cs := zmk) (t := 75) (arr := #[.int .u32 0, .int .u32 0, .int .u32 0, .slice none 0 0]) rfl rfl)
          have HY := Lib.hid hY
          have HYS := Lib.hid hy
          clear hm hops ee hcy hY hmv hy hyl
          go_upto_region 10 with (first | (refine wpList_value_g rfl (.agg mv.toArray) (exec_load_from rfl rfl LD.out Try.underlying75 rfl (by kernel_rfl) M4.out) ?_) | (refine wpList_store_blk rfl 75 _ _ rfl wr.heap.size 0 4 rfl 75 zmk mv rfl Z2.out (by kernel_rfl) M4.out (by decide) M1.out ?_; intro w3 z3 g3; have Z3 := Lib.hid z3; have G3 := Lib.hid g3; clear z3 g3))
          have B3 := Lib.hid (below_grown ((Below.refl wr.heap.size wr).alloc (Nat.le_refl _) _) G3.out (by simp) (Nat.le_refl _))
          obtain ⟨pb, hpb⟩ : ∃ pb, pb = wr.heap.size := ⟨_, rfl⟩
          have P6 := Lib.hid (show Blk w3 pb (mc (m, y)) 75 from by have := Z3.out; rw [put_all _ _ (by rw [M4.out]; rfl), ← hpb, HMV.out] at this; exact this)
          have H3 := Lib.hid (HG.out.keep B3.out)
          have Y3 := Lib.hid (HY.out.move (Only.of_below (S := []) B3.out) (by simp) (fun x hx => .inl hx))
          have q1 : w3.cell? ⟨pb, 1, none⟩ = some (.int .u32 (m.s : Int)) := P6.out.cell 1
          have q3 : w3.cell? ⟨pb, 3, none⟩ = some (.slice ya yl yc) := by rw [← HYS.out]; exact P6.out.cell 3
          have SN := Lib.hid (show K1.tries 1 (ops1.take (j + 1)) = (K1.tries 1 (ops1.take j)).try1 1 m from by rw [take_snoc ops1 j m HM.out, tries_snoc])
          have GE := Lib.hid (show F0 ≤ (K1.tries 1 (ops1.take j)).fl.length from by have := (tries_en K1 1 (ops1.take j)).2.2.2.1; have := K1G; omega)
          have LE4 := Lib.hid (show (K1.tries 1 (ops1.take j)).fl.length ≤ 1024 from (tries_en K1 1 (ops1.take j)).2.2.2.2 (by have := K1L; omega))
          have RM := Lib.hid (room_any H3.out.at_)
          obtain ⟨kj, hkj⟩ : ∃ kj, kj = K1.tries 1 (ops1.take j) := ⟨_, rfl⟩
          have HKJ := Lib.hid hkj
          rw [← hkj] at SN GE LE4 RM H3 ⊢
          rw [← hpb]
          clear Z3 Z2 LD G3 hpb hkj
          simp only [Act.put]
          by_cases hroom : kj.fl.length < 1024
          · have PT := Lib.hid (put_any4 H3.out.at_ 1 (by decide) m.s Y3.out hroom)
            rw [decide_eq_true hroom] at RM
            rw [HYS.out] at PT
            have SP := Lib.hid (show kj.try1 1 m = kj.put 1 m.s m.B from if_pos hroom)
            have d1 : (kj.fl.length - F0 : Nat) ≤ 1024 := by have := LE4.out; omega
            obtain ⟨dd, hdd⟩ : ∃ dd, dd = kj.fl.length - F0 := ⟨_, rfl⟩
            have DD := Lib.hid hdd
            rw [← hdd] at d1 ⊢
            clear hroom hdd
            go_wp2_with (first | (go_at_call 24; refine RM.out.mono ?_; intro e w' hh; have he := hh.1; have hw := hh.2; subst he; subst w'; clear hh) | (go_at_call 26; refine PT.out.mono ?_; rintro e w9 ⟨rfl, v9, g9⟩; have G9 := Lib.hid g9; clear g9))
            refine ⟨?rel, ?measure⟩
            case rel =>
              refine ⟨j + 1, upd V' 4 v9, by omega, by go_num, ?_, ?_, ?_⟩
              · rw [SN.out, SP.out]
                show _ = Value.int .i64 (((kj.fl ++ [_]).length - F0 : Nat) : Int)
                have := DD.out
                have := GE.out
                rw [List.length_append]
                simp only [List.length_singleton]
                congr 1
                omega
              · rw [SN.out, SP.out]; exact H3.out.trans G9.out
              · rw [upd_ne (by decide)]; exact HV'.out
            case measure => simp [intOf]; omega
          · rw [decide_eq_false hroom] at RM
            have SP := Lib.hid (show kj.try1 1 m = kj from if_neg hroom)
            clear hroom
            go_wp2_with (first | (go_at_call 24; refine RM.out.mono ?_; intro e w' hh; have he := hh.1; have hw := hh.2; subst he; subst w'; clear hh))
            refine ⟨?rel, ?measure⟩
            case rel => exact ⟨j + 1, V', by omega, by go_num, by rw [SN.out, SP.out], by rw [SN.out, SP.out]; exact H3.out, HV'.out⟩
            case measure => simp [intOf]; omega
        · have e5 := HN1.out
          rw [List.take_of_length_le (by omega)] at HG ⊢
          obtain ⟨w2, hw2⟩ : ∃ x, x = wr := ⟨_, rfl⟩
          obtain ⟨V2, hV2⟩ : ∃ x, x = V' := ⟨_, rfl⟩
          rw [← hw2, ← hV2] at HG
          rw [← hw2]
          clear hw2 hV2 HV' e5
          obtain ⟨K2, hK2⟩ : ∃ x, x = K1.tries 1 ops1 := ⟨_, rfl⟩
          have HK2 := Lib.hid hK2
          rw [← hK2] at HG ⊢
          have G2 := Lib.hid HG.out
          clear HG hK2
          go_wp2_with fail
          rw [rounds_succ]
          go_wp2_with fail
          go_ret
          have e : k.tick = K2 := by
            rw [HK2.out, HK1.out]
            unfold Lk.tick
            have e1 : ops1 = k.b.op := by
              have := congrArg En.op (tries_en k 0 ops0).2.2.1
              rw [← HK1.out] at this
              exact HO1.out.trans this
            rw [e1, show ops0 = k.a.op from HO0.out]
          rw [e]
          exact ⟨rfl, _, G2.out⟩
end
end Go.Proofs.Ytgnnjinpcdemiaa.Link
/-
  Twin of a link by contract. Helper text; no statement is proved here.
-/
set_option linter.unusedVariables false
set_option maxRecDepth 20000
set_option linter.unusedSimpArgs false
namespace Go.Proofs.Ytgnnjinpcdemiaa.Link
open Go.RowKit Go.Proofs.Ytgnnjinpcdemiaa.Base Go.Proofs.Ytgnnjinpcdemiaa.Laws Go.Proofs.Ytgnnjinpcdemiaa.Disk Go.Proofs.Ytgnnjinpcdemiaa.Row Go.Proofs.Ytgnnjinpcdemiaa.Flat Go.Proofs.Ytgnnjinpcdemiaa.InvM Go.Proofs.Ytgnnjinpcdemiaa.Inv Go.Proofs.Ytgnnjinpcdemiaa.InvL Go.Proofs.Ytgnnjinpcdemiaa.InvC Go.Proofs.Ytgnnjinpcdemiaa.InvG Go.Proofs.Ytgnnjinpcdemiaa.Codec
section
variable {w : World} {bl : Nat} {V : Nat → Value} {A : List Nat} {k : Lk}
theorem twin_no (h : LinkAt w bl V A k) (i : Int) (hi : i < 0 ∨ (k.fl.length : Int) ≤ i) : Calls Try.prog 10 #[.pointer (some ⟨bl, 0, none⟩), .int .i64 i] w fun e w' => e = .returned (.int .i64 2) ∧ w = w' := by
  obtain ⟨a, c, e, _⟩ := h.slF
  have c9 : w.cell? ⟨bl, 9, none⟩ = some (V 4) := h.cell 9
  rw [e] at c9
  obtain ⟨n, hn⟩ : ∃ n, n = k.fl.length := ⟨_, rfl⟩
  rw [← hn] at c9 hi
  clear h e hn
  by_cases h1 : i < 0
  · clear hi c9
    go_enter Try.func10, Try.ntmps10
    go_wp2_with fail
    go_ret
    exact ⟨rfl, rfl⟩
  · have h2 : (n : Int) ≤ i := by omega
    clear hi
    go_enter Try.func10, Try.ntmps10
    go_wp2_with fail
    go_ret
    exact ⟨rfl, rfl⟩
theorem twin_full (h : LinkAt w bl V A k) (i : Nat) (hi : i < k.fl.length) (hf : ¬ k.fl.length < 1024) : Calls Try.prog 10 #[.pointer (some ⟨bl, 0, none⟩), .int .i64 (i : Int)] w fun e w' => e = .returned (.int .i64 9) ∧ w = w' := by
  obtain ⟨a, c, e, _⟩ := h.slF
  have c9 : w.cell? ⟨bl, 9, none⟩ = some (V 4) := h.cell 9
  rw [e] at c9
  have RM := Lib.hid (room_any h)
  rw [decide_eq_false hf] at RM
  obtain ⟨n, hn⟩ : ∃ n, n = k.fl.length := ⟨_, rfl⟩
  rw [← hn] at c9 hi
  have h1 : ¬ ((n : Int) ≤ i) := by omega
  clear h e hn hf
  go_enter Try.func10, Try.ntmps10
  go_wp2_with (go_at_call 24; refine RM.out.mono ?_; intro e w' hh; have he := hh.1; have hw := hh.2; subst he; subst w'; clear hh)
  go_ret
  exact ⟨rfl, rfl⟩
def Lk.twin (k : Lk) (i : Nat) : Lk := match k.fl[i]? with | some p => { k with fl := k.fl ++ [p] } | none => k
set_option maxHeartbeats 2000000 in
theorem twin_ok (h : LinkAt w bl V A k) (i : Nat) (hi : i < k.fl.length) (hf : k.fl.length < 1024) : Calls Try.prog 10 #[.pointer (some ⟨bl, 0, none⟩), .int .i64 (i : Int)] w fun e w' => e = .returned (.int .i64 0) ∧ ∃ V', Goes w bl V A w' V' (k.twin i) := by
  obtain ⟨p, hp⟩ : ∃ p, k.fl[i]? = some p := ⟨_, List.getElem?_eq_getElem hi⟩
  obtain ⟨g, cap, y, p', hp', hv4, hY, hcs, hgr, hml⟩ := h.lessAt i hi
  obtain rfl : p = p' := by rw [hp] at hp'; exact Option.some.inj hp'
  unfold maxLen at hml
  have c9 : w.cell? ⟨bl, 9, none⟩ = some (V 4) := h.cell 9
  rw [hv4] at c9
  have RM := Lib.hid (room_any h)
  rw [decide_eq_true hf] at RM
  have HF := Lib.hid hf
  have HP := Lib.hid hp
  have H0 := Lib.hid h
  have hlt := h.head.lt
  have HV4 := Lib.hid hv4
  have hgl := (h.reach_lt hgr).2
  obtain ⟨n, hn⟩ : ∃ n, n = k.fl.length := ⟨_, rfl⟩
  have HN := Lib.hid hn
  rw [← hn] at c9 hi hml HV4
  have h1 : ¬ ((n : Int) ≤ i) := by omega
  obtain ⟨ya, yc, hy, _, _⟩ := hY.slice
  obtain ⟨yl, hyl⟩ : ∃ yl, yl = p.m.B.length := ⟨_, rfl⟩
  rw [← hyl] at hy
  obtain ⟨pv, hpv⟩ : ∃ pv, pv = pc (p, y) := ⟨_, rfl⟩
  have HPV := Lib.hid hpv
  have LD := Lib.hid (show ∀ j v, pv[j]? = some v → w.cell? ((⟨g, i * 5, none⟩ : Addr).add j) = some v from fun j v hj => by
    rw [Addr.add_lit]
    exact hcs j v (by rw [← hpv]; exact hj))
  have P5 := Lib.hid (show pv.length = 5 by rw [hpv]; rfl)
  have P1 := Lib.hid (show ∀ u ∈ pv, u.oneCell' = true by rw [hpv]; exact pc_one hY.one)
  have Z2 := Lib.hid (blk_at (w := w) (g := w.heap.size) (cs := zpk) (t := 78) (arr := #[.int .i64 0, .int .u32 0, .int .u32 0, .int .u32 0, .slice none 0 0]) rfl rfl)
  have HY := Lib.hid hY
  have HYS := Lib.hid hy
  clear hp hp' hv4 hY hcs hgr hpv hy hyl hn h hf
  go_enter Try.func10, Try.ntmps10
  go_upto_region 6 with (first | (go_at_call 24; refine RM.out.mono ?_; intro e w' hh; have he := hh.1; have hw := hh.2; subst he; subst w'; clear hh) | (refine wpList_value_g rfl (.agg pv.toArray) (exec_load_from rfl rfl LD.out Try.underlying78 rfl (by kernel_rfl) P5.out) ?_) | (refine wpList_store_blk rfl 78 _ _ rfl w.heap.size 0 5 rfl 78 zpk pv rfl Z2.out (by kernel_rfl) P5.out (by decide) P1.out ?_; intro w3 z3 g3; have Z3 := Lib.hid z3; have G3 := Lib.hid g3; clear z3 g3))
  have B3 := Lib.hid (below_grown ((Below.refl w.heap.size w).alloc (Nat.le_refl _) _) G3.out (by simp) (Nat.le_refl _))
  obtain ⟨pb, hpb⟩ : ∃ pb, pb = w.heap.size := ⟨_, rfl⟩
  have P6 := Lib.hid (show Blk w3 pb (pc (p, y)) 78 from by have := Z3.out; rw [put_all _ _ (by rw [P5.out]; rfl), ← hpb, HPV.out] at this; exact this)
  have hs3 : pb < w3.heap.size := P6.out.lt
  have Y3 := HY.out.move (Only.of_below (S := []) B3.out) (by simp) (fun x hx => .inl hx)
  obtain ⟨ca, cc, w4, hcl, hY4, hb4⟩ := clone_body Y3 (pb :: (reach bl V ++ A)) (fun x hx => by
    rcases List.mem_cons.1 hx with rfl | hx
    · exact hs3
    rcases List.mem_append.1 hx with hx | hx
    · have := (H0.out.reach_lt hx).2; omega
    · have := H0.out.out x hx; omega)
  have P64 := Lib.hid (P6.out.below hb4 hs3)
  rw [HYS.out] at hcl
  have CB := Lib.hid hcl
  have q4 : w3.cell? ⟨pb, 4, none⟩ = some (.slice ya yl yc) := by rw [← HYS.out]; exact P6.out.cell 4
  have q44 : w4.cell? ⟨pb, 4, none⟩ = some (.slice ya yl yc) := by rw [← HYS.out]; exact P64.out.cell 4
  have f44 : w4.frozen? ⟨pb, 4, none⟩ = false := P64.out.frozen 4
  rw [← hpb]
  have HPB := Lib.hid hpb
  clear Z3 Z2 LD G3 Y3 hcl hpb
  simp only [Act.put]
  go_upto_region 7 with (go_at_call 25; refine CB.out.mono ?_; intro e w' hh; have he := hh.1; have hw := hh.2; subst he; subst w'; clear hh)
  obtain ⟨bn, hbn⟩ : ∃ bn, bn = p.m.B.length := ⟨_, rfl⟩
  rw [← hbn] at hY4 ⊢
  obtain ⟨w5, hw5⟩ : ∃ w5, w5 = w4.setCell ⟨pb, 4, none⟩ (.slice ca bn cc) := ⟨_, rfl⟩
  obtain ⟨qv, hqv⟩ : ∃ qv, qv = pc (p, .slice ca bn cc) := ⟨_, rfl⟩
  have Q5 := Lib.hid (show qv.length = 5 by rw [hqv]; rfl)
  have P65 := Lib.hid (show Blk w5 pb qv 78 from by rw [hw5, hqv]; exact P64.out.setCell 4 _)
  have hb5 : Below pb w w5 := by
    have h4 : Below pb w w4 := by rw [HPB.out]; exact B3.out.trans (hb4.mono (by have := HPB.out; omega))
    rw [hw5]
    exact h4.setCell (Nat.le_refl _) _
  have B5 := Lib.hid (show Below w.heap.size w w5 from HPB.out ▸ hb5)
  have hs5 : pb < w5.heap.size := P65.out.lt
  have Y5 := Lib.hid (show Body w5 (reach bl V ++ A) (.slice ca bn cc) p.m.B from by
    rw [hw5]
    exact hY4.move (T := [pb]) ((Only.refl [pb] w4).setCell (by simp) 4 _) (by simp) (fun x hx => .inl (List.mem_cons_of_mem _ hx)))
  have H5 := Lib.hid (H0.out.below B5.out)
  rw [← hw5]
  clear hw5 q44 f44 q4 P64 P6 hY4 hb5 hb4 hbn
  obtain ⟨w6, hw6⟩ : ∃ w6, w6 = w5.drew.alloc (.cells qv.toArray 78) := ⟨_, rfl⟩
  have b6 : Below w5.heap.size w5 w6 := hw6 ▸ ((Below.refl w5.heap.size w5).drew.alloc (Nat.le_refl _) _)
  have K6 := Lib.hid (H5.out.below b6)
  have Y6 := Y5.out.move (Only.of_below (S := []) b6) (by simp) (fun x hx => .inl hx)
  have Z6 : Blk w6 w5.heap.size (pc (p, .slice ca bn cc)) 78 := by rw [hw6, ← hqv]; exact blk_at rfl rfl
  obtain ⟨v', w7, hr7, hg7, hc7, hf7, gr7, va, vc, rfl⟩ := K6.out.more p (.slice ca bn cc) Y6 Z6 HF.out
  rw [← HN.out, HV4.out] at hr7
  rw [← HN.out] at hg7
  rw [HV4.out] at hc7
  have r5 : w5.drew.cell? ⟨bl, 9, none⟩ = some (.slice (some ⟨g, 0, none⟩) n cap) := by rw [← HV4.out]; exact H5.out.cell 9
  have r6 : w6.cell? ⟨bl, 9, none⟩ = some (.slice (some ⟨g, 0, none⟩) n cap) := by rw [← HV4.out]; exact K6.out.cell 9
  have hpg : ∀ x, (V 4).ownBlock = some x → pb ≠ x := fun x hx e => by
    have := (H0.out.row 4 (by decide) hx).2
    have := HPB.out
    omega
  have P5d : Blk w5.drew pb qv 78 := P65.out.drew
  have P66 : Blk w6 pb qv 78 := P65.out.below b6 hs5
  have P67 : Blk w7 pb qv 78 := P66.grownO gr7 hpg
  obtain ⟨m, hm⟩ : ∃ m, m = n + 1 := ⟨_, rfl⟩
  rw [← hm] at hr7 hg7
  have Q := Lib.hid (show ∀ d w', At2 6 7 (fun w' => w' = w5.drew) (fun w' => w' = w6) (fun w' => w' = w7) d w' → w'.cell? ⟨bl, 9, none⟩ = some (.slice (some ⟨g, 0, none⟩) n cap) ∧ Blk w' pb qv 78 from fun d w' h => by
    rcases h.any with rfl | rfl | rfl
    · exact ⟨r5, P5d⟩
    · exact ⟨r6, P66⟩
    · exact ⟨hc7, P67⟩)
  have HRD := Lib.hid hr7
  have HGD := Lib.hid hg7
  have HW6 := Lib.hid hw6
  have QD := Lib.hid hc7
  have FD := Lib.hid hf7
  have LC := Lib.hid b6
  clear hr7 hg7 hw6 r5 r6 P5d P66 P67 hc7 hf7 gr7 hpg b6 Y6 Z6 hm hqv
  refine wp_region_gate_tail (fun d w' => At2 6 7 (fun w' => w' = w5.drew) (fun w' => w' = w6) (fun w' => w' = w7) d w') 8 (by kernel_rfl) (by kernel_rfl) ?hI ?_
  case hI => exact At2.start (by rfl) (by rfl) rfl
  simp only [List.take_succ_cons, List.take_zero, List.drop_succ_cons, List.drop_zero]
  refine InvC.invc_value (.pointer (some ⟨bl, 0, none⟩)) (fun u hu => by cases hu) rfl (fun d w' _ _ h => by go_simp; all_goals rfl) (fun d w' _ _ h => At2.keep (by decide) (by decide) h) ?_
  simp only [Act.put, List.setIfInBounds_toArray, List.set_cons_zero, List.set_cons_succ]
  refine InvC.invc_value (.pointer (some ⟨bl, 0, none⟩)) (fun u hu => by cases hu) rfl (fun d w' _ _ h => by go_simp; all_goals rfl) (fun d w' _ _ h => At2.keep (by decide) (by decide) h) ?_
  simp only [Act.put, List.setIfInBounds_toArray, List.set_cons_zero, List.set_cons_succ]
  refine InvC.invc_value (.pointer (some ⟨bl, 0, none⟩)) (fun u hu => by cases hu) rfl (fun d w' _ _ h => by go_simp; all_goals rfl) (fun d w' _ _ h => At2.keep (by decide) (by decide) h) ?_
  simp only [Act.put, List.setIfInBounds_toArray, List.set_cons_zero, List.set_cons_succ]
  refine InvC.invc_value (.pointer (some ⟨bl, 9, none⟩)) (fun u hu => by cases hu) rfl (fun d w' _ _ h => by go_simp; all_goals rfl) (fun d w' _ _ h => At2.keep (by decide) (by decide) h) ?_
  simp only [Act.put, List.setIfInBounds_toArray, List.set_cons_zero, List.set_cons_succ]
  refine InvC.invc_value (.slice (some ⟨g, 0, none⟩) n cap) (fun u hu => by cases hu) rfl (fun d w' _ _ h => by have q := (Q.out d w' h).1; go_simp) (fun d w' _ _ h => At2.keep (by decide) (by decide) h) ?_
  simp only [Act.put, List.setIfInBounds_toArray, List.set_cons_zero, List.set_cons_succ]
  refine InvC.invc_value (.agg qv.toArray) (fun u hu => by cases hu) rfl (fun d w' _ _ h => exec_load (cs := qv) (t := 78) rfl rfl (Q.out d w' h).2 Try.underlying78 rfl (by kernel_rfl) Q5.out) (fun d w' _ _ h => At2.keep (by decide) (by decide) h) ?_
  simp only [Act.put, List.setIfInBounds_toArray, List.set_cons_zero, List.set_cons_succ]
  refine InvC.invc_world (.slice (some ⟨w5.heap.size, 0, none⟩) 1 1) (fun u hu => by cases hu) rfl (fun d w' hd hG h => ⟨w6, by
    have e := (h.at_p hd).1
    subst e
    rw [HW6.out]
    exact exec_build_one rfl rfl Try.underlying37 info_pk Q5.out (by decide) (by decide), At2.did_p (by decide) hd h rfl⟩) ?_
  simp only [Act.put, List.setIfInBounds_toArray, List.set_cons_zero, List.set_cons_succ]
  refine InvC.invc_world (.slice va m vc) (fun u hu => by cases hu) rfl (fun d w' hd hG h => ⟨w7, by
    have e := h.at_q hd (hG.of (by kernel_rfl))
    subst e
    exact exec_append _ _ rfl rfl rfl HRD.out, At2.did_q (by decide) hd (hG.of (by kernel_rfl)) rfl⟩) ?_
  simp only [Act.put, List.setIfInBounds_toArray, List.set_cons_zero, List.set_cons_succ]
  refine InvC.invc_nil fun w8 hI => ?_
  have e6 := hI.done (by rfl)
  subst e6
  have q4 := QD.out
  have f4 := FD.out
  have GO3 := Lib.hid (((Goes.of_below H0.out B5.out).keep LC.out).trans HGD.out)
  clear Q QD FD HRD HW6 LC HGD K6
  go_wp2_with fail
  go_ret
  have e : k.twin i = { k with fl := k.fl ++ [p] } := by unfold Lk.twin; rw [HP.out]
  rw [e]
  exact ⟨rfl, _, GO3.out⟩
end
end Go.Proofs.Ytgnnjinpcdemiaa.Link
/-
  The plain law of a link in one epoch: what comes is a beginning of what was sent. Helper text; no statement is proved here.
-/
set_option linter.unusedVariables false
set_option maxRecDepth 20000
set_option linter.unusedSimpArgs false
namespace Go.Proofs.Ytgnnjinpcdemiaa.Link
/-- messages from number i on -/
def opens : Nat → List (List UInt8) → List Mk
  | _, [] => []
  | i, B :: r => ⟨0, i + 1, 0, B⟩ :: opens (i + 1) r
theorem opens_len (i : Nat) (l : List (List UInt8)) : (opens i l).length = l.length := by
  induction l generalizing i with
  | nil => rfl
  | cons B r ih => simp [opens, ih]
theorem opens_snoc (i : Nat) (l : List (List UInt8)) (B : List UInt8) : opens i (l ++ [B]) = opens i l ++ [⟨0, i + l.length + 1, 0, B⟩] := by
  induction l generalizing i with
  | nil => rfl
  | cons C r ih =>
    simp only [List.cons_append, opens, ih, List.length_cons]
    rw [show i + 1 + r.length + 1 = i + (r.length + 1) + 1 by omega]
theorem opens_mem {i : Nat} {l : List (List UInt8)} {m : Mk} (h : m ∈ opens i l) : ∃ j, l[j]? = some m.B ∧ m.s = i + j + 1 := by
  induction l generalizing i with
  | nil => cases h
  | cons B r ih =>
    rcases List.mem_cons.1 h with rfl | h
    · exact ⟨0, rfl, rfl⟩
    · obtain ⟨j, h1, h2⟩ := ih h
      exact ⟨j + 1, h1, by omega⟩
theorem opens_filter (K i : Nat) (l : List (List UInt8)) : (opens i l).filter (fun m => decide (K < m.s)) = opens (max i K) (l.drop (K - i)) := by
  induction l generalizing i with
  | nil => simp [opens]
  | cons B r ih =>
    by_cases h : K < i + 1
    · have e1 : max i K = i := by omega
      have e2 : K - i = 0 := by omega
      rw [e1, e2, List.drop_zero]
      show List.filter _ (⟨0, i + 1, 0, B⟩ :: opens (i + 1) r) = _
      rw [List.filter_cons_of_pos (by simpa using h), ih]
      have e3 : max (i + 1) K = i + 1 := by omega
      have e4 : K - (i + 1) = 0 := by omega
      rw [e3, e4, List.drop_zero]
      rfl
    · show List.filter _ (⟨0, i + 1, 0, B⟩ :: opens (i + 1) r) = _
      rw [List.filter_cons_of_neg (by simpa using h), ih]
      have e3 : max (i + 1) K = max i K := by omega
      have e4 : K - i = (K - (i + 1)) + 1 := by omega
      rw [e3, e4, List.drop_succ_cons]
/-- what holds of a link of which epoch 0 stands, and of what was sent -/
structure Ok (k : Lk) (S : Nat → List (List UInt8)) : Prop where
  ep : k.ep = 0
  sent : ∀ n, n < 2 → (k.en n).sent = (S n).length
  got : ∀ n, n < 2 → (k.en (1 - n)).got = (S n).take (k.en (1 - n)).come
  come : ∀ n, n < 2 → (k.en (1 - n)).come ≤ (S n).length
  op : ∀ n, n < 2 → ∃ a, a ≤ (k.en (1 - n)).come ∧ (k.en n).op = opens a ((S n).drop a)
  fl : ∀ p ∈ k.fl, p.f < 2 ∧ p.m.e = 0 ∧ p.m.k ≤ (k.en p.f).come ∧ (p.m.B = [] ∨ ∃ i, (S p.f)[i]? = some p.m.B ∧ p.m.s = i + 1)
  small : ∀ n, n < 2 → (S n).length < 4294967295
  body : ∀ n, n < 2 → ∀ B ∈ S n, B ≠ []
  room : k.fl.length ≤ 1024
  few : ∀ n, n < 2 → (k.en n).op.length ≤ 256
def put2 (S : Nat → List (List UInt8)) (n : Nat) (B : List UInt8) : Nat → List (List UInt8) := fun i => if i = n then S i ++ [B] else S i
variable {k : Lk} {S : Nat → List (List UInt8)}
theorem two {n : Nat} (h : n < 2) : n = 0 ∨ n = 1 := by omega
theorem ok_k0 : Ok k0 (fun _ => []) where
  ep := rfl
  sent n hn := by rcases two hn with rfl | rfl <;> rfl
  got n hn := by rcases two hn with rfl | rfl <;> rfl
  come n hn := by rcases two hn with rfl | rfl <;> exact Nat.le_refl _
  op n hn := by rcases two hn with rfl | rfl <;> exact ⟨0, Nat.le_refl _, rfl⟩
  fl p hp := by cases hp
  small n hn := by simp
  body n hn B hB := by cases hB
  room := by decide
  few n hn := by rcases two hn with rfl | rfl <;> decide
theorem with_ep (k : Lk) (n : Nat) (e : En) : (k.with n e).ep = k.ep := by unfold Lk.with; split <;> rfl
theorem with_fl (k : Lk) (n : Nat) (e : En) : (k.with n e).fl = k.fl := by unfold Lk.with; split <;> rfl
theorem ackd_ep (k : Lk) (n K : Nat) : (k.ackd n K).ep = k.ep := with_ep ..
theorem ackd_fl (k : Lk) (n K : Nat) : (k.ackd n K).fl = k.fl := with_fl ..
theorem sent_ep (k : Lk) (n : Nat) (m : Mk) : ((k.bump n).addOpen n m).ep = k.ep := (with_ep ..).trans (with_ep ..)
theorem sent_fl (k : Lk) (n : Nat) (m : Mk) : ((k.bump n).addOpen n m).fl = k.fl := (with_fl ..).trans (with_fl ..)
theorem took_ep (k : Lk) (n : Nat) (B : List UInt8) : ((k.come1 n).addGot n B).ep = k.ep := (with_ep ..).trans (with_ep ..)
theorem took_fl (k : Lk) (n : Nat) (B : List UInt8) : ((k.come1 n).addGot n B).fl = k.fl := (with_fl ..).trans (with_fl ..)
theorem Ok.acks (h : Ok k S) (n : Nat) (hn : n < 2) (K : Nat) (hK : K ≤ (k.en (1 - n)).come) : Ok (k.ackd n K) S := by
  have hen : ∀ m, m < 2 → ((k.ackd n K).en m).sent = (k.en m).sent ∧ ((k.ackd n K).en m).come = (k.en m).come ∧ ((k.ackd n K).en m).got = (k.en m).got := fun m hm => by
    rcases two hn with rfl | rfl <;> rcases two hm with rfl | rfl <;> exact ⟨rfl, rfl, rfl⟩
  have hop : ∀ m, m < 2 → ((k.ackd n K).en m).op = if m = n then (k.en n).op.filter (fun x => decide (K < x.s)) else (k.en m).op := fun m hm => by
    rcases two hn with rfl | rfl <;> rcases two hm with rfl | rfl <;> rfl
  refine { ep := (ackd_ep ..).trans h.ep, sent := fun m hm => (hen m hm).1.trans (h.sent m hm), got := fun m hm => ?_, come := fun m hm => ?_, op := fun m hm => ?_, fl := fun p hp => ?_, small := h.small, body := h.body, room := by rw [ackd_fl]; exact h.room, few := fun m hm => ?_ }
  · rw [(hen (1 - m) (by omega)).2.1, (hen (1 - m) (by omega)).2.2]; exact h.got m hm
  · rw [(hen (1 - m) (by omega)).2.1]; exact h.come m hm
  · rw [(hen (1 - m) (by omega)).2.1, hop m hm]
    obtain ⟨a, h1, h2⟩ := h.op m hm
    by_cases e : m = n
    · subst e
      rw [if_pos rfl, h2, opens_filter, List.drop_drop]
      exact ⟨max a K, by omega, by rw [show a + (K - a) = max a K by omega]⟩
    · rw [if_neg e]; exact ⟨a, h1, h2⟩
  · rw [ackd_fl] at hp
    obtain ⟨h1, h2, h3, h4⟩ := h.fl p hp
    exact ⟨h1, h2, by rw [(hen p.f h1).2.1]; exact h3, h4⟩
  · rw [hop m hm]
    by_cases e : m = n
    · rw [if_pos e]; exact Nat.le_trans (List.length_filter_le ..) (h.few n hn)
    · rw [if_neg e]; exact h.few m hm
theorem Ok.flight (h : Ok k S) (fl : List Pk) (hf : ∀ p ∈ fl, p.f < 2 ∧ p.m.e = 0 ∧ p.m.k ≤ (k.en p.f).come ∧ (p.m.B = [] ∨ ∃ i, (S p.f)[i]? = some p.m.B ∧ p.m.s = i + 1)) (hl : fl.length ≤ 1024) : Ok { k with fl := fl } S :=
  { ep := h.ep, sent := h.sent, got := h.got, come := h.come, op := h.op, fl := hf, small := h.small, body := h.body, room := hl, few := h.few }
theorem Ok.less (h : Ok k S) (i : Nat) : Ok (k.less i) S := by
  refine h.flight _ (fun p hp => ?_) ?_
  · rcases List.mem_append.1 hp with hp | hp
    · exact h.fl p (List.mem_of_mem_take hp)
    · exact h.fl p (List.mem_of_mem_drop hp)
  · have := h.room
    rw [List.length_append, List.length_take, List.length_drop]
    omega
theorem Ok.puts (h : Ok k S) (n s : Nat) (B : List UInt8) (hn : n < 2) (hl : k.fl.length < 1024) (hB : B = [] ∨ ∃ i, (S n)[i]? = some B ∧ s = i + 1) : Ok (k.put n s B) S := by
  refine h.flight _ (fun p hp => ?_) (by rw [List.length_append]; simp; omega)
  rcases List.mem_append.1 hp with hp | hp
  · exact h.fl p hp
  · obtain rfl := List.mem_singleton.1 hp
    exact ⟨hn, h.ep, Nat.le_refl _, hB⟩
theorem Ok.twin (h : Ok k S) (i : Nat) (hl : k.fl.length < 1024) : Ok (k.twin i) S := by
  unfold Lk.twin
  cases hp : k.fl[i]? with
  | none => exact h
  | some p =>
    refine h.flight _ (fun q hq => ?_) (by rw [List.length_append]; simp; omega)
    rcases List.mem_append.1 hq with hq | hq
    · exact h.fl q hq
    · obtain rfl := List.mem_singleton.1 hq
      exact h.fl _ (List.mem_of_getElem? hp)
theorem Ok.send (h : Ok k S) (n : Nat) (B : List UInt8) (hn : n < 2) (hB : B ≠ []) (hl : k.fl.length < 1024) (ho : (k.en n).op.length < 256) (hs : (S n).length + 1 < 4294967295) : Ok (k.send n B) (put2 S n B) := by
  have hsn := h.sent n hn
  have hmod : ((k.en n).sent + 1) % 4294967296 = (S n).length + 1 := by rw [hsn]; exact Nat.mod_eq_of_lt (by omega)
  unfold Lk.send
  rw [hmod]
  have hen : ∀ m, m < 2 → (((k.bump n).addOpen n ⟨0, (S n).length + 1, 0, B⟩).en m).come = (k.en m).come ∧ (((k.bump n).addOpen n ⟨0, (S n).length + 1, 0, B⟩).en m).got = (k.en m).got := fun m hm => by
    rcases two hn with rfl | rfl <;> rcases two hm with rfl | rfl <;> exact ⟨rfl, rfl⟩
  have hst : ∀ m, m < 2 → (((k.bump n).addOpen n ⟨0, (S n).length + 1, 0, B⟩).en m).sent = if m = n then ((k.en n).sent + 1) % 4294967296 else (k.en m).sent := fun m hm => by
    rcases two hn with rfl | rfl <;> rcases two hm with rfl | rfl <;> rfl
  have hop : ∀ m, m < 2 → (((k.bump n).addOpen n ⟨0, (S n).length + 1, 0, B⟩).en m).op = if m = n then (k.en n).op ++ [⟨0, (S n).length + 1, 0, B⟩] else (k.en m).op := fun m hm => by
    rcases two hn with rfl | rfl <;> rcases two hm with rfl | rfl <;> rfl
  have hpre : ∀ m i C, (S m)[i]? = some C → (put2 S n B m)[i]? = some C := fun m i C hC => by
    unfold put2
    split
    · rw [List.getElem?_append_left (List.getElem?_eq_some_iff.1 hC).1]; exact hC
    · exact hC
  have hlen : ∀ m, (put2 S n B m).length = if m = n then (S n).length + 1 else (S m).length := fun m => by
    unfold put2
    split
    · rename_i e; subst e; simp
    · rfl
  have H : Ok ((k.bump n).addOpen n ⟨0, (S n).length + 1, 0, B⟩) (put2 S n B) := by
    refine { ep := (sent_ep ..).trans h.ep, sent := fun m hm => ?_, got := fun m hm => ?_, come := fun m hm => ?_, op := fun m hm => ?_, fl := fun p hp => ?_, small := fun m hm => ?_, body := fun m hm C hC => ?_, room := by rw [sent_fl]; exact h.room, few := fun m hm => ?_ }
    · rw [hst m hm, hlen, hmod]
      split
      · rfl
      · exact h.sent m hm
    · rw [(hen (1 - m) (by omega)).1, (hen (1 - m) (by omega)).2, h.got m hm]
      unfold put2
      split
      · rw [List.take_append_of_le_length (h.come m hm)]
      · rfl
    · rw [(hen (1 - m) (by omega)).1, hlen]
      have := h.come m hm
      split
      · rename_i e; subst e; omega
      · exact this
    · rw [(hen (1 - m) (by omega)).1, hop m hm]
      obtain ⟨a, h1, h2⟩ := h.op m hm
      refine ⟨a, h1, ?_⟩
      have hc := h.come m hm
      unfold put2
      split
      · rename_i e
        subst e
        rw [h2, List.drop_append_of_le_length (by omega), opens_snoc, List.length_drop, show a + ((S m).length - a) + 1 = (S m).length + 1 by omega]
      · exact h2
    · rw [sent_fl] at hp
      obtain ⟨h1, h2, h3, h4⟩ := h.fl p hp
      refine ⟨h1, h2, by rw [(hen p.f h1).1]; exact h3, h4.imp id ?_⟩
      rintro ⟨i, e1, e2⟩
      exact ⟨i, hpre _ i _ e1, e2⟩
    · rw [hlen]
      split
      · exact hs
      · exact h.small m hm
    · unfold put2 at hC
      split at hC
      · rcases List.mem_append.1 hC with hC | hC
        · exact h.body m hm C hC
        · obtain rfl := List.mem_singleton.1 hC; exact hB
      · exact h.body m hm C hC
    · rw [hop m hm]
      split
      · rw [List.length_append]; simp; omega
      · exact h.few m hm
  refine H.puts n _ B hn (by rw [sent_fl]; exact hl) (.inr ⟨(S n).length, ?_, rfl⟩)
  unfold put2
  rw [if_pos rfl]
  simp
theorem Ok.handed (h : Ok k S) (n : Nat) (hn : n < 2) (m : Mk) (hB : ∃ i, (S (1 - n))[i]? = some m.B ∧ m.s = i + 1) : Ok (k.handed n m) S := by
  unfold Lk.handed
  split
  · rename_i hs
    obtain ⟨i, h1, h2⟩ := hB
    have hc := h.come (1 - n) (by omega)
    have hsm := h.small (1 - n) (by omega)
    rw [show 1 - (1 - n) = n by omega] at hc
    have hmod : ((k.en n).come + 1) % 4294967296 = (k.en n).come + 1 := Nat.mod_eq_of_lt (by omega)
    rw [hmod] at hs
    obtain rfl : i = (k.en n).come := by omega
    have hil := (List.getElem?_eq_some_iff.1 h1).1
    have hen : ∀ j, j < 2 → (((k.come1 n).addGot n m.B).en j).sent = (k.en j).sent ∧ (((k.come1 n).addGot n m.B).en j).op = (k.en j).op := fun j hj => by
      rcases two hn with rfl | rfl <;> rcases two hj with rfl | rfl <;> exact ⟨rfl, rfl⟩
    have hco : ∀ j, j < 2 → (((k.come1 n).addGot n m.B).en j).come = if j = n then ((k.en n).come + 1) % 4294967296 else (k.en j).come := fun j hj => by
      rcases two hn with rfl | rfl <;> rcases two hj with rfl | rfl <;> rfl
    have hgo : ∀ j, j < 2 → (((k.come1 n).addGot n m.B).en j).got = if j = n then (k.en n).got ++ [m.B] else (k.en j).got := fun j hj => by
      rcases two hn with rfl | rfl <;> rcases two hj with rfl | rfl <;> rfl
    have hle : ∀ j, j < 2 → (k.en j).come ≤ (((k.come1 n).addGot n m.B).en j).come := fun j hj => by
      rw [hco j hj]
      split
      · rename_i e; subst e; omega
      · exact Nat.le_refl _
    refine { ep := (took_ep ..).trans h.ep, sent := fun j hj => (hen j hj).1.trans (h.sent j hj), got := fun j hj => ?_, come := fun j hj => ?_, op := fun j hj => ?_, fl := fun p hp => ?_, small := h.small, body := h.body, room := by rw [took_fl]; exact h.room, few := fun j hj => by rw [(hen j hj).2]; exact h.few j hj }
    · rw [hco _ (by omega), hgo _ (by omega)]
      split
      · rename_i e
        subst e
        rw [h.got j hj, hmod]
        rw [show 1 - (1 - j) = j by omega] at h1
        rw [List.take_add_one, h1]
        rfl
      · exact h.got j hj
    · rw [hco _ (by omega)]
      split
      · rename_i e
        subst e
        rw [show 1 - (1 - j) = j by omega] at hil
        omega
      · exact h.come j hj
    · obtain ⟨a, e1, e2⟩ := h.op j hj
      exact ⟨a, Nat.le_trans e1 (hle _ (by omega)), by rw [(hen j hj).2]; exact e2⟩
    · rw [took_fl] at hp
      obtain ⟨e1, e2, e3, e4⟩ := h.fl p hp
      exact ⟨e1, e2, Nat.le_trans e3 (hle _ e1), e4⟩
  · exact h
theorem Ok.answer (h : Ok k S) (n : Nat) (hn : n < 2) : Ok (k.answer n) S := by
  unfold Lk.answer
  split
  · rename_i hl; exact h.puts n 0 [] hn hl (.inl rfl)
  · exact h
theorem handed_keep (k : Lk) (n : Nat) (m : Mk) : (k.handed n m).fl = k.fl ∧ (k.handed n m).ep = k.ep := by
  unfold Lk.handed
  split
  · exact ⟨took_fl .., took_ep ..⟩
  · exact ⟨rfl, rfl⟩
theorem Ok.comes (h : Ok k S) (p : Pk) (hf : p.f < 2) (hk : p.m.k ≤ (k.en p.f).come) (hb : p.m.B = [] ∨ ∃ i, (S p.f)[i]? = some p.m.B ∧ p.m.s = i + 1) : Ok (k.comes p) S := by
  unfold Lk.comes
  have ha := h.acks (1 - p.f) (by omega) p.m.k (by rw [show 1 - (1 - p.f) = p.f by omega]; exact hk)
  split
  · split
    · exact ha
    · rename_i hB
      exact (ha.handed (1 - p.f) (by omega) p.m (by rw [show 1 - (1 - p.f) = p.f by omega]; exact hb.resolve_left hB)).answer (1 - p.f) (by omega)
  · exact h
theorem Ok.dels (h : Ok k S) (i : Nat) : Ok (k.dels i) S := by
  unfold Lk.dels
  cases hp : k.fl[i]? with
  | none => exact h
  | some p =>
    obtain ⟨h1, h2, h3, h4⟩ := h.fl p (List.mem_of_getElem? hp)
    exact (h.less i).comes p h1 h3 h4
theorem Ok.tries (h : Ok k S) (n : Nat) (hn : n < 2) (ms : List Mk) (hm : ∀ m ∈ ms, ∃ i, (S n)[i]? = some m.B ∧ m.s = i + 1) : Ok (k.tries n ms) S := by
  unfold Lk.tries
  induction ms generalizing k with
  | nil => exact h
  | cons m ms ih =>
    refine ih ?_ (fun x hx => hm x (List.mem_cons_of_mem _ hx))
    show Ok (k.try1 n m) S
    by_cases hl : k.fl.length < 1024
    · rw [show k.try1 n m = k.put n m.s m.B from if_pos hl]
      exact h.puts n _ _ hn hl (.inr (hm m (List.mem_cons_self ..)))
    · rw [show k.try1 n m = k from if_neg hl]
      exact h
theorem Ok.op_mem (h : Ok k S) (n : Nat) (hn : n < 2) : ∀ m ∈ (k.en n).op, ∃ i, (S n)[i]? = some m.B ∧ m.s = i + 1 := by
  intro m hm
  obtain ⟨a, h1, h2⟩ := h.op n hn
  rw [h2] at hm
  obtain ⟨j, e1, e2⟩ := opens_mem hm
  rw [List.getElem?_drop] at e1
  exact ⟨a + j, e1, e2⟩
theorem Ok.tick (h : Ok k S) : Ok k.tick S := (h.tries 0 (by decide) _ (h.op_mem 0 (by decide))).tries 1 (by decide) _ (h.op_mem 1 (by decide))
end Go.Proofs.Ytgnnjinpcdemiaa.Link
/-
  The plain law of a link: what is sent again comes, and is acknowledged. Helper text; no statement is proved here.
-/
set_option linter.unusedVariables false
set_option maxRecDepth 20000
set_option linter.unusedSimpArgs false
namespace Go.Proofs.Ytgnnjinpcdemiaa.Link
variable {k : Lk} {S : Nat → List (List UInt8)} {n : Nat}
/-- how far an end comes that has come to c, if all this is delivered to it in its order -/
def far (n : Nat) : Nat → List Pk → Nat
  | c, [] => c
  | c, p :: fl => far n (if p.f = n ∧ p.m.B ≠ [] ∧ p.m.s = c + 1 then c + 1 else c) fl
theorem far_app (n c : Nat) (A B : List Pk) : far n c (A ++ B) = far n (far n c A) B := by
  induction A generalizing c with
  | nil => rfl
  | cons p A ih => exact ih _
theorem far_none {c : Nat} {fl : List Pk} (h : ∀ p ∈ fl, ¬ (p.f = n ∧ p.m.B ≠ [])) : far n c fl = c := by
  induction fl generalizing c with
  | nil => rfl
  | cons p fl ih =>
    show far n (if _ then _ else _) fl = c
    rw [if_neg (fun e => h p (List.mem_cons_self ..) ⟨e.1, e.2.1⟩)]
    exact ih (fun q hq => h q (List.mem_cons_of_mem _ hq))
theorem far_le {c L : Nat} {fl : List Pk} (h : ∀ p ∈ fl, p.f = n → p.m.B ≠ [] → p.m.s ≤ L) (hc : c ≤ L) : c ≤ far n c fl ∧ far n c fl ≤ L := by
  induction fl generalizing c with
  | nil => exact ⟨Nat.le_refl _, hc⟩
  | cons p fl ih =>
    show c ≤ far n (if _ then _ else _) fl ∧ far n (if _ then _ else _) fl ≤ L
    have h' := fun q hq => h q (List.mem_cons_of_mem _ hq)
    split
    · rename_i e
      have := h p (List.mem_cons_self ..) e.1 e.2.1
      have := ih h' (show c + 1 ≤ L by omega)
      exact ⟨by omega, this.2⟩
    · exact ih h' hc
theorem far_opens (e q : Nat) : ∀ (l : List (List UInt8)) (a c : Nat), (∀ B ∈ l, B ≠ []) → a ≤ c → far n c ((opens a l).map fun m => (⟨n, ⟨e, m.s, q, m.B⟩⟩ : Pk)) = max c (a + l.length)
  | [], a, c, _, h => by simp only [opens, List.map_nil, far, List.length_nil]; omega
  | B :: r, a, c, hB, h => by
    show far n (if n = n ∧ B ≠ [] ∧ a + 1 = c + 1 then c + 1 else c) ((opens (a + 1) r).map fun m => (⟨n, ⟨e, m.s, q, m.B⟩⟩ : Pk)) = _
    have h1 := hB B (List.mem_cons_self ..)
    have h2 := fun C hC => hB C (List.mem_cons_of_mem _ hC)
    by_cases e1 : a = c
    · rw [if_pos ⟨rfl, h1, by omega⟩, far_opens e q r (a + 1) (c + 1) h2 (by omega), List.length_cons]
      omega
    · rw [if_neg (fun x => e1 (by have := x.2.2; omega)), far_opens e q r (a + 1) c h2 (by omega), List.length_cons]
      omega
/-- all that end n has sent will have come, and be acknowledged, when what is under way is delivered in its order -/
def Run (n : Nat) (k : Lk) (S : Nat → List (List UInt8)) : Prop :=
  far n (k.en (1 - n)).come k.fl = (S n).length ∧
  ((k.en n).op = [] ∨ (∃ p ∈ k.fl, p.f = n ∧ p.m.B ≠ []) ∨ (∃ p ∈ k.fl, p.f = 1 - n ∧ p.m.k = (S n).length))
def wt (fl : List Pk) : Nat := (fl.map fun p => if p.m.B = [] then 1 else 2).sum
theorem wt_app (A B : List Pk) : wt (A ++ B) = wt A + wt B := by unfold wt; rw [List.map_append, List.sum_append]
theorem wt_le (fl : List Pk) : wt fl ≤ 2 * fl.length ∧ fl.length ≤ wt fl := by
  induction fl with
  | nil => exact ⟨Nat.le_refl _, Nat.le_refl _⟩
  | cons p fl ih =>
    have e : wt (p :: fl) = (if p.m.B = [] then 1 else 2) + wt fl := rfl
    rw [e, List.length_cons]
    split <;> omega
theorem ackd_en (k : Lk) (n K j : Nat) (hn : n < 2) (hj : j < 2) : ((k.ackd n K).en j).come = (k.en j).come ∧ ((k.ackd n K).en j).op = if j = n then (k.en n).op.filter (fun x => decide (K < x.s)) else (k.en j).op := by
  rcases two hn with rfl | rfl <;> rcases two hj with rfl | rfl <;> exact ⟨rfl, rfl⟩
theorem handed_en (k : Lk) (n : Nat) (m : Mk) (j : Nat) (hn : n < 2) (hj : j < 2) (hs : (k.en n).come + 1 < 4294967296) : ((k.handed n m).en j).come = (if j = n ∧ m.s = (k.en n).come + 1 then (k.en n).come + 1 else (k.en j).come) ∧ ((k.handed n m).en j).op = (k.en j).op := by
  have hmod : ((k.en n).come + 1) % 4294967296 = (k.en n).come + 1 := Nat.mod_eq_of_lt hs
  have hc : ∀ j, j < 2 → (((k.come1 n).addGot n m.B).en j).come = (if j = n then ((k.en n).come + 1) % 4294967296 else (k.en j).come) ∧ (((k.come1 n).addGot n m.B).en j).op = (k.en j).op := fun j hj => by
    rcases two hn with rfl | rfl <;> rcases two hj with rfl | rfl <;> exact ⟨rfl, rfl⟩
  unfold Lk.handed
  by_cases h : m.s = ((k.en n).come + 1) % 4294967296
  · rw [if_pos h, (hc j hj).1, (hc j hj).2, hmod]
    rw [hmod] at h
    refine ⟨?_, rfl⟩
    by_cases e : j = n
    · rw [if_pos e, if_pos ⟨e, h⟩]
    · rw [if_neg e, if_neg (fun x => e x.1)]
  · rw [if_neg h]
    refine ⟨?_, rfl⟩
    rw [hmod] at h
    rw [if_neg (fun x => h x.2)]
theorem Ok.dels0 (h : Ok k S) {p : Pk} {rest : List Pk} (hp : k.fl = p :: rest) : k.dels 0 = if p.m.B = [] then (k.less 0).ackd (1 - p.f) p.m.k else (((k.less 0).ackd (1 - p.f) p.m.k).handed (1 - p.f) p.m).put (1 - p.f) 0 [] := by
  have h0 := h.fl p (by rw [hp]; exact List.mem_cons_self ..)
  have hl : (k.less 0).fl = rest := by show k.fl.take 0 ++ k.fl.drop 1 = rest; rw [hp]; rfl
  unfold Lk.dels
  rw [show k.fl[0]? = some p by rw [hp]; rfl]
  show (k.less 0).comes p = _
  unfold Lk.comes
  rw [if_pos (show p.m.e = (k.less 0).ep from h0.2.1.trans h.ep.symm)]
  by_cases hB : p.m.B = []
  · rw [if_pos hB, if_pos hB]
  · rw [if_neg hB, if_neg hB]
    have hr := h.room
    rw [hp, List.length_cons] at hr
    refine if_pos ?_
    rw [(handed_keep _ _ _).1, ackd_fl, hl]
    omega
theorem run_dels {k : Lk} (h : Ok k S) (hn : n < 2) {p : Pk} {rest : List Pk} (hp : k.fl = p :: rest) (hr : Run n k S) : Run n (k.dels 0) S := by
  obtain ⟨f1, f2, f3, f4⟩ := h.fl p (by rw [hp]; exact List.mem_cons_self ..)
  have hl : (k.less 0).fl = rest := by show k.fl.take 0 ++ k.fl.drop 1 = rest; rw [hp]; rfl
  obtain ⟨r1, r2⟩ := hr
  rw [hp] at r1 r2
  have hto : 1 - p.f < 2 := by omega
  have hnil : ∀ K, (S n).length ≤ K → (k.en n).op.filter (fun x => decide (K < x.s)) = [] := fun K hK => by
    rw [List.filter_eq_nil_iff]
    intro m hm
    obtain ⟨i, e1, e2⟩ := h.op_mem n hn m hm
    have := (List.getElem?_eq_some_iff.1 e1).1
    simp only [decide_eq_true_eq]
    omega
  rw [h.dels0 hp]
  by_cases hB : p.m.B = []
  · rw [if_pos hB]
    unfold Run
    rw [ackd_fl, hl, (ackd_en _ _ _ _ hto (show 1 - n < 2 by omega)).1, (ackd_en _ _ _ _ hto hn).2]
    refine ⟨?_, ?_⟩
    · rw [← r1]
      show _ = far n (if _ then _ else _) rest
      rw [if_neg (fun x => x.2.1 hB)]
      rfl
    · rcases r2 with e | ⟨q, hq, e1, e2⟩ | ⟨q, hq, e1, e2⟩
      · refine .inl ?_
        have e' : ((k.less 0).en n).op = [] := e
        split
        · rename_i x; rw [← x, e']; rfl
        · exact e'
      · rcases List.mem_cons.1 hq with rfl | hq
        · exact absurd hB e2
        · exact .inr (.inl ⟨q, hq, e1, e2⟩)
      · rcases List.mem_cons.1 hq with rfl | hq
        · refine .inl ?_
          have x : n = 1 - q.f := by omega
          rw [if_pos x, ← x]
          exact hnil _ (by omega)
        · exact .inr (.inr ⟨q, hq, e1, e2⟩)
  · rw [if_neg hB]
    obtain ⟨k1, hk1⟩ : ∃ k1, k1 = (k.less 0).ackd (1 - p.f) p.m.k := ⟨_, rfl⟩
    have hc1 : ∀ j, j < 2 → (k1.en j).come = (k.en j).come := fun j hj => by rw [hk1]; exact (ackd_en _ _ _ _ hto hj).1
    have ho1 : ∀ j, j < 2 → (k1.en j).op = if j = 1 - p.f then (k.en (1 - p.f)).op.filter (fun x => decide (p.m.k < x.s)) else (k.en j).op := fun j hj => by rw [hk1]; exact (ackd_en _ _ _ _ hto hj).2
    have hsm : (k1.en (1 - p.f)).come + 1 < 4294967296 := by
      rw [hc1 _ hto]
      have := h.come p.f f1
      have := h.small p.f f1
      omega
    rw [← hk1]
    have hen : ∀ j, j < 2 → (((k1.handed (1 - p.f) p.m).put (1 - p.f) 0 []).en j).come = (if j = 1 - p.f ∧ p.m.s = (k.en (1 - p.f)).come + 1 then (k.en (1 - p.f)).come + 1 else (k.en j).come) ∧ (((k1.handed (1 - p.f) p.m).put (1 - p.f) 0 []).en j).op = (k1.en j).op := fun j hj => by
      have := handed_en k1 (1 - p.f) p.m j hto hj hsm
      rw [hc1 _ hto, hc1 _ hj] at this
      exact this
    have hfl : ((k1.handed (1 - p.f) p.m).put (1 - p.f) 0 []).fl = rest ++ [⟨1 - p.f, ⟨(k1.handed (1 - p.f) p.m).ep, 0, ((k1.handed (1 - p.f) p.m).en (1 - p.f)).come, []⟩⟩] := by
      show (k1.handed (1 - p.f) p.m).fl ++ _ = _
      rw [(handed_keep _ _ _).1, hk1, ackd_fl, hl]
    obtain ⟨ak, hak⟩ : ∃ ak, ak = (⟨1 - p.f, ⟨(k1.handed (1 - p.f) p.m).ep, 0, ((k1.handed (1 - p.f) p.m).en (1 - p.f)).come, []⟩⟩ : Pk) := ⟨_, rfl⟩
    rw [← hak] at hfl
    have hakB : ak.m.B = [] := by rw [hak]
    have hfar : ∀ c, far n c (rest ++ [ak]) = far n c rest := fun c => by
      rw [far_app]
      show (if _ then _ else _) = _
      rw [if_neg (fun x => x.2.1 hakB)]
    unfold Run
    rw [hfl, (hen (1 - n) (by omega)).1, (hen n hn).2, hfar]
    by_cases hd : p.f = n
    · subst hd
      refine ⟨?_, ?_⟩
      · rw [← r1]
        show far p.f _ rest = far p.f (if _ then _ else _) rest
        congr 1
        by_cases hs : p.m.s = (k.en (1 - p.f)).come + 1
        · rw [if_pos ⟨rfl, hs⟩, if_pos ⟨rfl, hB, hs⟩]
        · rw [if_neg (fun x => hs x.2), if_neg (fun x => hs x.2.2)]
      · rw [ho1 _ hn, if_neg (by omega)]
        by_cases hx : ∃ q ∈ rest, q.f = p.f ∧ q.m.B ≠ []
        · obtain ⟨q, hq, e⟩ := hx
          exact .inr (.inl ⟨q, List.mem_append_left _ hq, e⟩)
        · refine .inr (.inr ⟨ak, List.mem_append_right _ (List.mem_singleton.2 rfl), by rw [hak], ?_⟩)
          have hcome : ak.m.k = (if p.m.s = (k.en (1 - p.f)).come + 1 then (k.en (1 - p.f)).come + 1 else (k.en (1 - p.f)).come) := by
            rw [hak]
            show ((k1.handed (1 - p.f) p.m).en (1 - p.f)).come = _
            rw [(handed_en k1 (1 - p.f) p.m (1 - p.f) hto hto hsm).1, hc1 _ hto]
            by_cases hs : p.m.s = (k.en (1 - p.f)).come + 1
            · rw [if_pos ⟨rfl, hs⟩, if_pos hs]
            · rw [if_neg (fun x => hs x.2), if_neg hs]
          have e1 : far p.f (if p.f = p.f ∧ p.m.B ≠ [] ∧ p.m.s = (k.en (1 - p.f)).come + 1 then (k.en (1 - p.f)).come + 1 else (k.en (1 - p.f)).come) rest = (S p.f).length := r1
          rw [far_none (fun q hq e => hx ⟨q, hq, e⟩)] at e1
          rw [hcome, ← e1]
          by_cases hs : p.m.s = (k.en (1 - p.f)).come + 1
          · rw [if_pos hs, if_pos ⟨rfl, hB, hs⟩]
          · rw [if_neg hs, if_neg (fun x => hs x.2.2)]
    · refine ⟨?_, ?_⟩
      · rw [← r1]
        show far n _ rest = far n (if _ then _ else _) rest
        rw [if_neg (fun x => by have := x.1; omega), if_neg (fun x => hd x.1)]
      · rw [ho1 _ hn, if_pos (by omega), show 1 - p.f = n by omega]
        rcases r2 with e | ⟨q, hq, e1, e2⟩ | ⟨q, hq, e1, e2⟩
        · exact .inl (by rw [e]; rfl)
        · rcases List.mem_cons.1 hq with rfl | hq
          · exact absurd e1 hd
          · exact .inr (.inl ⟨q, List.mem_append_left _ hq, e1, e2⟩)
        · rcases List.mem_cons.1 hq with rfl | hq
          · exact .inl (hnil _ (by omega))
          · exact .inr (.inr ⟨q, List.mem_append_left _ hq, e1, e2⟩)
theorem wt_dels (h : Ok k S) {p : Pk} {rest : List Pk} (hp : k.fl = p :: rest) : wt (k.dels 0).fl < wt k.fl := by
  have hl : (k.less 0).fl = rest := by show k.fl.take 0 ++ k.fl.drop 1 = rest; rw [hp]; rfl
  rw [h.dels0 hp, hp]
  have e : wt (p :: rest) = (if p.m.B = [] then 1 else 2) + wt rest := rfl
  rw [e]
  by_cases hB : p.m.B = []
  · rw [if_pos hB, if_pos hB, ackd_fl, hl]; omega
  · rw [if_neg hB, if_neg hB]
    show wt ((((k.less 0).ackd (1 - p.f) p.m.k).handed (1 - p.f) p.m).fl ++ _) < _
    rw [(handed_keep _ _ _).1, ackd_fl, hl, wt_app]
    show wt rest + 1 < _
    omega
theorem tries_fl (k : Lk) (n : Nat) (ms : List Mk) (h : k.fl.length + ms.length ≤ 1024) : (k.tries n ms).fl = k.fl ++ ms.map fun m => (⟨n, ⟨k.ep, m.s, (k.en n).come, m.B⟩⟩ : Pk) := by
  induction ms generalizing k with
  | nil => simp [Lk.tries]
  | cons m ms ih =>
    rw [List.length_cons] at h
    have e : k.tries n (m :: ms) = (k.put n m.s m.B).tries n ms := by
      show (k.try1 n m).tries n ms = _
      rw [show k.try1 n m = k.put n m.s m.B from if_pos (by omega)]
    have hl : (k.put n m.s m.B).fl.length = k.fl.length + 1 := by show (k.fl ++ [_]).length = _; simp
    rw [e, ih _ (by omega)]
    show (k.fl ++ [_]) ++ _ = _
    rw [List.append_assoc]
    rfl
/-- behind Tick, with room, all runs -/
theorem Ok.run (h : Ok k S) (hl : k.fl.length + k.a.op.length + k.b.op.length ≤ 1024) (hn : n < 2) : Run n k.tick S := by
  have t0 := tries_en k 0 k.a.op
  have f0 := tries_fl k 0 k.a.op (by omega)
  have f1 := tries_fl (k.tries 0 k.a.op) 1 k.b.op (by rw [f0, List.length_append, List.length_map]; omega)
  have t1 := tries_en (k.tries 0 k.a.op) 1 k.b.op
  have hen : ∀ j, j < 2 → k.tick.en j = k.en j := fun j hj => by
    rcases two hj with rfl | rfl
    · exact t1.2.1.trans t0.2.1
    · exact t1.2.2.1.trans t0.2.2.1
  have hfl : k.tick.fl = k.fl ++ (k.a.op.map fun m => (⟨0, ⟨k.ep, m.s, k.a.come, m.B⟩⟩ : Pk)) ++ (k.b.op.map fun m => (⟨1, ⟨k.ep, m.s, k.b.come, m.B⟩⟩ : Pk)) := by
    show ((k.tries 0 k.a.op).tries 1 k.b.op).fl = _
    rw [f1, f0, t0.1]
    show _ ++ List.map (fun (m : Mk) => (⟨1, ⟨k.ep, m.s, (k.tries 0 k.a.op).b.come, m.B⟩⟩ : Pk)) _ = _
    rw [t0.2.2.1]
    rfl
  have hpk : ∀ p ∈ k.fl, p.f = n → p.m.B ≠ [] → p.m.s ≤ (S n).length := fun p hp e hB => by
    obtain ⟨_, _, _, h4⟩ := h.fl p hp
    obtain ⟨i, e1, e2⟩ := h4.resolve_left hB
    rw [e] at e1
    have := (List.getElem?_eq_some_iff.1 e1).1
    omega
  obtain ⟨a, ha, hop⟩ := h.op n hn
  have hcm := h.come n hn
  have hfar := far_le hpk hcm
  have hbody : ∀ B ∈ (S n).drop a, B ≠ [] := fun B hB => h.body n hn B (List.mem_of_mem_drop hB)
  have hdl : ((S n).drop a).length = (S n).length - a := List.length_drop ..
  unfold Run
  rw [hen (1 - n) (by omega), hen n hn, hfl]
  refine ⟨?_, ?_⟩
  · rw [far_app, far_app]
    rcases two hn with rfl | rfl
    · rw [far_none (n := 0) (fl := k.b.op.map _) (fun p hp e => by
        obtain ⟨m, _, rfl⟩ := List.mem_map.1 hp
        exact absurd e.1 (by show ¬ (1 = 0); decide))]
      rw [show k.a.op = _ from hop, far_opens _ _ _ _ _ hbody (by omega)]
      omega
    · rw [far_none (n := 1) (fl := k.a.op.map _) (fun p hp e => by
        obtain ⟨m, _, rfl⟩ := List.mem_map.1 hp
        exact absurd e.1 (by show ¬ (0 = 1); decide))]
      rw [show k.b.op = _ from hop, far_opens _ _ _ _ _ hbody (by omega)]
      omega
  · cases ho : (k.en n).op with
    | nil => exact .inl rfl
    | cons m ms =>
      refine .inr (.inl ?_)
      obtain ⟨i, e1, e2⟩ := h.op_mem n hn m (by rw [ho]; exact List.mem_cons_self ..)
      have hmB := h.body n hn _ (List.mem_of_getElem? e1)
      rcases two hn with rfl | rfl
      · refine ⟨⟨0, ⟨k.ep, m.s, k.a.come, m.B⟩⟩, List.mem_append_left _ (List.mem_append_right _ (List.mem_map.2 ⟨m, ?_, rfl⟩)), rfl, hmB⟩
        rw [show k.a.op = m :: ms from ho]; exact List.mem_cons_self ..
      · refine ⟨⟨1, ⟨k.ep, m.s, k.b.come, m.B⟩⟩, List.mem_append_right _ (List.mem_map.2 ⟨m, ?_, rfl⟩), rfl, hmB⟩
        rw [show k.b.op = m :: ms from ho]; exact List.mem_cons_self ..
theorem Ok.done (h : Ok k S) (hn : n < 2) (hr : Run n k S) (hf : k.fl = []) : (k.en n).op = [] ∧ (k.en (1 - n)).got = S n := by
  obtain ⟨r1, r2⟩ := hr
  rw [hf] at r1 r2
  refine ⟨?_, ?_⟩
  · rcases r2 with e | ⟨p, hp, _⟩ | ⟨p, hp, _⟩
    · exact e
    · cases hp
    · cases hp
  · rw [h.got n hn, show (k.en (1 - n)).come = (S n).length from r1, List.take_length]
end Go.Proofs.Ytgnnjinpcdemiaa.Link
