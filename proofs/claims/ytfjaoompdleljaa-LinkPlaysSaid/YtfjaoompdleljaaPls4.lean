/-
  Helper texts, joined in build order; no statement is proved here.
-/
import Derived.Deep.DeepCutAuto
import Derived.BigQuiet
import Derived.Deep.QuietTactic
import Derived.Test.YtfjaoompdleljaaPls3
/-
  put of the reference by contract. Helper text; no statement is proved here.
-/
set_option linter.unusedVariables false
set_option maxRecDepth 20000
set_option linter.unusedSimpArgs false
namespace Go.Proofs.Ytfjaoompdleljaa.Link
open Go.RowKit Go.Proofs.Ytfjaoompdleljaa.Base Go.Proofs.Ytfjaoompdleljaa.Laws Go.Proofs.Ytfjaoompdleljaa.Disk Go.Proofs.Ytfjaoompdleljaa.Row Go.Proofs.Ytfjaoompdleljaa.Flat Go.Proofs.Ytfjaoompdleljaa.InvM Go.Proofs.Ytfjaoompdleljaa.Inv Go.Proofs.Ytfjaoompdleljaa.InvL Go.Proofs.Ytfjaoompdleljaa.InvC Go.Proofs.Ytfjaoompdleljaa.InvG Go.Proofs.Ytfjaoompdleljaa.Codec
variable {N : Nat → Prop}
theorem pcf_one : ∀ p : Pk × Value, p.2.oneCell' = true → ∀ q ∈ pc p, q.oneCell' = true := fun p h => pc_one h
theorem mcf_one : ∀ p : Mk × Value, p.2.oneCell' = true → ∀ q ∈ mc p, q.oneCell' = true := fun p h => mc_one h
theorem lcells_fl (k : Lk) (V : Nat → Value) (va : Value) (fl : List Pk) : (lcells k V).set 9 va = lcells { k with fl := fl } (upd V 4 va) := rfl
theorem Rk.fly {w : World} {V : Nat → Value} {k : Lk} (h : Rk N w V k) (va : Value) (fl : List Pk) (hf : Rd N w 74 pc (·.m.B) va fl) : Rk N w (upd V 4 va) { k with fl := fl } :=
  ⟨fun n hn => by rw [upd_ne (by omega)]; exact h.o n hn, fun n hn => by rw [upd_ne (by omega)]; exact h.g n hn, by rw [upd_self]; exact hf, h.nt⟩
theorem grown_setCell' (w : World) (g i : Nat) (v : Value) : w.grownBy (w.setCell ⟨g, i, none⟩ v) (some g) :=
  ⟨rfl, rfl, rfl, by simp, fun k hk hne => heap_setCell_other w ⟨g, i, none⟩ k v (fun e => hne (by rw [e]))⟩
theorem BodyX.off {w w' : World} {r : Option Nat} {v : Value} {B : List UInt8} {g : Nat} {cs : List Value} {t : TypeId} (h : BodyX N w r v B) (hz : Blk w g cs t) (hno : ∀ u ∈ cs, ∀ b, u ≠ u8 b) (hg : w.grownBy w' (some g)) : BodyX N w' r v B := by
  obtain ⟨a, c, e, h, h2⟩ := h
  by_cases hB : B.length = 0
  · have hB : B = [] := List.eq_nil_of_length_eq_zero hB
    subst hB
    exact ⟨_, c, e, ⟨h.1, h.2.1, h.2.2.1, .inl rfl⟩, .inl rfl⟩
  · rcases h2 with h2 | ⟨q, o, rfl, hne, hnn⟩
    · exact absurd h2 hB
    · have hlt := bts_block h (by omega)
      have hqg : q ≠ g := fun e2 => by
        subst e2
        rcases h.2.2.2 with h4 | ⟨q', o', e3, hc⟩
        · exact hB h4
        · cases e3
          have hb := hc 0 _ (List.getElem?_eq_getElem (by omega))
          rw [hz.cell] at hb
          exact hno _ (List.mem_of_getElem? hb) _ rfl
      exact ⟨_, c, e, bts_stay h (hg.block q hlt (fun e2 => hqg (Option.some.inj e2))), .inr ⟨q, o, rfl, hne, hnn⟩⟩
theorem Own.off {α : Type} {w w' : World} {base : Nat} {t : TypeId} {m : Nat} {f : α × Value → List Value} {body : α → List UInt8} {v : Value} {xs : List α} {g : Nat} {cs : List Value} {t' : TypeId} (h : Own N w base t m f body v xs) (hz : Blk w g cs t') (hno : ∀ u ∈ cs, ∀ b, u ≠ u8 b) (hg : w.grownBy w' (some g)) (hgb : g < base) : Own N w' base t m f body v xs := by
  obtain ⟨ps, e, h1, h2, hnt⟩ := h
  refine ⟨ps, e, own_only h1 (Only.of_grown hg) (fun x hx => ?_), fun p hp => (h2 p hp).off hz hno hg, hnt⟩
  have := (own_lt h1 hx).1
  simp only [List.mem_singleton]
  omega
theorem Rk.no {w : World} {V : Nat → Value} {k k' : Lk} (h : Rk N w V k) : ∀ u ∈ lcells k' V, ∀ b, u ≠ u8 b := by
  have hV : ∀ i, i < 5 → ∀ b, V i ≠ u8 b := fun i hi b => by
    obtain rfl | rfl | rfl | rfl | rfl : i = 0 ∨ i = 1 ∨ i = 2 ∨ i = 3 ∨ i = 4 := by omega
    · obtain ⟨a, c, e, _⟩ := (h.o 0 (by decide)).form; rw [e]; simp [u8]
    · obtain ⟨a, c, e, _⟩ := (h.g 0 (by decide)).form; rw [e]; simp [u8]
    · obtain ⟨a, c, e, _⟩ := (h.o 1 (by decide)).form; rw [e]; simp [u8]
    · obtain ⟨a, c, e, _⟩ := (h.g 1 (by decide)).form; rw [e]; simp [u8]
    · obtain ⟨a, c, e, _⟩ := h.fl.form; rw [e]; simp [u8]
  intro u hu b
  simp only [lcells, List.mem_cons, List.not_mem_nil, or_false] at hu
  rcases hu with rfl | rfl | rfl | rfl | rfl | rfl | rfl | rfl | rfl | rfl <;> first | exact hV _ (by decide) b | simp [u8]
theorem zlk_no : ∀ u ∈ zlk, ∀ b, u ≠ u8 b := by
  intro u hu b
  simp only [zlk, List.mem_cons, List.not_mem_nil, or_false] at hu
  rcases hu with rfl | rfl | rfl | rfl | rfl | rfl | rfl | rfl | rfl | rfl <;> simp [u8]
theorem closed_step {ops : Array Oper} {j p : Nat} {d : Array Bool} (hC : Closed ops d) (hj : d.getD j false = true) (h2 : waitsB ops j p = true) : d.getD p false = true := by
  unfold waitsB at h2
  cases ho : ops[j]? with
  | none => rw [ho] at h2; cases h2
  | some o =>
    rw [ho] at h2
    obtain ⟨e, he, hbe⟩ := Array.any_eq_true'.1 h2
    simp only [Bool.and_eq_true, beq_iff_eq] at hbe
    have := hC j o ho hj e he hbe.1
    rwa [hbe.2] at this
def chainB (ops : Array Oper) : Nat → List Nat → Bool
  | _, [] => true
  | i, p :: ps => waitsB ops i p && chainB ops p ps
/-- through others -/
theorem gate_via {ops : Array Oper} {i : Nat} {d : Array Bool} (hG : Gate ops i d) (p : Nat) (ps : List Nat) (h : chainB ops i (p :: ps) = true) : d.getD ((p :: ps).getLast (by simp)) false = true := by
  simp only [chainB, Bool.and_eq_true] at h
  have h0 := hG.of h.1
  have h1 := h.2
  clear h
  induction ps generalizing p with
  | nil => exact h0
  | cons q qs ih =>
    simp only [chainB, Bool.and_eq_true] at h1
    rw [List.getLast_cons (by simp)]
    exact ih q (closed_step hG.2 h0 h1.1) h1.2
theorem exec_field_cell {P : Program} {ρ : Operand → Value} {w : World} {o : Oper} {ty : TypeId} {x : Operand} {fs : Array Field} {f : Field} {i : Nat} {cs : List Value} {v : Value} {d : TypeDesc} (ho : o.op = .field ty x i) (hx : ρ x = .agg cs.toArray) (hu : P.underlying ty = some (.struct fs)) (hf : fs[i]? = some f) (hd : P.underlying f.type = some d) (hn : (match d with | .struct _ | .array _ _ => false | _ => true) = true)
    (hc : cs[f.offset]? = some v) : (execOp ρ o).run P w = .ok (.value v) w := by
  unfold execOp
  simp only [ho, hx, Sem.run_bind, run_field_cell w hu hf hd hn hc, Result.andThen_ok, Sem.run_pure]
set_option maxHeartbeats 2000000 in
theorem rput_any {w : World} {V : Nat → Value} {k : Lk} (h : Rk N w V k) (n : Nat) (hn : n < 2) (s : Nat) (v : Value) (B : List UInt8) (hv : BodyR N w v B) (hfl : k.fl.length ≤ 1024) : Calls Try.prog 39 #[rl k V, .int .i64 (n : Int), .int .u32 (s : Int), v] w fun e w' => ∃ V', e = .returned (rl (k.put n s B) V') ∧ Rk N w' V' (k.put n s B) ∧ Below w.heap.size w w' := by
  obtain ⟨wa, hwa⟩ : ∃ wa, wa = w.alloc (.cells (lcells k V).toArray 52) := ⟨_, rfl⟩
  obtain ⟨wb, hwb⟩ : ∃ wb, wb = wa.alloc (.cells zlk.toArray 52) := ⟨_, rfl⟩
  obtain ⟨wc, hwc⟩ : ∃ wc, wc = wb.alloc (.cells #[] 74) := ⟨_, rfl⟩
  have ba : Below w.heap.size w wa := hwa ▸ (Below.refl _ _).alloc (Nat.le_refl _) _
  have za : Blk wa w.heap.size (lcells k V) 52 := by rw [hwa]; exact blk_at rfl rfl
  have hsa : wa.heap.size = w.heap.size + 1 := by rw [hwa]; simp
  have bb : Below wa.heap.size wa wb := hwb ▸ (Below.refl _ _).alloc (Nat.le_refl _) _
  have zb : Blk wb wa.heap.size zlk 52 := by rw [hwb]; exact blk_at rfl rfl
  have hsb : wb.heap.size = w.heap.size + 2 := by rw [hwb]; simp [hsa]
  have bc : Below wb.heap.size wb wc := hwc ▸ (Below.refl _ _).alloc (Nat.le_refl _) _
  have zc : Blk wc wb.heap.size [] 74 := by rw [hwc]; exact blk_at rfl rfl
  have hsc : wb.heap.size < wc.heap.size := zc.lt
  have BC : Below w.heap.size w wc := (ba.trans (bb.mono (by omega))).trans (bc.mono (by omega))
  obtain ⟨base, hbase⟩ : ∃ base, base = w.heap.size + 2 := ⟨_, rfl⟩
  have own0 : Own N wc base 74 5 pc (·.m.B) (.slice (some ⟨wb.heap.size, 0, none⟩) 0 0) ([] : List Pk) := Own.new (fun x hx => by have := h.nt x hx; omega) wb.heap.size (by omega) zc
  obtain ⟨v4, wd, hr4, own4, bd, a4, c4, rfl⟩ := own0.appendAll h.fl BC (by omega) (fun p => rfl) 29 29 (.agg #[.int .i64 0, .int .u32 0, .int .u32 0, .int .u32 0, .slice none 0 0]) 48 Try.underlying29 info_pk rfl (by decide) pcf_one (by simp; omega) (by simp; unfold maxLen; omega) (by omega)
  rw [List.nil_append] at own4 hr4
  have ZAd : Blk wd w.heap.size (lcells k V) 52 := ((za.below bb za.lt).below bc (by omega)).below bd (by omega)
  have ZBd : Blk wd wa.heap.size zlk 52 := (zb.below bc zb.lt).below bd (by omega)
  have hsd := bd.size
  have BD : Below w.heap.size w wd := BC.trans (bd.mono (by omega))
  obtain ⟨we, hend, be⟩ := rend_any k V h.one n hn wd.drew
  have be' : Below wd.heap.size wd we := (Below.refl wd.heap.size wd).drew.trans be
  have hse := be'.size
  obtain ⟨av, cv, rfl, hbv⟩ := hv
  obtain ⟨pv, hpv⟩ : ∃ pv, pv = pc (⟨n, ⟨k.ep, s, (k.en n).come, B⟩⟩, .slice av B.length cv) := ⟨_, rfl⟩
  obtain ⟨wf, hwf⟩ : ∃ wf, wf = we.alloc (.cells pv.toArray 74) := ⟨_, rfl⟩
  have bf : Below we.heap.size we wf := hwf ▸ (Below.refl _ _).alloc (Nat.le_refl _) _
  have zf : Blk wf we.heap.size (pc (⟨n, ⟨k.ep, s, (k.en n).come, B⟩⟩, .slice av B.length cv)) 74 := by rw [hwf, hpv]; exact blk_at rfl rfl
  have BF : Below wd.heap.size wd wf := be'.trans (bf.mono hse)
  have hsf := BF.size
  obtain ⟨v6, wg, hr6, own6, hg6, bg, a6, c6, rfl⟩ := (own4.below BF).append ⟨n, ⟨k.ep, s, (k.en n).come, B⟩⟩ (.slice av B.length cv) ((show BodyR N w (.slice av B.length cv) B from ⟨av, cv, rfl, hbv⟩).old (BD.trans (BF.mono (by omega))) (fun g hg => by have := (own4.lt hg).1; omega)) (cp := 1) zf (fun p => rfl) 29 29 (.agg #[.int .i64 0, .int .u32 0, .int .u32 0, .int .u32 0, .slice none 0 0]) 48 Try.underlying29 info_pk rfl (by decide) pcf_one (by omega) (by unfold maxLen; omega) (by omega)
  have ZAg : ∀ w', (w' = wd.drew ∨ w' = we ∨ w' = wf ∨ w' = wg) → Blk w' w.heap.size (lcells k V) 52 := fun w' hw => by
    rcases hw with rfl | rfl | rfl | rfl
    · exact ZAd
    · exact ZAd.below be' ZAd.lt
    · exact ZAd.below BF ZAd.lt
    · exact (ZAd.below BF ZAd.lt).below bg (by omega)
  have ZBg : Blk wg wa.heap.size zlk 52 := (ZBd.below BF ZBd.lt).below bg (by omega)
  have BG : Below w.heap.size w wg := (BD.trans (BF.mono (by omega))).trans (bg.mono (by omega))
  have H00 := Lib.hid h
  have OW6 := Lib.hid own6
  have RKg := (h.below BG).fly (.slice a6 (k.fl.length + 1) c6) (k.fl ++ [⟨n, ⟨k.ep, s, (k.en n).come, B⟩⟩]) (own6.rd (fun p => rfl) (by decide))
  obtain ⟨fa, fc, hf4, _, _⟩ := h.fl.form
  obtain ⟨fn, hfn⟩ : ∃ fn, fn = k.fl.length := ⟨_, rfl⟩
  rw [hf4, ← hfn] at hr4
  obtain ⟨bn, hbn⟩ : ∃ bn, bn = B.length := ⟨_, rfl⟩
  obtain ⟨ep, hep⟩ : ∃ ep, ep = k.ep := ⟨_, rfl⟩
  obtain ⟨cm, hcm⟩ : ∃ cm, cm = (k.en n).come := ⟨_, rfl⟩
  have C0 := Lib.hid (show ∀ w', (w' = wd.drew ∨ w' = we ∨ w' = wf ∨ w' = wg) → w'.cell? ⟨w.heap.size, 0, none⟩ = some (.int .u32 (ep : Int)) from fun w' hw => by rw [hep]; exact (ZAg w' hw).cell 0)
  have c9 : wc.cell? ⟨w.heap.size, 9, none⟩ = some (.slice fa fn fc) := by rw [hfn, ← hf4]; exact ((za.below bb za.lt).below bc (by omega)).cell 9
  have c9g : wg.cell? ⟨w.heap.size, 9, none⟩ = some (V 4) := (ZAg wg (.inr (.inr (.inr rfl)))).cell 9
  have f9g : wg.frozen? ⟨w.heap.size, 9, none⟩ = false := (ZAg wg (.inr (.inr (.inr rfl)))).frozen 9
  obtain ⟨lv, hlv⟩ : ∃ lv, lv = lcells k V := ⟨_, rfl⟩
  have HFN := Lib.hid hfn
  have L10 := Lib.hid (show lv.length = 10 by rw [hlv]; rfl)
  have HLV := Lib.hid hlv
  unfold rl
  unfold rl at hend
  rw [← hlv] at hwa hend ⊢
  have ZL := Lib.hid (show ∀ w', (w' = wd.drew ∨ w' = we ∨ w' = wf ∨ w' = wg) → Blk w' w.heap.size lv 52 from by rw [hlv]; exact ZAg)
  obtain ⟨ne, hne⟩ : ∃ ne, ne = ecells (k.en n) (V (2 * n)) (V (2 * n + 1)) := ⟨_, rfl⟩
  have NE := Lib.hid (show ne[2]? = some (.int .u32 (cm : Int)) by rw [hne, hcm]; rfl)
  have NE4 := Lib.hid (show ne.length = 4 by rw [hne]; rfl)
  rw [← hne] at hend
  rw [← hbn] at hpv
  rw [← hfn] at hr6
  obtain ⟨mv, hmv⟩ : ∃ mv : List Value, mv = [.int .u32 (ep : Int), .int .u32 (s : Int), .int .u32 (cm : Int), .slice av bn cv] := ⟨_, rfl⟩
  have HMV := Lib.hid hmv
  have HPV := Lib.hid (show pv = [.int .i64 (n : Int), .int .u32 (ep : Int), .int .u32 (s : Int), .int .u32 (cm : Int), .slice av bn cv] by rw [hpv, hep, hcm]; rfl)
  have P5 := Lib.hid (show pv.length = 5 by rw [hpv]; rfl)
  have HWA := Lib.hid hwa
  have HWB := Lib.hid hwb
  have HWC := Lib.hid hwc
  have HWF := Lib.hid hwf
  have HSA := Lib.hid hsa
  have HSB := Lib.hid hsb
  have HR4 := Lib.hid hr4
  have HR6 := Lib.hid hr6
  have HEND := Lib.hid hend
  have HBN := Lib.hid hbn
  have C9 := Lib.hid c9
  rw [← hbn]
  have Z9 := Lib.hid c9g
  have F9 := Lib.hid f9g
  have HBASE := Lib.hid hbase
  clear ba za hsa bb zb hsb bc zc hsc BC hbase own0 own4 bd ZAd ZBd hsd BD be be' hse zf BF hsf own6 hg6 bg ZAg c9 c9g f9g hf4 hfn hep hcm hlv hne hmv hwa hwb hwc hwf hr4 hr6 hend hbv h hfl
  go_enter Try.func39, Try.ntmps39
  go_upto_region 1 with (fail)
  rw [show (#[Value.int .u32 0, Value.slice none 0 0, Value.int .u32 0, Value.int .u32 0, Value.slice none 0 0, Value.slice none 0 0, Value.int .u32 0, Value.int .u32 0, Value.slice none 0 0, Value.slice none 0 0] : Array Value) = zlk.toArray from rfl, ← HWA.out, ← HWB.out]
  have c9 := C9.out
  have hr4 := HR4.out
  rw [HWC.out] at c9 hr4
  go_upto_region 2 with (at_builtin; refine wpList_world_gg rfl (.slice a4 fn c4) (w' := wd) (exec_append _ _ rfl rfl rfl hr4) ?_)
  clear c9 hr4
  have ANY := Lib.hid (show ∀ d w', At3 7 12 13 (fun w' => w' = wd.drew) (fun w' => w' = we) (fun w' => w' = wf) (fun w' => w' = wg) d w' → (w' = wd.drew ∨ w' = we ∨ w' = wf ∨ w' = wg) from fun d w' h => h.any)
  have BM := Lib.hid (show Try.prog.built 71 [(0, .int .u32 (ep : Int)), (1, .int .u32 (s : Int)), (2, .int .u32 (cm : Int)), (3, .slice av bn cv)] = some mv.toArray from by rw [HMV.out]; exact built_mk ep s cm av bn cv)
  have BPK := Lib.hid (show Try.prog.built 74 [(0, .int .i64 (n : Int)), (1, .agg mv.toArray)] = some pv.toArray from by rw [HMV.out, HPV.out]; exact built_pk n ⟨ep, s, cm, B⟩ (.slice av bn cv))
  refine wp_region_gate_tail (fun d w' => At3 7 12 13 (fun w' => w' = wd.drew) (fun w' => w' = we) (fun w' => w' = wf) (fun w' => w' = wg) d w') 14 (by kernel_rfl) (by kernel_rfl) ?hI ?_
  case hI => exact At3.start (by rfl) (by rfl) (by rfl) rfl
  simp only [List.take_succ_cons, List.take_zero, List.drop_succ_cons, List.drop_zero]
  refine InvC.invc_value (.slice a4 fn c4) (fun u hu => by cases hu) rfl (fun d w' _ _ h => by go_simp; all_goals rfl) (fun d w' _ _ h => At3.keep (by decide) (by decide) (by decide) h) ?_
  simp only [Act.put, List.setIfInBounds_toArray, List.set_cons_zero, List.set_cons_succ]
  refine InvC.invc_value (.int .i64 (n : Int)) (fun u hu => by cases hu) rfl (fun d w' _ _ h => by go_simp; all_goals rfl) (fun d w' _ _ h => At3.keep (by decide) (by decide) (by decide) h) ?_
  simp only [Act.put, List.setIfInBounds_toArray, List.set_cons_zero, List.set_cons_succ]
  refine InvC.invc_value (.pointer (some ⟨w.heap.size, 0, none⟩)) (fun u hu => by cases hu) rfl (fun d w' _ _ h => by go_simp; all_goals rfl) (fun d w' _ _ h => At3.keep (by decide) (by decide) (by decide) h) ?_
  simp only [Act.put, List.setIfInBounds_toArray, List.set_cons_zero, List.set_cons_succ]
  refine InvC.invc_value (.int .u32 (ep : Int)) (fun u hu => by cases hu) rfl (fun d w' _ _ h => by have q := C0.out w' (ANY.out d w' h); go_simp) (fun d w' _ _ h => At3.keep (by decide) (by decide) (by decide) h) ?_
  simp only [Act.put, List.setIfInBounds_toArray, List.set_cons_zero, List.set_cons_succ]
  refine InvC.invc_value (.int .u32 (s : Int)) (fun u hu => by cases hu) rfl (fun d w' _ _ h => by go_simp; all_goals rfl) (fun d w' _ _ h => At3.keep (by decide) (by decide) (by decide) h) ?_
  simp only [Act.put, List.setIfInBounds_toArray, List.set_cons_zero, List.set_cons_succ]
  refine InvC.invc_value (.agg lv.toArray) (fun u hu => by cases hu) rfl (fun d w' _ _ h => by exact exec_load rfl rfl (ZL.out w' (ANY.out d w' h)) Try.underlying52 rfl (by kernel_rfl) L10.out) (fun d w' _ _ h => At3.keep (by decide) (by decide) (by decide) h) ?_
  simp only [Act.put, List.setIfInBounds_toArray, List.set_cons_zero, List.set_cons_succ]
  refine InvC.invc_value (.int .i64 (n : Int)) (fun u hu => by cases hu) rfl (fun d w' _ _ h => by go_simp; all_goals rfl) (fun d w' _ _ h => At3.keep (by decide) (by decide) (by decide) h) ?_
  simp only [Act.put, List.setIfInBounds_toArray, List.set_cons_zero, List.set_cons_succ]
  refine InvC.invc_call (.agg ne.toArray) (fun u hu => by cases hu) rfl 38 #[.agg lv.toArray, .int .i64 (n : Int)] (fun d w' _ => by go_simp) (fun d w' hd hG h => by
    have e := h.at_p hd
    subst e
    exact HEND.out.mono fun e w'' ⟨he, hw⟩ => ⟨he, At3.did_p (by decide) (by decide) hd h hw⟩) ?_
  simp only [Act.put, List.setIfInBounds_toArray, List.set_cons_zero, List.set_cons_succ]
  refine InvC.invc_value (.int .u32 (cm : Int)) (fun u hu => by cases hu) rfl (fun d w' _ _ h => exec_field_cell rfl rfl Try.underlying50 rfl Try.underlying32 rfl NE.out) (fun d w' _ _ h => At3.keep (by decide) (by decide) (by decide) h) ?_
  simp only [Act.put, List.setIfInBounds_toArray, List.set_cons_zero, List.set_cons_succ]
  refine InvC.invc_value (.slice av bn cv) (fun u hu => by cases hu) rfl (fun d w' _ _ h => by go_simp; all_goals rfl) (fun d w' _ _ h => At3.keep (by decide) (by decide) (by decide) h) ?_
  simp only [Act.put, List.setIfInBounds_toArray, List.set_cons_zero, List.set_cons_succ]
  refine InvC.invc_value (.agg mv.toArray) (fun u hu => by cases hu) rfl (fun d w' _ _ h => exec_build (vs := [(0, .int .u32 (ep : Int)), (1, .int .u32 (s : Int)), (2, .int .u32 (cm : Int)), (3, .slice av bn cv)]) rfl rfl BM.out) (fun d w' _ _ h => At3.keep (by decide) (by decide) (by decide) h) ?_
  simp only [Act.put, List.setIfInBounds_toArray, List.set_cons_zero, List.set_cons_succ]
  refine InvC.invc_value (.agg pv.toArray) (fun u hu => by cases hu) rfl (fun d w' _ _ h => exec_build (vs := [(0, .int .i64 (n : Int)), (1, .agg mv.toArray)]) rfl rfl BPK.out) (fun d w' _ _ h => At3.keep (by decide) (by decide) (by decide) h) ?_
  simp only [Act.put, List.setIfInBounds_toArray, List.set_cons_zero, List.set_cons_succ]
  refine InvC.invc_world (.slice (some ⟨we.heap.size, 0, none⟩) 1 1) (fun u hu => by cases hu) rfl (fun d w' hd hG h => ⟨wf, by
    have h7 : d.getD 7 false = true := gate_via hG 11 [10, 8, 7] (by kernel_rfl)
    have e := h.at_q hd h7
    subst e
    rw [HWF.out]
    exact exec_build_one rfl rfl Try.underlying29 info_pk P5.out (by decide) (by decide), At3.did_q (by decide) (by decide) hd (gate_via hG 11 [10, 8, 7] (by kernel_rfl)) h rfl⟩) ?_
  simp only [Act.put, List.setIfInBounds_toArray, List.set_cons_zero, List.set_cons_succ]
  refine InvC.invc_world (.slice a6 (fn + 1) c6) (fun u hu => by cases hu) rfl (fun d w' hd hG h => ⟨wg, by
    have e := h.at_r hd (hG.of (by kernel_rfl))
    subst e
    exact exec_append _ _ rfl rfl rfl HR6.out, At3.did_r (by decide) (by decide) hd (hG.of (by kernel_rfl)) h rfl⟩) ?_
  simp only [Act.put, List.setIfInBounds_toArray, List.set_cons_zero, List.set_cons_succ]
  refine InvC.invc_nil fun w8 hI => ?_
  have e6 := hI.done (by rfl)
  subst e6
  have f9 := F9.out
  have q9 := Z9.out
  obtain ⟨ws, hws⟩ : ∃ ws, ws = w8.setCell ⟨w.heap.size, 9, none⟩ (.slice a6 (fn + 1) c6) := ⟨_, rfl⟩
  go_upto_region 3 with (fail)
  rw [← hws]
  obtain ⟨vf, hvf⟩ : ∃ vf, vf = Value.slice a6 (fn + 1) c6 := ⟨_, rfl⟩
  rw [← HFN.out, ← hvf] at RKg
  rw [← hvf] at hws
  obtain ⟨nv, hnv⟩ : ∃ nv, nv = lcells (k.put n s B) (upd V 4 vf) := ⟨_, rfl⟩
  have ZS : Blk ws w.heap.size nv 52 := by
    have := (ZL.out w8 (.inr (.inr (.inr rfl)))).setCell 9 vf
    rw [← hws, HLV.out, lcells_fl k V vf (k.put n s B).fl] at this
    rw [hnv]
    exact this
  obtain ⟨rb, hrb⟩ : ∃ rb, rb = w.heap.size + 1 := ⟨_, rfl⟩
  have ZR : Blk ws rb zlk 52 := by
    have := ZBg.setCell_far (g' := w.heap.size) (by have := HSA.out; omega) 9 vf
    rw [← hws, HSA.out, ← hrb] at this
    exact this
  have LS : Below w.heap.size w ws := by rw [hws]; exact below_grown BG (grown_setCell' _ _ _ _) BG.size (Nat.le_refl _)
  have OWS := OW6.out.off (ZL.out w8 (.inr (.inr (.inr rfl)))) (by rw [HLV.out]; exact H00.out.no) (show w8.grownBy ws (some w.heap.size) by rw [hws]; exact grown_setCell' _ _ _ _) (by have := HBASE.out; omega)
  rw [← HFN.out, ← hvf] at OWS
  have RS : Rk N ws (upd V 4 vf) (k.put n s B) := (H00.out.below LS).fly vf (k.put n s B).fl (OWS.rd (fun p => rfl) (by decide))
  have OWS' := Lib.hid OWS
  have N10 := Lib.hid (show nv.length = 10 from by rw [hnv]; rfl)
  have N1 := Lib.hid (show ∀ u ∈ nv, u.oneCell' = true from by rw [hnv]; exact lc_one _ _ RS.one)
  have HNV := Lib.hid hnv
  have ZS' := Lib.hid ZS
  have ZR' := Lib.hid ZR
  have LS' := Lib.hid LS
  have RS' := Lib.hid RS
  have RB := Lib.hid (show w.heap.size ≤ rb by omega)
  have HBS := Lib.hid (show rb < base by have := HBASE.out; omega)
  clear f9 q9 hws hnv ZS LS RS RKg BG ZBg C0 ZL NE NE4 HMV HPV P5 HWA HWB HWC HWF HSA HSB HR4 HR6 HEND HBN C9 Z9 F9 ANY BM BPK hvf hI
  rw [← hrb]
  clear hrb
  clear ZR
  go_wp2_with (first | (refine wpList_value_g rfl (.agg nv.toArray) (exec_load (cs := nv) (t := 52) rfl rfl ZS'.out Try.underlying52 rfl (by kernel_rfl) N10.out) ?_) | (refine wpList_store_blk rfl 52 _ _ rfl rb 0 10 rfl 52 zlk nv rfl ZR'.out (by kernel_rfl) N10.out (by decide) N1.out ?_; intro w5 z5 g5; have Z5 := Lib.hid (show Blk w5 rb nv 52 by (rw [put_all _ _ (by rw [N10.out]; rfl)] at z5; exact z5)); have L5 := Lib.hid (below_grown LS'.out g5 LS'.out.size RB.out); have R5 := Lib.hid ((H00.out.below (below_grown LS'.out g5 LS'.out.size RB.out)).fly vf (k.put n s B).fl ((OWS'.out.off ZR'.out zlk_no g5 HBS.out).rd (fun p => rfl) (by decide))); clear z5 g5))
  exact bodyPost_ret (v := .agg nv.toArray) (results_cell_row rfl _ _ rb 52 _ (0, 0) _ rfl Z5.out Try.underlying52 rfl (by rw [List.size_toArray, N10.out]; kernel_rfl)) rfl ⟨upd V 4 vf, by rw [HNV.out], R5.out, L5.out⟩
end Go.Proofs.Ytfjaoompdleljaa.Link
/-
  without of the reference by contract. Helper text; no statement is proved here.
-/
set_option linter.unusedVariables false
set_option maxRecDepth 20000
set_option linter.unusedSimpArgs false
namespace Go.Proofs.Ytfjaoompdleljaa.Link
open Go.RowKit Go.Proofs.Ytfjaoompdleljaa.Base Go.Proofs.Ytfjaoompdleljaa.Laws Go.Proofs.Ytfjaoompdleljaa.Disk Go.Proofs.Ytfjaoompdleljaa.Row Go.Proofs.Ytfjaoompdleljaa.Flat Go.Proofs.Ytfjaoompdleljaa.InvM Go.Proofs.Ytfjaoompdleljaa.Inv Go.Proofs.Ytfjaoompdleljaa.InvL Go.Proofs.Ytfjaoompdleljaa.InvC Go.Proofs.Ytfjaoompdleljaa.InvG Go.Proofs.Ytfjaoompdleljaa.Codec
variable {N : Nat → Prop}
theorem BodyR.off {w w' : World} {v : Value} {B : List UInt8} {g : Nat} {cs : List Value} {t : TypeId} (h : BodyR N w v B) (hz : Blk w g cs t) (hno : ∀ u ∈ cs, ∀ b, u ≠ u8 b) (hg : w.grownBy w' (some g)) : BodyR N w' v B := by
  obtain ⟨a, c, e, h, h0⟩ := h
  exact (BodyX.off (r := none) (w := w) ⟨a, c, e, h, h0.imp id fun ⟨q, o, e2, hn⟩ => ⟨q, o, e2, by simp, hn⟩⟩ hz hno hg).r
section
variable {α : Type} {w w' : World} {t : TypeId} {f : α × Value → List Value} {body : α → List UInt8} {v : Value} {xs : List α}
theorem Rd.off {g : Nat} {cs : List Value} {t' : TypeId} (h : Rd N w t f body v xs) (hz : Blk w g cs t') (hno : ∀ u ∈ cs, ∀ b, u ≠ u8 b) (ht : t' ≠ t) (hg : w.grownBy w' (some g)) : Rd N w' t f body v xs := by
  obtain ⟨ps, a, c, e1, e2, h1, h2, h3, h4⟩ := h
  refine ⟨ps, a, c, e1, e2, h1, h2, h3.imp id ?_, fun p hp => (h4 p hp).off hz hno hg⟩
  rintro ⟨q, o, e, ⟨cs', hz', hnn⟩, hc⟩
  have hqg : q ≠ g := fun e3 => by
    subst e3
    unfold Blk at hz hz'
    rw [hz] at hz'
    injection hz' with hz'
    injection hz' with _ hz'
    exact ht hz'
  have hz2 : Blk w' q cs' t := hz'.grown hg hqg
  exact ⟨q, o, e, ⟨cs', hz2, hnn⟩, fun j u hu => by
    have := hc j u hu
    rw [hz'.cell] at this
    rw [hz2.cell]; exact this⟩
theorem Rd.take (h : Rd N w t f body v xs) {a : Option Addr} {n c i : Nat} (hv : v = .slice a n c) (hi : i ≤ xs.length) : Rd N w t f body (.slice a i c) (xs.take i) := by
  obtain ⟨ps, a', c', e1, e2, h1, h2, h3, h4⟩ := h
  rw [hv] at e2
  injection e2 with ea en ec
  subst ea; subst ec
  refine ⟨ps.take i, a, c, by rw [List.map_take, e1], by rw [List.length_take, Nat.min_eq_left hi], by rw [List.length_take]; omega, h2, ?_, fun p hp => h4 p (List.mem_of_mem_take hp)⟩
  rcases h3 with h3 | ⟨q, o, e, hz, hc⟩
  · exact .inl (by rw [List.length_take]; omega)
  · refine .inr ⟨q, o, e, hz, fun j u hu => hc j u ?_⟩
    have : flat f ps = flat f (ps.take i) ++ flat f (ps.drop i) := by rw [← flat_append, List.take_append_drop]
    rw [this, List.getElem?_append_left (List.getElem?_eq_some_iff.1 hu).1]
    exact hu
theorem Rd.drop {m : Nat} (h : Rd N w t f body v xs) (hm : ∀ p, (f p).length = m) {g o n c i : Nat} (hv : v = .slice (some ⟨g, o, none⟩) n c) (hi : i ≤ xs.length) : Rd N w t f body (.slice (some ⟨g, o + i * m, none⟩) (xs.length - i) (c - i)) (xs.drop i) := by
  obtain ⟨ps, a', c', e1, e2, h1, h2, h3, h4⟩ := h
  rw [hv] at e2
  injection e2 with ea en ec
  subst ec
  have hpl : ps.length = xs.length := by rw [← e1]; simp
  refine ⟨ps.drop i, _, c - i, by rw [List.map_drop, e1], by rw [List.length_drop], by rw [List.length_drop]; omega, by omega, ?_, fun p hp => h4 p (List.mem_of_mem_drop hp)⟩
  rcases h3 with h3 | ⟨q, o', e, hz, hc⟩
  · exact .inl (by rw [List.length_drop]; omega)
  · rw [← ea] at e
    injection e with e
    injection e with eb eo _
    subst eb; subst eo
    refine .inr ⟨g, o + i * m, rfl, hz, fun j u hu => ?_⟩
    have hfl : flat f ps = flat f (ps.take i) ++ flat f (ps.drop i) := by rw [← flat_append, List.take_append_drop]
    have hlen : (flat f (ps.take i)).length = i * m := by rw [flat_len (m := m) (fun x _ => hm x), List.length_take, Nat.min_eq_left (by omega)]
    have := hc (i * m + j) u (by rw [hfl, List.getElem?_append_right (by omega), hlen, Nat.add_sub_cancel_left]; exact hu)
    rwa [← Nat.add_assoc] at this
end
theorem Rd.from {α : Type} {w : World} {t : TypeId} {f : α × Value → List Value} {body : α → List UInt8} {v : Value} {xs : List α} {m : Nat} (h : Rd N w t f body v xs) (hm : ∀ p, (f p).length = m) {g o n c i : Nat} (hv : v = .slice (some ⟨g, o, none⟩) n c) (hi : i ≤ xs.length) : Rd N w t f body (.slice (if c = i then some ⟨g, o, none⟩ else some ⟨g, o + i * m, none⟩) (xs.length - i) (c - i)) (xs.drop i) := by
  by_cases hc : c = i
  · rw [if_pos hc]
    obtain ⟨a, c', e, h1, h2⟩ := h.form
    rw [hv] at e
    injection e with _ e2 e3
    have : xs.drop i = [] := List.drop_eq_nil_of_le (by omega)
    rw [this]
    have h0 : xs.length - i = 0 := by omega
    rw [h0]
    exact ⟨[], _, _, rfl, rfl, by simp, by omega, .inl rfl, by simp⟩
  · rw [if_neg hc]
    exact h.drop hm hv hi
theorem exec_slice_low {P : Program} {ρ : Operand → Value} {w : World} {o : Oper} {ty : TypeId} {x lo : Operand} {g off n c j m : Nat} (ho : o.op = .slice ty x (some lo) none none) (hx : ρ x = .slice (some ⟨g, off, none⟩) n c) (hl : ρ lo = .int .i64 (j : Int)) (hj : j ≤ n) (hu : P.underlying ty = some (.slice (P.elem ty))) (hs : (P.info? (P.elem ty)).map (·.size) = some m) :
    (execOp ρ o).run P w = .ok (.value (.slice (if c = j then some ⟨g, off, none⟩ else some ⟨g, off + j * m, none⟩) (n - j) (c - j))) w := by
  obtain ⟨it, hi1, hi2⟩ := Option.map_eq_some_iff.1 hs
  have hs' : (sizeOf (P.elem ty)).run P w = .ok m w := by simp [sizeOf, typeInfo, hi1, hi2]
  unfold execOp
  have h1 := run_sliceAt_slice (P := P) (w := w) ty (.slice (some ⟨g, off, none⟩) n c) (some (.int .i64 (j : Int))) none none hu
  have h2 := run_slice_l (P := P) (w := w) ty (some ⟨g, off, none⟩) n c hu .i64 (j : Int) (by omega) (by omega)
  rw [hs', Result.andThen_ok] at h2
  simp only [ho, Option.map_some, Option.map_none, hx, hl, Sem.run_bind, h1, h2, Result.andThen_ok, Sem.run_pure, sliced, Int.toNat_natCast, Addr.add_lit]
theorem Rk.off {w w' : World} {V : Nat → Value} {k : Lk} {g : Nat} {cs : List Value} {t' : TypeId} (h : Rk N w V k) (hz : Blk w g cs t') (hno : ∀ u ∈ cs, ∀ b, u ≠ u8 b) (ht : t' ≠ 71 ∧ t' ≠ 23 ∧ t' ≠ 74) (hg : w.grownBy w' (some g)) : Rk N w' V k :=
  ⟨fun n hn => (h.o n hn).off hz hno ht.1 hg, fun n hn => (h.g n hn).off hz hno ht.2.1 hg, h.fl.off hz hno ht.2.2 hg, fun x hx => Nat.lt_of_lt_of_le (h.nt x hx) hg.size⟩
/-- a link of the reference in a box of the function's own -/
structure Bx (N : Nat → Prop) (w0 w : World) (lb : Nat) (V : Nat → Value) (k : Lk) : Prop where
  b : Below w0.heap.size w0 w
  z : Blk w lb (lcells k V) 52
  r : Rk N w V k
  l : w0.heap.size ≤ lb
section
variable {w0 w w' : World} {lb : Nat} {V : Nat → Value} {k : Lk}
theorem Bx.below (h : Bx N w0 w lb V k) (hb : Below w.heap.size w w') : Bx N w0 w' lb V k :=
  ⟨h.b.trans (hb.mono h.b.size), h.z.below hb h.z.lt, h.r.below hb, h.l⟩
theorem Bx.off {g : Nat} {cs : List Value} {t' : TypeId} (h : Bx N w0 w lb V k) (hz : Blk w g cs t') (hno : ∀ u ∈ cs, ∀ b, u ≠ u8 b) (ht : t' ≠ 71 ∧ t' ≠ 23 ∧ t' ≠ 74) (hg : w.grownBy w' (some g)) (hne : lb ≠ g) (hl : w0.heap.size ≤ g) : Bx N w0 w' lb V k :=
  ⟨below_grown h.b hg h.b.size hl, h.z.grown hg hne, h.r.off hz hno ht hg, h.l⟩
theorem Bx.fly (h : Bx N w0 w lb V k) (va : Value) (fl : List Pk) (hf : Rd N w 74 pc (·.m.B) va fl) : Bx N w0 (w.setCell ⟨lb, 9, none⟩ va) lb (upd V 4 va) { k with fl := fl } := by
  have hr : Rk N w (upd V 4 va) { k with fl := fl } := h.r.fly va fl hf
  refine ⟨below_grown h.b (grown_setCell' _ _ _ _) h.b.size h.l, ?_, hr.off h.z h.r.no (by decide) (grown_setCell' _ _ _ _), h.l⟩
  have := h.z.setCell 9 va
  rw [lcells_fl k V va fl] at this
  exact this
theorem Bx.store (h : Bx N w0 w lb V k) {V' : Nat → Value} {k' : Lk} (hr : Rk N w V' k') : Bx N w0 (w.setRow lb (lcells k' V').toArray) lb V' k' :=
  ⟨below_grown h.b (grown_setRow _ _ _) h.b.size h.l, setRow_heap w lb _ (lcells k' V').toArray _ _ h.z, hr.off h.z h.r.no (by decide) (grown_setRow _ _ _), h.l⟩
end
theorem Bx.base {w0 w w' : World} {lb : Nat} {V : Nat → Value} {k : Lk} (h : Bx N w0 w lb V k) (h0 : Rk N w0 V k) {B : Nat} (hb : Below B w w') (h1 : lb < B) (h2 : w0.heap.size ≤ B) : Bx N w0 w' lb V k :=
  ⟨h.b.trans (hb.mono h2), h.z.below hb h1, h0.below (h.b.trans (hb.mono h2)), h.l⟩
/-- the box's link, stored where the result stands -/
theorem Bx.out {w0 w : World} {lb rb : Nat} {V : Nat → Value} {k : Lk} (h : Bx N w0 w lb V k) {cs : List Value} (hz : Blk w rb cs 52) (hno : ∀ u ∈ cs, ∀ b, u ≠ u8 b) (hl : w0.heap.size ≤ rb) {nv : List Value} (hn : nv = lcells k V) (hne : lb ≠ rb) : Bx N w0 (w.setRow rb nv.toArray) lb V k ∧ Blk (w.setRow rb nv.toArray) rb nv 52 :=
  ⟨h.off hz hno (by decide) (grown_setRow _ _ _) hne hl, setRow_heap w rb _ nv.toArray _ _ hz⟩
theorem bx_new {w : World} {V : Nat → Value} {k : Lk} (h : Rk N w V k) {wa wb : World} (hwa : wa = w.alloc (.cells (lcells k V).toArray 52)) (hwb : wb = wa.alloc (.cells zlk.toArray 52)) : Bx N w wb w.heap.size V k ∧ Blk wb (w.heap.size + 1) zlk 52 ∧ wb.heap.size = w.heap.size + 2 := by
  have ba : Below w.heap.size w wa := hwa ▸ (Below.refl _ _).alloc (Nat.le_refl _) _
  have za : Blk wa w.heap.size (lcells k V) 52 := by rw [hwa]; exact blk_at rfl rfl
  have hsa : wa.heap.size = w.heap.size + 1 := by rw [hwa]; simp
  have bb : Below wa.heap.size wa wb := hwb ▸ (Below.refl _ _).alloc (Nat.le_refl _) _
  have zb : Blk wb wa.heap.size zlk 52 := by rw [hwb]; exact blk_at rfl rfl
  have hsb : wb.heap.size = w.heap.size + 2 := by rw [hwb]; simp [hsa]
  exact ⟨⟨ba.trans (bb.mono (by omega)), za.below bb za.lt, h.below (ba.trans (bb.mono (by omega))), Nat.le_refl _⟩, hsa ▸ zb, hsb⟩
theorem zlk_is : (#[Value.int .u32 0, Value.slice none 0 0, Value.int .u32 0, Value.int .u32 0, Value.slice none 0 0, Value.slice none 0 0, Value.int .u32 0, Value.int .u32 0, Value.slice none 0 0, Value.slice none 0 0] : Array Value) = zlk.toArray := rfl
set_option maxHeartbeats 2000000 in
theorem rless_any {w : World} {V : Nat → Value} {k : Lk} (h : Rk N w V k) (i : Nat) (hi : i < k.fl.length) (hfl : k.fl.length ≤ 1024) : Calls Try.prog 41 #[rl k V, .int .i64 (i : Int)] w fun e w' => ∃ V', e = .returned (rl (k.less i) V') ∧ Rk N w' V' (k.less i) ∧ Below w.heap.size w w' := by
  obtain ⟨wa, hwa⟩ : ∃ wa, wa = w.alloc (.cells (lcells k V).toArray 52) := ⟨_, rfl⟩
  obtain ⟨wb, hwb⟩ : ∃ wb, wb = wa.alloc (.cells zlk.toArray 52) := ⟨_, rfl⟩
  obtain ⟨bx, zr, hsb⟩ := bx_new h hwa hwb
  obtain ⟨fg, fo, fc, fy, hvf, fcell, fbody⟩ := h.fl.at_ (m := 5) (fun p => rfl) (List.getElem?_eq_getElem hi)
  obtain ⟨fc', _, hvf', hfn, hfc⟩ := h.fl.form
  rw [hvf] at hvf'
  injection hvf' with e1 e2 e3
  subst e1; subst e3
  clear fcell fbody e2
  have hfm := hfn
  clear hfn
  obtain ⟨fn, hfn⟩ : ∃ fn, fn = k.fl.length := ⟨_, rfl⟩
  have c9 : wb.cell? ⟨w.heap.size, 9, none⟩ = some (.slice (some ⟨fg, fo, none⟩) fn fc) := by rw [hfn, ← hvf]; exact bx.z.cell 9
  have BX := Lib.hid bx
  have ZR := Lib.hid zr
  have HSB := Lib.hid hsb
  have HWA := Lib.hid hwa
  have HWB := Lib.hid hwb
  have C9 := Lib.hid c9
  have i1 : (0 : Int) ≤ (i : Int) := by omega
  have i2 : (i : Int) ≤ (fn : Int) := by omega
  have i3 : (fn : Int) ≤ (fc : Int) := by omega
  obtain ⟨j, hj⟩ : ∃ j, j = i + 1 := ⟨_, rfl⟩
  have i0 : (0 : Int) ≤ (j : Int) := by omega
  have i5 : (j : Int) ≤ (fn : Int) := by omega
  have i6 : (i : Int) < 1024 := by omega
  have i4 : IntKind.i64.wrap ((i : Int) + 1) = (j : Int) := by rw [IntKind.wrap_i64]; omega
  obtain ⟨wc, hwc⟩ : ∃ wc, wc = wb.alloc (.cells #[] 74) := ⟨_, rfl⟩
  have bc : Below wb.heap.size wb wc := hwc ▸ (Below.refl _ _).alloc (Nat.le_refl _) _
  have zc : Blk wc wb.heap.size [] 74 := by rw [hwc]; exact blk_at rfl rfl
  have hsc : wb.heap.size < wc.heap.size := zc.lt
  have BC := bx.b.trans (bc.mono bx.b.size)
  have own0 : Own N wc wb.heap.size 74 5 pc (·.m.B) (.slice (some ⟨wb.heap.size, 0, none⟩) 0 0) ([] : List Pk) := Own.new (fun x hx => by have := h.nt x hx; omega) wb.heap.size (Nat.le_refl _) zc
  have hti : (k.fl.take i).length = i := by rw [List.length_take]; omega
  have htd : (k.fl.drop (i + 1)).length = k.fl.length - (i + 1) := by rw [List.length_drop]
  obtain ⟨v4, wd, hr4, own4, bd, a4, c4, rfl⟩ := own0.appendAll (h.fl.take hvf (by omega : i ≤ k.fl.length)) BC bx.b.size (fun p => rfl) 29 29 (.agg #[.int .i64 0, .int .u32 0, .int .u32 0, .int .u32 0, .slice none 0 0]) 48 Try.underlying29 info_pk rfl (by decide) pcf_one (by simp; omega) (by simp; unfold maxLen; omega) (by omega)
  rw [List.nil_append] at own4 hr4
  rw [hti] at hr4
  have BD := BC.trans (bd.mono bx.b.size)
  have hsd := bd.size
  obtain ⟨v6, we, hr6, own6, be, a6, c6, rfl⟩ := own4.appendAll (h.fl.from (m := 5) (fun p => rfl) hvf (by omega : i + 1 ≤ k.fl.length)) BD bx.b.size (fun p => rfl) 29 29 (.agg #[.int .i64 0, .int .u32 0, .int .u32 0, .int .u32 0, .slice none 0 0]) 48 Try.underlying29 info_pk rfl (by decide) pcf_one (by simp; omega) (by simp; unfold maxLen; omega) (by omega)
  have hle : (k.fl.take i ++ k.fl.drop (i + 1)).length = k.fl.length - 1 := by rw [List.length_append, hti, htd]; omega
  rw [hle] at hr6
  rw [hti] at hr6
  have BXc := bx.below bc
  have BXd := BXc.base h bd (by omega) bx.b.size
  have BXe := BXd.base h be (by omega) bx.b.size
  have c9c : wc.cell? ⟨w.heap.size, 9, none⟩ = some (.slice (some ⟨fg, fo, none⟩) fn fc) := by rw [hfn, ← hvf]; exact BXc.z.cell 9
  have c9d : wd.cell? ⟨w.heap.size, 9, none⟩ = some (.slice (some ⟨fg, fo, none⟩) fn fc) := by rw [hfn, ← hvf]; exact BXd.z.cell 9
  have c9e : we.cell? ⟨w.heap.size, 9, none⟩ = some (.slice (some ⟨fg, fo, none⟩) fn fc) := by rw [hfn, ← hvf]; exact BXe.z.cell 9
  have f9e := BXe.z.frozen 9
  have BXE := Lib.hid (BXe.fly _ _ (own6.rd (fun p => rfl) (by decide)))
  rw [hle] at BXE
  have ZRE := Lib.hid ((((zr.below bc zr.lt).below bd (by omega)).below be (by omega)).setCell_far (g' := w.heap.size) (by omega) 9 (.slice a6 (k.fl.length - 1) c6))
  rw [← hfn] at hr6 BXE ZRE
  rw [← hj] at hr6
  obtain ⟨sa, hsa⟩ : ∃ sa : Option Addr, sa = (if fc = j then some ⟨fg, fo, none⟩ else some ⟨fg, fo + j * 5, none⟩) := ⟨_, rfl⟩
  rw [← hsa] at hr6
  have HSA := Lib.hid (show j ≤ fn ∧ sa = (if fc = j then some ⟨fg, fo, none⟩ else some ⟨fg, fo + j * 5, none⟩) from ⟨by omega, hsa⟩)
  have HFN := Lib.hid hfn
  have HJ := Lib.hid hj
  have HR4 := Lib.hid hr4
  have HR6 := Lib.hid hr6
  have C9D := Lib.hid c9d
  have C9E := Lib.hid c9e
  have F9E := Lib.hid f9e
  have HWA := Lib.hid hwa
  have HWB := Lib.hid hwb
  have HWC := Lib.hid hwc
  rw [hwc] at hr4 c9c
  unfold rl
  clear hwa hwb hwc bx zr hsb bc zc BC own0 bd own4 BD hsd be own6 hle BXc BXd BXe c9d c9e f9e hr6 hti htd hsc hvf hfn hfm hj hsa hi hfl hfc i6
  go_enter Try.func41, Try.ntmps41
  go_upto_region 1 with (fail)
  rw [zlk_is, ← HWA.out, ← HWB.out]
  go_upto_region 2 with (at_builtin; refine wpList_world_gg rfl (.slice a4 i c4) (w' := wd) (exec_append _ _ rfl rfl rfl hr4) ?_)
  clear hr4 c9c
  have c9d := C9D.out
  have c9e := C9E.out
  have f9e := F9E.out
  have hr6 := HR6.out
  go_upto_region 3 with (first | (refine wpList_value_g rfl (.slice sa (fn - j) (fc - j)) (by rw [HSA.out.2]; exact exec_slice_low rfl rfl rfl HSA.out.1 Try.underlying29 (by kernel_rfl)) ?_) | (at_builtin; refine wpList_world_gg rfl (.slice a6 (fn - 1) c6) (w' := we) (exec_append _ _ rfl rfl rfl hr6) ?_))
  obtain ⟨vf, hvf⟩ : ∃ vf, vf = Value.slice a6 (fn - 1) c6 := ⟨_, rfl⟩
  obtain ⟨rb, hrb⟩ : ∃ rb, rb = w.heap.size + 1 := ⟨_, rfl⟩
  rw [← hvf] at BXE ZRE ⊢
  rw [← hrb] at ZRE ⊢
  have KL := Lib.hid (show k.less i = { k with fl := k.fl.take i ++ k.fl.drop (i + 1) } from rfl)
  rw [← KL.out] at BXE
  obtain ⟨ws, hws⟩ : ∃ ws, ws = we.setCell ⟨w.heap.size, 9, none⟩ vf := ⟨_, rfl⟩
  rw [← hws] at BXE ZRE ⊢
  obtain ⟨nv, hnv⟩ : ∃ nv, nv = lcells (k.less i) (upd V 4 vf) := ⟨_, rfl⟩
  have N10 := Lib.hid (show nv.length = 10 from by rw [hnv]; rfl)
  have N1 := Lib.hid (show ∀ u ∈ nv, u.oneCell' = true from by rw [hnv]; exact lc_one _ _ BXE.out.r.one)
  have ZS := Lib.hid (show Blk ws w.heap.size nv 52 from by rw [hnv]; exact BXE.out.z)
  have OUT := Lib.hid (BXE.out.out ZRE.out zlk_no (by omega) hnv (by omega))
  have HNV := Lib.hid hnv
  clear hnv hws hvf hrb KL c9d c9e f9e hr6 HR4 HR6 C9D C9E F9E HWA HWB HWC HFN HJ HSA HSB C9 i0 i1 i2 i3 i4 i5 ZR BX
  go_wp2_with (first | (refine wpList_value_g rfl (.agg nv.toArray) (exec_load (cs := nv) (t := 52) rfl rfl ZS.out Try.underlying52 rfl (by kernel_rfl) N10.out) ?_) | (refine wpList_store_row rfl 52 _ _ rfl rb 0 10 rfl 52 zlk nv rfl ZRE.out (by kernel_rfl) N10.out (by decide) N1.out ?_))
  rw [put_all zlk nv (by rw [N10.out]; rfl)]
  exact bodyPost_ret (v := .agg nv.toArray) (results_cell_row rfl _ _ rb 52 _ (0, 0) _ rfl OUT.out.2 Try.underlying52 rfl (by rw [List.size_toArray, N10.out]; kernel_rfl)) rfl ⟨upd V 4 vf, by rw [HNV.out], OUT.out.1.r, OUT.out.1.b⟩
end Go.Proofs.Ytfjaoompdleljaa.Link
/-
  Drop, Twin of the reference by contract. Helper text; no statement is proved here.
-/
set_option linter.unusedVariables false
set_option maxRecDepth 20000
set_option linter.unusedSimpArgs false
namespace Go.Proofs.Ytfjaoompdleljaa.Link
open Go.RowKit Go.Proofs.Ytfjaoompdleljaa.Base Go.Proofs.Ytfjaoompdleljaa.Laws Go.Proofs.Ytfjaoompdleljaa.Disk Go.Proofs.Ytfjaoompdleljaa.Row Go.Proofs.Ytfjaoompdleljaa.Flat Go.Proofs.Ytfjaoompdleljaa.InvM Go.Proofs.Ytfjaoompdleljaa.Inv Go.Proofs.Ytfjaoompdleljaa.InvL Go.Proofs.Ytfjaoompdleljaa.InvC Go.Proofs.Ytfjaoompdleljaa.InvG Go.Proofs.Ytfjaoompdleljaa.Codec
variable {N : Nat → Prop}
theorem results_two_cell {P : Program} {fn : Func} {p q : Tmp} {ty : TypeId} (h : fn.results = #[.tmp q, .cell p ty]) (tmps : Array Value) (w : World) (g : Nat) (t : TypeId) (cs : Array Value) (fr : Nat × Nat) (d : TypeDesc) (v : Value)
    (hp : tmps.getD p undef = .pointer (some ⟨g, 0, none⟩)) (hq : tmps.getD q undef = v) (hg : w.heap[g]? = some (.cells cs t fr))
    (hu : P.underlying ty = some d) (hd : (match d with | .struct _ | .array _ _ => true | _ => false) = true) (hi : (P.info? ty).map (·.size) = some cs.size) :
    (results fn tmps).run P w = .ok (.tuple #[v, .agg cs]) w := by
  have hp' : tmps[p]?.getD undef = .pointer (some ⟨g, 0, none⟩) := by simpa using hp
  have hq' : tmps[q]?.getD undef = v := by simpa using hq
  simp [results, h, hp', hq', asAddr, run_loadVar_row w g t ty cs fr d hg hu hd hi]
/-- the box and the result's cell of a function of the reference -/
structure Pro (N : Nat → Prop) (w : World) (V : Nat → Value) (k : Lk) (lv : List Value) (wb : World) (rb : Nat) : Prop where
  elv : lv = lcells k V
  ewb : (w.alloc (.cells lv.toArray 52)).alloc (.cells zlk.toArray 52) = wb
  erb : w.heap.size + 1 = rb
  x : Bx N w wb w.heap.size V k
  z : Blk wb w.heap.size lv 52
  n : lv.length = 10
  one : ∀ u ∈ lv, u.oneCell' = true
  r : Blk wb rb zlk 52
  sz : wb.heap.size = rb + 1
theorem pro {w : World} {V : Nat → Value} {k : Lk} (h : Rk N w V k) : ∃ lv wb rb, Pro N w V k lv wb rb := by
  obtain ⟨wa, hwa⟩ : ∃ wa, wa = w.alloc (.cells (lcells k V).toArray 52) := ⟨_, rfl⟩
  obtain ⟨wb, hwb⟩ : ∃ wb, wb = wa.alloc (.cells zlk.toArray 52) := ⟨_, rfl⟩
  obtain ⟨bx, zr, hsb⟩ := bx_new h hwa hwb
  exact ⟨lcells k V, wb, w.heap.size + 1, rfl, by rw [hwb, hwa], rfl, bx, bx.z, rfl, lc_one _ _ h.one, zr, hsb⟩
theorem Bx.drew {w0 w : World} {lb : Nat} {V : Nat → Value} {k : Lk} (h : Bx N w0 w lb V k) : Bx N w0 w.drew lb V k := h.below (Below.refl w.heap.size w).drew
/-- a link that a call gave, on its way to the result's cell -/
structure Came (N : Nat → Prop) (w : World) (rb : Nat) (V : Nat → Value) (k : Lk) (nv : List Value) (w5 : World) : Prop where
  env : nv = lcells k V
  n : List.length nv = 10
  one : ∀ u ∈ nv, Value.oneCell' u = true
  z : Blk w5 rb zlk 52
  s : Blk (w5.setRow rb nv.toArray) rb nv 52
  r : Rk N (w5.setRow rb nv.toArray) V k
  b : Below w.heap.size w (w5.setRow rb nv.toArray)
theorem came {w wb w5 : World} {V V5 : Nat → Value} {k k5 : Lk} {lv : List Value} {rb : Nat} {e : Ending} (he : e = .returned (rl k5 V5)) (r5 : Rk N w5 V5 k5) (b5 : Below wb.heap.size wb w5) (p : Pro N w V k lv wb rb) : ∃ nv, e = .returned (.agg nv.toArray) ∧ Came N w rb V5 k5 nv w5 := by
  have hl := p.erb
  have hz : Blk w5 rb zlk 52 := p.r.below b5 p.r.lt
  exact ⟨lcells k5 V5, he, rfl, rfl, lc_one _ _ r5.one, hz, setRow_heap w5 rb _ _ _ _ hz, r5.off hz zlk_no (by decide) (grown_setRow _ _ _), below_grown (p.x.b.trans (b5.mono p.x.b.size)) (grown_setRow _ _ _) (Nat.le_trans p.x.b.size b5.size) (by omega)⟩
/-- a link of the reference came back, with a code -/
def Ck (N : Nat → Prop) (w : World) (c : Int) (k : Lk) (e : Ending) (w' : World) : Prop := ∃ V', e = .returned (.tuple #[.int .i64 c, rl k V']) ∧ Rk N w' V' k ∧ Below w.heap.size w w'
set_option maxHeartbeats 2000000 in
theorem rdrop_any {w : World} {V : Nat → Value} {k : Lk} (h : Rk N w V k) (i : Int) (hfl : k.fl.length ≤ 1024) : Calls Try.prog 25 #[rl k V, .int .i64 i] w fun e w' => Ck N w (if k.inR i then 0 else 2) (if k.inR i then k.less i.toNat else k) e w' := by
  obtain ⟨lv, wb, rb, hp⟩ := pro h
  obtain ⟨fa, fc, hvf, _, _⟩ := h.fl.form
  obtain ⟨fn, hfn⟩ : ∃ fn, fn = k.fl.length := ⟨_, rfl⟩
  have c9 : wb.cell? ⟨w.heap.size, 9, none⟩ = some (.slice fa fn fc) := by rw [hfn, ← hvf]; exact (hp.x.z.cell 9)
  have PR := Lib.hid hp
  have HFN := Lib.hid hfn
  have HFL := Lib.hid hfl
  have ZL := Lib.hid (show Blk wb.drew w.heap.size lv 52 from hp.z.drew)
  have ZRR := Lib.hid (show Blk wb.drew rb zlk 52 from hp.r.drew)
  have OUT := Lib.hid (hp.x.drew.out ZRR.out zlk_no (by have := hp.erb; omega) hp.elv (by have := hp.erb; omega))
  unfold rl
  rw [← hp.elv]
  by_cases hin : k.inR i
  · rw [if_pos hin, if_pos hin]
    obtain ⟨m, rfl⟩ := Int.eq_ofNat_of_zero_le hin.1
    have hm : m < k.fl.length := by have := hin.2; omega
    have i1 : (0 : Int) ≤ (m : Int) := by omega
    have i2 : (m : Int) < (fn : Int) := by omega
    have LS := Lib.hid (show Calls Try.prog 41 #[.agg lv.toArray, .int .i64 (m : Int)] wb fun e w' => ∃ V', e = .returned (rl (k.less m) V') ∧ Rk N w' V' (k.less m) ∧ Below wb.heap.size wb w' from by rw [hp.elv]; exact rless_any hp.x.r m hm hfl)
    rw [Int.toNat_natCast]
    have ZB := Lib.hid hp.z
    clear hvf hfl h hfn hp hin hm
    go_enter Try.func25, Try.ntmps25
    go_upto_region 1 with (fail)
    rw [zlk_is, PR.out.ewb, PR.out.erb]
    go_upto_region 3 with (fail)
    clear c9
    go_wp2_with (first | (refine wpList_value_g rfl (.agg lv.toArray) (exec_load rfl rfl ZB.out Try.underlying52 rfl (by kernel_rfl) PR.out.n) ?_) | (go_at_call 41; refine LS.out.mono ?_; rintro e w5 ⟨V5, he, r5, b5⟩; obtain ⟨nv, N⟩ := came he r5 b5 PR.out; have NN := Lib.hid N; obtain ⟨e5, _⟩ := N; subst e5; clear he r5 b5) | (refine wpList_store_row rfl 52 _ _ rfl rb 0 10 rfl 52 zlk nv rfl NN.out.2.z (by kernel_rfl) NN.out.2.n (by decide) NN.out.2.one ?_))
    rw [put_all zlk nv (by rw [NN.out.2.n]; rfl)]
    exact bodyPost_ret (v := .tuple #[.int .i64 0, .agg nv.toArray]) (results_two_cell rfl _ _ rb 52 _ (0, 0) _ _ rfl rfl NN.out.2.s Try.underlying52 rfl (by rw [List.size_toArray, NN.out.2.n]; kernel_rfl)) rfl ⟨V5, by rw [NN.out.2.env]; rfl, NN.out.2.r, NN.out.2.b⟩
  · rw [if_neg hin, if_neg hin]
    unfold Lk.inR at hin
    rw [← hfn] at hin
    clear hvf hfl h hfn hp
    by_cases h0 : i < 0
    · clear hin
      go_enter Try.func25, Try.ntmps25
      go_upto_region 1 with (fail)
      rw [zlk_is, PR.out.ewb, PR.out.erb]
      go_upto_region 2 with (fail)
      refine wp_region_gate_tail (fun d w' => w' = wb.drew) 2 (by kernel_rfl) (by kernel_rfl) rfl ?_
      simp only [List.take_succ_cons, List.take_zero, List.drop_succ_cons, List.drop_zero]
      refine InvC.invc_value (.agg lv.toArray) (fun u hu => by cases hu) rfl (fun d w' _ _ h => by subst h; exact exec_load rfl rfl ZL.out Try.underlying52 rfl (by kernel_rfl) PR.out.n) (fun d w' _ _ h => h) ?_
      simp only [Act.put, List.setIfInBounds_toArray, List.set_cons_zero, List.set_cons_succ]
      refine InvC.invc_value (.int .i64 2) (fun u hu => by cases hu) rfl (fun d w' _ _ h => by go_simp; all_goals rfl) (fun d w' _ _ h => h) ?_
      simp only [Act.put, List.setIfInBounds_toArray, List.set_cons_zero, List.set_cons_succ]
      refine InvC.invc_nil fun w8 e8 => ?_
      subst e8
      go_wp2_with (refine wpList_store_row rfl 52 _ _ rfl rb 0 10 rfl 52 zlk lv rfl ZRR.out (by kernel_rfl) PR.out.n (by decide) PR.out.one ?_)
      rw [put_all zlk lv (by rw [PR.out.n]; rfl)]
      exact bodyPost_ret (v := .tuple #[.int .i64 2, .agg lv.toArray]) (results_two_cell rfl _ _ rb 52 _ (0, 0) _ _ rfl rfl OUT.out.2 Try.underlying52 rfl (by rw [List.size_toArray, PR.out.n]; kernel_rfl)) rfl ⟨V, by rw [PR.out.elv]; rfl, OUT.out.1.r, OUT.out.1.b⟩
    · have h1 : (fn : Int) ≤ i := by omega
      have h0' : 0 ≤ i := by omega
      clear hin
      go_enter Try.func25, Try.ntmps25
      go_upto_region 1 with (fail)
      rw [zlk_is, PR.out.ewb, PR.out.erb]
      go_upto_region 2 with (fail)
      refine wp_region_gate_tail (fun d w' => w' = wb.drew) 2 (by kernel_rfl) (by kernel_rfl) rfl ?_
      simp only [List.take_succ_cons, List.take_zero, List.drop_succ_cons, List.drop_zero]
      refine InvC.invc_value (.agg lv.toArray) (fun u hu => by cases hu) rfl (fun d w' _ _ h => by subst h; exact exec_load rfl rfl ZL.out Try.underlying52 rfl (by kernel_rfl) PR.out.n) (fun d w' _ _ h => h) ?_
      simp only [Act.put, List.setIfInBounds_toArray, List.set_cons_zero, List.set_cons_succ]
      refine InvC.invc_value (.int .i64 2) (fun u hu => by cases hu) rfl (fun d w' _ _ h => by go_simp; all_goals rfl) (fun d w' _ _ h => h) ?_
      simp only [Act.put, List.setIfInBounds_toArray, List.set_cons_zero, List.set_cons_succ]
      refine InvC.invc_nil fun w8 e8 => ?_
      subst e8
      go_wp2_with (refine wpList_store_row rfl 52 _ _ rfl rb 0 10 rfl 52 zlk lv rfl ZRR.out (by kernel_rfl) PR.out.n (by decide) PR.out.one ?_)
      rw [put_all zlk lv (by rw [PR.out.n]; rfl)]
      exact bodyPost_ret (v := .tuple #[.int .i64 2, .agg lv.toArray]) (results_two_cell rfl _ _ rb 52 _ (0, 0) _ _ rfl rfl OUT.out.2 Try.underlying52 rfl (by rw [List.size_toArray, PR.out.n]; kernel_rfl)) rfl ⟨V, by rw [PR.out.elv]; rfl, OUT.out.1.r, OUT.out.1.b⟩
end Go.Proofs.Ytfjaoompdleljaa.Link
/-
  Twin of the reference by contract. Helper text; no statement is proved here.
-/
set_option linter.unusedVariables false
set_option maxRecDepth 20000
set_option linter.unusedSimpArgs false
namespace Go.Proofs.Ytfjaoompdleljaa.Link
open Go.RowKit Go.Proofs.Ytfjaoompdleljaa.Base Go.Proofs.Ytfjaoompdleljaa.Laws Go.Proofs.Ytfjaoompdleljaa.Disk Go.Proofs.Ytfjaoompdleljaa.Row Go.Proofs.Ytfjaoompdleljaa.Flat Go.Proofs.Ytfjaoompdleljaa.InvM Go.Proofs.Ytfjaoompdleljaa.Inv Go.Proofs.Ytfjaoompdleljaa.InvL Go.Proofs.Ytfjaoompdleljaa.InvC Go.Proofs.Ytfjaoompdleljaa.InvG Go.Proofs.Ytfjaoompdleljaa.Codec
variable {N : Nat → Prop}
/-- a link in its box, on its way to the result's cell -/
structure Lvs (N : Nat → Prop) (w ws : World) (lb rb : Nat) (V : Nat → Value) (k : Lk) (nv : List Value) : Prop where
  elv : nv = lcells k V
  n : List.length nv = 10
  one : ∀ u ∈ nv, Value.oneCell' u = true
  z : Blk ws lb nv 52
  zr : Blk ws rb zlk 52
  o : Bx N w (ws.setRow rb nv.toArray) lb V k ∧ Blk (ws.setRow rb nv.toArray) rb nv 52
theorem Bx.lvs {w ws : World} {lb rb : Nat} {V : Nat → Value} {k : Lk} (h : Bx N w ws lb V k) (hz : Blk ws rb zlk 52) (hne : lb ≠ rb) (hl : w.heap.size ≤ rb) : ∃ nv, Lvs N w ws lb rb V k nv :=
  ⟨lcells k V, rfl, rfl, lc_one _ _ h.r.one, h.z, hz, h.out hz zlk_no hl rfl hne⟩
set_option maxHeartbeats 2000000 in
theorem rtwin_any {w : World} {V : Nat → Value} {k : Lk} (h : Rk N w V k) (i : Int) (hfl : k.fl.length ≤ 1024) : Calls Try.prog 26 #[rl k V, .int .i64 i] w fun e w' => Ck N w (if k.inR i then if k.fl.length < 1024 then 0 else 9 else 2) (if k.inR i ∧ k.fl.length < 1024 then k.twin i.toNat else k) e w' := by
  obtain ⟨lv, wb, rb, hp⟩ := pro h
  obtain ⟨fa, fc, hvf, hfm, hfx⟩ := h.fl.form
  obtain ⟨fn, hfn⟩ : ∃ fn, fn = k.fl.length := ⟨_, rfl⟩
  have c9 : wb.cell? ⟨w.heap.size, 9, none⟩ = some (.slice fa fn fc) := by rw [hfn, ← hvf]; exact (hp.x.z.cell 9)
  have PR := Lib.hid hp
  have HFN := Lib.hid hfn
  have HFL := Lib.hid hfl
  have ZL := Lib.hid (show Blk wb.drew w.heap.size lv 52 from hp.z.drew)
  have ZRR := Lib.hid (show Blk wb.drew rb zlk 52 from hp.r.drew)
  have OUT := Lib.hid (hp.x.drew.out ZRR.out zlk_no (by have := hp.erb; omega) hp.elv (by have := hp.erb; omega))
  unfold rl
  rw [← hp.elv]
  by_cases hin : k.inR i
  · rw [if_pos hin]
    have hin' := hin
    obtain ⟨m, rfl⟩ := Int.eq_ofNat_of_zero_le hin.1
    have hm : m < k.fl.length := by have := hin.2; omega
    have i1 : (0 : Int) ≤ (m : Int) := by omega
    have i2 : (m : Int) < (fn : Int) := by omega
    by_cases hfull : k.fl.length < 1024
    · rw [if_pos hfull, if_pos ⟨hin', hfull⟩]
      clear hin'
      have j1 : (fn : Int) < 1024 := by omega
      obtain ⟨fg, fo, fc', fy, hvf', fcell, fbody⟩ := h.fl.at_ (m := 5) (fun p => rfl) (List.getElem?_eq_getElem hm)
      rw [hvf] at hvf'
      injection hvf' with e1 e2 e3
      subst e1; subst e3
      clear e2
      obtain ⟨p, hp'⟩ : ∃ p, p = k.fl[m] := ⟨_, rfl⟩
      rw [← hp'] at fcell fbody
      obtain ⟨wc, hwc⟩ : ∃ wc, wc = wb.alloc (.cells #[] 74) := ⟨_, rfl⟩
      have bc : Below wb.heap.size wb wc := hwc ▸ (Below.refl _ _).alloc (Nat.le_refl _) _
      have zc : Blk wc wb.heap.size [] 74 := by rw [hwc]; exact blk_at rfl rfl
      have hsc : wb.heap.size < wc.heap.size := zc.lt
      have hlb : w.heap.size < wb.heap.size := hp.x.z.lt
      have hrb := hp.erb
      have hrs := hp.sz
      have BC := hp.x.b.trans (bc.mono hp.x.b.size)
      have own0 : Own N wc wb.heap.size 74 5 pc (·.m.B) (.slice (some ⟨wb.heap.size, 0, none⟩) 0 0) ([] : List Pk) := Own.new (fun x hx => by have := h.nt x hx; have := hp.x.b.size; omega) wb.heap.size (Nat.le_refl _) zc
      obtain ⟨v4, wd, hr4, own4, bd, a4, c4, rfl⟩ := own0.appendAll h.fl BC hp.x.b.size (fun p => rfl) 29 29 (.agg #[.int .i64 0, .int .u32 0, .int .u32 0, .int .u32 0, .slice none 0 0]) 48 Try.underlying29 info_pk rfl (by decide) pcf_one (by simp; omega) (by simp; unfold maxLen; omega) (by omega)
      rw [List.nil_append] at own4 hr4
      have BD := BC.trans (bd.mono hp.x.b.size)
      have hsd := bd.size
      obtain ⟨pv, hpv⟩ : ∃ pv, pv = pc (p, fy) := ⟨_, rfl⟩
      obtain ⟨we, hwe⟩ : ∃ we, we = wd.alloc (.cells pv.toArray 74) := ⟨_, rfl⟩
      have be : Below wd.heap.size wd we := hwe ▸ (Below.refl _ _).alloc (Nat.le_refl _) _
      have ze : Blk we wd.heap.size (pc (p, fy)) 74 := by rw [hwe, hpv]; exact blk_at rfl rfl
      have hse := be.size
      obtain ⟨v6, wf, hr6, own6, _, bf, a6, c6, rfl⟩ := (own4.below be).append p fy ((fbody.below hp.x.b).old ((bc.trans (bd.mono (Nat.le_refl _))).trans (be.mono (by omega))) (fun g hg => (own4.lt hg).1)) (cp := 1) ze (fun p => rfl) 29 29 (.agg #[.int .i64 0, .int .u32 0, .int .u32 0, .int .u32 0, .slice none 0 0]) 48 Try.underlying29 info_pk rfl (by decide) pcf_one (by omega) (by unfold maxLen; omega) (by omega)
      have BXc := hp.x.below bc
      have BXd := BXc.base h bd hlb hp.x.b.size
      have BXe := BXd.below be
      have BXf := BXe.base h bf hlb hp.x.b.size
      have ZRf := (((hp.r.below bc hp.r.lt).below bd (by omega)).below be (by omega)).below bf (by omega)
      have c9c : (wb.alloc (.cells #[] 74)).cell? ⟨w.heap.size, 9, none⟩ = some (.slice (some ⟨fg, fo, none⟩) fn fc) := by rw [← hwc, hfn, ← hvf]; exact BXc.z.cell 9
      have C9D := Lib.hid (show wd.cell? ⟨w.heap.size, 9, none⟩ = some (.slice (some ⟨fg, fo, none⟩) fn fc) by rw [hfn, ← hvf]; exact BXd.z.cell 9)
      have C9F := Lib.hid (show wf.cell? ⟨w.heap.size, 9, none⟩ = some (.slice (some ⟨fg, fo, none⟩) fn fc) by rw [hfn, ← hvf]; exact BXf.z.cell 9)
      have F9F := Lib.hid (BXf.z.frozen 9)
      obtain ⟨vf, hvff⟩ : ∃ vf, vf = Value.slice a6 (k.fl.length + 1) c6 := ⟨_, rfl⟩
      rw [← hvff] at own6
      have BXF := Lib.hid (BXf.fly _ _ (own6.rd (fun p => rfl) (by decide)))
      have ZRF := Lib.hid (ZRf.setCell_far (g' := w.heap.size) (by omega) 9 vf)
      have LD := Lib.hid (show ∀ j v, pv[j]? = some v → wd.cell? ((⟨fg, fo + m * 5, none⟩ : Addr).add j) = some v from fun j v hj => by
        rw [Addr.add_lit]
        rw [hpv] at hj
        have q := fcell j v hj
        exact (Below.cell BD (p := ⟨fg, fo + m * 5 + j, none⟩) (block_lt_of_cell q)).trans q)
      have P5 := Lib.hid (show pv.length = 5 by rw [hpv]; rfl)
      have TW := Lib.hid (show k.twin m = { k with fl := k.fl ++ [p] } by unfold Lk.twin; rw [List.getElem?_eq_getElem hm, hp'])
      rw [hvf, ← hfn, hwc] at hr4
      rw [← hfn] at hr6 hvff
      have HVF := Lib.hid hvff
      have HWE := Lib.hid hwe
      have HR6 := Lib.hid hr6
      have ZB := Lib.hid hp.z
      rw [Int.toNat_natCast, TW.out]
      rw [← TW.out] at BXF ⊢
      clear hvf hfl hfn hp hin hm hfull hfm hwc bc zc hsc BC own0 own4 bd BD hsd hpv hwe be ze hse own6 bf BXc BXd BXe BXf ZRf hvff fcell fbody hp' hr6 hlb hrb hrs h hfx
      go_enter Try.func26, Try.ntmps26
      go_upto_region 1 with (fail)
      rw [zlk_is, PR.out.ewb, PR.out.erb]
      go_upto_region 5 with (fail)
      clear c9
      go_upto_region 6 with (at_builtin; refine wpList_world_gg rfl (.slice a4 fn c4) (w' := wd) (exec_append _ _ rfl rfl rfl hr4) ?_)
      clear c9c hr4
      have c9d := C9D.out
      have c9f := C9F.out
      have f9f := F9F.out
      go_upto_region 7 with (first | (refine wpList_value_g rfl (.agg pv.toArray) (exec_load_from rfl rfl LD.out Try.underlying74 rfl (by kernel_rfl) P5.out) ?_) | (refine wpList_world_gg rfl (.slice (some ⟨wd.heap.size, 0, none⟩) 1 1) (w' := we) (by rw [HWE.out]; exact exec_build_one rfl rfl Try.underlying29 info_pk P5.out (by decide) (by decide)) ?_) | (at_builtin; refine wpList_world_gg rfl (.slice a6 (fn + 1) c6) (w' := wf) (exec_append _ _ rfl rfl rfl HR6.out) ?_))
      rw [← HVF.out]
      obtain ⟨ws, hws⟩ : ∃ ws, ws = (wf.setCell ⟨w.heap.size, 9, none⟩ vf).drew := ⟨_, rfl⟩
      have BX2 : Bx N w ws w.heap.size (upd V 4 vf) (k.twin m) := by rw [hws]; exact BXF.out.drew
      have ZR2 : Blk ws rb zlk 52 := by rw [hws]; exact ZRF.out.drew
      obtain ⟨nv, hnv⟩ := BX2.lvs ZR2 (by have := PR.out.erb; omega) (by have := PR.out.erb; omega)
      have LV := Lib.hid hnv
      have ZN := Lib.hid hnv.z
      have ZRN := Lib.hid hnv.zr
      have ON := Lib.hid hnv.o
      clear c9d c9f f9f C9D C9F F9F BXF ZRF LD P5 HWE HR6 BX2 ZR2 hnv
      refine wp_region_gate_tail (fun d w' => w' = ws) 2 (by kernel_rfl) (by kernel_rfl) hws.symm ?_
      simp only [List.take_succ_cons, List.take_zero, List.drop_succ_cons, List.drop_zero]
      refine InvC.invc_value (.agg nv.toArray) (fun u hu => by cases hu) rfl (fun d w' _ _ h => by subst h; exact exec_load rfl rfl ZN.out Try.underlying52 rfl (by kernel_rfl) LV.out.n) (fun d w' _ _ h => h) ?_
      simp only [Act.put, List.setIfInBounds_toArray, List.set_cons_zero, List.set_cons_succ]
      refine InvC.invc_value (.int .i64 0) (fun u hu => by cases hu) rfl (fun d w' _ _ h => by go_simp; all_goals rfl) (fun d w' _ _ h => h) ?_
      simp only [Act.put, List.setIfInBounds_toArray, List.set_cons_zero, List.set_cons_succ]
      refine InvC.invc_nil fun w8 e8 => ?_
      subst e8
      go_wp2_with (refine wpList_store_row rfl 52 _ _ rfl rb 0 10 rfl 52 zlk nv rfl ZRN.out (by kernel_rfl) LV.out.n (by decide) LV.out.one ?_)
      rw [put_all zlk nv (by rw [LV.out.n]; rfl)]
      exact bodyPost_ret (v := .tuple #[.int .i64 0, .agg nv.toArray]) (results_two_cell rfl _ _ rb 52 _ (0, 0) _ _ rfl rfl ON.out.2 Try.underlying52 rfl (by rw [List.size_toArray, LV.out.n]; kernel_rfl)) rfl ⟨upd V 4 vf, by rw [LV.out.elv]; rfl, ON.out.1.r, ON.out.1.b⟩
    · rw [if_neg hfull, if_neg (fun x => hfull x.2)]
      have j1 : (1024 : Int) ≤ (fn : Int) := by omega
      clear hvf hfl h hfn hp hin hm hfull hin' hfm
      go_enter Try.func26, Try.ntmps26
      go_upto_region 1 with (fail)
      rw [zlk_is, PR.out.ewb, PR.out.erb]
      go_upto_region 4 with (fail)
      refine wp_region_gate_tail (fun d w' => w' = wb.drew) 2 (by kernel_rfl) (by kernel_rfl) rfl ?_
      simp only [List.take_succ_cons, List.take_zero, List.drop_succ_cons, List.drop_zero]
      refine InvC.invc_value (.agg lv.toArray) (fun u hu => by cases hu) rfl (fun d w' _ _ h => by subst h; exact exec_load rfl rfl ZL.out Try.underlying52 rfl (by kernel_rfl) PR.out.n) (fun d w' _ _ h => h) ?_
      simp only [Act.put, List.setIfInBounds_toArray, List.set_cons_zero, List.set_cons_succ]
      refine InvC.invc_value (.int .i64 9) (fun u hu => by cases hu) rfl (fun d w' _ _ h => by go_simp; all_goals rfl) (fun d w' _ _ h => h) ?_
      simp only [Act.put, List.setIfInBounds_toArray, List.set_cons_zero, List.set_cons_succ]
      refine InvC.invc_nil fun w8 e8 => ?_
      subst e8
      go_wp2_with (refine wpList_store_row rfl 52 _ _ rfl rb 0 10 rfl 52 zlk lv rfl ZRR.out (by kernel_rfl) PR.out.n (by decide) PR.out.one ?_)
      rw [put_all zlk lv (by rw [PR.out.n]; rfl)]
      exact bodyPost_ret (v := .tuple #[.int .i64 9, .agg lv.toArray]) (results_two_cell rfl _ _ rb 52 _ (0, 0) _ _ rfl rfl OUT.out.2 Try.underlying52 rfl (by rw [List.size_toArray, PR.out.n]; kernel_rfl)) rfl ⟨V, by rw [PR.out.elv]; rfl, OUT.out.1.r, OUT.out.1.b⟩
  · rw [if_neg hin, if_neg (fun x => hin x.1)]
    unfold Lk.inR at hin
    rw [← hfn] at hin
    clear hvf hfl h hfn hp hfm
    by_cases h0 : i < 0
    · clear hin
      go_enter Try.func26, Try.ntmps26
      go_upto_region 1 with (fail)
      rw [zlk_is, PR.out.ewb, PR.out.erb]
      go_upto_region 2 with (fail)
      refine wp_region_gate_tail (fun d w' => w' = wb.drew) 2 (by kernel_rfl) (by kernel_rfl) rfl ?_
      simp only [List.take_succ_cons, List.take_zero, List.drop_succ_cons, List.drop_zero]
      refine InvC.invc_value (.agg lv.toArray) (fun u hu => by cases hu) rfl (fun d w' _ _ h => by subst h; exact exec_load rfl rfl ZL.out Try.underlying52 rfl (by kernel_rfl) PR.out.n) (fun d w' _ _ h => h) ?_
      simp only [Act.put, List.setIfInBounds_toArray, List.set_cons_zero, List.set_cons_succ]
      refine InvC.invc_value (.int .i64 2) (fun u hu => by cases hu) rfl (fun d w' _ _ h => by go_simp; all_goals rfl) (fun d w' _ _ h => h) ?_
      simp only [Act.put, List.setIfInBounds_toArray, List.set_cons_zero, List.set_cons_succ]
      refine InvC.invc_nil fun w8 e8 => ?_
      subst e8
      go_wp2_with (refine wpList_store_row rfl 52 _ _ rfl rb 0 10 rfl 52 zlk lv rfl ZRR.out (by kernel_rfl) PR.out.n (by decide) PR.out.one ?_)
      rw [put_all zlk lv (by rw [PR.out.n]; rfl)]
      exact bodyPost_ret (v := .tuple #[.int .i64 2, .agg lv.toArray]) (results_two_cell rfl _ _ rb 52 _ (0, 0) _ _ rfl rfl OUT.out.2 Try.underlying52 rfl (by rw [List.size_toArray, PR.out.n]; kernel_rfl)) rfl ⟨V, by rw [PR.out.elv]; rfl, OUT.out.1.r, OUT.out.1.b⟩
    · have h1 : (fn : Int) ≤ i := by omega
      have h0' : 0 ≤ i := by omega
      clear hin
      go_enter Try.func26, Try.ntmps26
      go_upto_region 1 with (fail)
      rw [zlk_is, PR.out.ewb, PR.out.erb]
      go_upto_region 2 with (fail)
      refine wp_region_gate_tail (fun d w' => w' = wb.drew) 2 (by kernel_rfl) (by kernel_rfl) rfl ?_
      simp only [List.take_succ_cons, List.take_zero, List.drop_succ_cons, List.drop_zero]
      refine InvC.invc_value (.agg lv.toArray) (fun u hu => by cases hu) rfl (fun d w' _ _ h => by subst h; exact exec_load rfl rfl ZL.out Try.underlying52 rfl (by kernel_rfl) PR.out.n) (fun d w' _ _ h => h) ?_
      simp only [Act.put, List.setIfInBounds_toArray, List.set_cons_zero, List.set_cons_succ]
      refine InvC.invc_value (.int .i64 2) (fun u hu => by cases hu) rfl (fun d w' _ _ h => by go_simp; all_goals rfl) (fun d w' _ _ h => h) ?_
      simp only [Act.put, List.setIfInBounds_toArray, List.set_cons_zero, List.set_cons_succ]
      refine InvC.invc_nil fun w8 e8 => ?_
      subst e8
      go_wp2_with (refine wpList_store_row rfl 52 _ _ rfl rb 0 10 rfl 52 zlk lv rfl ZRR.out (by kernel_rfl) PR.out.n (by decide) PR.out.one ?_)
      rw [put_all zlk lv (by rw [PR.out.n]; rfl)]
      exact bodyPost_ret (v := .tuple #[.int .i64 2, .agg lv.toArray]) (results_two_cell rfl _ _ rb 52 _ (0, 0) _ _ rfl rfl OUT.out.2 Try.underlying52 rfl (by rw [List.size_toArray, PR.out.n]; kernel_rfl)) rfl ⟨V, by rw [PR.out.elv]; rfl, OUT.out.1.r, OUT.out.1.b⟩
end Go.Proofs.Ytfjaoompdleljaa.Link
/-
  Renew, Got, Open of the reference by contract. Helper text; no statement is proved here.
-/
set_option linter.unusedVariables false
set_option maxRecDepth 20000
set_option linter.unusedSimpArgs false
namespace Go.Proofs.Ytfjaoompdleljaa.Link
open Go.RowKit Go.Proofs.Ytfjaoompdleljaa.Base Go.Proofs.Ytfjaoompdleljaa.Laws Go.Proofs.Ytfjaoompdleljaa.Disk Go.Proofs.Ytfjaoompdleljaa.Row Go.Proofs.Ytfjaoompdleljaa.Flat Go.Proofs.Ytfjaoompdleljaa.InvM Go.Proofs.Ytfjaoompdleljaa.Inv Go.Proofs.Ytfjaoompdleljaa.InvL Go.Proofs.Ytfjaoompdleljaa.InvC Go.Proofs.Ytfjaoompdleljaa.InvG Go.Proofs.Ytfjaoompdleljaa.Codec
variable {N : Nat → Prop}
theorem built_en (v : Value) (hv : ∃ a n c, v = .slice a n c) : Try.prog.built 50 [(3, v)] = some #[.slice none 0 0, .int .u32 0, .int .u32 0, v] := by
  obtain ⟨a, n, c, rfl⟩ := hv
  kernel_rfl
theorem built_lk (e : Nat) (v1 v3 v4 : Value) (h1 : ∃ a n c, v1 = .slice a n c) (h3 : ∃ a n c, v3 = .slice a n c) (h4 : ∃ a n c, v4 = .slice a n c) : Try.prog.built 52 [(0, .int .u32 (e : Int)), (1, .agg #[.slice none 0 0, .int .u32 0, .int .u32 0, v1]), (2, .agg #[.slice none 0 0, .int .u32 0, .int .u32 0, v3]), (3, v4)] = some #[.int .u32 (e : Int), .slice none 0 0, .int .u32 0, .int .u32 0, v1, .slice none 0 0, .int .u32 0, .int .u32 0, v3, v4] := by
  obtain ⟨_, _, _, rfl⟩ := h1
  obtain ⟨_, _, _, rfl⟩ := h3
  obtain ⟨_, _, _, rfl⟩ := h4
  kernel_rfl
def rnV (V : Nat → Value) : Nat → Value := upd (upd V 0 (.slice none 0 0)) 2 (.slice none 0 0)
theorem lcells_renew (k : Lk) (V : Nat → Value) (e : Nat) : lcells (k.renew e) (rnV V) = [.int .u32 (e : Int), .slice none 0 0, .int .u32 0, .int .u32 0, V 1, .slice none 0 0, .int .u32 0, .int .u32 0, V 3, V 4] := rfl
theorem Rk.renew {w : World} {V : Nat → Value} {k : Lk} (h : Rk N w V k) (e : Nat) : Rk N w (rnV V) (k.renew e) := by
  refine ⟨fun n hn => ?_, fun n hn => ?_, h.fl, h.nt⟩
  · obtain rfl | rfl : n = 0 ∨ n = 1 := by omega
    · exact Rd.nil
    · exact Rd.nil
  · obtain rfl | rfl : n = 0 ∨ n = 1 := by omega
    · exact h.g 0 hn
    · exact h.g 1 hn
theorem Bx.next {w0 w : World} {lb rb : Nat} {V V' : Nat → Value} {k k' : Lk} {nv cs : List Value} (h : Bx N w0 w lb V k) (hr : Rk N w V' k') (hz : Blk w rb cs 52) (hno : ∀ u ∈ cs, ∀ b, u ≠ u8 b) (hl : w0.heap.size ≤ rb) : Blk (w.setRow rb nv.toArray) rb nv 52 ∧ Rk N (w.setRow rb nv.toArray) V' k' ∧ Below w0.heap.size w0 (w.setRow rb nv.toArray) :=
  ⟨setRow_heap w rb _ nv.toArray _ _ hz, hr.off hz hno (by decide) (grown_setRow _ _ _), below_grown h.b (grown_setRow _ _ _) h.b.size hl⟩
set_option maxHeartbeats 2000000 in
theorem rrenew_any {w : World} {V : Nat → Value} {k : Lk} (h : Rk N w V k) (e : Nat) (hfl : k.fl.length ≤ 1024) : Calls Try.prog 28 #[rl k V, .int .u32 (e : Int)] w fun x w' => Ck N w (if e ≤ k.ep then 2 else 0) (if e ≤ k.ep then k else k.renew e) x w' := by
  obtain ⟨lv, wb, rb, hp⟩ := pro h
  obtain ⟨fa, fc, hvf, hfm, hfx⟩ := h.fl.form
  obtain ⟨fn, hfn⟩ : ∃ fn, fn = k.fl.length := ⟨_, rfl⟩
  have c9 : wb.cell? ⟨w.heap.size, 9, none⟩ = some (.slice fa fn fc) := by rw [hfn, ← hvf]; exact (hp.x.z.cell 9)
  have PR := Lib.hid hp
  have HFN := Lib.hid hfn
  have HFL := Lib.hid hfl
  have ZL := Lib.hid (show Blk wb.drew w.heap.size lv 52 from hp.z.drew)
  have ZRR := Lib.hid (show Blk wb.drew rb zlk 52 from hp.r.drew)
  have OUT := Lib.hid (hp.x.drew.out ZRR.out zlk_no (by have := hp.erb; omega) hp.elv (by have := hp.erb; omega))
  unfold rl
  rw [← hp.elv]
  obtain ⟨ep, hep⟩ : ∃ ep, ep = k.ep := ⟨_, rfl⟩
  have c0 : wb.cell? ⟨w.heap.size, 0, none⟩ = some (.int .u32 (ep : Int)) := by rw [hep]; exact hp.x.z.cell 0
  obtain ⟨v1, hv1⟩ : ∃ v, v = V 1 := ⟨_, rfl⟩
  obtain ⟨v3, hv3⟩ : ∃ v, v = V 3 := ⟨_, rfl⟩
  obtain ⟨v4, hv4⟩ : ∃ v, v = V 4 := ⟨_, rfl⟩
  have C4 := Lib.hid (show wb.drew.cell? ⟨w.heap.size, 4, none⟩ = some v1 by rw [hv1]; exact hp.x.z.drew.cell 4)
  have C8 := Lib.hid (show wb.drew.cell? ⟨w.heap.size, 8, none⟩ = some v3 by rw [hv3]; exact hp.x.z.drew.cell 8)
  have C9 := Lib.hid (show wb.drew.cell? ⟨w.heap.size, 9, none⟩ = some v4 by rw [hv4]; exact hp.x.z.drew.cell 9)
  have SL := Lib.hid (show (∃ a n c, v1 = .slice a n c) ∧ (∃ a n c, v3 = .slice a n c) ∧ (∃ a n c, v4 = .slice a n c) from by
    refine ⟨?_, ?_, ?_⟩
    · obtain ⟨a, c, e, _⟩ := (h.g 0 (by decide)).form
      exact ⟨a, _, c, by rw [hv1]; exact e⟩
    · obtain ⟨a, c, e, _⟩ := (h.g 1 (by decide)).form
      exact ⟨a, _, c, by rw [hv3]; exact e⟩
    · exact ⟨fa, _, fc, by rw [hv4]; exact hvf⟩)
  rw [← hep]
  by_cases he : e ≤ ep
  · rw [if_pos he, if_pos he]
    have h1 : (e : Int) ≤ (ep : Int) := by omega
    clear hvf hfl h hfn hp hfm c9 he hep hv1 hv3 hv4
    go_enter Try.func28, Try.ntmps28
    go_upto_region 1 with (fail)
    rw [zlk_is, PR.out.ewb, PR.out.erb]
    go_upto_region 2 with (fail)
    refine wp_region_gate_tail (fun d w' => w' = wb.drew) 2 (by kernel_rfl) (by kernel_rfl) rfl ?_
    simp only [List.take_succ_cons, List.take_zero, List.drop_succ_cons, List.drop_zero]
    refine InvC.invc_value (.agg lv.toArray) (fun u hu => by cases hu) rfl (fun d w' _ _ h => by subst h; exact exec_load rfl rfl ZL.out Try.underlying52 rfl (by kernel_rfl) PR.out.n) (fun d w' _ _ h => h) ?_
    simp only [Act.put, List.setIfInBounds_toArray, List.set_cons_zero, List.set_cons_succ]
    refine InvC.invc_value (.int .i64 2) (fun u hu => by cases hu) rfl (fun d w' _ _ h => by go_simp; all_goals rfl) (fun d w' _ _ h => h) ?_
    simp only [Act.put, List.setIfInBounds_toArray, List.set_cons_zero, List.set_cons_succ]
    refine InvC.invc_nil fun w8 e8 => ?_
    subst e8
    go_wp2_with (refine wpList_store_row rfl 52 _ _ rfl rb 0 10 rfl 52 zlk lv rfl ZRR.out (by kernel_rfl) PR.out.n (by decide) PR.out.one ?_)
    rw [put_all zlk lv (by rw [PR.out.n]; rfl)]
    exact bodyPost_ret (v := .tuple #[.int .i64 2, .agg lv.toArray]) (results_two_cell rfl _ _ rb 52 _ (0, 0) _ _ rfl rfl OUT.out.2 Try.underlying52 rfl (by rw [List.size_toArray, PR.out.n]; kernel_rfl)) rfl ⟨V, by rw [PR.out.elv]; rfl, OUT.out.1.r, OUT.out.1.b⟩
  · rw [if_neg he, if_neg he]
    have h1 : ¬ (e : Int) ≤ (ep : Int) := by omega
    obtain ⟨nv, hnv⟩ : ∃ nv, nv = lcells (k.renew e) (rnV V) := ⟨_, rfl⟩
    have NB := Lib.hid (show nv = [.int .u32 (e : Int), .slice none 0 0, .int .u32 0, .int .u32 0, v1, .slice none 0 0, .int .u32 0, .int .u32 0, v3, v4] by rw [hnv, lcells_renew, hv1, hv3, hv4])
    have N10 := Lib.hid (show nv.length = 10 by rw [hnv]; rfl)
    have N1 := Lib.hid (show ∀ u ∈ nv, u.oneCell' = true by rw [hnv]; exact lc_one _ _ (h.renew e).one)
    have NX := Lib.hid (hp.x.drew.next (nv := nv) (hp.x.drew.r.renew e) ZRR.out zlk_no (by have := hp.erb; omega))
    have HNV := Lib.hid hnv
    clear hvf hfl h hfn hp hfm c9 he hep hv1 hv3 hv4 hnv
    go_enter Try.func28, Try.ntmps28
    go_upto_region 1 with (fail)
    rw [zlk_is, PR.out.ewb, PR.out.erb]
    go_upto_region 3 with (fail)
    refine wp_region_gate_tail (fun d w' => w' = wb.drew) 13 (by kernel_rfl) (by kernel_rfl) rfl ?_
    simp only [List.take_succ_cons, List.take_zero, List.drop_succ_cons, List.drop_zero]
    refine InvC.invc_value (.int .u32 (e : Int)) (fun u hu => by cases hu) rfl (fun d w' _ _ h => by go_simp; all_goals rfl) (fun d w' _ _ h => h) ?_
    simp only [Act.put, List.setIfInBounds_toArray, List.set_cons_zero, List.set_cons_succ]
    refine InvC.invc_value (.pointer (some ⟨w.heap.size, 1, none⟩)) (fun u hu => by cases hu) rfl (fun d w' _ _ h => by go_simp; all_goals rfl) (fun d w' _ _ h => h) ?_
    simp only [Act.put, List.setIfInBounds_toArray, List.set_cons_zero, List.set_cons_succ]
    refine InvC.invc_value (.pointer (some ⟨w.heap.size, 4, none⟩)) (fun u hu => by cases hu) rfl (fun d w' _ _ h => by go_simp; all_goals rfl) (fun d w' _ _ h => h) ?_
    simp only [Act.put, List.setIfInBounds_toArray, List.set_cons_zero, List.set_cons_succ]
    refine InvC.invc_value (v1) (fun u hu => by cases hu) rfl (fun d w' _ _ h => by subst h; have q := C4.out; go_simp) (fun d w' _ _ h => h) ?_
    simp only [Act.put, List.setIfInBounds_toArray, List.set_cons_zero, List.set_cons_succ]
    refine InvC.invc_value (.agg #[.slice none 0 0, .int .u32 0, .int .u32 0, v1]) (fun u hu => by cases hu) rfl (fun d w' _ _ h => by exact exec_build (vs := [(3, v1)]) rfl rfl (built_en v1 SL.out.1)) (fun d w' _ _ h => h) ?_
    simp only [Act.put, List.setIfInBounds_toArray, List.set_cons_zero, List.set_cons_succ]
    refine InvC.invc_value (.pointer (some ⟨w.heap.size, 5, none⟩)) (fun u hu => by cases hu) rfl (fun d w' _ _ h => by go_simp; all_goals rfl) (fun d w' _ _ h => h) ?_
    simp only [Act.put, List.setIfInBounds_toArray, List.set_cons_zero, List.set_cons_succ]
    refine InvC.invc_value (.pointer (some ⟨w.heap.size, 8, none⟩)) (fun u hu => by cases hu) rfl (fun d w' _ _ h => by go_simp; all_goals rfl) (fun d w' _ _ h => h) ?_
    simp only [Act.put, List.setIfInBounds_toArray, List.set_cons_zero, List.set_cons_succ]
    refine InvC.invc_value (v3) (fun u hu => by cases hu) rfl (fun d w' _ _ h => by subst h; have q := C8.out; go_simp) (fun d w' _ _ h => h) ?_
    simp only [Act.put, List.setIfInBounds_toArray, List.set_cons_zero, List.set_cons_succ]
    refine InvC.invc_value (.agg #[.slice none 0 0, .int .u32 0, .int .u32 0, v3]) (fun u hu => by cases hu) rfl (fun d w' _ _ h => by exact exec_build (vs := [(3, v3)]) rfl rfl (built_en v3 SL.out.2.1)) (fun d w' _ _ h => h) ?_
    simp only [Act.put, List.setIfInBounds_toArray, List.set_cons_zero, List.set_cons_succ]
    refine InvC.invc_value (.pointer (some ⟨w.heap.size, 9, none⟩)) (fun u hu => by cases hu) rfl (fun d w' _ _ h => by go_simp; all_goals rfl) (fun d w' _ _ h => h) ?_
    simp only [Act.put, List.setIfInBounds_toArray, List.set_cons_zero, List.set_cons_succ]
    refine InvC.invc_value (v4) (fun u hu => by cases hu) rfl (fun d w' _ _ h => by subst h; have q := C9.out; go_simp) (fun d w' _ _ h => h) ?_
    simp only [Act.put, List.setIfInBounds_toArray, List.set_cons_zero, List.set_cons_succ]
    refine InvC.invc_value (.agg nv.toArray) (fun u hu => by cases hu) rfl (fun d w' _ _ h => by rw [NB.out]; exact exec_build (vs := [(0, .int .u32 (e : Int)), (1, .agg #[.slice none 0 0, .int .u32 0, .int .u32 0, v1]), (2, .agg #[.slice none 0 0, .int .u32 0, .int .u32 0, v3]), (3, v4)]) rfl rfl (built_lk e v1 v3 v4 SL.out.1 SL.out.2.1 SL.out.2.2)) (fun d w' _ _ h => h) ?_
    simp only [Act.put, List.setIfInBounds_toArray, List.set_cons_zero, List.set_cons_succ]
    refine InvC.invc_value (.int .i64 0) (fun u hu => by cases hu) rfl (fun d w' _ _ h => by go_simp; all_goals rfl) (fun d w' _ _ h => h) ?_
    simp only [Act.put, List.setIfInBounds_toArray, List.set_cons_zero, List.set_cons_succ]
    refine InvC.invc_nil fun w8 e8 => ?_
    subst e8
    go_wp2_with (refine wpList_store_row rfl 52 _ _ rfl rb 0 10 rfl 52 zlk nv rfl ZRR.out (by kernel_rfl) N10.out (by decide) N1.out ?_)
    rw [put_all zlk nv (by rw [N10.out]; rfl)]
    exact bodyPost_ret (v := .tuple #[.int .i64 0, .agg nv.toArray]) (results_two_cell rfl _ _ rb 52 _ (0, 0) _ _ rfl rfl NX.out.1 Try.underlying52 rfl (by rw [List.size_toArray, N10.out]; kernel_rfl)) rfl ⟨rnV V, by rw [HNV.out]; rfl, NX.out.2.1, NX.out.2.2⟩
def Lk.gotI (k : Lk) (n : Int) : List (List UInt8) := if n = 0 then k.a.got else if n = 1 then k.b.got else []
set_option maxHeartbeats 2000000 in
theorem rgot_any {w : World} {V : Nat → Value} {k : Lk} (h : Rk N w V k) (n : Int) : Calls Try.prog 30 #[rl k V, .int .i64 n] w fun e w1 => ∃ v, e = .returned v ∧ Rd N w1 23 gc id v (k.gotI n) ∧ Below w.heap.size w w1 := by
  obtain ⟨wb, hwb⟩ : ∃ wb, wb = w.alloc (.cells (lcells k V).toArray 52) := ⟨_, rfl⟩
  have bb : Below w.heap.size w wb := hwb ▸ (Below.refl _ _).alloc (Nat.le_refl _) _
  have zb : Blk wb w.heap.size (lcells k V) 52 := by rw [hwb]; exact blk_at rfl rfl
  obtain ⟨lv, hlv⟩ : ∃ lv, lv = lcells k V := ⟨_, rfl⟩
  have hev := fun n hn => rend_any k V h.one n hn wb
  unfold rl at hev
  unfold rl
  rw [← hlv] at hwb zb hev ⊢
  have HWB := Lib.hid hwb.symm
  have ZB := Lib.hid zb
  have L10 := Lib.hid (show lv.length = 10 by rw [hlv]; rfl)
  have BB := Lib.hid bb
  by_cases h0 : n < 0
  · have GN := Lib.hid (show Rd N wb 23 gc id (.slice none 0 0) (k.gotI n) by rw [show k.gotI n = [] by unfold Lk.gotI; rw [if_neg (by omega), if_neg (by omega)]]; exact Rd.nil)
    clear hwb zb hev hlv bb h
    go_enter Try.func30, Try.ntmps30
    go_upto_region 1 with (fail)
    rw [HWB.out]
    go_wp2
    go_ret
    exact ⟨_, rfl, GN.out, BB.out⟩
  · by_cases h1 : 1 < n
    · have GN := Lib.hid (show Rd N wb 23 gc id (.slice none 0 0) (k.gotI n) by rw [show k.gotI n = [] by unfold Lk.gotI; rw [if_neg (by omega), if_neg (by omega)]]; exact Rd.nil)
      have h1' : 1 < n ∧ 0 ≤ n := by omega
      clear hwb zb hev hlv bb h
      go_enter Try.func30, Try.ntmps30
      go_upto_region 1 with (fail)
      rw [HWB.out]
      go_wp2
      go_ret
      exact ⟨_, rfl, GN.out, BB.out⟩
    · obtain ⟨m, rfl⟩ := Int.eq_ofNat_of_zero_le (show 0 ≤ n by omega)
      have hm : m < 2 := by omega
      have i1 : (0 : Int) ≤ (m : Int) ∧ (m : Int) ≤ 1 := by omega
      obtain ⟨we, hend, be⟩ := hev m hm
      have EN := Lib.hid hend
      have BE := Lib.hid (bb.trans (be.mono bb.size))
      obtain ⟨ne, hne⟩ : ∃ ne, ne = ecells (k.en m) (V (2 * m)) (V (2 * m + 1)) := ⟨_, rfl⟩
      rw [← hne] at EN
      obtain ⟨va, vc, hv, hv1, _⟩ := (h.g m hm).form
      have GN := Lib.hid (show Rd N we 23 gc id (.slice va (k.en m).got.length vc) (k.gotI (m : Int)) by
        rw [← hv]
        have q := ((h.g m hm).below (bb.trans (be.mono bb.size)))
        obtain rfl | rfl : m = 0 ∨ m = 1 := by omega
        · exact q
        · exact q)
      obtain ⟨vn, hvn⟩ : ∃ vn, vn = (k.en m).got.length := ⟨_, rfl⟩
      rw [← hvn] at GN
      have N3 := Lib.hid (show ne[3]? = some (.slice va vn vc) by rw [hne, hvn, ← hv]; rfl)
      clear hwb zb hev hlv bb h hend be hne hv hvn hv1
      go_enter Try.func30, Try.ntmps30
      go_upto_region 1 with (fail)
      rw [HWB.out]
      go_wp2_with (first | (refine wpList_value_g rfl (.agg lv.toArray) (exec_load rfl rfl ZB.out Try.underlying52 rfl (by kernel_rfl) L10.out) ?_) | (go_at_call 38; refine EN.out.mono ?_; rintro e w5 ⟨rfl, rfl⟩) | (refine wpList_value_g rfl (.slice va vn vc) (exec_field_cell rfl rfl Try.underlying50 rfl Try.underlying22 rfl N3.out) ?_))
      go_ret
      exact ⟨_, rfl, GN.out, BE.out⟩
def Lk.openI (k : Lk) (n : Int) : Nat := if n = 0 then k.a.op.length else if n = 1 then k.b.op.length else 0
set_option maxHeartbeats 2000000 in
theorem ropen_any {w : World} {V : Nat → Value} {k : Lk} (h : Rk N w V k) (n : Int) : Calls Try.prog 31 #[rl k V, .int .i64 n] w fun e w1 => e = .returned (.int .i64 ((k.openI n : Nat) : Int)) ∧ Below w.heap.size w w1 := by
  obtain ⟨wb, hwb⟩ : ∃ wb, wb = w.alloc (.cells (lcells k V).toArray 52) := ⟨_, rfl⟩
  have bb : Below w.heap.size w wb := hwb ▸ (Below.refl _ _).alloc (Nat.le_refl _) _
  have zb : Blk wb w.heap.size (lcells k V) 52 := by rw [hwb]; exact blk_at rfl rfl
  obtain ⟨lv, hlv⟩ : ∃ lv, lv = lcells k V := ⟨_, rfl⟩
  have hev := fun n hn => rend_any k V h.one n hn wb
  unfold rl at hev
  unfold rl
  rw [← hlv] at hwb zb hev ⊢
  have HWB := Lib.hid hwb.symm
  have ZB := Lib.hid zb
  have L10 := Lib.hid (show lv.length = 10 by rw [hlv]; rfl)
  have BB := Lib.hid bb
  by_cases h0 : n < 0
  · have GN := Lib.hid (show k.openI n = 0 by unfold Lk.openI; rw [if_neg (by omega), if_neg (by omega)])
    clear hwb zb hev hlv bb h
    go_enter Try.func31, Try.ntmps31
    go_upto_region 1 with (fail)
    rw [HWB.out]
    go_wp2
    go_ret
    exact ⟨by rw [GN.out]; rfl, BB.out⟩
  · by_cases h1 : 1 < n
    · have GN := Lib.hid (show k.openI n = 0 by unfold Lk.openI; rw [if_neg (by omega), if_neg (by omega)])
      have h1' : 1 < n ∧ 0 ≤ n := by omega
      clear hwb zb hev hlv bb h
      go_enter Try.func31, Try.ntmps31
      go_upto_region 1 with (fail)
      rw [HWB.out]
      go_wp2
      go_ret
      exact ⟨by rw [GN.out]; rfl, BB.out⟩
    · obtain ⟨m, rfl⟩ := Int.eq_ofNat_of_zero_le (show 0 ≤ n by omega)
      have hm : m < 2 := by omega
      have i1 : (0 : Int) ≤ (m : Int) ∧ (m : Int) ≤ 1 := by omega
      obtain ⟨we, hend, be⟩ := hev m hm
      have EN := Lib.hid hend
      have BE := Lib.hid (bb.trans (be.mono bb.size))
      obtain ⟨ne, hne⟩ : ∃ ne, ne = ecells (k.en m) (V (2 * m)) (V (2 * m + 1)) := ⟨_, rfl⟩
      rw [← hne] at EN
      obtain ⟨va, vc, hv, hv1, _⟩ := (h.o m hm).form
      obtain ⟨vn, hvn⟩ : ∃ vn, vn = (k.en m).op.length := ⟨_, rfl⟩
      have GN := Lib.hid (show k.openI (m : Int) = vn by
        rw [hvn]
        obtain rfl | rfl : m = 0 ∨ m = 1 := by omega
        · rfl
        · rfl)
      have N3 := Lib.hid (show ne[0]? = some (.slice va vn vc) by rw [hne, hvn, ← hv]; rfl)
      clear hwb zb hev hlv bb h hend be hne hv hvn hv1
      go_enter Try.func31, Try.ntmps31
      go_upto_region 1 with (fail)
      rw [HWB.out]
      go_wp2_with (first | (refine wpList_value_g rfl (.agg lv.toArray) (exec_load rfl rfl ZB.out Try.underlying52 rfl (by kernel_rfl) L10.out) ?_) | (go_at_call 38; refine EN.out.mono ?_; rintro e w5 ⟨rfl, rfl⟩) | (refine wpList_value_g rfl (.slice va vn vc) (exec_field_cell rfl rfl Try.underlying50 rfl Try.underlying48 rfl N3.out) ?_))
      go_ret
      exact ⟨by rw [GN.out]; rfl, BE.out⟩
end Go.Proofs.Ytfjaoompdleljaa.Link
/-
  Send (refused) of the reference by contract. Helper text; no statement is proved here.
-/
set_option linter.unusedVariables false
set_option maxRecDepth 20000
set_option linter.unusedSimpArgs false
namespace Go.Proofs.Ytfjaoompdleljaa.Link
open Go.RowKit Go.Proofs.Ytfjaoompdleljaa.Base Go.Proofs.Ytfjaoompdleljaa.Laws Go.Proofs.Ytfjaoompdleljaa.Disk Go.Proofs.Ytfjaoompdleljaa.Row Go.Proofs.Ytfjaoompdleljaa.Flat Go.Proofs.Ytfjaoompdleljaa.InvM Go.Proofs.Ytfjaoompdleljaa.Inv Go.Proofs.Ytfjaoompdleljaa.InvL Go.Proofs.Ytfjaoompdleljaa.InvC Go.Proofs.Ytfjaoompdleljaa.InvG Go.Proofs.Ytfjaoompdleljaa.Codec
variable {N : Nat → Prop}
set_option maxHeartbeats 2000000 in
theorem rsend_no2 {w : World} {V : Nat → Value} {k : Lk} (h : Rk N w V k) (n : Int) (a : Option Addr) (l c : Nat) (hfl : k.fl.length ≤ 1024) (hno : n < 0 ∨ 1 < n ∨ l < 1 ∨ 64 < l) : Calls Try.prog 23 #[rl k V, .int .i64 n, .slice a l c] w fun e w' => Ck N w 2 k e w' := by
  obtain ⟨lv, wb, rb, hp⟩ := pro h
  obtain ⟨fa, fc, hvf, hfm, hfx⟩ := h.fl.form
  obtain ⟨fn, hfn⟩ : ∃ fn, fn = k.fl.length := ⟨_, rfl⟩
  have c9 : wb.cell? ⟨w.heap.size, 9, none⟩ = some (.slice fa fn fc) := by rw [hfn, ← hvf]; exact (hp.x.z.cell 9)
  have PR := Lib.hid hp
  have HFN := Lib.hid hfn
  have HFL := Lib.hid hfl
  have ZL := Lib.hid (show Blk wb.drew w.heap.size lv 52 from hp.z.drew)
  have ZRR := Lib.hid (show Blk wb.drew rb zlk 52 from hp.r.drew)
  have OUT := Lib.hid (hp.x.drew.out ZRR.out zlk_no (by have := hp.erb; omega) hp.elv (by have := hp.erb; omega))
  unfold rl
  rw [← hp.elv]
  by_cases h0 : n < 0
  · clear hvf hfl h hfn hp hfm c9 hno hfx
    go_enter Try.func23, Try.ntmps23
    go_upto_region 1 with (fail)
    rw [zlk_is, PR.out.ewb, PR.out.erb]
    go_upto_region 2 with (fail)
    refine wp_region_gate_tail (fun d w' => w' = wb.drew) 2 (by kernel_rfl) (by kernel_rfl) rfl ?_
    simp only [List.take_succ_cons, List.take_zero, List.drop_succ_cons, List.drop_zero]
    refine InvC.invc_value (.agg lv.toArray) (fun u hu => by cases hu) rfl (fun d w' _ _ h => by subst h; exact exec_load rfl rfl ZL.out Try.underlying52 rfl (by kernel_rfl) PR.out.n) (fun d w' _ _ h => h) ?_
    simp only [Act.put, List.setIfInBounds_toArray, List.set_cons_zero, List.set_cons_succ]
    refine InvC.invc_value (.int .i64 2) (fun u hu => by cases hu) rfl (fun d w' _ _ h => by go_simp; all_goals rfl) (fun d w' _ _ h => h) ?_
    simp only [Act.put, List.setIfInBounds_toArray, List.set_cons_zero, List.set_cons_succ]
    refine InvC.invc_nil fun w8 e8 => ?_
    subst e8
    go_wp2_with (refine wpList_store_row rfl 52 _ _ rfl rb 0 10 rfl 52 zlk lv rfl ZRR.out (by kernel_rfl) PR.out.n (by decide) PR.out.one ?_)
    rw [put_all zlk lv (by rw [PR.out.n]; rfl)]
    exact bodyPost_ret (v := .tuple #[.int .i64 2, .agg lv.toArray]) (results_two_cell rfl _ _ rb 52 _ (0, 0) _ _ rfl rfl OUT.out.2 Try.underlying52 rfl (by rw [List.size_toArray, PR.out.n]; kernel_rfl)) rfl ⟨V, by rw [PR.out.elv]; rfl, OUT.out.1.r, OUT.out.1.b⟩
  · by_cases h1 : 1 < n
    · have q1 : 0 ≤ n := by omega
      clear hvf hfl h hfn hp hfm c9 hno hfx
      go_enter Try.func23, Try.ntmps23
      go_upto_region 1 with (fail)
      rw [zlk_is, PR.out.ewb, PR.out.erb]
      go_upto_region 2 with (fail)
      refine wp_region_gate_tail (fun d w' => w' = wb.drew) 2 (by kernel_rfl) (by kernel_rfl) rfl ?_
      simp only [List.take_succ_cons, List.take_zero, List.drop_succ_cons, List.drop_zero]
      refine InvC.invc_value (.agg lv.toArray) (fun u hu => by cases hu) rfl (fun d w' _ _ h => by subst h; exact exec_load rfl rfl ZL.out Try.underlying52 rfl (by kernel_rfl) PR.out.n) (fun d w' _ _ h => h) ?_
      simp only [Act.put, List.setIfInBounds_toArray, List.set_cons_zero, List.set_cons_succ]
      refine InvC.invc_value (.int .i64 2) (fun u hu => by cases hu) rfl (fun d w' _ _ h => by go_simp; all_goals rfl) (fun d w' _ _ h => h) ?_
      simp only [Act.put, List.setIfInBounds_toArray, List.set_cons_zero, List.set_cons_succ]
      refine InvC.invc_nil fun w8 e8 => ?_
      subst e8
      go_wp2_with (refine wpList_store_row rfl 52 _ _ rfl rb 0 10 rfl 52 zlk lv rfl ZRR.out (by kernel_rfl) PR.out.n (by decide) PR.out.one ?_)
      rw [put_all zlk lv (by rw [PR.out.n]; rfl)]
      exact bodyPost_ret (v := .tuple #[.int .i64 2, .agg lv.toArray]) (results_two_cell rfl _ _ rb 52 _ (0, 0) _ _ rfl rfl OUT.out.2 Try.underlying52 rfl (by rw [List.size_toArray, PR.out.n]; kernel_rfl)) rfl ⟨V, by rw [PR.out.elv]; rfl, OUT.out.1.r, OUT.out.1.b⟩
    · by_cases h2 : l < 1
      · have q1 : 0 ≤ n ∧ n ≤ 1 := by omega
        have q2 : (l : Int) < 1 := by omega
        clear hvf hfl h hfn hp hfm c9 hno hfx
        go_enter Try.func23, Try.ntmps23
        go_upto_region 1 with (fail)
        rw [zlk_is, PR.out.ewb, PR.out.erb]
        go_upto_region 2 with (fail)
        refine wp_region_gate_tail (fun d w' => w' = wb.drew) 2 (by kernel_rfl) (by kernel_rfl) rfl ?_
        simp only [List.take_succ_cons, List.take_zero, List.drop_succ_cons, List.drop_zero]
        refine InvC.invc_value (.agg lv.toArray) (fun u hu => by cases hu) rfl (fun d w' _ _ h => by subst h; exact exec_load rfl rfl ZL.out Try.underlying52 rfl (by kernel_rfl) PR.out.n) (fun d w' _ _ h => h) ?_
        simp only [Act.put, List.setIfInBounds_toArray, List.set_cons_zero, List.set_cons_succ]
        refine InvC.invc_value (.int .i64 2) (fun u hu => by cases hu) rfl (fun d w' _ _ h => by go_simp; all_goals rfl) (fun d w' _ _ h => h) ?_
        simp only [Act.put, List.setIfInBounds_toArray, List.set_cons_zero, List.set_cons_succ]
        refine InvC.invc_nil fun w8 e8 => ?_
        subst e8
        go_wp2_with (refine wpList_store_row rfl 52 _ _ rfl rb 0 10 rfl 52 zlk lv rfl ZRR.out (by kernel_rfl) PR.out.n (by decide) PR.out.one ?_)
        rw [put_all zlk lv (by rw [PR.out.n]; rfl)]
        exact bodyPost_ret (v := .tuple #[.int .i64 2, .agg lv.toArray]) (results_two_cell rfl _ _ rb 52 _ (0, 0) _ _ rfl rfl OUT.out.2 Try.underlying52 rfl (by rw [List.size_toArray, PR.out.n]; kernel_rfl)) rfl ⟨V, by rw [PR.out.elv]; rfl, OUT.out.1.r, OUT.out.1.b⟩
      · have q1 : 0 ≤ n ∧ n ≤ 1 := by omega
        have q2 : (1 : Int) ≤ (l : Int) := by omega
        have q3 : (64 : Int) < (l : Int) := by omega
        clear hvf hfl h hfn hp hfm c9 hno hfx
        go_enter Try.func23, Try.ntmps23
        go_upto_region 1 with (fail)
        rw [zlk_is, PR.out.ewb, PR.out.erb]
        go_upto_region 2 with (fail)
        refine wp_region_gate_tail (fun d w' => w' = wb.drew) 2 (by kernel_rfl) (by kernel_rfl) rfl ?_
        simp only [List.take_succ_cons, List.take_zero, List.drop_succ_cons, List.drop_zero]
        refine InvC.invc_value (.agg lv.toArray) (fun u hu => by cases hu) rfl (fun d w' _ _ h => by subst h; exact exec_load rfl rfl ZL.out Try.underlying52 rfl (by kernel_rfl) PR.out.n) (fun d w' _ _ h => h) ?_
        simp only [Act.put, List.setIfInBounds_toArray, List.set_cons_zero, List.set_cons_succ]
        refine InvC.invc_value (.int .i64 2) (fun u hu => by cases hu) rfl (fun d w' _ _ h => by go_simp; all_goals rfl) (fun d w' _ _ h => h) ?_
        simp only [Act.put, List.setIfInBounds_toArray, List.set_cons_zero, List.set_cons_succ]
        refine InvC.invc_nil fun w8 e8 => ?_
        subst e8
        go_wp2_with (refine wpList_store_row rfl 52 _ _ rfl rb 0 10 rfl 52 zlk lv rfl ZRR.out (by kernel_rfl) PR.out.n (by decide) PR.out.one ?_)
        rw [put_all zlk lv (by rw [PR.out.n]; rfl)]
        exact bodyPost_ret (v := .tuple #[.int .i64 2, .agg lv.toArray]) (results_two_cell rfl _ _ rb 52 _ (0, 0) _ _ rfl rfl OUT.out.2 Try.underlying52 rfl (by rw [List.size_toArray, PR.out.n]; kernel_rfl)) rfl ⟨V, by rw [PR.out.elv]; rfl, OUT.out.1.r, OUT.out.1.b⟩
/-- the end in a box of its own, ahead of what Send and Deliver do -/
structure Eb (N : Nat → Prop) (w : World) (V : Nat → Value) (k : Lk) (lv : List Value) (wb : World) (rb n : Nat) (we wg : World) (eb : Nat) (ne : List Value) : Prop where
  bl : Below wb.heap.size wb we
  call : Calls Try.prog 38 #[.agg lv.toArray, .int .i64 (n : Int)] wb (fun e w' => e = .returned (.agg ne.toArray) ∧ w' = we)
  ene : ne = ecells (k.en n) (V (2 * n)) (V (2 * n + 1))
  len : List.length ne = 4
  one : ∀ u ∈ ne, Value.oneCell' u = true
  eeb : we.heap.size = eb
  za : Blk (we.alloc (.cells zen.toArray 50)) eb zen 50
  ewg : (we.alloc (.cells zen.toArray 50)).setRow eb ne.toArray = wg
  x : Bx N w wg w.heap.size V k
  r : Blk wg rb zlk 52
  e : Blk wg eb ne 50
  sz : wg.heap.size = eb + 1
  lt : rb < eb
theorem zen_is : (#[Value.slice none 0 0, Value.int .u32 0, Value.int .u32 0, Value.slice none 0 0] : Array Value) = zen.toArray := rfl
theorem zen_no : ∀ u ∈ zen, ∀ b, u ≠ u8 b := by
  intro u hu b
  simp only [zen, List.mem_cons, List.not_mem_nil, or_false] at hu
  rcases hu with rfl | rfl | rfl | rfl <;> simp [u8]
theorem eb_any {w : World} {V : Nat → Value} {k : Lk} {lv : List Value} {wb : World} {rb : Nat} (p : Pro N w V k lv wb rb) (h : Rk N w V k) (n : Nat) (hn : n < 2) : ∃ we wg eb ne, Eb N w V k lv wb rb n we wg eb ne := by
  obtain ⟨we, hend, be⟩ := rend_any k V h.one n hn wb
  unfold rl at hend
  rw [← p.elv] at hend
  have hsz := p.sz
  have hsb := p.erb
  have hse := be.size
  have hz : Blk (we.alloc (.cells zen.toArray 50)) we.heap.size zen 50 := blk_at rfl rfl
  have ba : Below we.heap.size we (we.alloc (.cells zen.toArray 50)) := (Below.refl _ _).alloc (Nat.le_refl _) _
  have bg : Below we.heap.size we ((we.alloc (.cells zen.toArray 50)).setRow we.heap.size (ecells (k.en n) (V (2 * n)) (V (2 * n + 1))).toArray) := below_grown ba (grown_setRow _ _ _) ba.size (Nat.le_refl _)
  exact ⟨we, _, we.heap.size, ecells (k.en n) (V (2 * n)) (V (2 * n + 1)), be, hend, rfl, rfl, ec_one (h.one _ (by omega)) (h.one _ (by omega)), rfl, hz, rfl, (p.x.below be).below bg, (p.r.below be p.r.lt).below bg (by omega), setRow_heap _ _ _ _ _ _ hz, by simp, by omega⟩
set_option maxHeartbeats 2000000 in
theorem rsend_no9 {w : World} {V : Nat → Value} {k : Lk} (h : Rk N w V k) (n : Nat) (hn : n < 2) (a : Option Addr) (l c : Nat) (h1 : 1 ≤ l) (h64 : l ≤ 64) (hfl : k.fl.length ≤ 1024) (hno : ¬ (k.fl.length < 1024 ∧ (k.en n).op.length < 256)) : Calls Try.prog 23 #[rl k V, .int .i64 (n : Int), .slice a l c] w fun e w' => Ck N w 9 k e w' := by
  obtain ⟨lv, wb, rb, hp⟩ := pro h
  obtain ⟨fa, fc, hvf, hfm, hfx⟩ := h.fl.form
  obtain ⟨fn, hfn⟩ : ∃ fn, fn = k.fl.length := ⟨_, rfl⟩
  have c9 : wb.cell? ⟨w.heap.size, 9, none⟩ = some (.slice fa fn fc) := by rw [hfn, ← hvf]; exact (hp.x.z.cell 9)
  have PR := Lib.hid hp
  have HFN := Lib.hid hfn
  have HFL := Lib.hid hfl
  have ZL := Lib.hid (show Blk wb.drew w.heap.size lv 52 from hp.z.drew)
  have ZRR := Lib.hid (show Blk wb.drew rb zlk 52 from hp.r.drew)
  have OUT := Lib.hid (hp.x.drew.out ZRR.out zlk_no (by have := hp.erb; omega) hp.elv (by have := hp.erb; omega))
  unfold rl
  rw [← hp.elv]
  obtain ⟨we, wg, eb, ne, hb⟩ := eb_any hp h n hn
  obtain ⟨oa, oc, hvo, _, _⟩ := (h.o n hn).form
  obtain ⟨on, hon⟩ : ∃ on, on = (k.en n).op.length := ⟨_, rfl⟩
  have C9 := Lib.hid (show wg.cell? ⟨w.heap.size, 9, none⟩ = some (.slice fa fn fc) by rw [hfn, ← hvf]; exact (hb.x.z.cell 9))
  have CO := Lib.hid (show wg.cell? ⟨eb, 0, none⟩ = some (.slice oa on oc) by rw [hon, ← hvo, hb.e.cell, hb.ene]; rfl)
  have EB := Lib.hid hb
  have ZB := Lib.hid hp.z
  obtain ⟨nv, hnv⟩ := hb.x.drew.lvs hb.r.drew (by have := hp.erb; omega) (by have := hp.erb; omega)
  have LV := Lib.hid hnv
  have ZN := Lib.hid hnv.z
  have ZRN := Lib.hid hnv.zr
  have ON := Lib.hid hnv.o
  have q1 : (0 : Int) ≤ (n : Int) ∧ (n : Int) ≤ 1 := by omega
  have q2 : (1 : Int) ≤ (l : Int) ∧ (l : Int) ≤ 64 := by omega
  have NVL := Lib.hid (show nv = lv by rw [hnv.elv, hp.elv])
  rw [← hfn, ← hon] at hno
  clear c9 hb hp hnv hvf hvo hfn hon h hfl hfm hfx
  have j9 : ¬ ((fn : Int) < 1024 ∧ (on : Int) < 256) := by omega
  go_enter Try.func23, Try.ntmps23
  go_upto_region 1 with (fail)
  rw [zlk_is, PR.out.ewb, PR.out.erb]
  go_upto_region 3 with (fail)
  go_upto_region 4 with (first | (refine wpList_value_g rfl (.agg lv.toArray) (exec_load rfl rfl ZB.out Try.underlying52 rfl (by kernel_rfl) PR.out.n) ?_) | (go_at_call 38; refine EB.out.call.mono ?_; rintro e w5 ⟨rfl, rfl⟩) | (refine wpList_store_row rfl 50 _ _ rfl eb 0 4 (by rw [← EB.out.eeb]; rfl) 50 zen ne rfl EB.out.za (by kernel_rfl) EB.out.len (by decide) EB.out.one ?_))
  rw [put_all zen ne (by rw [EB.out.len]; rfl), zen_is, EB.out.ewg, EB.out.eeb]
  have c9 := C9.out
  have co := CO.out
  simp only [Act.put]
  by_cases j1 : (fn : Int) < 1024
  · have j2 : (256 : Int) ≤ (on : Int) := by omega
    clear j9
    go_upto_region 5 with (fail)
    refine wp_region_gate_tail (fun d w' => w' = wg.drew) 2 (by kernel_rfl) (by kernel_rfl) rfl ?_
    simp only [List.take_succ_cons, List.take_zero, List.drop_succ_cons, List.drop_zero]
    refine InvC.invc_value (.agg nv.toArray) (fun u hu => by cases hu) rfl (fun d w' _ _ h => by subst h; exact exec_load rfl rfl ZN.out Try.underlying52 rfl (by kernel_rfl) LV.out.n) (fun d w' _ _ h => h) ?_
    simp only [Act.put, List.setIfInBounds_toArray, List.set_cons_zero, List.set_cons_succ]
    refine InvC.invc_value (.int .i64 9) (fun u hu => by cases hu) rfl (fun d w' _ _ h => by go_simp; all_goals rfl) (fun d w' _ _ h => h) ?_
    simp only [Act.put, List.setIfInBounds_toArray, List.set_cons_zero, List.set_cons_succ]
    refine InvC.invc_nil fun w8 e8 => ?_
    subst e8
    go_wp2_with (refine wpList_store_row rfl 52 _ _ rfl rb 0 10 rfl 52 zlk nv rfl ZRN.out (by kernel_rfl) LV.out.n (by decide) LV.out.one ?_)
    rw [put_all zlk nv (by rw [LV.out.n]; rfl)]
    exact bodyPost_ret (v := .tuple #[.int .i64 9, .agg nv.toArray]) (results_two_cell rfl _ _ rb 52 _ (0, 0) _ _ rfl rfl ON.out.2 Try.underlying52 rfl (by rw [List.size_toArray, LV.out.n]; kernel_rfl)) rfl ⟨V, by rw [LV.out.elv]; rfl, ON.out.1.r, ON.out.1.b⟩
  · clear j9
    go_upto_region 5 with (fail)
    refine wp_region_gate_tail (fun d w' => w' = wg.drew) 2 (by kernel_rfl) (by kernel_rfl) rfl ?_
    simp only [List.take_succ_cons, List.take_zero, List.drop_succ_cons, List.drop_zero]
    refine InvC.invc_value (.agg nv.toArray) (fun u hu => by cases hu) rfl (fun d w' _ _ h => by subst h; exact exec_load rfl rfl ZN.out Try.underlying52 rfl (by kernel_rfl) LV.out.n) (fun d w' _ _ h => h) ?_
    simp only [Act.put, List.setIfInBounds_toArray, List.set_cons_zero, List.set_cons_succ]
    refine InvC.invc_value (.int .i64 9) (fun u hu => by cases hu) rfl (fun d w' _ _ h => by go_simp; all_goals rfl) (fun d w' _ _ h => h) ?_
    simp only [Act.put, List.setIfInBounds_toArray, List.set_cons_zero, List.set_cons_succ]
    refine InvC.invc_nil fun w8 e8 => ?_
    subst e8
    go_wp2_with (refine wpList_store_row rfl 52 _ _ rfl rb 0 10 rfl 52 zlk nv rfl ZRN.out (by kernel_rfl) LV.out.n (by decide) LV.out.one ?_)
    rw [put_all zlk nv (by rw [LV.out.n]; rfl)]
    exact bodyPost_ret (v := .tuple #[.int .i64 9, .agg nv.toArray]) (results_two_cell rfl _ _ rb 52 _ (0, 0) _ _ rfl rfl ON.out.2 Try.underlying52 rfl (by rw [List.size_toArray, LV.out.n]; kernel_rfl)) rfl ⟨V, by rw [LV.out.elv]; rfl, ON.out.1.r, ON.out.1.b⟩
end Go.Proofs.Ytfjaoompdleljaa.Link
/-
  Send (taken) of the reference by contract. Helper text; no statement is proved here.
-/
set_option linter.unusedVariables false
set_option maxRecDepth 20000
set_option linter.unusedSimpArgs false
namespace Go.Proofs.Ytfjaoompdleljaa.Link
open Go.RowKit Go.Proofs.Ytfjaoompdleljaa.Base Go.Proofs.Ytfjaoompdleljaa.Laws Go.Proofs.Ytfjaoompdleljaa.Disk Go.Proofs.Ytfjaoompdleljaa.Row Go.Proofs.Ytfjaoompdleljaa.Flat Go.Proofs.Ytfjaoompdleljaa.InvM Go.Proofs.Ytfjaoompdleljaa.Inv Go.Proofs.Ytfjaoompdleljaa.InvL Go.Proofs.Ytfjaoompdleljaa.InvC Go.Proofs.Ytfjaoompdleljaa.InvG Go.Proofs.Ytfjaoompdleljaa.Codec
variable {N : Nat → Prop}
theorem Rk.eno {w : World} {V : Nat → Value} {k : Lk} (h : Rk N w V k) (n : Nat) (hn : n < 2) {e : En} : ∀ u ∈ ecells e (V (2 * n)) (V (2 * n + 1)), ∀ b, u ≠ u8 b := by
  intro u hu b
  simp only [ecells, List.mem_cons, List.not_mem_nil, or_false] at hu
  rcases hu with rfl | rfl | rfl | rfl
  · obtain ⟨a, c, e, _⟩ := (h.o n hn).form; rw [e]; simp [u8]
  · simp [u8]
  · simp [u8]
  · obtain ⟨a, c, e, _⟩ := (h.g n hn).form; rw [e]; simp [u8]
/-- the worlds of Send behind its tests, up to the new open messages -/
structure Sy (N : Nat → Prop) (w : World) (V : Nat → Value) (k : Lk) (rb n : Nat) (wg : World) (eb s1 : Nat) (ad : Addr) (bn c : Nat) (B : List UInt8) (oa : Option Addr) (on oc : Nat) (w6 w7 w8 : World) (a8 : Option Addr) (c8 : Nat) (W1 W2 : World) (cc : Nat) (mv : List Value) (W3 W4 : World) (a9 : Option Addr) (c9 : Nat) (w9 : World) (ev : List Value) : Prop where
  es : s1 = ((k.en n).sent + 1) % 4294967296
  e6 : wg.setCell ⟨eb, 1, none⟩ (.int .u32 (s1 : Int)) = w6
  e7 : w6.alloc (.cells #[] 71) = w7
  o7 : w7.cell? ⟨eb, 0, none⟩ = some (.slice oa on oc)
  r8 : (Builtin.append_ #[48, 48] 48 #[.slice (some ⟨w6.heap.size, 0, none⟩) 0 0, .slice oa on oc]).run Try.prog w7 = .ok (.slice a8 on c8) w8
  e1 : W1 = w8.drew.alloc (.cells #[] 5)
  e2 : W2 = cloneW w8.drew bn B
  ecc : cc = cloneC w8.drew bn
  bts : Bts w8.drew (some ad) bn c B
  emv : mv = [.int .u32 0, .int .u32 (s1 : Int), .int .u32 0, .slice (some ⟨w8.heap.size + 1, 0, none⟩) bn cc]
  e3 : W3 = W2.alloc (.cells mv.toArray 71)
  r4 : (Builtin.append_ #[48, 48] 48 #[.slice a8 on c8, .slice (some ⟨W2.heap.size, 0, none⟩) 1 1]).run Try.prog W3 = .ok (.slice a9 (on + 1) c9) W4
  cs : ∀ w', (w' = w8.drew ∨ w' = W1 ∨ w' = W2 ∨ w' = W3 ∨ w' = W4) → w'.cell? ⟨eb, 1, none⟩ = some (.int .u32 (s1 : Int))
  cO : W4.cell? ⟨eb, 0, none⟩ = some (.slice oa on oc)
  fO : W4.frozen? ⟨eb, 0, none⟩ = false
  e9 : W4.setCell ⟨eb, 0, none⟩ (.slice a9 (on + 1) c9) = w9
  eev : ev = ecells { (k.en n) with sent := s1, op := (k.en n).op ++ [⟨0, s1, 0, B⟩] } (.slice a9 (on + 1) c9) (V (2 * n + 1))
  zE : Blk w9 eb ev 50
  x9 : Bx N w w9 w.heap.size V k
  z9 : Blk w9 rb zlk 52
  d9 : Rd N w9 71 mc (·.B) (.slice a9 (on + 1) c9) ((k.en n).op ++ [⟨0, s1, 0, B⟩])
  b9 : Bts w9 (some ad) bn c B
  n9 : eb < w9.heap.size
theorem sy_any {w : World} {V : Nat → Value} {k : Lk} {lv : List Value} {wb we wg : World} {rb n eb : Nat} {ne : List Value} (p : Pro N w V k lv wb rb) (h : Rk N w V k) (hn : n < 2) (hb : Eb N w V k lv wb rb n we wg eb ne) {ad : Addr} {bn c : Nat} {B : List UInt8} (hB : Bts w (some ad) bn c B) (h0 : 0 < bn) (h64 : bn ≤ 64) (hop : (k.en n).op.length < 256) :
    ∃ s1 oa oc w6 w7 w8 a8 c8 W1 W2 cc mv W3 W4 a9 c9 w9 ev, V (2 * n) = .slice oa (k.en n).op.length oc ∧ Sy N w V k rb n wg eb s1 ad bn c B oa (k.en n).op.length oc w6 w7 w8 a8 c8 W1 W2 cc mv W3 W4 a9 c9 w9 ev := by
  obtain rfl := hB.1
  obtain ⟨s1, hs1⟩ : ∃ s1, s1 = ((k.en n).sent + 1) % 4294967296 := ⟨_, rfl⟩
  obtain ⟨oa, oc, hvo, ho1, ho2⟩ := (h.o n hn).form
  obtain ⟨w6, hw6⟩ : ∃ w6, w6 = wg.setCell ⟨eb, 1, none⟩ (.int .u32 (s1 : Int)) := ⟨_, rfl⟩
  have hlt := hb.lt
  have hrb := p.erb
  have hsg := hb.sz
  have z6 : Blk w6 eb (ecells { (k.en n) with sent := s1 } (V (2 * n)) (V (2 * n + 1))) 50 := by
    have := hb.e.setCell 1 (.int .u32 (s1 : Int))
    rw [← hw6, hb.ene] at this
    exact this
  have g6 : wg.grownBy w6 (some eb) := by rw [hw6]; exact grown_setCell' _ _ _ _
  have x6 : Bx N w w6 w.heap.size V k := hb.x.off hb.e (by rw [hb.ene]; exact h.eno n hn) (by decide) g6 (by omega) (by omega)
  have r6 : Blk w6 rb zlk 52 := hb.r.grown g6 (by omega)
  have hs6 : w6.heap.size = eb + 1 := by rw [hw6]; simp [hsg]
  obtain ⟨w7, hw7⟩ : ∃ w7, w7 = w6.alloc (.cells #[] 71) := ⟨_, rfl⟩
  have b7 : Below w6.heap.size w6 w7 := hw7 ▸ (Below.refl _ _).alloc (Nat.le_refl _) _
  have z7 : Blk w7 w6.heap.size [] 71 := by rw [hw7]; exact blk_at rfl rfl
  have hs7 := z7.lt
  have B7 : Below w.heap.size w w7 := x6.b.trans (b7.mono x6.b.size)
  have own0 : Own N w7 w6.heap.size 71 4 mc (·.B) (.slice (some ⟨w6.heap.size, 0, none⟩) 0 0) ([] : List Mk) := Own.new (fun x hx => by have := h.nt x hx; omega) w6.heap.size (Nat.le_refl _) z7
  obtain ⟨v8, w8, hr8, own8, b8, a8, c8, rfl⟩ := own0.appendAll (h.o n hn) B7 x6.b.size (fun p => rfl) 48 48 (.agg #[.int .u32 0, .int .u32 0, .int .u32 0, .slice none 0 0]) 40 Try.underlying48 info_mk rfl (by decide) mcf_one (by simp; omega) (by simp; unfold maxLen; omega) (by omega)
  rw [List.nil_append] at own8 hr8
  have hs8 := b8.size
  have B8 : Below w6.heap.size w6 w8 := b7.trans b8
  have B8w : Below w.heap.size w w8 := x6.b.trans (B8.mono x6.b.size)
  have hbt : Bts w8.drew (some ad) B.length c B := hB.below B8w.drew (Nat.le_refl _)
  obtain ⟨x1, x2, x3⟩ := cloneW_is w8.drew B.length B rfl (by omega)
  obtain ⟨W1, hW1⟩ : ∃ W1, W1 = w8.drew.alloc (.cells #[] 5) := ⟨_, rfl⟩
  obtain ⟨W2, hW2⟩ : ∃ W2, W2 = cloneW w8.drew B.length B := ⟨_, rfl⟩
  obtain ⟨cc, hcc⟩ : ∃ cc, cc = cloneC w8.drew B.length := ⟨_, rfl⟩
  rw [← hW2, ← hcc] at x1
  rw [← hW2] at x2 x3
  have bW1 : Below w8.heap.size w8 W1 := hW1 ▸ (Below.refl w8.heap.size w8).drew.alloc (Nat.le_refl _) _
  have bW2 : Below w8.heap.size w8 W2 := (Below.refl w8.heap.size w8).drew.trans x2
  have hs2 := bW2.size
  obtain ⟨mv, hmv⟩ : ∃ mv : List Value, mv = [.int .u32 0, .int .u32 (s1 : Int), .int .u32 0, .slice (some ⟨w8.heap.size + 1, 0, none⟩) B.length cc] := ⟨_, rfl⟩
  obtain ⟨W3, hW3⟩ : ∃ W3, W3 = W2.alloc (.cells mv.toArray 71) := ⟨_, rfl⟩
  have b23 : Below W2.heap.size W2 W3 := hW3 ▸ (Below.refl _ _).alloc (Nat.le_refl _) _
  have z3 : Blk W3 W2.heap.size (mc ((⟨0, s1, 0, B⟩ : Mk), .slice (some ⟨w8.heap.size + 1, 0, none⟩) B.length cc)) 71 := by rw [hW3, hmv]; exact blk_at rfl rfl
  have bW3 : Below w8.heap.size w8 W3 := bW2.trans (b23.mono bW2.size)
  have hs3 := b23.size
  have hy : BodyX N W3 (Value.slice a8 (k.en n).op.length c8).ownBlock (.slice (some ⟨w8.heap.size + 1, 0, none⟩) B.length cc) B := ⟨_, cc, rfl, x1.below b23 (Nat.le_refl _), .inr ⟨_, _, rfl, (fun e => by have := (own8.lt e).2; omega), fun hN => by have := h.nt _ hN; have := B8w.size; omega⟩⟩
  obtain ⟨v9, W4, hr4, own9, _, b4, a9, c9, rfl⟩ := (own8.below bW3).append (⟨0, s1, 0, B⟩ : Mk) _ hy (cp := 1) z3 (fun p => rfl) 48 48 (.agg #[.int .u32 0, .int .u32 0, .int .u32 0, .slice none 0 0]) 40 Try.underlying48 info_mk rfl (by decide) mcf_one (by omega) (by unfold maxLen; omega) (by omega)
  have hs4 := b4.size
  have x7 := x6.below b7
  have hwl : w.heap.size < w6.heap.size := x6.z.lt
  have x8 := x7.base h b8 hwl x6.b.size
  have y3 := x8.below bW3
  have y4 := y3.base h b4 hwl x6.b.size
  have z8 := (z6.below b7 z6.lt).below b8 (by omega)
  have zz3 := z8.below bW3 (by omega)
  have z4 := zz3.below b4 (by omega)
  have q8 := (r6.below b7 r6.lt).below b8 (by omega)
  have q4 := (q8.below bW3 (by omega)).below b4 (by omega)
  obtain ⟨w9, hw9⟩ : ∃ w9, w9 = W4.setCell ⟨eb, 0, none⟩ (.slice a9 ((k.en n).op.length + 1) c9) := ⟨_, rfl⟩
  have g9 : W4.grownBy w9 (some eb) := by rw [hw9]; exact grown_setCell' _ _ _ _
  have hno := h.eno n hn (e := { (k.en n) with sent := s1 })
  have x9 := y4.off z4 hno (by decide) g9 (by omega) (by omega)
  have z9 : Blk w9 eb (ecells { (k.en n) with sent := s1, op := (k.en n).op ++ [⟨0, s1, 0, B⟩] } (.slice a9 ((k.en n).op.length + 1) c9) (V (2 * n + 1))) 50 := by
    have := z4.setCell 0 (.slice a9 ((k.en n).op.length + 1) c9)
    rw [← hw9] at this
    exact this
  refine ⟨s1, oa, oc, w6, w7, w8, a8, c8, W1, W2, cc, mv, W3, W4, a9, c9, w9, _, hvo, hs1, hw6.symm, hw7.symm, ?_, by rw [← hvo]; exact hr8, hW1, hW2, hcc, hbt, hmv, hW3, hr4, ?_, ?_, z4.frozen 0, hw9.symm, rfl, z9, x9, q4.grown g9 (by omega), (own9.rd (fun p => rfl) (by decide)).off z4 hno (by decide) g9, hB.below x9.b (Nat.le_refl _), z9.lt⟩
  · rw [← hvo]; exact (z6.below b7 z6.lt).cell 0
  · rintro w' (rfl | rfl | rfl | rfl | rfl)
    · exact z8.drew.cell 1
    · exact (z8.below bW1 (by omega)).cell 1
    · exact (z8.below bW2 (by omega)).cell 1
    · exact zz3.cell 1
    · exact z4.cell 1
  · rw [← hvo]; exact z4.cell 0
end Go.Proofs.Ytfjaoompdleljaa.Link
/-
  with of the reference, told exactly. Helper text; no statement is proved here.
-/
set_option linter.unusedVariables false
set_option maxRecDepth 20000
set_option linter.unusedSimpArgs false
namespace Go.Proofs.Ytfjaoompdleljaa.Link
open Go.RowKit Go.Proofs.Ytfjaoompdleljaa.Base Go.Proofs.Ytfjaoompdleljaa.Laws Go.Proofs.Ytfjaoompdleljaa.Disk Go.Proofs.Ytfjaoompdleljaa.Row Go.Proofs.Ytfjaoompdleljaa.Flat Go.Proofs.Ytfjaoompdleljaa.InvM Go.Proofs.Ytfjaoompdleljaa.Inv Go.Proofs.Ytfjaoompdleljaa.InvL Go.Proofs.Ytfjaoompdleljaa.InvC Go.Proofs.Ytfjaoompdleljaa.InvG Go.Proofs.Ytfjaoompdleljaa.Codec
variable {N : Nat → Prop}
theorem rwith_x (k : Lk) (V : Nat → Value) (hV : ∀ i, i < 5 → (V i).oneCell' = true) (n : Nat) (hn : n < 2) (e : En) (o g : Value) (ho : o.oneCell' = true) (hg : g.oneCell' = true) (w : World) : ∃ w1, Calls Try.prog 40 #[rl k V, .int .i64 (n : Int), .agg (ecells e o g).toArray] w (fun x w' => x = .returned (rl (k.with n e) (updE V n o g)) ∧ w' = w1) ∧ Below w.heap.size w w1 := by
  obtain ⟨wa, hwa⟩ : ∃ wa, wa = w.alloc (.cells (lcells k V).toArray 52) := ⟨_, rfl⟩
  obtain ⟨wb, hwb⟩ : ∃ wb, wb = wa.alloc (.cells (ecells e o g).toArray 50) := ⟨_, rfl⟩
  obtain ⟨wc, hwc⟩ : ∃ wc, wc = wb.alloc (.cells zlk.toArray 52) := ⟨_, rfl⟩
  have ba : Below w.heap.size w wa := hwa ▸ (Below.refl _ _).alloc (Nat.le_refl _) _
  have za : Blk wa w.heap.size (lcells k V) 52 := by rw [hwa]; exact blk_at rfl rfl
  have hsa : wa.heap.size = w.heap.size + 1 := by rw [hwa]; simp
  have bb : Below wa.heap.size wa wb := hwb ▸ (Below.refl _ _).alloc (Nat.le_refl _) _
  have zb : Blk wb wa.heap.size (ecells e o g) 50 := by rw [hwb]; exact blk_at rfl rfl
  have hsb : wb.heap.size = w.heap.size + 2 := by rw [hwb]; simp [hsa]
  have bc : Below wb.heap.size wb wc := hwc ▸ (Below.refl _ _).alloc (Nat.le_refl _) _
  have zc : Blk wc wb.heap.size zlk 52 := by rw [hwc]; exact blk_at rfl rfl
  have hsc : wb.heap.size < wc.heap.size := zc.lt
  have ZA := Lib.hid ((za.below bb za.lt).below bc (by omega))
  have ZB := Lib.hid (zb.below bc zb.lt)
  have ZC := Lib.hid zc
  have BC := Lib.hid (show Below w.heap.size w wc from (ba.trans (bb.mono (by omega))).trans (bc.mono (by omega)))
  have L10 := Lib.hid (show (lcells k V).length = 10 from rfl)
  have E4 := Lib.hid (show (ecells e o g).length = 4 from rfl)
  have E1 := Lib.hid (ec_one (e := e) ho hg)
  obtain ⟨ev, hev⟩ : ∃ ev, ev = ecells e o g := ⟨_, rfl⟩
  obtain ⟨lv, hlv⟩ : ∃ lv, lv = lcells k V := ⟨_, rfl⟩
  obtain ⟨nv, hnv⟩ : ∃ nv, nv = lcells (k.with n e) (updE V n o g) := ⟨_, rfl⟩
  have NV := Lib.hid (show put lv (1 + 4 * n) ev = nv from by rw [hlv, hev, hnv]; exact lcells_with k V n hn e o g)
  have N10 := Lib.hid (show nv.length = 10 from by rw [hnv]; rfl)
  have N1 := Lib.hid (show ∀ u ∈ nv, u.oneCell' = true from by
    rw [hnv]
    refine lc_one _ _ (fun i hi => ?_)
    by_cases h1 : i = 2 * n
    · subst h1; rw [updE_o]; exact ho
    · by_cases h2 : i = 2 * n + 1
      · subst h2; rw [updE_g]; exact hg
      · rw [updE_ne h1 h2]; exact hV i hi)
  obtain ⟨rb, hrb⟩ : ∃ rb, rb = w.heap.size + 1 + 1 := ⟨_, rfl⟩
  have hrb' : wb.heap.size = rb := by omega
  refine ⟨(wc.setRow w.heap.size nv.toArray).setRow rb nv.toArray, ?_, below_grown (below_grown BC.out (grown_setRow _ _ _) BC.out.size (Nat.le_refl _)) (grown_setRow _ _ _) (by have := BC.out.size; simpa using this) (by omega)⟩
  have ZC4 := Lib.hid (show Blk (wc.setRow w.heap.size nv.toArray) rb zlk 52 from (hrb' ▸ zc).grown (grown_setRow _ _ _) (by omega))
  have Z4 := Lib.hid (setRow_heap wc w.heap.size _ nv.toArray _ _ ZA.out)
  have Z5 := Lib.hid (setRow_heap (wc.setRow w.heap.size nv.toArray) rb _ nv.toArray _ _ ZC4.out)
  unfold rl
  rw [← hev, ← hlv, ← hnv]
  rw [← hev] at ZB E4 E1 hwb
  rw [← hlv] at ZA L10 hwa
  have HWA := Lib.hid hwa
  have HWB := Lib.hid hwb
  have HWC := Lib.hid hwc
  have HSA := Lib.hid hsa
  have HSB := Lib.hid hsb
  have HRB := Lib.hid hrb'
  have HRB2 := Lib.hid hrb
  clear ba za bb zb bc zc hwa hwb hwc hev hlv hnv hV ho hg hrb' hrb
  obtain rfl | rfl : n = 0 ∨ n = 1 := by omega
  · go_enter Try.func40, Try.ntmps40
    go_upto_region 2 with (fail)
    rw [show (#[Value.int .u32 0, Value.slice none 0 0, Value.int .u32 0, Value.int .u32 0, Value.slice none 0 0, Value.slice none 0 0, Value.int .u32 0, Value.int .u32 0, Value.slice none 0 0, Value.slice none 0 0] : Array Value) = zlk.toArray from rfl, ← HWA.out, ← HWB.out, ← HWC.out]
    go_upto_region 4 with (first | (refine wpList_value_g rfl (.agg ev.toArray) (exec_load (cs := ev) (t := 50) rfl (by rw [HSA.out]; rfl) ZB.out Try.underlying50 rfl (by kernel_rfl) E4.out) ?_) | (refine wpList_store_row rfl 50 _ _ rfl w.heap.size 1 4 rfl 52 lv ev rfl ZA.out (by kernel_rfl) E4.out (by rw [L10.out]; decide) E1.out ?_))
    rw [NV.out, ← HRB2.out]
    simp only [Act.put]
    go_wp2_with (first | (refine wpList_value_g rfl (.agg nv.toArray) (exec_load (cs := nv) (t := 52) rfl rfl Z4.out Try.underlying52 rfl (by kernel_rfl) N10.out) ?_) | (refine wpList_store_row rfl 52 _ _ rfl rb 0 10 rfl 52 zlk nv rfl ZC4.out (by kernel_rfl) N10.out (by decide) N1.out ?_))
    rw [put_all zlk nv (by rw [N10.out]; rfl)]
    exact bodyPost_ret (v := .agg nv.toArray) (results_cell_row rfl _ _ rb 52 _ (0, 0) _ rfl Z5.out Try.underlying52 rfl (by rw [List.size_toArray, N10.out]; kernel_rfl)) rfl ⟨rfl, rfl⟩
  · go_enter Try.func40, Try.ntmps40
    go_upto_region 3 with (fail)
    rw [show (#[Value.int .u32 0, Value.slice none 0 0, Value.int .u32 0, Value.int .u32 0, Value.slice none 0 0, Value.slice none 0 0, Value.int .u32 0, Value.int .u32 0, Value.slice none 0 0, Value.slice none 0 0] : Array Value) = zlk.toArray from rfl, ← HWA.out, ← HWB.out, ← HWC.out]
    go_upto_region 4 with (first | (refine wpList_value_g rfl (.agg ev.toArray) (exec_load (cs := ev) (t := 50) rfl (by rw [HSA.out]; rfl) ZB.out Try.underlying50 rfl (by kernel_rfl) E4.out) ?_) | (refine wpList_store_row rfl 50 _ _ rfl w.heap.size 5 4 rfl 52 lv ev rfl ZA.out (by kernel_rfl) E4.out (by rw [L10.out]; decide) E1.out ?_))
    rw [NV.out, ← HRB2.out]
    simp only [Act.put]
    go_wp2_with (first | (refine wpList_value_g rfl (.agg nv.toArray) (exec_load (cs := nv) (t := 52) rfl rfl Z4.out Try.underlying52 rfl (by kernel_rfl) N10.out) ?_) | (refine wpList_store_row rfl 52 _ _ rfl rb 0 10 rfl 52 zlk nv rfl ZC4.out (by kernel_rfl) N10.out (by decide) N1.out ?_))
    rw [put_all zlk nv (by rw [N10.out]; rfl)]
    exact bodyPost_ret (v := .agg nv.toArray) (results_cell_row rfl _ _ rb 52 _ (0, 0) _ rfl Z5.out Try.underlying52 rfl (by rw [List.size_toArray, N10.out]; kernel_rfl)) rfl ⟨rfl, rfl⟩
end Go.Proofs.Ytfjaoompdleljaa.Link
/-
  A region whose order is open, of two classes, with gates by what is done ahead. Helper text; no statement is proved here.
-/
set_option linter.unusedVariables false
set_option maxRecDepth 20000
namespace Go.Proofs.Ytfjaoompdleljaa.InvG
open Go.RowKit Go.Proofs.Ytfjaoompdleljaa.Laws Go.Proofs.Ytfjaoompdleljaa.Inv Go.Proofs.Ytfjaoompdleljaa.InvL Go.Proofs.Ytfjaoompdleljaa.InvC
section
variable {P : Program}
theorem wp_region_two_gate_tail {id : Nat} {Q : Exit → Act → World → Prop} {a : Act} {w : World} {l : List Oper} (I : Bool → Array Bool → World → Prop) (T : Nat → Option Value) (n p c : Nat) (hm : P.follows .mixedOrders = true) (hB : Region.lexTailB .any l.toArray n = true) (hpc : p ≠ c) (hpl : p < l.length) (hcl : c < l.length) (hsh : sharedB T l.toArray n p c = true)
    (hI : ∀ d w, d.getD p false = false → d.getD c false = false → (I true d w ↔ I false d w)) (hI0 : ∀ κ, I κ (doneTo l.length 0) w.drew)
    (h : ∀ κ, wpInvC P (I κ) (fun i d => Two p c κ i d ∧ Gate l.toArray i d) T l.toArray (fun a' => ∀ w', I κ (doneTo l.length n) w' → wpList P l.toArray Q (l.drop n) a' w') 0 (l.take n) a) : (Code.region id l.toArray true).wp P Q a w := by
  simp only [Region.lexTailB, Bool.and_eq_true, decide_eq_true_eq] at hB
  obtain ⟨⟨⟨⟨hsel, hn⟩, hs⟩, hc⟩, hlex⟩ := hB
  have hn' : n < l.length := by simpa using hn
  have htl : (l.take n).length = n := by simp; omega
  have hdl : (l.drop n).length = l.toArray.size - n := by simp
  have inv0 : HeadInv .any l.toArray n (Array.replicate l.toArray.size false) :=
    ⟨by simp, fun j oj _ hl => (by rw [getD_replicate_false] at hl; cases hl), fun t _ ht => getD_in (by simpa using ht) (getD_replicate_false _ _)⟩
  have hlt : ∀ (i : Nat) listed, i < n → HeadInv .any l.toArray n listed → listed.getD i true = false → ∀ j ∈ Region.ready .any l.toArray listed, j < n := fun i listed hi inv hun j hj => by
    rcases Nat.lt_or_ge j n with h | h
    · exact h
    · exact absurd hj (tail_waits hs hc hn inv _ i rfl hi hun j h)
  have H := fun κ => every_of_walk (md := .any) (s := l.length) (g := l.toArray.size - n) (J := HeadInv .any l.toArray n) hsel hlt (fun listed j hJ hj hjn => hJ.set hj hjn) (l.take n) 0 _ a (fun j hj => by
    have hj' : j < n := by rw [htl] at hj; exact hj
    simp [hj']) (by simpa using htl) inv0 (by simp [doneTo]) (by rw [htl]; exact hlex) (h κ)
  refine wp_region_any hm ?_
  have hset : ∀ (d : Array Bool) (i j : Nat), i ≠ j → (d.setIfInBounds i true).getD j false = d.getD j false := fun d i j hij => getD_set_ne false hij
  have hsetS : ∀ (d : Array Bool) (i : Nat), d.getD i true = false → (d.setIfInBounds i true).getD i false = true := fun d i hd => by
    have hp : i < d.size := by
      rcases Nat.lt_or_ge i d.size with h' | h'
      · exact h'
      · simp [Array.getElem?_eq_none h'] at hd
    simp [hp]
  have hopen0 : ∀ (S : Bool → Prop) (d : Array Bool) (i : Nat), GoodTwo p c S d → i ∈ Region.ready .any l.toArray d → i < n → (∃ κ, S κ ∧ Two p c κ i d) ∧ GoodTwo p c (fun κ => S κ ∧ Two p c κ i d) (d.setIfInBounds i true) := by
    intro S d i hg hi hin
    have hdi := (mem_ready.1 hi).1
    have hdi' := getD_true_of hdi
    rcases hg with ⟨g1, g2, g3, g4⟩ | ⟨g1, g2, g3⟩ | ⟨g1, g2, g3⟩
    · by_cases e1 : i = p
      · subst e1
        refine ⟨⟨true, g3, fun e => absurd e hpc⟩, .inr (.inl ⟨⟨g3, fun e => absurd e hpc⟩, fun x => ?_, hsetS d i hdi⟩)⟩
        have := x.2 rfl
        rw [g2] at this
        cases this
      · by_cases e2 : i = c
        · subst e2
          refine ⟨⟨false, g4, fun e => absurd e e1⟩, .inr (.inr ⟨⟨g4, fun e => absurd e e1⟩, fun x => ?_, hsetS d i hdi⟩)⟩
          have := x.2 rfl
          rw [g1] at this
          cases this
        · refine ⟨⟨true, g3, fun e => absurd e e2⟩, .inl ⟨by rw [hset _ _ _ e1]; exact g1, by rw [hset _ _ _ e2]; exact g2, ⟨g3, fun e => absurd e e2⟩, ⟨g4, fun e => absurd e e1⟩⟩⟩
    · refine ⟨⟨true, g1, fun _ => g3⟩, .inr (.inl ⟨⟨g1, fun _ => g3⟩, fun x => g2 x.1, ?_⟩)⟩
      by_cases e : i = p
      · subst e; rw [hdi'] at g3; cases g3
      · rw [hset _ _ _ e]; exact g3
    · refine ⟨⟨false, g1, fun _ => g3⟩, .inr (.inr ⟨⟨g1, fun _ => g3⟩, fun x => g2 x.1, ?_⟩)⟩
      by_cases e : i = c
      · subst e; rw [hdi'] at g3; cases g3
      · rw [hset _ _ _ e]; exact g3
  have hsetT : ∀ (d : Array Bool) (i x : Nat), d.getD x false = true → (d.setIfInBounds i true).getD x false = true := fun d i x hx => by
    by_cases e : i = x
    · subst e
      have hp : i < d.size := by
        rcases Nat.lt_or_ge i d.size with h' | h'
        · exact h'
        · simp [Array.getElem?_eq_none h'] at hx
      simp [hp]
    · rw [getD_set_ne false e]; exact hx
  have hgate : ∀ (d : Array Bool) (i : Nat), Closed l.toArray d → i ∈ Region.ready .any l.toArray d → Gate l.toArray i d := fun d i hC hi => ⟨fun o ho e he hb => by
      obtain ⟨_, o', ho', hall⟩ := mem_ready.1 hi
      rw [ho] at ho'
      cases ho'
      exact hall e he hb, hC⟩
  have hopen : ∀ (S : Bool → Prop) (d : Array Bool) (i : Nat), (GoodTwo p c S d ∧ Closed l.toArray d) → i ∈ Region.ready .any l.toArray d → i < n → (∃ κ, S κ ∧ (Two p c κ i d ∧ Gate l.toArray i d)) ∧ (GoodTwo p c (fun κ => S κ ∧ (Two p c κ i d ∧ Gate l.toArray i d)) (d.setIfInBounds i true) ∧ Closed l.toArray (d.setIfInBounds i true)) := by
    intro S d i hg hi hin
    have hG := hgate d i hg.2 hi
    obtain ⟨⟨κ, k1, k2⟩, h2⟩ := hopen0 S d i hg.1 hi hin
    have heq : (fun κ => S κ ∧ (Two p c κ i d ∧ Gate l.toArray i d)) = (fun κ => S κ ∧ Two p c κ i d) := funext fun κ => propext ⟨fun x => ⟨x.1, x.2.1⟩, fun x => ⟨x.1, x.2, hG⟩⟩
    refine ⟨⟨κ, k1, k2, hG⟩, by rw [heq]; exact h2, fun j o ho hj e he hb => ?_⟩
    by_cases eij : i = j
    · subst eij
      exact hsetT _ _ _ (hG.1 o ho e he hb)
    · rw [getD_set_ne false eij] at hj
      exact hsetT _ _ _ (hg.2 j o ho hj e he hb)
  have hII : ∀ (S : Bool → Prop) (d : Array Bool) (w : World) (κ κ' : Bool), (GoodTwo p c S d ∧ Closed l.toArray d) → S κ → S κ' → I κ d w → I κ' d w := by
    intro S d w κ κ' hgC h1 h2 hi
    have hg := hgC.1
    rcases hg with ⟨g1, g2, _, _⟩ | ⟨_, g2, _⟩ | ⟨_, g2, _⟩
    · cases κ <;> cases κ' <;> first | exact hi | exact (hI d w g1 g2).1 hi | exact (hI d w g1 g2).2 hi
    · cases κ <;> cases κ' <;> first | exact hi | exact absurd h1 g2 | exact absurd h2 g2
    · cases κ <;> cases κ' <;> first | exact hi | exact absurd h1 g2 | exact absurd h2 g2
  have hTT : ∀ (S : Bool → Prop) (d : Array Bool) (i : Nat) (κ κ' : Bool), (GoodTwo p c S d ∧ Closed l.toArray d) → i ∈ Region.ready .any l.toArray d → i < n → S κ → S κ' → (Two p c κ i d ∧ Gate l.toArray i d) → (Two p c κ' i d ∧ Gate l.toArray i d) → κ = κ' ∨ ∃ u, T i = some u ∧ T i = some u := by
    intro S d i κ κ' hgC hi hin h1 h2 kk1 kk2
    have hg := hgC.1
    have k1 := kk1.1
    have k2 := kk2.1
    rcases hg with ⟨g1, g2, _, _⟩ | ⟨_, g2, _⟩ | ⟨_, g2, _⟩
    · by_cases e0 : κ = κ'
      · exact .inl e0
      have hne1 : i ≠ p := fun e => by
        have : Two p c false i d := by cases κ <;> cases κ' <;> first | exact absurd rfl e0 | assumption
        have := this e
        rw [g2] at this; cases this
      have hne2 : i ≠ c := fun e => by
        have : Two p c true i d := by cases κ <;> cases κ' <;> first | exact absurd rfl e0 | assumption
        have := this e
        rw [g1] at this; cases this
      have hb := List.all_eq_true.1 hsh i (by simpa using hin)
      simp only [Bool.or_eq_true, beq_iff_eq] at hb
      rcases hb with ((hb | hb) | hb) | hb
      · exact absurd hb hne1
      · exact absurd hb hne2
      · obtain ⟨u, hu⟩ := Option.isSome_iff_exists.1 hb
        exact .inr ⟨u, hu, hu⟩
      · obtain ⟨_, o, ho, hall⟩ := mem_ready.1 hi
        rw [ho] at hb
        obtain ⟨e, he, hbe⟩ := Array.any_eq_true'.1 hb
        simp only [Bool.and_eq_true, Bool.or_eq_true, beq_iff_eq] at hbe
        have := hall e he hbe.1
        rcases hbe.2 with e3 | e3
        · rw [e3, g1] at this; cases this
        · rw [e3, g2] at this; cases this
    · cases κ <;> cases κ' <;> first | exact .inl rfl | exact absurd h1 g2 | exact absurd h2 g2
    · cases κ <;> cases κ' <;> first | exact .inl rfl | exact absurd h1 g2 | exact absurd h2 g2
  have := wpAny_of_classes (Q := Q) (I := I) (G := fun κ i d => Two p c κ i d ∧ Gate l.toArray i d) (T := fun _ => T) (n := n) (g := l.toArray.size - n) (Good := fun S d => GoodTwo p c S d ∧ Closed l.toArray d) hopen hII hTT (fun κ listed a' w' hw' hL => by
    have := wpAny_of_seq (md := .any) (Q' := Q) (l.drop n) n listed a' w' (fun j => by simp [List.getElem?_drop]) (by rw [hdl]; exact hL.1) (hL.2.2 w' (hL.2.1 ▸ hw'))
    rwa [hdl] at this) _ (fun _ => True) _ _ _ ⟨true, trivial⟩ ⟨.inl ⟨getD_replicate_false _ _, getD_replicate_false _ _, trivial, trivial⟩, fun j o ho hj e he hb => by rw [getD_replicate_false] at hj; cases hj⟩ (fun κ _ => ⟨by simpa [doneTo] using hI0 κ, H κ⟩)
  rw [htl, show n + (l.toArray.size - n) = l.toArray.size from by omega] at this
  exact this
end
end Go.Proofs.Ytfjaoompdleljaa.InvG
/-
  Send (taken): the walk of the reference by contract. Helper text; no statement is proved here.
-/
set_option linter.unusedVariables false
set_option maxRecDepth 20000
set_option linter.unusedSimpArgs false
namespace Go.Proofs.Ytfjaoompdleljaa.Link
open Go.RowKit Go.Proofs.Ytfjaoompdleljaa.Base Go.Proofs.Ytfjaoompdleljaa.Laws Go.Proofs.Ytfjaoompdleljaa.Disk Go.Proofs.Ytfjaoompdleljaa.Row Go.Proofs.Ytfjaoompdleljaa.Flat Go.Proofs.Ytfjaoompdleljaa.InvM Go.Proofs.Ytfjaoompdleljaa.Inv Go.Proofs.Ytfjaoompdleljaa.InvL Go.Proofs.Ytfjaoompdleljaa.InvC Go.Proofs.Ytfjaoompdleljaa.InvG Go.Proofs.Ytfjaoompdleljaa.Codec
variable {N : Nat → Prop}
theorem built_mk2 (s : Nat) (a : Option Addr) (n c : Nat) : Try.prog.built 71 [(1, .int .u32 (s : Int)), (3, .slice a n c)] = some #[.int .u32 0, .int .u32 (s : Int), .int .u32 0, .slice a n c] := by kernel_rfl
theorem came9 {w wx w5 : World} {V5 : Nat → Value} {k5 : Lk} {rb : Nat} {e : Ending} (he : e = .returned (rl k5 V5)) (r5 : Rk N w5 V5 k5) (b5 : Below wx.heap.size wx w5) (hb : Below w.heap.size w wx) (z : Blk wx rb zlk 52) (hl : w.heap.size ≤ rb) : ∃ nv, e = .returned (.agg nv.toArray) ∧ Came N w rb V5 k5 nv w5 := by
  have hz : Blk w5 rb zlk 52 := z.below b5 z.lt
  exact ⟨lcells k5 V5, he, rfl, rfl, lc_one _ _ r5.one, hz, setRow_heap w5 rb _ _ _ _ hz, r5.off hz zlk_no (by decide) (grown_setRow _ _ _), below_grown (hb.trans (b5.mono hb.size)) (grown_setRow _ _ _) (Nat.le_trans hb.size b5.size) hl⟩
theorem send_eq (k : Lk) (n : Nat) (hn : n < 2) (B : List UInt8) : k.send n B = (k.with n { (k.en n) with sent := ((k.en n).sent + 1) % 4294967296, op := (k.en n).op ++ [⟨0, ((k.en n).sent + 1) % 4294967296, 0, B⟩] }).put n (((k.en n).sent + 1) % 4294967296) B := by
  obtain rfl | rfl : n = 0 ∨ n = 1 := by omega
  · rfl
  · rfl
theorem app_u8 {w : World} {g : Nat} (hg : Blk w g [] 5) {ad : Addr} {bn c : Nat} {B : List UInt8} (hB : Bts w (some ad) bn c B) (hn : bn ≤ 1000) : ∃ a' c' w', (Builtin.append_ #[23, 23] 23 #[.slice (some ⟨g, 0, none⟩) 0 0, .slice (some ad) bn c]).run Try.prog w = .ok (.slice a' bn c') w' ∧ Bts w' a' bn c' B ∧ Below g w w' ∧ (bn = 0 ∨ ∃ g' o', a' = some ⟨g', o', none⟩ ∧ g ≤ g') := by
  have own0 : w.ownsRow g 5 1 (.slice (some ⟨g, 0, none⟩) 0 0) 0 ([] : List Value) := ⟨by simp, .inr ⟨g, 0, #[], rfl, Nat.le_refl _, hg, Nat.le_refl _, by unfold maxLen; omega, by simp, by simp⟩⟩
  obtain ⟨v', w', hr, ho, hgr, hv⟩ := run_append_any_at (P := Try.prog) w g 23 23 5 (.int .u8 0) 1 1 Try.underlying23 OwnB.infou8 rfl (by decide) (.slice (some ⟨g, 0, none⟩) 0 0) 0 [] own0 (some ad) bn c (bv B) (OwnB.src_bts hB) (by omega) (by unfold maxLen; omega) (by have := hg.lt; omega)
  rw [Nat.zero_add, List.nil_append] at ho
  obtain ⟨a', c', rfl, hb⟩ := OwnB.bts_own hB.1 ho
  refine ⟨a', c', w', hr, hb, ⟨hgr.os, hgr.tape, hgr.output, hgr.size, fun x hx => hgr.block x (by have := hg.lt; omega) (fun e => by have := Option.some.inj e; simp only at this; omega)⟩, ?_⟩
  rcases ho.2 with ⟨_, e0⟩ | ⟨g', cap, cur, e, hb', _⟩
  · exact .inl e0
  · exact .inr ⟨g', 0, by cases e; rfl, hb'⟩
set_option maxHeartbeats 2000000 in
theorem rsend_yes {w : World} {V : Nat → Value} {k : Lk} (h : Rk N w V k) (n : Nat) (hn : n < 2) (ad : Addr) (bn c : Nat) (B : List UInt8) (hB : Bts w (some ad) bn c B) (h1 : 1 ≤ bn) (h64 : bn ≤ 64) (hfl : k.fl.length < 1024) (hop : (k.en n).op.length < 256) : Calls Try.prog 23 #[rl k V, .int .i64 (n : Int), .slice (some ad) bn c] w fun e w' => Ck N w 0 (k.send n B) e w' := by
  obtain ⟨lv, wb, rb, hp⟩ := pro h
  obtain ⟨fa, fc, hvf, hfm, hfx⟩ := h.fl.form
  obtain ⟨fn, hfn⟩ : ∃ fn, fn = k.fl.length := ⟨_, rfl⟩
  have c9 : wb.cell? ⟨w.heap.size, 9, none⟩ = some (.slice fa fn fc) := by rw [hfn, ← hvf]; exact (hp.x.z.cell 9)
  have PR := Lib.hid hp
  have HFN := Lib.hid hfn
  have HFL := Lib.hid hfl
  have ZL := Lib.hid (show Blk wb.drew w.heap.size lv 52 from hp.z.drew)
  have ZRR := Lib.hid (show Blk wb.drew rb zlk 52 from hp.r.drew)
  have OUT := Lib.hid (hp.x.drew.out ZRR.out zlk_no (by have := hp.erb; omega) hp.elv (by have := hp.erb; omega))
  unfold rl
  rw [← hp.elv]
  obtain ⟨we, wg, eb, ne, hb⟩ := eb_any hp h n hn
  obtain ⟨s1, oa, oc, w6, w7, w8, a8, c8, W1, W2, cc, mv, W3, W4, a9, c9', w9, ev, hvo, sy⟩ := sy_any hp h hn hb hB h1 h64 hop
  obtain ⟨on, hon⟩ : ∃ on, on = (k.en n).op.length := ⟨_, rfl⟩
  rw [← hon] at sy hvo hop
  obtain ⟨sn, hsn⟩ : ∃ sn, sn = (k.en n).sent := ⟨_, rfl⟩
  have C9 := Lib.hid (show wg.cell? ⟨w.heap.size, 9, none⟩ = some (.slice fa fn fc) by rw [hfn, ← hvf]; exact (hb.x.z.cell 9))
  have CO := Lib.hid (show wg.cell? ⟨eb, 0, none⟩ = some (.slice oa on oc) by rw [← hvo, hb.e.cell, hb.ene]; rfl)
  have CS := Lib.hid (show wg.cell? ⟨eb, 1, none⟩ = some (.int .u32 (sn : Int)) by rw [hsn, hb.e.cell, hb.ene]; rfl)
  have FS := Lib.hid (hb.e.frozen 1)
  have EB := Lib.hid hb
  have SY := Lib.hid sy
  have ZB := Lib.hid hp.z
  have q1 : (0 : Int) ≤ (n : Int) ∧ (n : Int) ≤ 1 := by omega
  have q2 : (1 : Int) ≤ (bn : Int) ∧ (bn : Int) ≤ 64 := by omega
  have j1 : (fn : Int) < 1024 := by omega
  have j2 : (on : Int) < 256 := by omega
  have WS := Lib.hid (show IntKind.u32.wrap ((sn : Int) + 1) = (s1 : Int) by rw [sy.es, ← hsn, IntKind.wrap_u32]; omega)
  clear c9 hb hp sy hvf hvo hfn hon hsn h hfl hfm hfx hB h1 h64 hop
  go_enter Try.func23, Try.ntmps23
  go_upto_region 1 with (fail)
  rw [zlk_is, PR.out.ewb, PR.out.erb]
  go_upto_region 3 with (fail)
  go_upto_region 4 with (first | (refine wpList_value_g rfl (.agg lv.toArray) (exec_load rfl rfl ZB.out Try.underlying52 rfl (by kernel_rfl) PR.out.n) ?_) | (go_at_call 38; refine EB.out.call.mono ?_; rintro e w5 ⟨rfl, rfl⟩) | (refine wpList_store_row rfl 50 _ _ rfl eb 0 4 (by rw [← EB.out.eeb]; rfl) 50 zen ne rfl EB.out.za (by kernel_rfl) EB.out.len (by decide) EB.out.one ?_))
  rw [put_all zen ne (by rw [EB.out.len]; rfl), zen_is, EB.out.ewg, EB.out.eeb]
  have c9 := C9.out
  have co := CO.out
  simp only [Act.put]
  go_upto_region 6 with (fail)
  clear c9 co
  have cs := CS.out
  have fs := FS.out
  have wsum := WS.out
  go_upto_region 7 with (fail)
  clear cs fs
  try rw [wsum]
  rw [SY.out.e6]
  have o7 := SY.out.o7
  have r8 := SY.out.r8
  rw [← SY.out.e7] at o7 r8
  go_upto_region 8 with (at_builtin; refine wpList_world_gg rfl (.slice a8 on c8) (w' := w8) (exec_append _ _ rfl rfl rfl r8) ?_)
  clear o7 r8 wsum
  have BM := Lib.hid (show Try.prog.built 71 [(1, .int .u32 (s1 : Int)), (3, .slice (some ⟨w8.heap.size + 1, 0, none⟩) bn cc)] = some mv.toArray from by rw [SY.out.emv]; exact built_mk2 s1 _ bn cc)
  have M4 := Lib.hid (show mv.length = 4 by rw [SY.out.emv]; rfl)
  have CS8 := Lib.hid (show ∀ d w', At4 3 5 7 8 (fun w' => w' = w8.drew) (fun w' => w' = W1) (fun w' => w' = W2) (fun w' => w' = W3) (fun w' => w' = W4) d w' → w'.cell? ⟨eb, 1, none⟩ = some (.int .u32 (s1 : Int)) from fun d w' h => SY.out.cs w' h.any)
  refine wp_region_gate_tail (fun d w' => At4 3 5 7 8 (fun w' => w' = w8.drew) (fun w' => w' = W1) (fun w' => w' = W2) (fun w' => w' = W3) (fun w' => w' = W4) d w') 9 (by kernel_rfl) (by kernel_rfl) ?hI ?_
  case hI => exact At4.start (by rfl) (by rfl) (by rfl) (by rfl) rfl
  simp only [List.take_succ_cons, List.take_zero, List.drop_succ_cons, List.drop_zero]
  refine InvC.invc_value (.slice a8 on c8) (fun u hu => by cases hu) rfl (fun d w' _ _ h => by go_simp; all_goals rfl) (fun d w' _ _ h => At4.keep (by decide) (by decide) (by decide) (by decide) h) ?_
  simp only [Act.put, List.setIfInBounds_toArray, List.set_cons_zero, List.set_cons_succ]
  refine InvC.invc_value (.pointer (some ⟨eb, 1, none⟩)) (fun u hu => by cases hu) rfl (fun d w' _ _ h => by go_simp; all_goals rfl) (fun d w' _ _ h => At4.keep (by decide) (by decide) (by decide) (by decide) h) ?_
  simp only [Act.put, List.setIfInBounds_toArray, List.set_cons_zero, List.set_cons_succ]
  refine InvC.invc_value (.int .u32 (s1 : Int)) (fun u hu => by cases hu) rfl (fun d w' _ _ h => by have q := CS8.out d w' h; go_simp) (fun d w' _ _ h => At4.keep (by decide) (by decide) (by decide) (by decide) h) ?_
  simp only [Act.put, List.setIfInBounds_toArray, List.set_cons_zero, List.set_cons_succ]
  refine InvC.invc_world (.slice (some ⟨w8.heap.size, 0, none⟩) 0 0) (fun u hu => by cases hu) rfl (fun d w' hd hG h => ⟨W1, by
    have e := h.at_p hd
    subst e
    rw [SY.out.e1]
    go_simp, At4.did_p (by decide) (by decide) (by decide) hd h rfl⟩) ?_
  simp only [Act.put, List.setIfInBounds_toArray, List.set_cons_zero, List.set_cons_succ]
  refine InvC.invc_value (.slice (some ad) bn c) (fun u hu => by cases hu) rfl (fun d w' _ _ h => by go_simp; all_goals rfl) (fun d w' _ _ h => At4.keep (by decide) (by decide) (by decide) (by decide) h) ?_
  simp only [Act.put, List.setIfInBounds_toArray, List.set_cons_zero, List.set_cons_succ]
  refine InvC.invc_world (.slice (some ⟨w8.heap.size + 1, 0, none⟩) bn cc) (fun u hu => by cases hu) rfl (fun d w' hd hG h => ⟨W2, by
    have e := h.at_q hd (hG.of (by kernel_rfl))
    subst e
    rw [SY.out.e1, SY.out.e2, SY.out.ecc]
    exact exec_append_grow rfl rfl rfl SY.out.bts (by omega) (by omega), At4.did_q (by decide) (by decide) (by decide) hd (hG.of (by kernel_rfl)) h rfl⟩) ?_
  simp only [Act.put, List.setIfInBounds_toArray, List.set_cons_zero, List.set_cons_succ]
  refine InvC.invc_value (.agg mv.toArray) (fun u hu => by cases hu) rfl (fun d w' _ _ h => by exact exec_build (vs := [(1, .int .u32 (s1 : Int)), (3, .slice (some ⟨w8.heap.size + 1, 0, none⟩) bn cc)]) rfl rfl BM.out) (fun d w' _ _ h => At4.keep (by decide) (by decide) (by decide) (by decide) h) ?_
  simp only [Act.put, List.setIfInBounds_toArray, List.set_cons_zero, List.set_cons_succ]
  refine InvC.invc_world (.slice (some ⟨W2.heap.size, 0, none⟩) 1 1) (fun u hu => by cases hu) rfl (fun d w' hd hG h => ⟨W3, by
    have h5 : d.getD 5 false = true := gate_via hG 6 [5] (by kernel_rfl)
    have e := h.at_r hd h5
    subst e
    rw [SY.out.e3]
    exact exec_build_one rfl rfl Try.underlying48 info_mk M4.out (by decide) (by decide), At4.did_r (by decide) (by decide) (by decide) hd (gate_via hG 6 [5] (by kernel_rfl)) h rfl⟩) ?_
  simp only [Act.put, List.setIfInBounds_toArray, List.set_cons_zero, List.set_cons_succ]
  refine InvC.invc_world (.slice a9 (on + 1) c9') (fun u hu => by cases hu) rfl (fun d w' hd hG h => ⟨W4, by
    have e := h.at_s hd (hG.of (by kernel_rfl))
    subst e
    exact exec_append _ _ rfl rfl rfl SY.out.r4, At4.did_s (by decide) (by decide) (by decide) hd (hG.of (by kernel_rfl)) h rfl⟩) ?_
  simp only [Act.put, List.setIfInBounds_toArray, List.set_cons_zero, List.set_cons_succ]
  refine InvC.invc_nil fun wq hI => ?_
  have e6 := hI.done (by rfl)
  subst e6
  have cO := SY.out.cO
  have fO := SY.out.fO
  clear hI CS8 BM M4
  go_upto_region 9 with (fail)
  rw [SY.out.e9]
  clear cO fO
  have hx9 := SY.out.x9
  obtain ⟨wx1, hc1, bx1⟩ := rwith_x k V hx9.r.one n hn { (k.en n) with sent := s1, op := (k.en n).op ++ [⟨0, s1, 0, B⟩] } (.slice a9 (on + 1) c9') (V (2 * n + 1)) rfl (hx9.r.one _ (by omega)) w9.drew
  obtain ⟨wy1, hwy1⟩ : ∃ wy1, wy1 = w9.drew.alloc (.cells #[] 5) := ⟨_, rfl⟩
  obtain ⟨wy2, hc2, bx2⟩ := rwith_x k V hx9.r.one n hn { (k.en n) with sent := s1, op := (k.en n).op ++ [⟨0, s1, 0, B⟩] } (.slice a9 (on + 1) c9') (V (2 * n + 1)) rfl (hx9.r.one _ (by omega)) wy1
  have by1 : Below w9.heap.size w9 wy1 := hwy1 ▸ (Below.refl w9.heap.size w9).drew.alloc (Nat.le_refl _) _
  have by2 : Below w9.heap.size w9 wy2 := by1.trans (bx2.mono by1.size)
  have bxx : Below w9.heap.size w9 wx1 := (Below.refl w9.heap.size w9).drew.trans bx1
  have zy1 : Blk wy1 w9.heap.size [] 5 := by rw [hwy1]; exact blk_at rfl rfl
  obtain ⟨wx2, hwx2⟩ : ∃ wx2, wx2 = wx1.alloc (.cells #[] 5) := ⟨_, rfl⟩
  have bx12 : Below wx1.heap.size wx1 wx2 := hwx2 ▸ (Below.refl _ _).alloc (Nat.le_refl _) _
  have zx2 : Blk wx2 wx1.heap.size [] 5 := by rw [hwx2]; exact blk_at rfl rfl
  have bxx2 : Below w9.heap.size w9 wx2 := bxx.trans (bx12.mono bxx.size)
  have zy2 : Blk wy2 w9.heap.size [] 5 := zy1.below bx2 zy1.lt
  obtain ⟨ax, cx, wx3, hrx, htx, bx3, gx3⟩ := app_u8 zx2 (SY.out.b9.below bxx2 (Nat.le_refl _)) (by omega)
  obtain ⟨ay, cy, wy3, hry, hty, by3, gy3⟩ := app_u8 zy2 (SY.out.b9.below by2 (Nat.le_refl _)) (by omega)
  have bxx3 : Below w9.heap.size w9 wx3 := bxx2.trans (bx3.mono bxx.size)
  have byy3 : Below w9.heap.size w9 wy3 := by2.trans by3
  unfold rl at hc1 hc2
  obtain ⟨nw, hnw⟩ : ∃ nw, nw = lcells (k.with n { (k.en n) with sent := s1, op := (k.en n).op ++ [⟨0, s1, 0, B⟩] }) (updE V n (.slice a9 (on + 1) c9') (V (2 * n + 1))) := ⟨_, rfl⟩
  rw [← PR.out.elv, ← SY.out.eev, ← hnw] at hc1 hc2
  have HC1 := Lib.hid hc1
  have HC2 := Lib.hid hc2
  have HX2 := Lib.hid hwx2
  have HY1 := Lib.hid hwy1
  have HRx := Lib.hid hrx
  have HRy := Lib.hid hry
  have ZL9 : Blk w9 w.heap.size lv 52 := by rw [PR.out.elv]; exact hx9.z
  have KBx := Lib.hid (show ∀ w', (w' = w9.drew ∨ w' = wx1 ∨ w' = wx2 ∨ w' = wx3) → Blk w' w.heap.size lv 52 ∧ Blk w' eb ev 50 from by
    rintro w' (rfl | rfl | rfl | rfl)
    · exact ⟨ZL9.drew, SY.out.zE.drew⟩
    · exact ⟨ZL9.below bxx ZL9.lt, SY.out.zE.below bxx SY.out.n9⟩
    · exact ⟨ZL9.below bxx2 ZL9.lt, SY.out.zE.below bxx2 SY.out.n9⟩
    · exact ⟨ZL9.below bxx3 ZL9.lt, SY.out.zE.below bxx3 SY.out.n9⟩)
  have KBy := Lib.hid (show ∀ w', (w' = w9.drew ∨ w' = wy1 ∨ w' = wy2 ∨ w' = wy3) → Blk w' w.heap.size lv 52 ∧ Blk w' eb ev 50 from by
    rintro w' (rfl | rfl | rfl | rfl)
    · exact ⟨ZL9.drew, SY.out.zE.drew⟩
    · exact ⟨ZL9.below by1 ZL9.lt, SY.out.zE.below by1 SY.out.n9⟩
    · exact ⟨ZL9.below by2 ZL9.lt, SY.out.zE.below by2 SY.out.n9⟩
    · exact ⟨ZL9.below byy3 ZL9.lt, SY.out.zE.below byy3 SY.out.n9⟩)
  have EV4 := Lib.hid (show ev.length = 4 by rw [SY.out.eev]; rfl)
  have EV1 := Lib.hid (show ev[1]? = some (.int .u32 (s1 : Int)) by rw [SY.out.eev]; rfl)
  have NW9 : w.heap.size ≤ w9.heap.size := SY.out.x9.b.size
  have NWx : w9.heap.size ≤ wx1.heap.size := bxx.size
  have BXX := Lib.hid (⟨bxx3, htx, gx3.imp (fun e => by rw [← htx.1] at e; exact e) fun ⟨g', o', e, hg'⟩ => ⟨g', o', e, fun hN => by have := SY.out.x9.r.nt _ hN; omega⟩⟩ : Below w9.heap.size w9 wx3 ∧ Bts wx3 ax bn cx B ∧ (B.length = 0 ∨ ∃ g o, ax = some ⟨g, o, none⟩ ∧ ¬ N g))
  have BYY := Lib.hid (⟨byy3, hty, gy3.imp (fun e => by rw [← hty.1] at e; exact e) fun ⟨g', o', e, hg'⟩ => ⟨g', o', e, fun hN => by have := SY.out.x9.r.nt _ hN; omega⟩⟩ : Below w9.heap.size w9 wy3 ∧ Bts wy3 ay bn cy B ∧ (B.length = 0 ∨ ∃ g o, ay = some ⟨g, o, none⟩ ∧ ¬ N g))
  have HNW := Lib.hid hnw
  clear hx9 hc1 hc2 bx1 bx2 hwy1 by1 by2 bxx zy1 hwx2 bx12 zx2 bxx2 zy2 hrx hry htx hty bx3 by3 bxx3 byy3 ZL9 hnw
  refine wp_region_two_gate_tail (fun κ d w' => match κ with | true => At3 3 7 9 (fun w' => w' = w9.drew) (fun w' => w' = wx1) (fun w' => w' = wx2) (fun w' => w' = wx3) d w' | false => At3 7 3 9 (fun w' => w' = w9.drew) (fun w' => w' = wy1) (fun w' => w' = wy2) (fun w' => w' = wy3) d w') (fun i => [some (.agg lv.toArray), some (.int .i64 (n : Int)), some (.agg ev.toArray), none, some (.int .i64 (n : Int)), some (.pointer (some ⟨eb, 1, none⟩)), some (.int .u32 (s1 : Int)), none, some (.slice (some ad) bn c), none].getD i none) 10 3 7 (by kernel_rfl) (by kernel_rfl) (by decide) (by decide) (by decide) (by kernel_rfl) (fun d w' h1 h2 => by unfold At3 At2; simp [h1, h2]) (fun κ => by cases κ; exact At3.start (by rfl) (by rfl) (by rfl) rfl; exact At3.start (by rfl) (by rfl) (by rfl) rfl) (fun κ => ?_)
  simp only [List.take_succ_cons, List.take_zero, List.drop_succ_cons, List.drop_zero]
  cases κ
  · simp only
    have ZK := Lib.hid (show ∀ d w', At3 7 3 9 (fun w' => w' = w9.drew) (fun w' => w' = wy1) (fun w' => w' = wy2) (fun w' => w' = wy3) d w' → Blk w' w.heap.size lv 52 ∧ Blk w' eb ev 50 from fun d w' h => KBy.out w' h.any)
    refine InvC.invc_value (.agg lv.toArray) (fun u hu => Option.some.inj hu) rfl (fun d w' _ _ h => by exact exec_load rfl rfl (ZK.out d w' h).1 Try.underlying52 rfl (by kernel_rfl) PR.out.n) (fun d w' _ _ h => At3.keep (by decide) (by decide) (by decide) h) ?_
    simp only [Act.put, List.setIfInBounds_toArray, List.set_cons_zero, List.set_cons_succ]
    refine InvC.invc_value (.int .i64 (n : Int)) (fun u hu => Option.some.inj hu) rfl (fun d w' _ _ h => by go_simp; all_goals rfl) (fun d w' _ _ h => At3.keep (by decide) (by decide) (by decide) h) ?_
    simp only [Act.put, List.setIfInBounds_toArray, List.set_cons_zero, List.set_cons_succ]
    refine InvC.invc_value (.agg ev.toArray) (fun u hu => Option.some.inj hu) rfl (fun d w' _ _ h => by exact exec_load rfl rfl (ZK.out d w' h).2 Try.underlying50 rfl (by kernel_rfl) EV4.out) (fun d w' _ _ h => At3.keep (by decide) (by decide) (by decide) h) ?_
    simp only [Act.put, List.setIfInBounds_toArray, List.set_cons_zero, List.set_cons_succ]
    refine InvC.invc_call (.agg nw.toArray) (fun u hu => by cases hu) rfl 40 #[.agg lv.toArray, .int .i64 (n : Int), .agg ev.toArray] (fun d w' _ => by go_simp) (fun d w' hd hG h => by
      have e := h.at_q hd (hG.1 rfl)
      subst e
      exact HC2.out.mono fun e w'' ⟨he, hw⟩ => ⟨he, At3.did_q (by decide) (by decide) hd (hG.1 rfl) h hw⟩) ?_
    simp only [Act.put, List.setIfInBounds_toArray, List.set_cons_zero, List.set_cons_succ]
    refine InvC.invc_value (.int .i64 (n : Int)) (fun u hu => Option.some.inj hu) rfl (fun d w' _ _ h => by go_simp; all_goals rfl) (fun d w' _ _ h => At3.keep (by decide) (by decide) (by decide) h) ?_
    simp only [Act.put, List.setIfInBounds_toArray, List.set_cons_zero, List.set_cons_succ]
    refine InvC.invc_value (.pointer (some ⟨eb, 1, none⟩)) (fun u hu => Option.some.inj hu) rfl (fun d w' _ _ h => by go_simp; all_goals rfl) (fun d w' _ _ h => At3.keep (by decide) (by decide) (by decide) h) ?_
    simp only [Act.put, List.setIfInBounds_toArray, List.set_cons_zero, List.set_cons_succ]
    refine InvC.invc_value (.int .u32 (s1 : Int)) (fun u hu => Option.some.inj hu) rfl (fun d w' _ _ h => by have q := ((ZK.out d w' h).2.cell 1).trans EV1.out; go_simp) (fun d w' _ _ h => At3.keep (by decide) (by decide) (by decide) h) ?_
    simp only [Act.put, List.setIfInBounds_toArray, List.set_cons_zero, List.set_cons_succ]
    refine InvC.invc_world (.slice (some ⟨w9.heap.size, 0, none⟩) 0 0) (fun u hu => by cases hu) rfl (fun d w' hd hG h => ⟨wy1, by
      have e := h.at_p hd
      subst e
      rw [HY1.out]
      go_simp, At3.did_p (by decide) (by decide) hd h rfl⟩) ?_
    simp only [Act.put, List.setIfInBounds_toArray, List.set_cons_zero, List.set_cons_succ]
    refine InvC.invc_value (.slice (some ad) bn c) (fun u hu => Option.some.inj hu) rfl (fun d w' _ _ h => by go_simp; all_goals rfl) (fun d w' _ _ h => At3.keep (by decide) (by decide) (by decide) h) ?_
    simp only [Act.put, List.setIfInBounds_toArray, List.set_cons_zero, List.set_cons_succ]
    refine InvC.invc_world (.slice ay bn cy) (fun u hu => by cases hu) rfl (fun d w' hd hG h => ⟨wy3, by
      have e := h.at_r hd (hG.2.of (by kernel_rfl))
      subst e
      exact exec_append _ _ rfl rfl rfl HRy.out, At3.did_r (by decide) (by decide) hd (hG.2.of (by kernel_rfl)) h rfl⟩) ?_
    simp only [Act.put, List.setIfInBounds_toArray, List.set_cons_zero, List.set_cons_succ]
    refine InvC.invc_nil fun wq hI => ?_
    have e6 := hI.done (by rfl)
    subst e6
    have bq := BYY.out.1
    have hx9 := SY.out.x9
    have RK : Rk N wq (updE V n (.slice a9 (on + 1) c9') (V (2 * n + 1))) (k.with n { (k.en n) with sent := s1, op := (k.en n).op ++ [⟨0, s1, 0, B⟩] }) := (hx9.r.below bq).with n hn { (k.en n) with sent := s1, op := (k.en n).op ++ [⟨0, s1, 0, B⟩] } _ _ (SY.out.d9.below bq) ((hx9.r.below bq).g n hn)
    have hbl : B.length = bn := SY.out.bts.1
    have RP := Lib.hid (show Calls Try.prog 39 #[.agg nw.toArray, .int .i64 (n : Int), .int .u32 (s1 : Int), .slice ay bn cy] wq fun e w' => ∃ V', e = .returned (rl (k.send n B) V') ∧ Rk N w' V' (k.send n B) ∧ Below wq.heap.size wq w' from by
      have := rput_any RK n hn s1 (.slice ay bn cy) B ⟨ay, cy, by rw [hbl], by rw [hbl]; exact BYY.out.2.1, BYY.out.2.2⟩ (by rw [with_fl]; have := HFL.out; omega)
      rw [send_eq k n hn B, ← SY.out.es]
      unfold rl at this ⊢
      rw [← HNW.out] at this
      exact this)
    have BW := Lib.hid (show Below w.heap.size w wq from hx9.b.trans (bq.mono hx9.b.size))
    have ZW := Lib.hid (show Blk wq rb zlk 52 from SY.out.z9.below bq SY.out.z9.lt)
    have RB := Lib.hid (show w.heap.size ≤ rb by have := PR.out.erb; omega)
    clear hI bq hx9 RK hbl ZK KBx KBy BXX BYY HC1 HC2 HX2 HY1 HRx HRy EV4 EV1 WS FS CS CO C9
    go_wp2_with (first | (go_at_call 39; refine RP.out.mono ?_; rintro e w5 ⟨V5, he, r5, b5⟩; obtain ⟨nv, N⟩ := came9 he r5 b5 BW.out ZW.out RB.out; have NN := Lib.hid N; obtain ⟨e5, _⟩ := N; subst e5; clear he r5 b5) | (refine wpList_store_row rfl 52 _ _ rfl rb 0 10 rfl 52 zlk nv rfl NN.out.2.z (by kernel_rfl) NN.out.2.n (by decide) NN.out.2.one ?_))
    rw [put_all zlk nv (by rw [NN.out.2.n]; rfl)]
    exact bodyPost_ret (v := .tuple #[.int .i64 0, .agg nv.toArray]) (results_two_cell rfl _ _ rb 52 _ (0, 0) _ _ rfl rfl NN.out.2.s Try.underlying52 rfl (by rw [List.size_toArray, NN.out.2.n]; kernel_rfl)) rfl ⟨V5, by rw [NN.out.2.env]; rfl, NN.out.2.r, NN.out.2.b⟩
  · simp only
    have ZK := Lib.hid (show ∀ d w', At3 3 7 9 (fun w' => w' = w9.drew) (fun w' => w' = wx1) (fun w' => w' = wx2) (fun w' => w' = wx3) d w' → Blk w' w.heap.size lv 52 ∧ Blk w' eb ev 50 from fun d w' h => KBx.out w' h.any)
    refine InvC.invc_value (.agg lv.toArray) (fun u hu => Option.some.inj hu) rfl (fun d w' _ _ h => by exact exec_load rfl rfl (ZK.out d w' h).1 Try.underlying52 rfl (by kernel_rfl) PR.out.n) (fun d w' _ _ h => At3.keep (by decide) (by decide) (by decide) h) ?_
    simp only [Act.put, List.setIfInBounds_toArray, List.set_cons_zero, List.set_cons_succ]
    refine InvC.invc_value (.int .i64 (n : Int)) (fun u hu => Option.some.inj hu) rfl (fun d w' _ _ h => by go_simp; all_goals rfl) (fun d w' _ _ h => At3.keep (by decide) (by decide) (by decide) h) ?_
    simp only [Act.put, List.setIfInBounds_toArray, List.set_cons_zero, List.set_cons_succ]
    refine InvC.invc_value (.agg ev.toArray) (fun u hu => Option.some.inj hu) rfl (fun d w' _ _ h => by exact exec_load rfl rfl (ZK.out d w' h).2 Try.underlying50 rfl (by kernel_rfl) EV4.out) (fun d w' _ _ h => At3.keep (by decide) (by decide) (by decide) h) ?_
    simp only [Act.put, List.setIfInBounds_toArray, List.set_cons_zero, List.set_cons_succ]
    refine InvC.invc_call (.agg nw.toArray) (fun u hu => by cases hu) rfl 40 #[.agg lv.toArray, .int .i64 (n : Int), .agg ev.toArray] (fun d w' _ => by go_simp) (fun d w' hd hG h => by
      have e := h.at_p hd
      subst e
      exact HC1.out.mono fun e w'' ⟨he, hw⟩ => ⟨he, At3.did_p (by decide) (by decide) hd h hw⟩) ?_
    simp only [Act.put, List.setIfInBounds_toArray, List.set_cons_zero, List.set_cons_succ]
    refine InvC.invc_value (.int .i64 (n : Int)) (fun u hu => Option.some.inj hu) rfl (fun d w' _ _ h => by go_simp; all_goals rfl) (fun d w' _ _ h => At3.keep (by decide) (by decide) (by decide) h) ?_
    simp only [Act.put, List.setIfInBounds_toArray, List.set_cons_zero, List.set_cons_succ]
    refine InvC.invc_value (.pointer (some ⟨eb, 1, none⟩)) (fun u hu => Option.some.inj hu) rfl (fun d w' _ _ h => by go_simp; all_goals rfl) (fun d w' _ _ h => At3.keep (by decide) (by decide) (by decide) h) ?_
    simp only [Act.put, List.setIfInBounds_toArray, List.set_cons_zero, List.set_cons_succ]
    refine InvC.invc_value (.int .u32 (s1 : Int)) (fun u hu => Option.some.inj hu) rfl (fun d w' _ _ h => by have q := ((ZK.out d w' h).2.cell 1).trans EV1.out; go_simp) (fun d w' _ _ h => At3.keep (by decide) (by decide) (by decide) h) ?_
    simp only [Act.put, List.setIfInBounds_toArray, List.set_cons_zero, List.set_cons_succ]
    refine InvC.invc_world (.slice (some ⟨wx1.heap.size, 0, none⟩) 0 0) (fun u hu => by cases hu) rfl (fun d w' hd hG h => ⟨wx2, by
      have e := h.at_q hd (hG.1 rfl)
      subst e
      rw [HX2.out]
      go_simp, At3.did_q (by decide) (by decide) hd (hG.1 rfl) h rfl⟩) ?_
    simp only [Act.put, List.setIfInBounds_toArray, List.set_cons_zero, List.set_cons_succ]
    refine InvC.invc_value (.slice (some ad) bn c) (fun u hu => Option.some.inj hu) rfl (fun d w' _ _ h => by go_simp; all_goals rfl) (fun d w' _ _ h => At3.keep (by decide) (by decide) (by decide) h) ?_
    simp only [Act.put, List.setIfInBounds_toArray, List.set_cons_zero, List.set_cons_succ]
    refine InvC.invc_world (.slice ax bn cx) (fun u hu => by cases hu) rfl (fun d w' hd hG h => ⟨wx3, by
      have e := h.at_r hd (hG.2.of (by kernel_rfl))
      subst e
      exact exec_append _ _ rfl rfl rfl HRx.out, At3.did_r (by decide) (by decide) hd (hG.2.of (by kernel_rfl)) h rfl⟩) ?_
    simp only [Act.put, List.setIfInBounds_toArray, List.set_cons_zero, List.set_cons_succ]
    refine InvC.invc_nil fun wq hI => ?_
    have e6 := hI.done (by rfl)
    subst e6
    have bq := BXX.out.1
    have hx9 := SY.out.x9
    have RK : Rk N wq (updE V n (.slice a9 (on + 1) c9') (V (2 * n + 1))) (k.with n { (k.en n) with sent := s1, op := (k.en n).op ++ [⟨0, s1, 0, B⟩] }) := (hx9.r.below bq).with n hn { (k.en n) with sent := s1, op := (k.en n).op ++ [⟨0, s1, 0, B⟩] } _ _ (SY.out.d9.below bq) ((hx9.r.below bq).g n hn)
    have hbl : B.length = bn := SY.out.bts.1
    have RP := Lib.hid (show Calls Try.prog 39 #[.agg nw.toArray, .int .i64 (n : Int), .int .u32 (s1 : Int), .slice ax bn cx] wq fun e w' => ∃ V', e = .returned (rl (k.send n B) V') ∧ Rk N w' V' (k.send n B) ∧ Below wq.heap.size wq w' from by
      have := rput_any RK n hn s1 (.slice ax bn cx) B ⟨ax, cx, by rw [hbl], by rw [hbl]; exact BXX.out.2.1, BXX.out.2.2⟩ (by rw [with_fl]; have := HFL.out; omega)
      rw [send_eq k n hn B, ← SY.out.es]
      unfold rl at this ⊢
      rw [← HNW.out] at this
      exact this)
    have BW := Lib.hid (show Below w.heap.size w wq from hx9.b.trans (bq.mono hx9.b.size))
    have ZW := Lib.hid (show Blk wq rb zlk 52 from SY.out.z9.below bq SY.out.z9.lt)
    have RB := Lib.hid (show w.heap.size ≤ rb by have := PR.out.erb; omega)
    clear hI bq hx9 RK hbl ZK KBx KBy BXX BYY HC1 HC2 HX2 HY1 HRx HRy EV4 EV1 WS FS CS CO C9
    go_wp2_with (first | (go_at_call 39; refine RP.out.mono ?_; rintro e w5 ⟨V5, he, r5, b5⟩; obtain ⟨nv, N⟩ := came9 he r5 b5 BW.out ZW.out RB.out; have NN := Lib.hid N; obtain ⟨e5, _⟩ := N; subst e5; clear he r5 b5) | (refine wpList_store_row rfl 52 _ _ rfl rb 0 10 rfl 52 zlk nv rfl NN.out.2.z (by kernel_rfl) NN.out.2.n (by decide) NN.out.2.one ?_))
    rw [put_all zlk nv (by rw [NN.out.2.n]; rfl)]
    exact bodyPost_ret (v := .tuple #[.int .i64 0, .agg nv.toArray]) (results_two_cell rfl _ _ rb 52 _ (0, 0) _ _ rfl rfl NN.out.2.s Try.underlying52 rfl (by rw [List.size_toArray, NN.out.2.n]; kernel_rfl)) rfl ⟨V5, by rw [NN.out.2.env]; rfl, NN.out.2.r, NN.out.2.b⟩
end Go.Proofs.Ytfjaoompdleljaa.Link
/-
  Send of the reference, whole. Helper text; no statement is proved here.
-/
set_option linter.unusedVariables false
set_option maxRecDepth 20000
set_option linter.unusedSimpArgs false
namespace Go.Proofs.Ytfjaoompdleljaa.Link
open Go.RowKit Go.Proofs.Ytfjaoompdleljaa.Base Go.Proofs.Ytfjaoompdleljaa.Laws Go.Proofs.Ytfjaoompdleljaa.Disk Go.Proofs.Ytfjaoompdleljaa.Row Go.Proofs.Ytfjaoompdleljaa.Flat
variable {N : Nat → Prop}
theorem rsend_any {w : World} {V : Nat → Value} {k : Lk} (h : Rk N w V k) (n : Int) (a : Option Addr) (l c : Nat) (B : List UInt8) (hB : Bts w a l c B) (hfl : k.fl.length ≤ 1024) : Calls Try.prog 23 #[rl k V, .int .i64 n, .slice a l c] w fun e w' => Ck N w (k.sendE n l) (k.sends n B) e w' := by
  have hl : B.length = l := hB.1
  unfold Lk.sends
  rw [hl]
  by_cases h1 : n < 0 ∨ 1 < n ∨ l < 1 ∨ 64 < l
  · have e2 : k.sendE n l = 2 := by unfold Lk.sendE; rw [if_pos h1]
    rw [e2, if_neg (by decide)]
    exact rsend_no2 h n a l c hfl h1
  · obtain ⟨m, rfl⟩ := Int.eq_ofNat_of_zero_le (show 0 ≤ n by omega)
    by_cases h2 : k.fl.length < 1024 ∧ (k.en m).op.length < 256
    · have e0 : k.sendE (m : Int) l = 0 := by
        unfold Lk.sendE
        rw [if_neg h1, Int.toNat_natCast, if_pos h2]
      rw [e0, if_pos rfl, Int.toNat_natCast]
      obtain ⟨g, o, rfl⟩ : ∃ g o, a = some ⟨g, o, none⟩ := by
        rcases hB.2.2.2 with h4 | ⟨b, o, e, _⟩
        · omega
        · exact ⟨b, o, e⟩
      exact rsend_yes h m (by omega) _ l c B hB (by omega) (by omega) h2.1 h2.2
    · have e9 : k.sendE (m : Int) l = 9 := by
        unfold Lk.sendE
        rw [if_neg h1, Int.toNat_natCast, if_neg h2]
      rw [e9, if_neg (by decide)]
      exact rsend_no9 h m (by omega) a l c (by omega) (by omega) hfl h2
end Go.Proofs.Ytfjaoompdleljaa.Link
/-
  Tick of the reference by contract. Helper text; no statement is proved here.
-/
set_option linter.unusedVariables false
set_option maxRecDepth 20000
set_option linter.unusedSimpArgs false
namespace Go.Proofs.Ytfjaoompdleljaa.Link
open Go.RowKit Go.Proofs.Ytfjaoompdleljaa.Base Go.Proofs.Ytfjaoompdleljaa.Laws Go.Proofs.Ytfjaoompdleljaa.Disk Go.Proofs.Ytfjaoompdleljaa.Row Go.Proofs.Ytfjaoompdleljaa.Flat Go.Proofs.Ytfjaoompdleljaa.InvM Go.Proofs.Ytfjaoompdleljaa.Inv Go.Proofs.Ytfjaoompdleljaa.InvL Go.Proofs.Ytfjaoompdleljaa.InvC Go.Proofs.Ytfjaoompdleljaa.InvG Go.Proofs.Ytfjaoompdleljaa.Codec
variable {N : Nat → Prop}
theorem tries_full (k : Lk) (n : Nat) (ms : List Mk) (h : ¬ k.fl.length < 1024) : k.tries n ms = k := by
  unfold Lk.tries
  induction ms with
  | nil => rfl
  | cons m ms ih => rw [List.foldl_cons, show k.try1 n m = k from if_neg h]; exact ih
theorem tries_cut (k : Lk) (n j : Nat) (ms : List Mk) (h : ¬ (k.tries n (ms.take j)).fl.length < 1024) : k.tries n (ms.take j) = k.tries n ms := by
  have : k.tries n ms = (k.tries n (ms.take j)).tries n (ms.drop j) := by
    unfold Lk.tries; rw [← List.foldl_append, List.take_append_drop]
  rw [this, tries_full _ _ _ h]
theorem Bx.mono_b {w0 w : World} {lb : Nat} {V : Nat → Value} {k : Lk} (h : Bx N w0 w lb V k) {w' : World} {V' : Nat → Value} {k' : Lk} (hb : Below w.heap.size w w') (hr : Rk N w' V' k') : Bx N w0 (w'.setRow lb (lcells k' V').toArray) lb V' k' :=
  ⟨below_grown (h.b.trans (hb.mono h.b.size)) (grown_setRow _ _ _) (Nat.le_trans h.b.size hb.size) h.l, setRow_heap _ _ _ _ _ _ (h.z.below hb h.z.lt), hr.off (h.z.below hb h.z.lt) (h.r.no) (by decide) (grown_setRow _ _ _), h.l⟩
set_option maxHeartbeats 2000000 in
theorem rtick_any {w : World} {V : Nat → Value} {k : Lk} (h : Rk N w V k) (hfl : k.fl.length ≤ 1024) (hop : ∀ n, n < 2 → (k.en n).op.length ≤ 256) : Calls Try.prog 27 #[rl k V] w fun e w' => ∃ V', e = .returned (.tuple #[.int .i64 ((k.tick.fl.length - k.fl.length : Nat) : Int), rl k.tick V']) ∧ Rk N w' V' k.tick ∧ Below w.heap.size w w' := by
  obtain ⟨lv, wb, rb, hp⟩ := pro h
  obtain ⟨fa, fc, hvf, hfm, hfx⟩ := h.fl.form
  obtain ⟨fn, hfn⟩ : ∃ fn, fn = k.fl.length := ⟨_, rfl⟩
  have PR := Lib.hid hp
  have HFN := Lib.hid hfn
  have HFL := Lib.hid hfl
  have ZL := Lib.hid (show Blk wb.drew w.heap.size lv 52 from hp.z.drew)
  have ZRR := Lib.hid (show Blk wb.drew rb zlk 52 from hp.r.drew)
  have OUT := Lib.hid (hp.x.drew.out ZRR.out zlk_no (by have := hp.erb; omega) hp.elv (by have := hp.erb; omega))
  unfold rl
  rw [← hp.elv]
  have HOP := Lib.hid hop
  have X0 := Lib.hid hp.x
  have R0 := Lib.hid hp.r
  have HRB := Lib.hid hp.erb
  obtain ⟨F0, hF0⟩ : ∃ F0, F0 = k.fl.length := ⟨_, rfl⟩
  have HF := Lib.hid hF0
  clear hvf hfl h hfn hp hfm hfx hop
  rw [← hF0]
  clear hF0
  go_enter Try.func27, Try.ntmps27
  go_upto_region 1 with (fail)
  rw [zlk_is, PR.out.ewb, PR.out.erb]
  go_upto_region 3 with (fail)
  refine wp_loop_rounds 3 ?_
  obtain ⟨we0, en0, be0⟩ := rend_any k V X0.out.r.one 0 (by decide) wb
  unfold rl at en0
  obtain ⟨lv0, hlv0⟩ : ∃ l, l = lcells k V := ⟨_, rfl⟩
  obtain ⟨ne0, hne0⟩ : ∃ l, l = ecells (k.en 0) (V (2 * 0)) (V (2 * 0 + 1)) := ⟨_, rfl⟩
  obtain ⟨ms0, hms0⟩ : ∃ l, l = (k.en 0).op := ⟨_, rfl⟩
  obtain ⟨N0, hN0⟩ : ∃ N, N = ms0.length := ⟨_, rfl⟩
  obtain ⟨oa0, oc0, ov0, _, _⟩ := (X0.out.r.o 0 (by decide)).form
  have OR0 := Lib.hid (show Rd N wb 71 mc (·.B) (.slice oa0 N0 oc0) ms0 from by have := X0.out.r.o 0 (by decide); rw [ov0, ← hms0, ← hN0] at this; exact this)
  have NE0 := Lib.hid (show ne0[0]? = some (.slice oa0 N0 oc0) by rw [hne0, hN0, hms0, ← ov0]; rfl)
  have ZB0 := Lib.hid (show Blk wb w.heap.size lv0 52 by rw [hlv0]; exact X0.out.z)
  have ZL0 := Lib.hid (show lv0.length = 10 by rw [hlv0]; rfl)
  have BE0 := Lib.hid be0
  rw [← hlv0, ← hne0] at en0
  have EN0 := Lib.hid en0
  have X0e := Lib.hid (X0.out.below be0)
  have R0e := Lib.hid (R0.out.below be0 R0.out.lt)
  have OR0e := Lib.hid (OR0.out.below be0)
  have HN0 := Lib.hid hN0
  have HM0 := Lib.hid hms0
  have hN256_0 : N0 ≤ 256 := by rw [hN0, hms0]; exact HOP.out 0 (by decide)
  clear en0 be0 hlv0 hne0 hms0 hN0 ov0
  rw [rounds_succ]
  go_wp2_with (first | (refine wpList_value_g rfl (.agg lv0.toArray) (exec_load rfl rfl ZB0.out Try.underlying52 rfl (by kernel_rfl) ZL0.out) ?_) | (go_at_call 38; refine EN0.out.mono ?_; rintro e w5 ⟨rfl, rfl⟩) | (refine wpList_value_g rfl (.slice oa0 N0 oc0) (exec_field_cell rfl rfl Try.underlying50 rfl Try.underlying48 rfl NE0.out) ?_))
  go_loopw [7, 4] (fun i nn wr => ∃ j : Nat, ∃ V', j ≤ N0 ∧ i = .int .i64 j ∧ nn = .int .i64 (((k.tries 0 (ms0.take j)).fl.length - F0 : Nat) : Int) ∧ Bx N w wr w.heap.size V' (k.tries 0 (ms0.take j)) ∧ Blk wr rb zlk 52 ∧ Rd N wr 71 mc (·.B) (.slice oa0 N0 oc0) ms0) (fun i _ _ => N0 - (intOf i).toNat)
  case atStart => exact ⟨0, V, by omega, rfl, (by have := HF.out; show _ = Value.int .i64 ((k.fl.length - F0 : Nat) : Int); rw [show k.fl.length - F0 = 0 by omega]; rfl), X0e.out, R0e.out, OR0e.out⟩
  case round =>
    obtain ⟨j, V', hj, rfl, rfl, hx, hr, ho⟩ := hrel
    obtain ⟨kj, hkj⟩ : ∃ kj, kj = k.tries 0 (ms0.take j) := ⟨_, rfl⟩
    rw [← hkj] at hx ⊢
    have HKJ := Lib.hid hkj
    have GE : F0 ≤ kj.fl.length := by have := (tries_en k 0 (ms0.take j)).2.2.2.1; have := HF.out; rw [hkj]; omega
    have LE4 : kj.fl.length ≤ 1024 := by rw [hkj]; exact (tries_en k 0 (ms0.take j)).2.2.2.2 HFL.out
    obtain ⟨fa, fc, hvf, _, _⟩ := hx.r.fl.form
    obtain ⟨fn, hfn⟩ : ∃ fn, fn = kj.fl.length := ⟨_, rfl⟩
    have c9 : wr.cell? ⟨w.heap.size, 9, none⟩ = some (.slice fa fn fc) := by rw [hfn, ← hvf]; exact hx.z.cell 9
    rw [← hfn] at GE LE4 ⊢
    have HFN := Lib.hid hfn
    have HX := Lib.hid hx
    have HR := Lib.hid hr
    have HO := Lib.hid ho
    clear hx hr ho hvf hfn hkj
    by_cases hgo : j < N0 ∧ fn < 1024
    · have hjn := hgo.1
      have hroom := hgo.2
      clear hgo
      obtain ⟨m, hm⟩ : ∃ m, ms0[j]? = some m := ⟨_, List.getElem?_eq_getElem (by have := HN0.out; omega)⟩
      have HM := Lib.hid hm
      obtain ⟨g, go, c', y, ee, hcy, hY⟩ := HO.out.at_ (m := 4) (fun _ => rfl) hm
      injection ee with e1 e2 e3
      subst e1
      obtain ⟨ya, yc, hy, hyb⟩ := hY
      obtain ⟨yl, hyl⟩ : ∃ yl, yl = m.B.length := ⟨_, rfl⟩
      rw [← hyl] at hy hyb
      subst hy
      have c1 : wr.drew.cell? ⟨g, go + j * 4 + 1, none⟩ = some (.int .u32 (m.s : Int)) := hcy 1 _ rfl
      have c3 : wr.drew.cell? ⟨g, go + j * 4 + 3, none⟩ = some (.slice ya yl yc) := hcy 3 _ rfl
      have j1 : (j : Int) < (N0 : Int) := by omega
      have j2 : (fn : Int) < 1024 := by omega
      obtain ⟨lvj, hlvj⟩ : ∃ l, l = lcells kj V' := ⟨_, rfl⟩
      have ZJ := Lib.hid (show Blk wr.drew w.heap.size lvj 52 by rw [hlvj]; exact HX.out.z.drew)
      have NOJ := Lib.hid (show ∀ u ∈ lvj, ∀ b, u ≠ u8 b by rw [hlvj]; exact HX.out.r.no)
      have LJ := Lib.hid (show lvj.length = 10 by rw [hlvj]; rfl)
      have PT := Lib.hid (show Calls Try.prog 39 #[.agg lvj.toArray, .int .i64 (0 : Int), .int .u32 (m.s : Int), .slice ya yl yc] wr.drew fun e w' => ∃ V', e = .returned (rl (kj.put 0 m.s m.B) V') ∧ Rk N w' V' (kj.put 0 m.s m.B) ∧ Below wr.drew.heap.size wr.drew w' from by
        rw [hlvj]
        exact rput_any HX.out.drew.r 0 (by decide) m.s _ m.B ⟨ya, yc, by rw [hyl], by rw [← hyl]; exact hyb.1.below (Below.refl wr.heap.size wr).drew (Nat.le_refl _), by rw [← hyl]; exact hyb.2⟩ (by have := HFN.out; omega))
      have HXD := Lib.hid HX.out.drew
      have HRD := Lib.hid (show Blk wr.drew rb zlk 52 from HR.out.drew)
      have HOD := Lib.hid (show Rd N wr.drew 71 mc (·.B) (.slice (some ⟨g, go, none⟩) N0 oc0) ms0 from HO.out.below (Below.refl wr.heap.size wr).drew)
      obtain ⟨dd, hdd⟩ : ∃ dd, dd = fn - F0 := ⟨_, rfl⟩
      have DD := Lib.hid hdd
      have d1 : dd ≤ 1024 := by omega
      rw [← hdd]
      have PSZ := Lib.hid (show w.heap.size ≠ rb by have := HRB.out; omega)
      clear hm hcy e2 e3 hlvj hyb hyl hdd
      go_upto_region 9 with (fail)
      clear c9
      refine wp_region_gate_tail (fun d w' => w' = wr.drew) 12 (by kernel_rfl) (by kernel_rfl) rfl ?_
      simp only [List.take_succ_cons, List.take_zero, List.drop_succ_cons, List.drop_zero]
      refine InvC.invc_value (.agg lvj.toArray) (fun u hu => by cases hu) rfl (fun d w' _ _ h => by subst h; exact exec_load rfl rfl ZJ.out Try.underlying52 rfl (by kernel_rfl) LJ.out) (fun d w' _ _ h => h) ?_
      simp only [Act.put, List.setIfInBounds_toArray, List.set_cons_zero, List.set_cons_succ]
      refine InvC.invc_value (.int .i64 0) (fun u hu => by cases hu) rfl (fun d w' _ _ h => by go_simp; all_goals rfl) (fun d w' _ _ h => h) ?_
      simp only [Act.put, List.setIfInBounds_toArray, List.set_cons_zero, List.set_cons_succ]
      refine InvC.invc_value (.slice (some ⟨g, go, none⟩) N0 oc0) (fun u hu => by cases hu) rfl (fun d w' _ _ h => by go_simp; all_goals rfl) (fun d w' _ _ h => h) ?_
      simp only [Act.put, List.setIfInBounds_toArray, List.set_cons_zero, List.set_cons_succ]
      refine InvC.invc_value (.int .i64 (j : Int)) (fun u hu => by cases hu) rfl (fun d w' _ _ h => by go_simp; all_goals rfl) (fun d w' _ _ h => h) ?_
      simp only [Act.put, List.setIfInBounds_toArray, List.set_cons_zero, List.set_cons_succ]
      refine InvC.invc_value (.pointer (some ⟨g, go + j * 4, none⟩)) (fun u hu => by cases hu) rfl (fun d w' _ _ h => by go_simp; all_goals rfl) (fun d w' _ _ h => h) ?_
      simp only [Act.put, List.setIfInBounds_toArray, List.set_cons_zero, List.set_cons_succ]
      refine InvC.invc_value (.pointer (some ⟨g, go + j * 4 + 1, none⟩)) (fun u hu => by cases hu) rfl (fun d w' _ _ h => by go_simp; all_goals rfl) (fun d w' _ _ h => h) ?_
      simp only [Act.put, List.setIfInBounds_toArray, List.set_cons_zero, List.set_cons_succ]
      refine InvC.invc_value (.int .u32 (m.s : Int)) (fun u hu => by cases hu) rfl (fun d w' _ _ h => by subst h; go_simp; all_goals rfl) (fun d w' _ _ h => h) ?_
      simp only [Act.put, List.setIfInBounds_toArray, List.set_cons_zero, List.set_cons_succ]
      refine InvC.invc_value (.slice (some ⟨g, go, none⟩) N0 oc0) (fun u hu => by cases hu) rfl (fun d w' _ _ h => by go_simp; all_goals rfl) (fun d w' _ _ h => h) ?_
      simp only [Act.put, List.setIfInBounds_toArray, List.set_cons_zero, List.set_cons_succ]
      refine InvC.invc_value (.int .i64 (j : Int)) (fun u hu => by cases hu) rfl (fun d w' _ _ h => by go_simp; all_goals rfl) (fun d w' _ _ h => h) ?_
      simp only [Act.put, List.setIfInBounds_toArray, List.set_cons_zero, List.set_cons_succ]
      refine InvC.invc_value (.pointer (some ⟨g, go + j * 4, none⟩)) (fun u hu => by cases hu) rfl (fun d w' _ _ h => by go_simp; all_goals rfl) (fun d w' _ _ h => h) ?_
      simp only [Act.put, List.setIfInBounds_toArray, List.set_cons_zero, List.set_cons_succ]
      refine InvC.invc_value (.pointer (some ⟨g, go + j * 4 + 3, none⟩)) (fun u hu => by cases hu) rfl (fun d w' _ _ h => by go_simp; all_goals rfl) (fun d w' _ _ h => h) ?_
      simp only [Act.put, List.setIfInBounds_toArray, List.set_cons_zero, List.set_cons_succ]
      refine InvC.invc_value (.slice ya yl yc) (fun u hu => by cases hu) rfl (fun d w' _ _ h => by subst h; go_simp; all_goals rfl) (fun d w' _ _ h => h) ?_
      simp only [Act.put, List.setIfInBounds_toArray, List.set_cons_zero, List.set_cons_succ]
      refine InvC.invc_nil fun w8 e8 => ?_
      subst e8
      go_wp2_with (first | (go_at_call 39; refine PT.out.mono ?_; rintro e w5 ⟨V5, he, r5, b5⟩; unfold rl at he; obtain ⟨nv, hnv⟩ : ∃ nv, nv = lcells (kj.put 0 m.s m.B) V5 := ⟨_, rfl⟩; rw [← hnv] at he; subst he; have NV := Lib.hid hnv; have R5 := Lib.hid r5; have B5 := Lib.hid b5; have N5 := Lib.hid (show nv.length = 10 by rw [hnv]; rfl); have O5 := Lib.hid (show ∀ u ∈ nv, u.oneCell' = true by rw [hnv]; exact lc_one _ _ r5.one); have Z5 := Lib.hid (show Blk w5 w.heap.size lvj 52 from ZJ.out.below b5 ZJ.out.lt); clear r5 b5 hnv) | (refine wpList_store_row rfl 52 _ _ rfl w.heap.size 0 10 rfl 52 lvj nv rfl Z5.out (by kernel_rfl) N5.out (by rw [LJ.out]; decide) O5.out ?_))
      rw [put_all lvj nv (by rw [N5.out, LJ.out])]
      refine ⟨?rel, ?measure⟩
      case rel =>
        have SN : k.tries 0 (ms0.take (j + 1)) = kj.put 0 m.s m.B := by
          rw [take_snoc ms0 j m HM.out, tries_snoc, ← HKJ.out]
          exact if_pos (by have := HFN.out; omega)
        have B5 := B5.out
        have RZ := HRD.out.below B5 HRD.out.lt
        have PL : (kj.put 0 m.s m.B).fl.length = fn + 1 := by rw [HFN.out]; show (kj.fl ++ [_]).length = _; simp
        refine ⟨j + 1, V5, by omega, by go_num, ?_, ?_, ?_, ?_⟩
        · rw [SN, PL]
          have := DD.out
          congr 1
          omega
        · rw [SN, NV.out]; exact HXD.out.mono_b B5 R5.out
        · exact RZ.grown (grown_setRow _ _ _) (Ne.symm PSZ.out)
        · exact (HOD.out.below B5).off Z5.out NOJ.out (by decide) (grown_setRow _ _ _)
      case measure => simp [intOf]; omega
    · have e5 : kj = k.tries 0 ms0 := by
        by_cases hjn : j < N0
        · rw [HKJ.out]; refine tries_cut _ _ _ _ (fun h => hgo ⟨hjn, ?_⟩); rw [← HKJ.out] at h; rw [HFN.out]; exact h
        · rw [HKJ.out, List.take_of_length_le (by have := HN0.out; omega)]
      go_upto_region 7 with (fail)
      go_cut [25] (fun v wx => v = .bool false ∧ wx = wr)
      case first =>
        by_cases hjn : (j : Int) < (N0 : Int)
        · have j2 : (1024 : Int) ≤ (fn : Int) := by omega
          clear e5 hgo
          go_wp2_with fail
          go_meet
          case rel => exact ⟨by rw [decide_eq_false (by omega)], rfl⟩
        · clear e5 hgo
          go_wp2_with fail
          go_meet
          case rel => exact ⟨rfl, rfl⟩
      case rest =>
        obtain ⟨hv, hw⟩ := hcut
        subst hv
        subst hw
        clear c9 hgo
        obtain ⟨K1, hK1⟩ : ∃ x, x = kj := ⟨_, rfl⟩
        obtain ⟨V1, hV1⟩ : ∃ x, x = V' := ⟨_, rfl⟩
        obtain ⟨w1, hw1⟩ : ∃ x, x = wc := ⟨_, rfl⟩
        rw [← hK1] at e5 HX HFN
        rw [← hV1, ← hw1] at HX
        rw [← hw1] at HR ⊢
        have HK1 := Lib.hid e5
        have X1 := Lib.hid HX.out
        have R1 := Lib.hid HR.out
        have FN1 := Lib.hid HFN.out
        have G1 := Lib.hid GE
        have L1 := Lib.hid LE4
        clear HX HR HO HFN e5 HKJ GE LE4 hK1 hV1 hw1
        go_wp2_with fail
        obtain ⟨we1, en1, be1⟩ := rend_any K1 V1 X1.out.r.one 1 (by decide) w1
        unfold rl at en1
        obtain ⟨lv1, hlv1⟩ : ∃ l, l = lcells K1 V1 := ⟨_, rfl⟩
        obtain ⟨ne1, hne1⟩ : ∃ l, l = ecells (K1.en 1) (V1 (2 * 1)) (V1 (2 * 1 + 1)) := ⟨_, rfl⟩
        obtain ⟨ms1, hms1⟩ : ∃ l, l = (K1.en 1).op := ⟨_, rfl⟩
        obtain ⟨N1, hN1⟩ : ∃ N, N = ms1.length := ⟨_, rfl⟩
        obtain ⟨oa1, oc1, ov1, _, _⟩ := (X1.out.r.o 1 (by decide)).form
        have OR1 := Lib.hid (show Rd N w1 71 mc (·.B) (.slice oa1 N1 oc1) ms1 from by have := X1.out.r.o 1 (by decide); rw [ov1, ← hms1, ← hN1] at this; exact this)
        have NE1 := Lib.hid (show ne1[0]? = some (.slice oa1 N1 oc1) by rw [hne1, hN1, hms1, ← ov1]; rfl)
        have ZB1 := Lib.hid (show Blk w1 w.heap.size lv1 52 by rw [hlv1]; exact X1.out.z)
        have ZL1 := Lib.hid (show lv1.length = 10 by rw [hlv1]; rfl)
        have BE1 := Lib.hid be1
        rw [← hlv1, ← hne1] at en1
        have EN1 := Lib.hid en1
        have X1e := Lib.hid (X1.out.below be1)
        have R1e := Lib.hid (R1.out.below be1 R1.out.lt)
        have OR1e := Lib.hid (OR1.out.below be1)
        have HN1 := Lib.hid hN1
        have HM1 := Lib.hid hms1
        have hN256_1 : N1 ≤ 256 := by rw [hN1, hms1]; exact (by have := HOP.out 1 (by decide); have e : K1.b = k.b := by { rw [HK1.out]; exact (tries_en k 0 ms0).2.2.1 }; show K1.b.op.length ≤ 256; rw [e]; exact this)
        clear en1 be1 hlv1 hne1 hms1 hN1 ov1
        rw [rounds_succ]
        go_wp2_with (first | (refine wpList_value_g rfl (.agg lv1.toArray) (exec_load rfl rfl ZB1.out Try.underlying52 rfl (by kernel_rfl) ZL1.out) ?_) | (go_at_call 38; refine EN1.out.mono ?_; rintro e w5 ⟨rfl, rfl⟩) | (refine wpList_value_g rfl (.slice oa1 N1 oc1) (exec_field_cell rfl rfl Try.underlying50 rfl Try.underlying48 rfl NE1.out) ?_))
        go_loopw [7, 4] (fun i nn wr => ∃ j : Nat, ∃ V', j ≤ N1 ∧ i = .int .i64 j ∧ nn = .int .i64 (((K1.tries 1 (ms1.take j)).fl.length - F0 : Nat) : Int) ∧ Bx N w wr w.heap.size V' (K1.tries 1 (ms1.take j)) ∧ Blk wr rb zlk 52 ∧ Rd N wr 71 mc (·.B) (.slice oa1 N1 oc1) ms1) (fun i _ _ => N1 - (intOf i).toNat)
        case atStart => exact ⟨0, V1, by omega, rfl, (by show _ = Value.int .i64 ((K1.fl.length - F0 : Nat) : Int); rw [← FN1.out]), X1e.out, R1e.out, OR1e.out⟩
        case round =>
          obtain ⟨j, V', hj, rfl, rfl, hx, hr, ho⟩ := hrel
          obtain ⟨kj, hkj⟩ : ∃ kj, kj = K1.tries 1 (ms1.take j) := ⟨_, rfl⟩
          rw [← hkj] at hx ⊢
          have HKJ := Lib.hid hkj
          have GE : F0 ≤ kj.fl.length := by have := (tries_en K1 1 (ms1.take j)).2.2.2.1; have := (show F0 ≤ K1.fl.length by have := G1.out; rw [← FN1.out]; exact this); rw [hkj]; omega
          have LE4 : kj.fl.length ≤ 1024 := by rw [hkj]; exact (tries_en K1 1 (ms1.take j)).2.2.2.2 (by rw [← FN1.out]; exact L1.out)
          obtain ⟨fa, fc, hvf, _, _⟩ := hx.r.fl.form
          obtain ⟨fn, hfn⟩ : ∃ fn, fn = kj.fl.length := ⟨_, rfl⟩
          have c9 : wr.cell? ⟨w.heap.size, 9, none⟩ = some (.slice fa fn fc) := by rw [hfn, ← hvf]; exact hx.z.cell 9
          rw [← hfn] at GE LE4 ⊢
          have HFN := Lib.hid hfn
          have HX := Lib.hid hx
          have HR := Lib.hid hr
          have HO := Lib.hid ho
          clear hx hr ho hvf hfn hkj
          by_cases hgo : j < N1 ∧ fn < 1024
          · have hjn := hgo.1
            have hroom := hgo.2
            clear hgo
            obtain ⟨m, hm⟩ : ∃ m, ms1[j]? = some m := ⟨_, List.getElem?_eq_getElem (by have := HN1.out; omega)⟩
            have HM := Lib.hid hm
            obtain ⟨g, go, c', y, ee, hcy, hY⟩ := HO.out.at_ (m := 4) (fun _ => rfl) hm
            injection ee with e1 e2 e3
            subst e1
            obtain ⟨ya, yc, hy, hyb⟩ := hY
            obtain ⟨yl, hyl⟩ : ∃ yl, yl = m.B.length := ⟨_, rfl⟩
            rw [← hyl] at hy hyb
            subst hy
            have c1 : wr.drew.cell? ⟨g, go + j * 4 + 1, none⟩ = some (.int .u32 (m.s : Int)) := hcy 1 _ rfl
            have c3 : wr.drew.cell? ⟨g, go + j * 4 + 3, none⟩ = some (.slice ya yl yc) := hcy 3 _ rfl
            have j1 : (j : Int) < (N1 : Int) := by omega
            have j2 : (fn : Int) < 1024 := by omega
            obtain ⟨lvj, hlvj⟩ : ∃ l, l = lcells kj V' := ⟨_, rfl⟩
            have ZJ := Lib.hid (show Blk wr.drew w.heap.size lvj 52 by rw [hlvj]; exact HX.out.z.drew)
            have NOJ := Lib.hid (show ∀ u ∈ lvj, ∀ b, u ≠ u8 b by rw [hlvj]; exact HX.out.r.no)
            have LJ := Lib.hid (show lvj.length = 10 by rw [hlvj]; rfl)
            have PT := Lib.hid (show Calls Try.prog 39 #[.agg lvj.toArray, .int .i64 (1 : Int), .int .u32 (m.s : Int), .slice ya yl yc] wr.drew fun e w' => ∃ V', e = .returned (rl (kj.put 1 m.s m.B) V') ∧ Rk N w' V' (kj.put 1 m.s m.B) ∧ Below wr.drew.heap.size wr.drew w' from by
              rw [hlvj]
              exact rput_any HX.out.drew.r 1 (by decide) m.s _ m.B ⟨ya, yc, by rw [hyl], by rw [← hyl]; exact hyb.1.below (Below.refl wr.heap.size wr).drew (Nat.le_refl _), by rw [← hyl]; exact hyb.2⟩ (by have := HFN.out; omega))
            have HXD := Lib.hid HX.out.drew
            have HRD := Lib.hid (show Blk wr.drew rb zlk 52 from HR.out.drew)
            have HOD := Lib.hid (show Rd N wr.drew 71 mc (·.B) (.slice (some ⟨g, go, none⟩) N1 oc1) ms1 from HO.out.below (Below.refl wr.heap.size wr).drew)
            obtain ⟨dd, hdd⟩ : ∃ dd, dd = fn - F0 := ⟨_, rfl⟩
            have DD := Lib.hid hdd
            have d1 : dd ≤ 1024 := by omega
            rw [← hdd]
            have PSZ := Lib.hid (show w.heap.size ≠ rb by have := HRB.out; omega)
            clear hm hcy e2 e3 hlvj hyb hyl hdd
            go_upto_region 9 with (fail)
            clear c9
            refine wp_region_gate_tail (fun d w' => w' = wr.drew) 12 (by kernel_rfl) (by kernel_rfl) rfl ?_
            simp only [List.take_succ_cons, List.take_zero, List.drop_succ_cons, List.drop_zero]
            refine InvC.invc_value (.agg lvj.toArray) (fun u hu => by cases hu) rfl (fun d w' _ _ h => by subst h; exact exec_load rfl rfl ZJ.out Try.underlying52 rfl (by kernel_rfl) LJ.out) (fun d w' _ _ h => h) ?_
            simp only [Act.put, List.setIfInBounds_toArray, List.set_cons_zero, List.set_cons_succ]
            refine InvC.invc_value (.int .i64 1) (fun u hu => by cases hu) rfl (fun d w' _ _ h => by go_simp; all_goals rfl) (fun d w' _ _ h => h) ?_
            simp only [Act.put, List.setIfInBounds_toArray, List.set_cons_zero, List.set_cons_succ]
            refine InvC.invc_value (.slice (some ⟨g, go, none⟩) N1 oc1) (fun u hu => by cases hu) rfl (fun d w' _ _ h => by go_simp; all_goals rfl) (fun d w' _ _ h => h) ?_
            simp only [Act.put, List.setIfInBounds_toArray, List.set_cons_zero, List.set_cons_succ]
            refine InvC.invc_value (.int .i64 (j : Int)) (fun u hu => by cases hu) rfl (fun d w' _ _ h => by go_simp; all_goals rfl) (fun d w' _ _ h => h) ?_
            simp only [Act.put, List.setIfInBounds_toArray, List.set_cons_zero, List.set_cons_succ]
            refine InvC.invc_value (.pointer (some ⟨g, go + j * 4, none⟩)) (fun u hu => by cases hu) rfl (fun d w' _ _ h => by go_simp; all_goals rfl) (fun d w' _ _ h => h) ?_
            simp only [Act.put, List.setIfInBounds_toArray, List.set_cons_zero, List.set_cons_succ]
            refine InvC.invc_value (.pointer (some ⟨g, go + j * 4 + 1, none⟩)) (fun u hu => by cases hu) rfl (fun d w' _ _ h => by go_simp; all_goals rfl) (fun d w' _ _ h => h) ?_
            simp only [Act.put, List.setIfInBounds_toArray, List.set_cons_zero, List.set_cons_succ]
            refine InvC.invc_value (.int .u32 (m.s : Int)) (fun u hu => by cases hu) rfl (fun d w' _ _ h => by subst h; go_simp; all_goals rfl) (fun d w' _ _ h => h) ?_
            simp only [Act.put, List.setIfInBounds_toArray, List.set_cons_zero, List.set_cons_succ]
            refine InvC.invc_value (.slice (some ⟨g, go, none⟩) N1 oc1) (fun u hu => by cases hu) rfl (fun d w' _ _ h => by go_simp; all_goals rfl) (fun d w' _ _ h => h) ?_
            simp only [Act.put, List.setIfInBounds_toArray, List.set_cons_zero, List.set_cons_succ]
            refine InvC.invc_value (.int .i64 (j : Int)) (fun u hu => by cases hu) rfl (fun d w' _ _ h => by go_simp; all_goals rfl) (fun d w' _ _ h => h) ?_
            simp only [Act.put, List.setIfInBounds_toArray, List.set_cons_zero, List.set_cons_succ]
            refine InvC.invc_value (.pointer (some ⟨g, go + j * 4, none⟩)) (fun u hu => by cases hu) rfl (fun d w' _ _ h => by go_simp; all_goals rfl) (fun d w' _ _ h => h) ?_
            simp only [Act.put, List.setIfInBounds_toArray, List.set_cons_zero, List.set_cons_succ]
            refine InvC.invc_value (.pointer (some ⟨g, go + j * 4 + 3, none⟩)) (fun u hu => by cases hu) rfl (fun d w' _ _ h => by go_simp; all_goals rfl) (fun d w' _ _ h => h) ?_
            simp only [Act.put, List.setIfInBounds_toArray, List.set_cons_zero, List.set_cons_succ]
            refine InvC.invc_value (.slice ya yl yc) (fun u hu => by cases hu) rfl (fun d w' _ _ h => by subst h; go_simp; all_goals rfl) (fun d w' _ _ h => h) ?_
            simp only [Act.put, List.setIfInBounds_toArray, List.set_cons_zero, List.set_cons_succ]
            refine InvC.invc_nil fun w8 e8 => ?_
            subst e8
            go_wp2_with (first | (go_at_call 39; refine PT.out.mono ?_; rintro e w5 ⟨V5, he, r5, b5⟩; unfold rl at he; obtain ⟨nv, hnv⟩ : ∃ nv, nv = lcells (kj.put 1 m.s m.B) V5 := ⟨_, rfl⟩; rw [← hnv] at he; subst he; have NV := Lib.hid hnv; have R5 := Lib.hid r5; have B5 := Lib.hid b5; have N5 := Lib.hid (show nv.length = 10 by rw [hnv]; rfl); have O5 := Lib.hid (show ∀ u ∈ nv, u.oneCell' = true by rw [hnv]; exact lc_one _ _ r5.one); have Z5 := Lib.hid (show Blk w5 w.heap.size lvj 52 from ZJ.out.below b5 ZJ.out.lt); clear r5 b5 hnv) | (refine wpList_store_row rfl 52 _ _ rfl w.heap.size 0 10 rfl 52 lvj nv rfl Z5.out (by kernel_rfl) N5.out (by rw [LJ.out]; decide) O5.out ?_))
            rw [put_all lvj nv (by rw [N5.out, LJ.out])]
            refine ⟨?rel, ?measure⟩
            case rel =>
              have SN : K1.tries 1 (ms1.take (j + 1)) = kj.put 1 m.s m.B := by
                rw [take_snoc ms1 j m HM.out, tries_snoc, ← HKJ.out]
                exact if_pos (by have := HFN.out; omega)
              have B5 := B5.out
              have RZ := HRD.out.below B5 HRD.out.lt
              have PL : (kj.put 1 m.s m.B).fl.length = fn + 1 := by rw [HFN.out]; show (kj.fl ++ [_]).length = _; simp
              refine ⟨j + 1, V5, by omega, by go_num, ?_, ?_, ?_, ?_⟩
              · rw [SN, PL]
                have := DD.out
                congr 1
                omega
              · rw [SN, NV.out]; exact HXD.out.mono_b B5 R5.out
              · exact RZ.grown (grown_setRow _ _ _) (Ne.symm PSZ.out)
              · exact (HOD.out.below B5).off Z5.out NOJ.out (by decide) (grown_setRow _ _ _)
            case measure => simp [intOf]; omega
          · have e5 : kj = K1.tries 1 ms1 := by
              by_cases hjn : j < N1
              · rw [HKJ.out]; refine tries_cut _ _ _ _ (fun h => hgo ⟨hjn, ?_⟩); rw [← HKJ.out] at h; rw [HFN.out]; exact h
              · rw [HKJ.out, List.take_of_length_le (by have := HN1.out; omega)]
            go_upto_region 7 with (fail)
            go_cut [25] (fun v wx => v = .bool false ∧ wx = wr)
            case first =>
              by_cases hjn : (j : Int) < (N1 : Int)
              · have j2 : (1024 : Int) ≤ (fn : Int) := by omega
                clear e5 hgo
                go_wp2_with fail
                go_meet
                case rel => exact ⟨by rw [decide_eq_false (by omega)], rfl⟩
              · clear e5 hgo
                go_wp2_with fail
                go_meet
                case rel => exact ⟨rfl, rfl⟩
            case rest =>
              obtain ⟨hv, hw⟩ := hcut
              subst hv
              subst hw
              clear c9 hgo
              obtain ⟨K2, hK2⟩ : ∃ x, x = kj := ⟨_, rfl⟩
              obtain ⟨V2, hV2⟩ : ∃ x, x = V' := ⟨_, rfl⟩
              obtain ⟨w2, hw2⟩ : ∃ x, x = wc := ⟨_, rfl⟩
              rw [← hK2] at e5 HX HFN
              rw [← hV2, ← hw2] at HX
              rw [← hw2] at HR ⊢
              have HK2 := Lib.hid e5
              have X2 := Lib.hid HX.out
              have R2 := Lib.hid HR.out
              have FN2 := Lib.hid HFN.out
              have G2 := Lib.hid GE
              have L2 := Lib.hid LE4
              clear HX HR HO HFN e5 HKJ GE LE4 hK2 hV2 hw2
              go_wp2_with fail
              rw [rounds_succ]
              obtain ⟨nv, hnv⟩ := X2.out.drew.lvs R2.out.drew (by have := HRB.out; omega) (by have := HRB.out; omega)
              have LV := Lib.hid hnv
              have ZN := Lib.hid hnv.z
              have ZRN := Lib.hid hnv.zr
              have ON := Lib.hid hnv.o
              obtain ⟨dt, hdt⟩ : ∃ d, d = fn - F0 := ⟨_, rfl⟩
              have DT := Lib.hid hdt
              rw [← hdt]
              clear hnv hdt
              go_upto_region 11 with (fail)
              refine wp_region_gate_tail (fun d w' => w' = w2.drew) 3 (by kernel_rfl) (by kernel_rfl) rfl ?_
              simp only [List.take_succ_cons, List.take_zero, List.drop_succ_cons, List.drop_zero]
              refine InvC.invc_value (.int .i64 (dt : Int)) (fun u hu => by cases hu) rfl (fun d w' _ _ h => by go_simp; all_goals rfl) (fun d w' _ _ h => h) ?_
              simp only [Act.put, List.setIfInBounds_toArray, List.set_cons_zero, List.set_cons_succ]
              refine InvC.invc_value (.agg nv.toArray) (fun u hu => by cases hu) rfl (fun d w' _ _ h => by subst h; exact exec_load rfl rfl ZN.out Try.underlying52 rfl (by kernel_rfl) LV.out.n) (fun d w' _ _ h => h) ?_
              simp only [Act.put, List.setIfInBounds_toArray, List.set_cons_zero, List.set_cons_succ]
              refine InvC.invc_value (.int .i64 (dt : Int)) (fun u hu => by cases hu) rfl (fun d w' _ _ h => by go_simp; all_goals rfl) (fun d w' _ _ h => h) ?_
              simp only [Act.put, List.setIfInBounds_toArray, List.set_cons_zero, List.set_cons_succ]
              refine InvC.invc_nil fun w8 e8 => ?_
              subst e8
              go_wp2_with (refine wpList_store_row rfl 52 _ _ rfl rb 0 10 rfl 52 zlk nv rfl ZRN.out (by kernel_rfl) LV.out.n (by decide) LV.out.one ?_)
              rw [put_all zlk nv (by rw [LV.out.n]; rfl)]
              have e : k.tick = K2 := by
                rw [HK2.out]
                have e1 : ms1 = k.b.op := by
                  have := congrArg En.op (tries_en k 0 ms0).2.2.1
                  rw [← HK1.out] at this
                  exact HM1.out.trans this
                rw [e1, HK1.out, show ms0 = k.a.op from HM0.out]
                rfl
              rw [e]
              exact bodyPost_ret (v := .tuple #[.int .i64 (dt : Int), .agg nv.toArray]) (results_two_cell rfl _ _ rb 52 _ (0, 0) _ _ rfl rfl ON.out.2 Try.underlying52 rfl (by rw [List.size_toArray, LV.out.n]; kernel_rfl)) rfl ⟨V2, by rw [LV.out.elv, DT.out, FN2.out], ON.out.1.r, ON.out.1.b⟩
end Go.Proofs.Ytfjaoompdleljaa.Link
/-
  Deliver of the reference by contract. Helper text; no statement is proved here.
-/
set_option linter.unusedVariables false
set_option maxRecDepth 20000
set_option linter.unusedSimpArgs false
namespace Go.Proofs.Ytfjaoompdleljaa.Link
open Go.RowKit Go.Proofs.Ytfjaoompdleljaa.Base Go.Proofs.Ytfjaoompdleljaa.Laws Go.Proofs.Ytfjaoompdleljaa.Disk Go.Proofs.Ytfjaoompdleljaa.Row Go.Proofs.Ytfjaoompdleljaa.Flat Go.Proofs.Ytfjaoompdleljaa.InvM Go.Proofs.Ytfjaoompdleljaa.Inv Go.Proofs.Ytfjaoompdleljaa.InvL Go.Proofs.Ytfjaoompdleljaa.InvC Go.Proofs.Ytfjaoompdleljaa.InvG Go.Proofs.Ytfjaoompdleljaa.Codec
variable {N : Nat → Prop}
/-- Deliver: the box, the result's cell, the packet's box -/
structure Dv (N : Nat → Prop) (w wr : World) (rb pb : Nat) (V : Nat → Value) (k : Lk) (p : Pk) (y : Value) : Prop where
  x : Bx N w wr w.heap.size V k
  r : Blk wr rb zlk 52
  pk : Blk wr pb (pc (p, y)) 74
  py : BodyR N wr y p.m.B
  l1 : w.heap.size < rb
  l2 : rb < pb
/-- and the end's -/
structure De (N : Nat → Prop) (w wr : World) (rb pb eb : Nat) (V : Nat → Value) (k : Lk) (p : Pk) (y : Value) (e : En) (ov gv : Value) : Prop where
  d : Dv N w wr rb pb V k p y
  z : Blk wr eb (ecells e ov gv) 50
  o : Rd N wr 71 mc (·.B) ov e.op
  g : Rd N wr 23 gc id gv e.got
  l3 : pb < eb
section
variable {w wr w' : World} {rb pb eb : Nat} {V : Nat → Value} {k : Lk} {p : Pk} {y : Value} {e : En} {ov gv : Value}
theorem Dv.below (h : Dv N w wr rb pb V k p y) (hb : Below wr.heap.size wr w') : Dv N w w' rb pb V k p y :=
  ⟨h.x.below hb, h.r.below hb h.r.lt, h.pk.below hb h.pk.lt, h.py.below hb, h.l1, h.l2⟩
theorem Dv.off (h : Dv N w wr rb pb V k p y) {g : Nat} {cs : List Value} {t' : TypeId} (hz : Blk wr g cs t') (hno : ∀ u ∈ cs, ∀ b, u ≠ u8 b) (ht : t' ≠ 71 ∧ t' ≠ 23 ∧ t' ≠ 74) (hg : wr.grownBy w' (some g)) (hne : pb < g) : Dv N w w' rb pb V k p y := by
  have h1 := h.l1
  have h2 := h.l2
  exact ⟨h.x.off hz hno ht hg (by omega) (by omega), h.r.grown hg (by omega), h.pk.grown hg (by omega), h.py.off hz hno hg, h.l1, h.l2⟩
theorem Dv.box (h : Dv N w wr rb pb V k p y) {w1 : World} {V1 : Nat → Value} {k1 : Lk} (hb : Below wr.heap.size wr w1) (r1 : Rk N w1 V1 k1) (hg : w1.grownBy w' (some w.heap.size)) (hz : Blk w' w.heap.size (lcells k1 V1) 52) : Dv N w w' rb pb V1 k1 p y := by
  have h1 := h.l1
  have h2 := h.l2
  have z1 := h.x.z.below hb h.x.z.lt
  refine ⟨⟨below_grown (h.x.b.trans (hb.mono h.x.b.size)) hg (Nat.le_trans h.x.b.size hb.size) h.x.l, hz, r1.off z1 h.x.r.no (by decide) hg, h.x.l⟩, (h.r.below hb h.r.lt).grown hg (by omega), (h.pk.below hb h.pk.lt).grown hg (by omega), (h.py.below hb).off z1 h.x.r.no hg, h.l1, h.l2⟩
theorem Rd.no {α : Type} {t : TypeId} {f : α × Value → List Value} {body : α → List UInt8} {v : Value} {xs : List α} (h : Rd N wr t f body v xs) : ∀ b, v ≠ u8 b := by
  obtain ⟨a, c, e, _⟩ := h.form
  rw [e]; simp [u8]
theorem De.no (h : De N w wr rb pb eb V k p y e ov gv) : ∀ u ∈ ecells e ov gv, ∀ b, u ≠ u8 b := by
  intro u hu b
  simp only [ecells, List.mem_cons, List.not_mem_nil, or_false] at hu
  rcases hu with rfl | rfl | rfl | rfl
  · exact h.o.no b
  · simp [u8]
  · simp [u8]
  · exact h.g.no b
theorem De.below (h : De N w wr rb pb eb V k p y e ov gv) (hb : Below wr.heap.size wr w') : De N w w' rb pb eb V k p y e ov gv :=
  ⟨h.d.below hb, h.z.below hb h.z.lt, h.o.below hb, h.g.below hb, h.l3⟩
theorem De.drew (h : De N w wr rb pb eb V k p y e ov gv) : De N w wr.drew rb pb eb V k p y e ov gv := h.below (Below.refl wr.heap.size wr).drew
theorem De.drewN (h : De N w wr rb pb eb V k p y e ov gv) (n : Nat) : De N w (wr.drewN n) rb pb eb V k p y e ov gv := h.below ⟨rfl, rfl, rfl, Nat.le_refl _, fun _ _ => rfl⟩
theorem De.set (h : De N w wr rb pb eb V k p y e ov gv) (i : Nat) (v : Value) (e' : En) (ov' gv' : Value) (hc : (ecells e ov gv).set i v = ecells e' ov' gv') (ho : Rd N wr 71 mc (·.B) ov' e'.op) (hg : Rd N wr 23 gc id gv' e'.got) : De N w (wr.setCell ⟨eb, i, none⟩ v) rb pb eb V k p y e' ov' gv' := by
  have hs : wr.grownBy (wr.setCell ⟨eb, i, none⟩ v) (some eb) := grown_setCell' _ _ _ _
  refine ⟨h.d.off h.z h.no (by decide) hs h.l3, ?_, ho.off h.z h.no (by decide) hs, hg.off h.z h.no (by decide) hs, h.l3⟩
  have := h.z.setCell i v
  rw [hc] at this
  exact this
theorem De.box (h : De N w wr rb pb eb V k p y e ov gv) {w1 : World} {V1 : Nat → Value} {k1 : Lk} (hb : Below wr.heap.size wr w1) (r1 : Rk N w1 V1 k1) (hg : w1.grownBy w' (some w.heap.size)) (hz : Blk w' w.heap.size (lcells k1 V1) 52) : De N w w' rb pb eb V1 k1 p y e ov gv := by
  have h1 := h.d.l1
  have h2 := h.d.l2
  have h3 := h.l3
  have z1 := h.d.x.z.below hb h.d.x.z.lt
  exact ⟨h.d.box hb r1 hg hz, (h.z.below hb h.z.lt).grown hg (by omega), (h.o.below hb).off z1 h.d.x.r.no (by decide) hg, (h.g.below hb).off z1 h.d.x.r.no (by decide) hg, h.l3⟩
end
end Go.Proofs.Ytfjaoompdleljaa.Link
/-
  Deliver of the reference by contract. Helper text; no statement is proved here.
-/
set_option linter.unusedVariables false
set_option maxRecDepth 20000
set_option linter.unusedSimpArgs false
namespace Go.Proofs.Ytfjaoompdleljaa.Link
open Go.RowKit Go.Proofs.Ytfjaoompdleljaa.Base Go.Proofs.Ytfjaoompdleljaa.Laws Go.Proofs.Ytfjaoompdleljaa.Disk Go.Proofs.Ytfjaoompdleljaa.Row Go.Proofs.Ytfjaoompdleljaa.Flat Go.Proofs.Ytfjaoompdleljaa.InvM Go.Proofs.Ytfjaoompdleljaa.Inv Go.Proofs.Ytfjaoompdleljaa.InvL Go.Proofs.Ytfjaoompdleljaa.InvC Go.Proofs.Ytfjaoompdleljaa.InvG Go.Proofs.Ytfjaoompdleljaa.Codec
variable {N : Nat → Prop}
theorem info_gk : (Try.prog.info? 23).map (fun i => (i.zero, i.size, i.bytes)) = some (some (.slice none 0 0), 1, 24) := by kernel_rfl
theorem gcf_one : ∀ p : List UInt8 × Value, p.2.oneCell' = true → ∀ q ∈ gc p, q.oneCell' = true := fun p h q hq => by
  simp only [gc, List.mem_singleton] at hq
  rw [hq]; exact h
set_option maxHeartbeats 4000000 in
theorem rdeliver_yes {w : World} {V : Nat → Value} {k : Lk} (h : Rk N w V k) (m : Nat) (p : Pk) (hp : k.fl[m]? = some p) (hfl : k.fl.length ≤ 1024) (hf : p.f < 2) (hop : ∀ n, n < 2 → (k.en n).op.length ≤ 256) (hgot : ∀ n, n < 2 → ((k.en n).got.length + 1) * 24 ≤ 140737488355328) : Calls Try.prog 24 #[rl k V, .int .i64 (m : Int)] w fun e w' => Ck N w 0 ((k.less m).comes p) e w' := by
  have HP := Lib.hid hp
  have HF := Lib.hid hf
  have HOP := Lib.hid hop
  have HGOT := Lib.hid hgot
  have hm : m < k.fl.length := (List.getElem?_eq_some_iff.1 hp).1
  obtain ⟨fg, fo, fc0, fy, hvf0, fcell, fbody⟩ := h.fl.at_ (m := 5) (fun p => rfl) hp
  obtain ⟨lv, wb, rb, hq⟩ := pro h
  obtain ⟨fa, fc, hvf, hfm, hfx⟩ := h.fl.form
  obtain ⟨fn, hfn⟩ : ∃ fn, fn = k.fl.length := ⟨_, rfl⟩
  have c9 : wb.cell? ⟨w.heap.size, 9, none⟩ = some (.slice fa fn fc) := by rw [hfn, ← hvf]; exact (hq.x.z.cell 9)
  have PR := Lib.hid hq
  have HFN := Lib.hid hfn
  have HFL := Lib.hid hfl
  have ZL := Lib.hid (show Blk wb.drew w.heap.size lv 52 from hq.z.drew)
  have ZRR := Lib.hid (show Blk wb.drew rb zlk 52 from hq.r.drew)
  have OUT0 := Lib.hid (hq.x.drew.out ZRR.out zlk_no (by have := hq.erb; omega) hq.elv (by have := hq.erb; omega))
  unfold rl
  rw [← hq.elv]
  rw [hvf0] at hvf
  injection hvf with e1 e2 e3
  subst e1; subst e3
  clear e2
  have c9 : wb.cell? ⟨w.heap.size, 9, none⟩ = some (.slice (some ⟨fg, fo, none⟩) fn fc0) := by rw [hfn, ← hvf0]; exact (hq.x.z.cell 9)
  have HRB := Lib.hid hq.erb
  obtain ⟨pv, hpv⟩ : ∃ pv, pv = pc (p, fy) := ⟨_, rfl⟩
  have HPV := Lib.hid hpv
  have LDP := Lib.hid (show ∀ j v, pv[j]? = some v → wb.cell? ((⟨fg, fo + m * 5, none⟩ : Addr).add j) = some v from fun j v hj => by
    rw [Addr.add_lit]
    rw [hpv] at hj
    have q := fcell j v hj
    exact (Below.cell hq.x.b (p := ⟨fg, fo + m * 5 + j, none⟩) (block_lt_of_cell q)).trans q)
  have P5 := Lib.hid (show pv.length = 5 by rw [hpv]; rfl)
  have P1 := Lib.hid (show ∀ u ∈ pv, u.oneCell' = true by rw [hpv]; exact pc_one fbody.one)
  have FB := Lib.hid (fbody.below hq.x.b)
  have ZP := Lib.hid (blk_at (w := wb) (g := wb.heap.size) (cs := zpk) (t := 74) (arr := #[.int .i64 0, .int .u32 0, .int .u32 0, .int .u32 0, .slice none 0 0]) rfl rfl)
  have X0 := Lib.hid hq.x
  have R0 := Lib.hid hq.r
  have SZ := Lib.hid hq.sz
  have j1 : (0 : Int) ≤ (m : Int) ∧ (m : Int) < (fn : Int) := by omega
  have HML := Lib.hid hm
  clear hvf0 hfl h hfn hq hfm hfx hop hgot hp hf hpv fcell fbody hm
  go_enter Try.func24, Try.ntmps24
  go_upto_region 1 with (fail)
  rw [zlk_is, PR.out.ewb, PR.out.erb]
  go_upto_region 3 with (fail)
  go_upto_region 4 with (first | (refine wpList_value_g rfl (.agg pv.toArray) (exec_load_from rfl rfl LDP.out Try.underlying74 rfl (by kernel_rfl) P5.out) ?_) | (refine wpList_store_blk rfl 74 _ _ rfl wb.heap.size 0 5 rfl 74 zpk pv rfl ZP.out (by kernel_rfl) P5.out (by decide) P1.out ?_; intro wp zp gp; rw [put_all _ _ (by rw [P5.out]; rfl)] at zp; have WP := Lib.hid zp; have GP := Lib.hid gp; clear zp gp))
  have bp := below_grown ((Below.refl wb.heap.size wb).alloc (Nat.le_refl _) _) GP.out (by simp) (Nat.le_refl _)
  obtain ⟨pb, hpb⟩ : ∃ pb, pb = wb.heap.size := ⟨_, rfl⟩
  have D0 := Lib.hid (show Dv N w wp rb pb V k p fy from ⟨X0.out.below bp, R0.out.below bp R0.out.lt, by rw [hpb, ← HPV.out]; exact WP.out, FB.out.below bp, by have := HRB.out; omega, by have := SZ.out; omega⟩)
  rw [← hpb]
  have ZB := Lib.hid (show Blk wp w.heap.size lv 52 from by rw [PR.out.elv]; exact D0.out.x.z)
  have LS := Lib.hid (show Calls Try.prog 41 #[.agg lv.toArray, .int .i64 (m : Int)] wp fun e w' => ∃ V', e = .returned (rl (k.less m) V') ∧ Rk N w' V' (k.less m) ∧ Below wp.heap.size wp w' from by rw [PR.out.elv]; exact rless_any D0.out.x.r m HML.out HFL.out)
  clear c9 bp hpb WP GP ZP FB X0 R0 LDP ZL ZRR OUT0
  simp only [Act.put]
  go_upto_region 5 with (first | (refine wpList_value_g rfl (.agg lv.toArray) (exec_load rfl rfl ZB.out Try.underlying52 rfl (by kernel_rfl) PR.out.n) ?_) | (go_at_call 41; refine LS.out.mono ?_; rintro e w1 ⟨V1, he, r1, b1⟩; unfold rl at he; obtain ⟨lw, hlw⟩ : ∃ l, l = lcells (k.less m) V1 := ⟨_, rfl⟩; rw [← hlw] at he; subst he; have LW := Lib.hid hlw; have R1 := Lib.hid r1; have B1 := Lib.hid b1; have W10 := Lib.hid (show lw.length = 10 by rw [hlw]; rfl); have W11 := Lib.hid (show ∀ u ∈ lw, u.oneCell' = true by rw [hlw]; exact lc_one _ _ r1.one); have Z1 := Lib.hid (ZB.out.below b1 ZB.out.lt); clear r1 b1 hlw) | (refine wpList_store_blk rfl 52 _ _ rfl w.heap.size 0 10 rfl 52 lv lw rfl Z1.out (by kernel_rfl) W10.out (by rw [PR.out.n]; decide) W11.out ?_; intro w2 z2 g2; rw [put_all lv lw (by rw [W10.out, PR.out.n])] at z2; have Z2 := Lib.hid z2; have G2 := Lib.hid g2; clear z2 g2))
  have D2 := Lib.hid (D0.out.box B1.out R1.out G2.out (by rw [← LW.out]; exact Z2.out))
  obtain ⟨k1, hk1⟩ : ∃ k1, k1 = k.less m := ⟨_, rfl⟩
  have K1 := Lib.hid hk1
  rw [← hk1] at D2
  have KOP := Lib.hid (show ∀ n, n < 2 → (k1.en n).op.length ≤ 256 from by rw [hk1]; exact HOP.out)
  have KGOT := Lib.hid (show ∀ n, n < 2 → ((k1.en n).got.length + 1) * 24 ≤ 140737488355328 from by rw [hk1]; exact HGOT.out)
  have KFL := Lib.hid (show k1.fl.length ≤ 1024 from by rw [hk1]; show (k.fl.take m ++ k.fl.drop (m + 1)).length ≤ 1024; have := HFL.out; simp; omega)
  have cpe : w2.cell? ⟨pb, 1, none⟩ = some (.int .u32 (p.m.e : Int)) := D2.out.pk.cell 1
  have cep : w2.cell? ⟨w.heap.size, 0, none⟩ = some (.int .u32 (k1.ep : Int)) := D2.out.x.z.cell 0
  clear Z2 G2 R1 B1 Z1 W10 W11 LW ZB LS D0 hk1 HOP HGOT HML HP
  simp only [Act.put]
  by_cases hpe : p.m.e = k1.ep
  · have CM := Lib.hid (show (k.less m).comes p = (if p.m.B = [] then k1.ackd (1 - p.f) p.m.k else ((k1.ackd (1 - p.f) p.m.k).handed (1 - p.f) p.m).answer (1 - p.f)) from by rw [← K1.out]; exact if_pos hpe)
    obtain ⟨n, hn⟩ : ∃ n, n = 1 - p.f := ⟨_, rfl⟩
    rw [← hn] at CM
    have N1 := Lib.hid (show (1 : Int) - (p.f : Int) = (n : Int) by have := HF.out; omega)
    have hn2 : n < 2 := by omega
    have HN2 := Lib.hid hn2
    have f2 : (0 : Int) ≤ (p.f : Int) ∧ (p.f : Int) ≤ 1 := by have := HF.out; omega
    have e1 : (p.m.e : Int) = (k1.ep : Int) := by rw [hpe]
    clear hpe hn
    go_upto_region 7 with (fail)
    clear cpe cep e1
    have cpf : w2.cell? ⟨pb, 0, none⟩ = some (.int .i64 (p.f : Int)) := D2.out.pk.cell 0
    obtain ⟨we, hend, be⟩ := rend_any k1 V1 D2.out.x.r.one n hn2 w2
    obtain ⟨lw2, hlw2⟩ : ∃ l, l = lcells k1 V1 := ⟨_, rfl⟩
    obtain ⟨ne, hne⟩ : ∃ l, l = ecells (k1.en n) (V1 (2 * n)) (V1 (2 * n + 1)) := ⟨_, rfl⟩
    unfold rl at hend
    rw [← hlw2, ← hne] at hend
    have ZB2 := Lib.hid (show Blk w2 w.heap.size lw2 52 from by rw [hlw2]; exact D2.out.x.z)
    have L10 := Lib.hid (show lw2.length = 10 by rw [hlw2]; rfl)
    have NE4 := Lib.hid (show ne.length = 4 by rw [hne]; rfl)
    have NE1 := Lib.hid (show ∀ u ∈ ne, u.oneCell' = true by rw [hne]; exact ec_one (D2.out.x.r.one _ (by omega)) (D2.out.x.r.one _ (by omega)))
    have EN := Lib.hid hend
    have BE := Lib.hid be
    have NE := Lib.hid hne
    have ZE := Lib.hid (blk_at (w := we) (g := we.heap.size) (cs := zen) (t := 50) (arr := #[.slice none 0 0, .int .u32 0, .int .u32 0, .slice none 0 0]) rfl rfl)
    clear hend be hlw2 hne hn2
    go_upto_region 8 with (fail)
    rw [N1.out]
    clear cpf f2
    go_upto_region 9 with (first | (refine wpList_value_g rfl (.agg lw2.toArray) (exec_load rfl rfl ZB2.out Try.underlying52 rfl (by kernel_rfl) L10.out) ?_) | (go_at_call 38; refine EN.out.mono ?_; rintro e w5 ⟨rfl, rfl⟩) | (refine wpList_store_blk rfl 50 _ _ rfl _ 0 4 rfl 50 zen ne rfl ZE.out (by kernel_rfl) NE4.out (by decide) NE1.out ?_; intro w3 z3 g3; rw [put_all zen ne (by rw [NE4.out]; rfl)] at z3; have Z3 := Lib.hid z3; have G3 := Lib.hid g3; clear z3 g3))
    have b3 := below_grown ((Below.refl _ _).alloc (Nat.le_refl _) _) G3.out (by simp) (Nat.le_refl _)
    obtain ⟨eb, heb⟩ : ∃ eb, eb = w5.heap.size := ⟨_, rfl⟩
    obtain ⟨ov, hov⟩ : ∃ v, v = V1 (2 * n) := ⟨_, rfl⟩
    obtain ⟨gv, hgv⟩ : ∃ v, v = V1 (2 * n + 1) := ⟨_, rfl⟩
    obtain ⟨e, he⟩ : ∃ e, e = k1.en n := ⟨_, rfl⟩
    have HE := Lib.hid he
    have be3 := BE.out.trans (b3.mono BE.out.size)
    have E3 := Lib.hid (show De N w w3 rb pb eb V1 k1 p fy e ov gv from ⟨D2.out.below be3, by rw [he, hov, hgv, ← NE.out, heb]; exact Z3.out, by rw [hov, he]; exact (D2.out.x.r.o n HN2.out).below be3, by rw [hgv, he]; exact (D2.out.x.r.g n HN2.out).below be3, by have := D2.out.pk.lt; have := BE.out.size; omega⟩)
    rw [← heb]
    clear b3 be3 Z3 G3 ZE heb hov hgv he EN BE NE NE4 NE1 ZB2 L10
    simp only [Act.put]
    obtain ⟨oa, oc, hov, _, _⟩ := E3.out.o.form
    obtain ⟨Nq, hN⟩ : ∃ Nq, Nq = e.op.length := ⟨_, rfl⟩
    have HN := Lib.hid hN
    rw [← hN] at hov
    subst hov
    have hN256 : Nq ≤ 256 := by rw [hN, HE.out]; exact KOP.out n HN2.out
    clear hN
    obtain ⟨wE, hwE⟩ : ∃ wE, wE = w3.alloc (.cells #[] 71) := ⟨_, rfl⟩
    have HWE := Lib.hid hwE.symm
    have bE : Below w3.heap.size w3 wE := hwE ▸ (Below.refl _ _).alloc (Nat.le_refl _) _
    have zE : Blk wE w3.heap.size [] 71 := by rw [hwE]; exact blk_at rfl rfl
    have OW0 := Lib.hid (show Own N wE w3.heap.size 71 4 mc (·.B) (.slice (some ⟨w3.heap.size, 0, none⟩) 0 0) ([] : List Mk) from Own.new (fun x hx => E3.out.d.x.r.nt x hx) w3.heap.size (Nat.le_refl _) zE)
    have EE := Lib.hid (E3.out.below bE)
    have BE := Lib.hid bE
    clear hwE bE zE
    go_upto_region 10 with (fail)
    rw [HWE.out]
    go_wp2_with fail
    go_loopw [10, 9] (fun i v wr => ∃ j : Nat, j ≤ Nq ∧ i = .int .i64 j ∧ (∃ a c, v = .slice a ((e.op.take j).filter (fun x => decide (p.m.k < x.s))).length c) ∧ Own N wr w3.heap.size 71 4 mc (·.B) v ((e.op.take j).filter (fun x => decide (p.m.k < x.s))) ∧ De N w wr rb pb eb V1 k1 p fy e (.slice oa Nq oc) gv ∧ Below w3.heap.size w3 wr) (fun i _ _ => Nq - (intOf i).toNat)
    case atStart => exact ⟨0, by omega, rfl, ⟨_, _, rfl⟩, OW0.out, EE.out, BE.out⟩
    case round =>
      obtain ⟨j, hj, rfl, ⟨ra, rc, rfl⟩, how, hde, hbl⟩ := hrel
      have OW := Lib.hid how
      have DE := Lib.hid hde
      have BL := Lib.hid hbl
      have c0 : wr.cell? ⟨eb, 0, none⟩ = some (.slice oa Nq oc) := hde.z.cell 0
      clear how hde hbl
      by_cases hjn : j < Nq
      · obtain ⟨x, hx⟩ : ∃ x, e.op[j]? = some x := ⟨_, List.getElem?_eq_getElem (by have := HN.out; omega)⟩
        have HX := Lib.hid hx
        obtain ⟨g, go, c', y, ee, hcy, hY⟩ := E3.out.o.at_ (m := 4) (fun _ => rfl) hx
        injection ee with e1 e2 e3
        subst e1
        clear e2 e3
        have hcy' : ∀ i v, (mc (x, y))[i]? = some v → wr.cell? ⟨g, go + j * 4 + i, none⟩ = some v := fun i v hi => (Below.cell BL.out (p := ⟨g, go + j * 4 + i, none⟩) (block_lt_of_cell (hcy i v hi))).trans (hcy i v hi)
        have HCY := Lib.hid hcy'
        have HY := Lib.hid hY
        have c1 : wr.cell? ⟨g, go + j * 4 + 1, none⟩ = some (.int .u32 (x.s : Int)) := hcy' 1 _ rfl
        have cpk : wr.cell? ⟨pb, 3, none⟩ = some (.int .u32 (p.m.k : Int)) := DE.out.d.pk.cell 3
        have TS := Lib.hid (take_snoc e.op j x hx)
        have jj : (j : Int) < (Nq : Int) := by omega
        clear hx hcy hcy' hY
        by_cases hk : p.m.k < x.s
        · have hkk : (p.m.k : Int) < (x.s : Int) := by omega
          go_upto_region 13 with (fail)
          go_quiet (fail)
          obtain ⟨wq, hwq⟩ : ∃ wq, wq = wr.drewN nq := ⟨_, rfl⟩
          have bq : Below wr.heap.size wr wq := by rw [hwq]; exact ⟨rfl, rfl, rfl, Nat.le_refl _, fun _ _ => rfl⟩
          rw [← hwq]
          obtain ⟨mv, hmv⟩ : ∃ l, l = mc (x, y) := ⟨_, rfl⟩
          obtain ⟨wB, hwB⟩ : ∃ wB, wB = wq.alloc (.cells mv.toArray 71) := ⟨_, rfl⟩
          have bB : Below wq.heap.size wq wB := hwB ▸ (Below.refl _ _).alloc (Nat.le_refl _) _
          have zB : Blk wB wq.heap.size (mc (x, y)) 71 := by rw [hwB, hmv]; exact blk_at rfl rfl
          have bqB := bq.trans (bB.mono bq.size)
          have hbs := BL.out.size
          have hFL : ((e.op.take j).filter (fun x => decide (p.m.k < x.s))).length ≤ Nq := Nat.le_trans (List.length_filter_le _ _) (by rw [List.length_take, HN.out]; omega)
          obtain ⟨rl', hrl'⟩ : ∃ l, l = ((e.op.take j).filter (fun x => decide (p.m.k < x.s))).length := ⟨_, rfl⟩
          obtain ⟨v6, w6, hr6, own6, _, b6, a6, c6, rfl⟩ := (OW.out.below bqB).append x y (BodyR.old HY.out (BL.out.trans (bqB.mono hbs)) (fun g' hg' => (OW.out.lt hg').1)) (cp := 1) zB (fun p => rfl) 48 48 (.agg #[.int .u32 0, .int .u32 0, .int .u32 0, .slice none 0 0]) 40 Try.underlying48 info_mk rfl (by decide) mcf_one (by omega) (by unfold maxLen; omega) (by have := bqB.size; omega)
          have cq0 : wq.cell? ⟨eb, 0, none⟩ = some (.slice (some ⟨g, go, none⟩) Nq oc) := (DE.out.below bq).z.cell 0
          have LDM := Lib.hid (show ∀ i v, mv[i]? = some v → wq.cell? ((⟨g, go + j * 4, none⟩ : Addr).add i) = some v from fun i v hi => by
            rw [Addr.add_lit]
            have q := HCY.out i v (by rw [← hmv]; exact hi)
            exact (Below.cell bq (p := ⟨g, go + j * 4 + i, none⟩) (block_lt_of_cell q)).trans q)
          have M4 := Lib.hid (show mv.length = 4 by rw [hmv]; rfl)
          have HR6 := Lib.hid hr6
          have HWB := Lib.hid hwB
          have O6 := Lib.hid own6
          have B6 := Lib.hid ((BL.out.trans (bqB.mono hbs)).trans b6)
          have D6 := Lib.hid (E3.out.below B6.out)
          clear hr6 hwB own6 b6 zB bB bq bqB hmv hwq c0 c1 cpk hbs c9
          rw [← hrl'] at HR6 ⊢
          go_wp2_with (first | (refine wpList_value_g rfl (.agg mv.toArray) (exec_load_from rfl rfl LDM.out Try.underlying71 rfl (by kernel_rfl) M4.out) ?_) | (refine wpList_world_gg rfl (.slice (some ⟨wq.heap.size, 0, none⟩) 1 1) (w' := wB) (by rw [HWB.out]; exact exec_build_one rfl rfl Try.underlying48 info_mk M4.out (by decide) (by decide)) ?_) | (at_builtin; refine wpList_world_gg rfl (.slice a6 (rl' + 1) c6) (w' := w6) (exec_append _ _ rfl rfl rfl HR6.out) ?_))
          refine ⟨?rel, ?measure⟩
          case rel =>
            have eF : (e.op.take (j + 1)).filter (fun x => decide (p.m.k < x.s)) = (e.op.take j).filter (fun x => decide (p.m.k < x.s)) ++ [x] := by
              rw [TS.out, List.filter_append]
              simp [hk]
            refine ⟨j + 1, by omega, by go_num, ⟨a6, c6, ?_⟩, ?_, D6.out, B6.out⟩
            · rw [eF, List.length_append]; rfl
            · rw [eF]; have := O6.out; exact this
          case measure => simp [intOf]; omega
        · have hkk : (x.s : Int) ≤ (p.m.k : Int) := by omega
          go_upto_region 13 with (fail)
          go_quiet (fail)
          obtain ⟨wq, hwq⟩ : ∃ wq, wq = wr.drewN nq := ⟨_, rfl⟩
          have bq : Below wr.heap.size wr wq := by rw [hwq]; exact ⟨rfl, rfl, rfl, Nat.le_refl _, fun _ _ => rfl⟩
          rw [← hwq]
          have B6 := Lib.hid (BL.out.trans (bq.mono BL.out.size))
          have D6 := Lib.hid (E3.out.below B6.out)
          have O6 := Lib.hid (OW.out.below bq)
          clear bq hwq c0 c1 cpk c9
          go_wp2_with fail
          refine ⟨?rel, ?measure⟩
          case rel =>
            have eF : (e.op.take (j + 1)).filter (fun x => decide (p.m.k < x.s)) = (e.op.take j).filter (fun x => decide (p.m.k < x.s)) := by
              rw [TS.out, List.filter_append]
              simp [hk]
            exact ⟨j + 1, by omega, by go_num, ⟨ra, rc, by rw [eF]⟩, by rw [eF]; exact O6.out, D6.out, B6.out⟩
          case measure => simp [intOf]; omega
      · have e5 := HN.out
        rw [List.take_of_length_le (by omega)] at OW ⊢
        obtain ⟨wl, hwl⟩ : ∃ x, x = wr := ⟨_, rfl⟩
        rw [← hwl] at OW DE BL c0 ⊢
        clear hwl
        obtain ⟨ops, hops⟩ : ∃ l, l = e.op.filter (fun x => decide (p.m.k < x.s)) := ⟨_, rfl⟩
        obtain ⟨ln, hln⟩ : ∃ l, l = ops.length := ⟨_, rfl⟩
        rw [← hops] at OW
        rw [← hops, ← hln]
        have HOPS := Lib.hid hops
        have HLN := Lib.hid hln
        have f0 : wl.frozen? ⟨eb, 0, none⟩ = false := DE.out.z.frozen 0
        have RO := Lib.hid (show Rd N wl 71 mc (·.B) (.slice ra ln rc) ops from by rw [hln]; exact OW.out.rd (fun p => rfl) (by decide))
        have D5 := Lib.hid (DE.out.set 0 (.slice ra ln rc) { e with op := ops } (.slice ra ln rc) gv rfl RO.out DE.out.g)
        clear hops hln OW BL RO
        go_upto_region 16 with (fail)
        clear c0 f0
        obtain ⟨ws, hws⟩ : ∃ x, x = wl.setCell ⟨eb, 0, none⟩ (.slice ra ln rc) := ⟨_, rfl⟩
        rw [← hws] at D5 ⊢
        obtain ⟨ya, yc, hy, hyb⟩ := D5.out.d.py
        obtain ⟨yl, hyl⟩ : ∃ yl, yl = p.m.B.length := ⟨_, rfl⟩
        rw [← hyl] at hy
        have cpb : ws.cell? ⟨pb, 4, none⟩ = some (.slice ya yl yc) := by rw [← hy]; exact D5.out.d.pk.cell 4
        have HYL := Lib.hid hyl
        have HYV := Lib.hid hy
        have HYB := Lib.hid hyb
        clear hws DE HWE OW0 EE hyl hy hyb
        by_cases hB : yl = 0
        · subst hB
          go_upto_region 17 with (fail)
          have HC := Lib.hid (show (k.less m).comes p = k1.with n ({ e with op := ops } : En) from by
            rw [CM.out, if_pos (List.eq_nil_of_length_eq_zero HYL.out.symm), HOPS.out, HE.out]; rfl)
          obtain ⟨lwa, hlwa⟩ : ∃ l, l = lcells k1 V1 := ⟨_, rfl⟩
          obtain ⟨eva, heva⟩ : ∃ l, l = ecells ({ e with op := ops } : En) (.slice ra ln rc) gv := ⟨_, rfl⟩
          have WT := Lib.hid (show Calls Try.prog 40 #[.agg lwa.toArray, .int .i64 (n : Int), .agg eva.toArray] ws fun x w' => x = .returned (rl (k1.with n { e with op := ops }) (updE V1 n (.slice ra ln rc) gv)) ∧ Rk N w' (updE V1 n (.slice ra ln rc) gv) (k1.with n { e with op := ops }) ∧ Below ws.heap.size ws w' from by
            rw [hlwa, heva]
            refine (rwith_any k1 V1 D5.out.d.x.r.one n HN2.out { e with op := ops } (.slice ra ln rc) gv (by obtain ⟨a, c, q, _⟩ := D5.out.o.form; rw [q]; rfl) (by obtain ⟨a, c, q, _⟩ := D5.out.g.form; rw [q]; rfl) ws).mono ?_
            rintro x w' ⟨rfl, bx⟩
            exact ⟨rfl, (D5.out.d.x.r.below bx).with n HN2.out { e with op := ops } (.slice ra ln rc) gv (D5.out.o.below bx) (D5.out.g.below bx), bx⟩)
          have ZLa := Lib.hid (show Blk ws w.heap.size lwa 52 from by rw [hlwa]; exact D5.out.d.x.z)
          have L10a := Lib.hid (show lwa.length = 10 by rw [hlwa]; rfl)
          have ZEa := Lib.hid (show Blk ws eb eva 50 from by rw [heva]; exact D5.out.z)
          have E4a := Lib.hid (show eva.length = 4 by rw [heva]; rfl)
          have BXa := Lib.hid (show Below w.heap.size w ws from D5.out.d.x.b)
          have ZRa := Lib.hid (show Blk ws rb zlk 52 from D5.out.d.r)
          clear cpb hlwa heva
          go_wp2_with (first | (refine wpList_value_g rfl (.agg lwa.toArray) (exec_load rfl rfl ZLa.out Try.underlying52 rfl (by kernel_rfl) L10a.out) ?_) | (refine wpList_value_g rfl (.agg eva.toArray) (exec_load rfl rfl ZEa.out Try.underlying50 rfl (by kernel_rfl) E4a.out) ?_) | (go_at_call 40; refine WT.out.mono ?_; rintro x w7 ⟨hx7, r7, b7⟩; obtain ⟨nv, NN0⟩ := came9 hx7 r7 b7 BXa.out ZRa.out (by have := HRB.out; omega); have NN := Lib.hid NN0; obtain ⟨e7, _⟩ := NN0; subst e7; clear hx7 r7 b7) | (refine wpList_store_row rfl 52 _ _ rfl rb 0 10 rfl 52 zlk nv rfl NN.out.2.z (by kernel_rfl) NN.out.2.n (by decide) NN.out.2.one ?_))
          rw [put_all zlk nv (by rw [NN.out.2.n]; rfl)]
          exact bodyPost_ret (v := .tuple #[.int .i64 0, .agg nv.toArray]) (results_two_cell rfl _ _ rb 52 _ (0, 0) _ _ rfl rfl NN.out.2.s Try.underlying52 rfl (by rw [List.size_toArray, NN.out.2.n]; kernel_rfl)) rfl ⟨_, by rw [HC.out, NN.out.2.env]; rfl, by rw [HC.out]; exact NN.out.2.r, NN.out.2.b⟩
        · have yl1 : ¬ ((yl : Int) = 0) := by omega
          obtain ⟨s1, hs1⟩ : ∃ s1, s1 = (e.come + 1) % 4294967296 := ⟨_, rfl⟩
          have HS1 := Lib.hid hs1
          have WS := Lib.hid (show IntKind.u32.wrap ((e.come : Int) + 1) = (s1 : Int) by rw [hs1, IntKind.wrap_u32]; omega)
          have wsum := WS.out
          have cps : ws.cell? ⟨pb, 2, none⟩ = some (.int .u32 (p.m.s : Int)) := D5.out.d.pk.cell 2
          have cec : ws.cell? ⟨eb, 2, none⟩ = some (.int .u32 (e.come : Int)) := D5.out.z.cell 2
          clear hs1
          go_upto_region 18 with (fail)
          clear cpb
          go_upto_if 86 with (fail)
          obtain ⟨e5, he5⟩ : ∃ x : En, x = { e with op := ops } := ⟨_, rfl⟩
          obtain ⟨e6, he6⟩ : ∃ x : En, x = (if p.m.s = s1 then { e5 with come := s1, got := e.got ++ [p.m.B] } else e5) := ⟨_, rfl⟩
          have HE5 := Lib.hid he5
          have HE6 := Lib.hid he6
          clear he5 he6
          go_cut [] (fun wx => ∃ gv', De N w wx rb pb eb V1 k1 p fy e6 (.slice ra ln rc) gv')
          case first =>
            by_cases hs : p.m.s = s1
            · have hs1 : (p.m.s : Int) = (s1 : Int) := by rw [hs]
              have fec : ws.frozen? ⟨eb, 2, none⟩ = false := D5.out.z.frozen 2
              obtain ⟨wA, hwA⟩ : ∃ x, x = ws.setCell ⟨eb, 2, none⟩ (.int .u32 (s1 : Int)) := ⟨_, rfl⟩
              have HWA := Lib.hid hwA.symm
              have DA := Lib.hid (show De N w wA rb pb eb V1 k1 p fy { e5 with come := s1 } (.slice ra ln rc) gv from by rw [hwA, HE5.out]; exact D5.out.set 2 _ _ _ _ rfl D5.out.o D5.out.g)
              obtain ⟨ga, gcp, hgv, _, _⟩ := D5.out.g.form
              obtain ⟨gn, hgn⟩ : ∃ x, x = e.got.length := ⟨_, rfl⟩
              rw [show ({ e with op := ops } : En).got.length = gn from hgn.symm] at hgv
              have hgb : (gn + 1) * 24 ≤ 140737488355328 := by have := KGOT.out n HN2.out; rw [← HE.out, ← hgn] at this; exact this
              obtain ⟨wB, hwB⟩ : ∃ x, x = wA.alloc (.cells #[] 23) := ⟨_, rfl⟩
              have HWB := Lib.hid hwB.symm
              have bB : Below wA.heap.size wA wB := hwB ▸ (Below.refl _ _).alloc (Nat.le_refl _) _
              have zB : Blk wB wA.heap.size [] 23 := by rw [hwB]; exact blk_at rfl rfl
              have rg : Rd N wA 23 gc id gv e.got := by have := DA.out.g; rw [HE5.out] at this; exact this
              obtain ⟨v3, wC, hr3, own3, bC, a3, c3, rfl⟩ := (Own.new (α := List UInt8) (m := 1) (f := gc) (body := id) (fun x hx => DA.out.d.x.r.nt x hx) wA.heap.size (Nat.le_refl _) zB).appendAll rg bB (Nat.le_refl _) (fun p => rfl) 22 22 (.slice none 0 0) 24 Try.underlying22 info_gk rfl (by decide) gcf_one (by simp; omega) (by simp; unfold maxLen; omega) bB.size
              rw [List.nil_append] at hr3 own3
              have hbC := bB.trans bC
              have DC := DA.out.below hbC
              obtain ⟨wD, hwD⟩ : ∃ x, x = wC.alloc (.cells #[.slice ya yl yc] 23) := ⟨_, rfl⟩
              have HWD := Lib.hid hwD.symm
              have bD : Below wC.heap.size wC wD := hwD ▸ (Below.refl _ _).alloc (Nat.le_refl _) _
              have zD : Blk wD wC.heap.size (gc (p.m.B, fy)) 23 := by rw [hwD, HYV.out]; exact blk_at rfl rfl
              have hsC := hbC.size
              have hbD := hbC.trans (bD.mono hsC)
              obtain ⟨v6, wF, hr6, own6, _, bF, a6, c6, rfl⟩ := (own3.below bD).append p.m.B fy (DA.out.d.py.old hbD (fun g' hg' => (own3.lt hg').1)) (cp := 1) zD (fun p => rfl) 22 22 (.slice none 0 0) 24 Try.underlying22 info_gk rfl (by decide) gcf_one (by rw [← hgn]; exact hgb) (by rw [← hgn]; unfold maxLen; omega) hbD.size
              have hbF := hbD.trans bF
              have DF := DA.out.below hbF
              rw [← hgn] at hr3 hr6 own6
              rw [hgv] at hr3
              have cgA : wB.cell? ⟨eb, 3, none⟩ = some (.slice ga gn gcp) := by rw [← hgv]; exact (DA.out.below bB).z.cell 3
              have cpA : wC.cell? ⟨pb, 4, none⟩ = some (.slice ya yl yc) := by rw [← HYV.out]; exact DC.d.pk.cell 4
              have cgF : wF.cell? ⟨eb, 3, none⟩ = some (.slice ga gn gcp) := by rw [← hgv]; exact DF.z.cell 3
              have fgF : wF.frozen? ⟨eb, 3, none⟩ = false := DF.z.frozen 3
              have DG := Lib.hid (DF.set 3 (.slice a6 (gn + 1) c6) { e5 with come := s1, got := e.got ++ [p.m.B] } (.slice ra ln rc) (.slice a6 (gn + 1) c6) rfl DF.o (own6.rd (fun p => rfl) (by decide)))
              have HS := Lib.hid hs
              rw [← HWB.out] at cgA hr3
              rw [← HWD.out] at hr6
              have HR3 := Lib.hid hr3
              have HR6 := Lib.hid hr6
              clear hwA hwB hwD hgn hgb bB zB rg own3 bC hbC DC bD zD hsC hbD own6 bF hbF DF hgv hr3 hr6 hs
              go_upto_region 20 with (fail)
              try rw [wsum]
              rw [HWA.out]
              clear cec fec cps wsum hs1
              go_upto_region 21 with (first | (at_builtin; refine wpList_world_gg rfl (.slice a3 gn c3) (w' := wC) (exec_append _ _ rfl rfl rfl HR3.out) ?_))
              clear cgA
              go_wp2_with (first | (at_builtin; refine wpList_world_gg rfl (.slice a6 (gn + 1) c6) (w' := wF) (exec_append _ _ rfl rfl rfl HR6.out) ?_))
              go_meet
              case rel => exact ⟨_, by rw [HE6.out, if_pos HS.out]; exact DG.out⟩
            · have hs1 : ¬ ((p.m.s : Int) = (s1 : Int)) := by omega
              have E6 := Lib.hid (show e6 = e5 by rw [HE6.out, if_neg hs])
              clear hs cec cps wsum
              go_wp2_with fail
              go_meet
              case rel => exact ⟨_, by rw [E6.out, HE5.out]; exact D5.out⟩
          case rest =>
            have HCUT := Lib.hid hcut
            clear hcut
            obtain ⟨gv6, hd6⟩ := HCUT.out
            have D6 := Lib.hid hd6
            have hH : (k1.ackd n p.m.k).handed n p.m = k1.with n e6 := by
              rw [HE6.out, HE5.out, HOPS.out, HS1.out, HE.out]
              obtain rfl | rfl : n = 0 ∨ n = 1 := by have := HN2.out; omega
              · unfold Lk.handed
                show (if p.m.s = (k1.a.come + 1) % 4294967296 then _ else _) = k1.with 0 (if p.m.s = (k1.a.come + 1) % 4294967296 then _ else _)
                split <;> rfl
              · unfold Lk.handed
                show (if p.m.s = (k1.b.come + 1) % 4294967296 then _ else _) = k1.with 1 (if p.m.s = (k1.b.come + 1) % 4294967296 then _ else _)
                split <;> rfl
            obtain ⟨k2, hk2⟩ : ∃ x, x = k1.with n e6 := ⟨_, rfl⟩
            have HA := Lib.hid (show (k.less m).comes p = k2.answer n from by
              rw [CM.out, if_neg (fun x => by have := HYL.out; rw [x] at this; exact hB this), hH, hk2])
            have K2F := Lib.hid (show k2.fl.length ≤ 1024 from by rw [hk2, with_fl]; exact KFL.out)
            clear hd6 hH HCUT D5 HE6 HE5 HOPS HS1 HE CM
            obtain ⟨lwa, hlwa⟩ : ∃ l, l = lcells k1 V1 := ⟨_, rfl⟩
            obtain ⟨eva, heva⟩ : ∃ l, l = ecells (e6 : En) (.slice ra ln rc) gv6 := ⟨_, rfl⟩
            have WT := Lib.hid (show Calls Try.prog 40 #[.agg lwa.toArray, .int .i64 (n : Int), .agg eva.toArray] wc fun x w' => x = .returned (rl (k1.with n e6) (updE V1 n (.slice ra ln rc) gv6)) ∧ Rk N w' (updE V1 n (.slice ra ln rc) gv6) (k1.with n e6) ∧ Below wc.heap.size wc w' from by
              rw [hlwa, heva]
              refine (rwith_any k1 V1 D6.out.d.x.r.one n HN2.out e6 (.slice ra ln rc) gv6 (by obtain ⟨a, c, q, _⟩ := D6.out.o.form; rw [q]; rfl) (by obtain ⟨a, c, q, _⟩ := D6.out.g.form; rw [q]; rfl) wc).mono ?_
              rintro x w' ⟨rfl, bx⟩
              exact ⟨rfl, (D6.out.d.x.r.below bx).with n HN2.out e6 (.slice ra ln rc) gv6 (D6.out.o.below bx) (D6.out.g.below bx), bx⟩)
            have ZLa := Lib.hid (show Blk wc w.heap.size lwa 52 from by rw [hlwa]; exact D6.out.d.x.z)
            have L10a := Lib.hid (show lwa.length = 10 by rw [hlwa]; rfl)
            have ZEa := Lib.hid (show Blk wc eb eva 50 from by rw [heva]; exact D6.out.z)
            have E4a := Lib.hid (show eva.length = 4 by rw [heva]; rfl)
            have BXa := Lib.hid (show Below w.heap.size w wc from D6.out.d.x.b)
            have ZRa := Lib.hid (show Blk wc rb zlk 52 from D6.out.d.r)
            obtain ⟨V2, hV2⟩ : ∃ x, x = updE V1 n (.slice ra ln rc) gv6 := ⟨_, rfl⟩
            rw [← hk2, ← hV2] at WT
            clear hlwa heva hk2 hV2 ZRa BXa
            go_upto_region 23 with (first | (refine wpList_value_g rfl (.agg lwa.toArray) (exec_load rfl rfl ZLa.out Try.underlying52 rfl (by kernel_rfl) L10a.out) ?_) | (refine wpList_value_g rfl (.agg eva.toArray) (exec_load rfl rfl ZEa.out Try.underlying50 rfl (by kernel_rfl) E4a.out) ?_) | (go_at_call 40; refine WT.out.mono ?_; rintro x w7 ⟨he, r7, b7⟩; unfold rl at he; obtain ⟨lz, hlz⟩ : ∃ l, l = lcells k2 V2 := ⟨_, rfl⟩; rw [← hlz] at he; subst he; have LZ := Lib.hid hlz; have R7 := Lib.hid r7; have B7 := Lib.hid b7; have Z10 := Lib.hid (show lz.length = 10 by rw [hlz]; rfl); have Z11 := Lib.hid (show ∀ u ∈ lz, u.oneCell' = true by rw [hlz]; exact lc_one _ _ r7.one); have Z7 := Lib.hid (ZLa.out.below b7 ZLa.out.lt); clear r7 b7 hlz) | (refine wpList_store_blk rfl 52 _ _ rfl w.heap.size 0 10 rfl 52 lwa lz rfl Z7.out (by kernel_rfl) Z10.out (by rw [L10a.out]; decide) Z11.out ?_; intro w8 z8 g8; rw [put_all lwa lz (by rw [Z10.out, L10a.out])] at z8; have Z8 := Lib.hid z8; have G8 := Lib.hid g8; clear z8 g8))
            have D8 := Lib.hid (D6.out.d.box B7.out R7.out G8.out (by rw [← LZ.out]; exact Z8.out))
            obtain ⟨f2a, f2c, hvf2, _, _⟩ := D8.out.x.r.fl.form
            obtain ⟨f2n, hf2n⟩ : ∃ x, x = k2.fl.length := ⟨_, rfl⟩
            have c92 : w8.cell? ⟨w.heap.size, 9, none⟩ = some (.slice f2a f2n f2c) := by rw [hf2n, ← hvf2]; exact D8.out.x.z.cell 9
            have ZB8 := Lib.hid (show Blk w8 w.heap.size lz 52 from Z8.out)
            clear hvf2 Z8 G8 R7 B7 Z7 WT ZLa L10a ZEa E4a D6 c9 D2
            simp only [Act.put]
            by_cases hroom : f2n < 1024
            · have r1 : (f2n : Int) < 1024 := by omega
              have HC0 := Lib.hid (show (k.less m).comes p = k2.put n 0 [] from by rw [HA.out]; exact if_pos (by rw [← hf2n]; exact hroom))
              have PT := Lib.hid (show Calls Try.prog 39 #[.agg lz.toArray, .int .i64 (n : Int), .int .u32 0, .slice none 0 0] w8 fun e w' => ∃ V', e = .returned (rl (k2.put n 0 []) V') ∧ Rk N w' V' (k2.put n 0 []) ∧ Below w8.heap.size w8 w' from by
                rw [LZ.out]
                exact rput_any D8.out.x.r n HN2.out 0 (.slice none 0 0) [] ⟨none, 0, rfl, ⟨rfl, Nat.le_refl _, by unfold maxLen; omega, .inl rfl⟩, .inl rfl⟩ K2F.out)
              clear hroom hf2n
              go_upto_region 25 with (first | (refine wpList_value_g rfl (.agg lz.toArray) (exec_load rfl rfl ZB8.out Try.underlying52 rfl (by kernel_rfl) Z10.out) ?_) | (go_at_call 39; refine PT.out.mono ?_; rintro x w9 ⟨V9, he, r9, b9⟩; unfold rl at he; obtain ⟨ly, hly⟩ : ∃ l, l = lcells (k2.put n 0 []) V9 := ⟨_, rfl⟩; rw [← hly] at he; subst he; have LY := Lib.hid hly; have R9 := Lib.hid r9; have B9 := Lib.hid b9; have Y10 := Lib.hid (show ly.length = 10 by rw [hly]; rfl); have Y11 := Lib.hid (show ∀ u ∈ ly, u.oneCell' = true by rw [hly]; exact lc_one _ _ r9.one); have Z9 := Lib.hid (ZB8.out.below b9 ZB8.out.lt); clear r9 b9 hly) | (refine wpList_store_blk rfl 52 _ _ rfl w.heap.size 0 10 rfl 52 lz ly rfl Z9.out (by kernel_rfl) Y10.out (by rw [Z10.out]; decide) Y11.out ?_; intro wX zX gX; rw [put_all lz ly (by rw [Y10.out, Z10.out])] at zX; have ZX := Lib.hid zX; have GX := Lib.hid gX; clear zX gX))
              have DX := Lib.hid (D8.out.box B9.out R9.out GX.out (by rw [← LY.out]; exact ZX.out))
              obtain ⟨nv, hnv⟩ := DX.out.x.drew.lvs DX.out.r.drew (by have := HRB.out; omega) (by have := HRB.out; omega)
              have LV := Lib.hid hnv
              have ZN := Lib.hid hnv.z
              have ZRN := Lib.hid hnv.zr
              have ON := Lib.hid hnv.o
              clear hnv
              have HC := Lib.hid HC0.out
              clear ZX GX R9 B9 Z9 PT Y10 Y11 LY c92 r1
              simp only [Act.put]
              refine wp_region_gate_tail (fun d w' => w' = wX.drew) 2 (by kernel_rfl) (by kernel_rfl) rfl ?_
              simp only [List.take_succ_cons, List.take_zero, List.drop_succ_cons, List.drop_zero]
              refine InvC.invc_value (.agg nv.toArray) (fun u hu => by cases hu) rfl (fun d w' _ _ h => by subst h; exact exec_load rfl rfl ZN.out Try.underlying52 rfl (by kernel_rfl) LV.out.n) (fun d w' _ _ h => h) ?_
              simp only [Act.put, List.setIfInBounds_toArray, List.set_cons_zero, List.set_cons_succ]
              refine InvC.invc_value (.int .i64 0) (fun u hu => by cases hu) rfl (fun d w' _ _ h => by go_simp; all_goals rfl) (fun d w' _ _ h => h) ?_
              simp only [Act.put, List.setIfInBounds_toArray, List.set_cons_zero, List.set_cons_succ]
              refine InvC.invc_nil fun w8 e8 => ?_
              subst e8
              go_wp2_with (refine wpList_store_row rfl 52 _ _ rfl rb 0 10 rfl 52 zlk nv rfl ZRN.out (by kernel_rfl) LV.out.n (by decide) LV.out.one ?_)
              rw [put_all zlk nv (by rw [LV.out.n]; rfl)]
              exact bodyPost_ret (v := .tuple #[.int .i64 0, .agg nv.toArray]) (results_two_cell rfl _ _ rb 52 _ (0, 0) _ _ rfl rfl ON.out.2 Try.underlying52 rfl (by rw [List.size_toArray, LV.out.n]; kernel_rfl)) rfl ⟨V9, by rw [HC.out, LV.out.elv]; rfl, by rw [HC.out]; exact ON.out.1.r, ON.out.1.b⟩
            · have r1 : ¬ ((f2n : Int) < 1024) := by omega
              have HC := Lib.hid (show (k.less m).comes p = k2 from by rw [HA.out]; exact if_neg (by rw [← hf2n]; exact hroom))
              obtain ⟨nv, hnv⟩ := D8.out.x.drew.lvs D8.out.r.drew (by have := HRB.out; omega) (by have := HRB.out; omega)
              have LV := Lib.hid hnv
              have ZN := Lib.hid hnv.z
              have ZRN := Lib.hid hnv.zr
              have ON := Lib.hid hnv.o
              clear hnv
              clear hroom hf2n
              go_upto_region 25 with (fail)
              refine wp_region_gate_tail (fun d w' => w' = w8.drew) 2 (by kernel_rfl) (by kernel_rfl) rfl ?_
              simp only [List.take_succ_cons, List.take_zero, List.drop_succ_cons, List.drop_zero]
              refine InvC.invc_value (.agg nv.toArray) (fun u hu => by cases hu) rfl (fun d w' _ _ h => by subst h; exact exec_load rfl rfl ZN.out Try.underlying52 rfl (by kernel_rfl) LV.out.n) (fun d w' _ _ h => h) ?_
              simp only [Act.put, List.setIfInBounds_toArray, List.set_cons_zero, List.set_cons_succ]
              refine InvC.invc_value (.int .i64 0) (fun u hu => by cases hu) rfl (fun d w' _ _ h => by go_simp; all_goals rfl) (fun d w' _ _ h => h) ?_
              simp only [Act.put, List.setIfInBounds_toArray, List.set_cons_zero, List.set_cons_succ]
              refine InvC.invc_nil fun w8 e8 => ?_
              subst e8
              go_wp2_with (refine wpList_store_row rfl 52 _ _ rfl rb 0 10 rfl 52 zlk nv rfl ZRN.out (by kernel_rfl) LV.out.n (by decide) LV.out.one ?_)
              rw [put_all zlk nv (by rw [LV.out.n]; rfl)]
              exact bodyPost_ret (v := .tuple #[.int .i64 0, .agg nv.toArray]) (results_two_cell rfl _ _ rb 52 _ (0, 0) _ _ rfl rfl ON.out.2 Try.underlying52 rfl (by rw [List.size_toArray, LV.out.n]; kernel_rfl)) rfl ⟨V2, by rw [HC.out, LV.out.elv]; rfl, by rw [HC.out]; exact ON.out.1.r, ON.out.1.b⟩
  · have ne1 : ¬ ((p.m.e : Int) = (k1.ep : Int)) := by omega
    obtain ⟨nv, hnv⟩ := D2.out.x.drew.lvs D2.out.r.drew (by have := HRB.out; omega) (by have := HRB.out; omega)
    have LV := Lib.hid hnv
    have ZN := Lib.hid hnv.z
    have ZRN := Lib.hid hnv.zr
    have ON := Lib.hid hnv.o
    clear hnv
    have HC := Lib.hid (show (k.less m).comes p = k1 from by rw [← K1.out]; exact if_neg hpe)
    clear hpe
    go_upto_region 6 with (fail)
    refine wp_region_gate_tail (fun d w' => w' = w2.drew) 2 (by kernel_rfl) (by kernel_rfl) rfl ?_
    simp only [List.take_succ_cons, List.take_zero, List.drop_succ_cons, List.drop_zero]
    refine InvC.invc_value (.agg nv.toArray) (fun u hu => by cases hu) rfl (fun d w' _ _ h => by subst h; exact exec_load rfl rfl ZN.out Try.underlying52 rfl (by kernel_rfl) LV.out.n) (fun d w' _ _ h => h) ?_
    simp only [Act.put, List.setIfInBounds_toArray, List.set_cons_zero, List.set_cons_succ]
    refine InvC.invc_value (.int .i64 0) (fun u hu => by cases hu) rfl (fun d w' _ _ h => by go_simp; all_goals rfl) (fun d w' _ _ h => h) ?_
    simp only [Act.put, List.setIfInBounds_toArray, List.set_cons_zero, List.set_cons_succ]
    refine InvC.invc_nil fun w8 e8 => ?_
    subst e8
    go_wp2_with (refine wpList_store_row rfl 52 _ _ rfl rb 0 10 rfl 52 zlk nv rfl ZRN.out (by kernel_rfl) LV.out.n (by decide) LV.out.one ?_)
    rw [put_all zlk nv (by rw [LV.out.n]; rfl)]
    exact bodyPost_ret (v := .tuple #[.int .i64 0, .agg nv.toArray]) (results_two_cell rfl _ _ rb 52 _ (0, 0) _ _ rfl rfl ON.out.2 Try.underlying52 rfl (by rw [List.size_toArray, LV.out.n]; kernel_rfl)) rfl ⟨V1, by rw [HC.out, LV.out.elv]; rfl, by rw [HC.out]; exact ON.out.1.r, ON.out.1.b⟩

end Go.Proofs.Ytfjaoompdleljaa.Link
