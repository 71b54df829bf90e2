/-
  Helper texts, joined in build order; no statement is proved here.
-/
import Derived.Deep.DeepCutAuto
import Derived.Deep.CutBlock
import Derived.Deep.RegionHeld3
import Derived.Test.YtobblbplanimgaaPls2
/-
  Append of the reference's memory by contract. Helper text; no statement is proved here.
-/
set_option linter.unusedVariables false
set_option maxRecDepth 20000
set_option linter.unusedSimpArgs false
namespace Go.Proofs.Ytobblbplanimgaa.Nvram
open Go.RowKit Go.Proofs.Ytobblbplanimgaa.Base Go.Proofs.Ytobblbplanimgaa.Laws Go.Proofs.Ytobblbplanimgaa.Disk Go.Proofs.Ytobblbplanimgaa.Row Go.Proofs.Ytobblbplanimgaa.Codec Go.Proofs.Ytobblbplanimgaa.InvL Go.Proofs.Ytobblbplanimgaa.InvM Go.Proofs.Ytobblbplanimgaa.InvG
theorem exec_store_row {P : Program} {ρ : Operand → Value} {w : World} {o : Oper} {ty : TypeId} {x y : Operand} {g off m : Nat} {t : TypeId} {cs vs : List Value} (ho : o.op = .store ty x y) (hx : ρ x = .pointer (some ⟨g, off, none⟩)) (hy : ρ y = .agg vs.toArray) (hg : Blk w g cs t) (hi : (P.info? ty).map (·.size) = some m) (hl : vs.length = m) (hm : off + m ≤ cs.length) (h1 : ∀ v ∈ vs, v.oneCell' = true) :
    (execOp ρ o).run P w = .ok .skip (w.setRow g (put cs off vs).toArray) := by
  unfold execOp
  simp only [ho, hx, hy, Instr.storeAt, Instr.sureAddr, Sem.run_bind, Sem.run_pure, Result.andThen_ok, run_store_blk hg hi hl hm h1]
theorem invc_skip {P : Program} {I : Array Bool → World → Prop} {G : Nat → Array Bool → Prop} {T : Nat → Option Value} {ops : Array Oper} {Q : Act → Prop} {i : Nat} {a : Act} {o : Oper} {rest : List Oper} (hT : ∀ u, T i = some u → undef = u) (hw : Region.wanted o (yielded ops a.tmps) = true) (hr : ∀ d w, d.getD i true = false → G i d → I d w → ∃ w', (execOp a.eval o).run P w = .ok .skip w' ∧ I (d.setIfInBounds i true) w')
    (h : InvC.wpInvC P I G T ops Q (i + 1) rest (a.put o.dst undef)) : InvC.wpInvC P I G T ops Q i (o :: rest) a :=
  ⟨undef, ⟨hT, .inl ⟨hw, fun d w hd hG hI => by obtain ⟨w', h1, h2⟩ := hr d w hd hG hI; rw [h1]; exact ⟨rfl, h2⟩⟩⟩, h⟩
theorem closed_step {ops : Array Oper} {j p : Nat} {d : Array Bool} (hC : Closed ops d) (hj : d.getD j false = true) (h2 : waitsB ops j p = true) : d.getD p false = true := by
  unfold waitsB at h2
  cases ho : ops[j]? with
  | none => rw [ho] at h2; cases h2
  | some o =>
    rw [ho] at h2
    obtain ⟨e, he, hbe⟩ := Array.any_eq_true'.1 h2
    simp only [Bool.and_eq_true, beq_iff_eq] at hbe
    have := hC j o ho hj e he hbe.1
    rwa [hbe.2] at this
def chainB (ops : Array Oper) : Nat → List Nat → Bool
  | _, [] => true
  | i, p :: ps => waitsB ops i p && chainB ops p ps
/-- through others -/
theorem gate_via {ops : Array Oper} {i : Nat} {d : Array Bool} (hG : Gate ops i d) (p : Nat) (ps : List Nat) (h : chainB ops i (p :: ps) = true) : d.getD ((p :: ps).getLast (by simp)) false = true := by
  simp only [chainB, Bool.and_eq_true] at h
  have h0 := hG.of h.1
  have h1 := h.2
  clear h
  induction ps generalizing p with
  | nil => exact h0
  | cons q qs ih =>
    simp only [chainB, Bool.and_eq_true] at h1
    rw [List.getLast_cons (by simp)]
    exact ih q (closed_step hG.2 h0 h1.1) h1.2
def Rp.c (p : Rp) : List Value := [.bool p.off, .int .i64 p.left, .int .i64 (p.steps : Int)]
def zpw : List Value := [.bool false, .int .i64 0, .int .i64 0]
def zrm : List Value := [.int .i64 0, .slice none 0 0]
def rmc (size : Nat) (s : Value) : List Value := [.int .i64 (size : Int), s]
theorem rpc_one (p : Rp) : ∀ u ∈ p.c, u.oneCell' = true := by
  intro u hu
  simp only [Rp.c, List.mem_cons, List.not_mem_nil, or_false] at hu
  rcases hu with rfl | rfl | rfl <;> rfl
theorem rmc_one (size : Nat) {s : Value} (h : s.oneCell' = true) : ∀ u ∈ rmc size s, u.oneCell' = true := by
  intro u hu
  simp only [rmc, List.mem_cons, List.not_mem_nil, or_false] at hu
  rcases hu with rfl | rfl
  · rfl
  · exact h
/-- the boxes and the result's cells of a function of two results -/
structure Am (w0 w : World) (p : Rp) (size : Nat) (s : Value) (pb rb pr rr : Nat) : Prop where
  b : Below w0.heap.size w0 w
  p : Blk w pb p.c 50
  r : Blk w rb (rmc size s) 48
  zp : Blk w pr zpw 50
  zr : Blk w rr zrm 48
  l1 : w0.heap.size ≤ pb ∧ w0.heap.size ≤ rb ∧ w0.heap.size ≤ pr ∧ w0.heap.size ≤ rr
  l2 : pr ≠ pb ∧ pr ≠ rb ∧ pr ≠ rr ∧ rr ≠ pb ∧ rr ≠ rb
section
variable {w0 w w' : World} {p q : Rp} {size : Nat} {s : Value} {pb rb pr rr : Nat}
theorem Am.below (h : Am w0 w p size s pb rb pr rr) (hb : Below w.heap.size w w') : Am w0 w' p size s pb rb pr rr :=
  ⟨h.b.trans (hb.mono h.b.size), h.p.below hb h.p.lt, h.r.below hb h.r.lt, h.zp.below hb h.zp.lt, h.zr.below hb h.zr.lt, h.l1, h.l2⟩
theorem Am.drew (h : Am w0 w p size s pb rb pr rr) : Am w0 w.drew p size s pb rb pr rr := h.below (Below.refl w.heap.size w).drew
/-- what was there ahead stays -/
theorem Am.under (h : Am w0 w p size s pb rb pr rr) {b : Nat} (hb : Below b w w') (h1 : w0.heap.size ≤ b) (h2 : pb < b ∧ rb < b ∧ pr < b ∧ rr < b) : Am w0 w' p size s pb rb pr rr :=
  ⟨h.b.trans (hb.mono h1), h.p.below hb h2.1, h.r.below hb h2.2.1, h.zp.below hb h2.2.2.1, h.zr.below hb h2.2.2.2, h.l1, h.l2⟩
/-- the power's result is written -/
structure Am1 (w0 w : World) (q : Rp) (size : Nat) (s : Value) (rb pr rr : Nat) : Prop where
  b : Below w0.heap.size w0 w
  r : Blk w rb (rmc size s) 48
  zp : Blk w pr q.c 50
  zr : Blk w rr zrm 48
  l1 : w0.heap.size ≤ rr
  l2 : pr ≠ rr
theorem Am.one (h : Am w0 w p size s pb rb pr rr) (q : Rp) : Am1 w0 (w.setRow pr q.c.toArray) q size s rb pr rr := by
  have hg : w.grownBy (w.setRow pr q.c.toArray) (some pr) := grown_setRow _ _ _
  exact ⟨below_grown h.b hg h.b.size h.l1.2.2.1, h.r.grown hg (Ne.symm h.l2.2.1), setRow_heap w pr _ _ _ _ h.zp, h.zr.grown hg (Ne.symm h.l2.2.2.1), h.l1.2.2.2, h.l2.2.2.1⟩
theorem Am1.below (h : Am1 w0 w q size s rb pr rr) (hb : Below w.heap.size w w') : Am1 w0 w' q size s rb pr rr :=
  ⟨h.b.trans (hb.mono h.b.size), h.r.below hb h.r.lt, h.zp.below hb h.zp.lt, h.zr.below hb h.zr.lt, h.l1, h.l2⟩
theorem Am1.out (h : Am1 w0 w q size s rb pr rr) (cs : List Value) : Below w0.heap.size w0 (w.setRow rr cs.toArray) ∧ Blk (w.setRow rr cs.toArray) pr q.c 50 ∧ Blk (w.setRow rr cs.toArray) rr cs 48 := by
  have hg : w.grownBy (w.setRow rr cs.toArray) (some rr) := grown_setRow _ _ _
  exact ⟨below_grown h.b hg h.b.size h.l1, h.zp.grown hg h.l2, setRow_heap w rr _ _ _ _ h.zr⟩
end
theorem grow_own {w : World} {base : Nat} {v : Value} {n : Nat} {B : List UInt8} (hv : w.ownsRow base 5 1 v n (bv B)) {a : Option Addr} {m c : Nat} {D : List UInt8} (hD : Bts w a m c D) (hn : n + m ≤ 1000000) (hb : base ≤ w.heap.size) : ∃ a' c' w', (Builtin.append_ #[46, 46] 46 #[v, .slice a m c]).run Try.prog w = .ok (.slice a' (n + m) c') w' ∧ w'.ownsRow base 5 1 (.slice a' (n + m) c') (n + m) (bv (B ++ D)) ∧ Below base w w' := by
  obtain ⟨v', w', hr, ho, hgr, hv'⟩ := run_append_any_at (P := Try.prog) w base 46 46 5 (.int .u8 0) 1 1 Try.underlying46 OwnB.infou8 rfl (by decide) v n (bv B) hv a m c (bv D) (OwnB.src_bts hD) (by omega) (by unfold maxLen; omega) hb
  rw [← bv_append] at ho
  obtain ⟨a', c', e, _⟩ := own_slice ho (by decide)
  subst e
  exact ⟨a', c', w', hr, ho, ⟨hgr.os, hgr.tape, hgr.output, hgr.size, fun x hx => hgr.block x (by omega) (fun e => by
    have := (own_lt hv (g := x) e.symm).1
    omega)⟩⟩
/-- what Append answers, the power and the bytes behind it -/
def Rp.app (p : Rp) (size : Nat) (B : List UInt8) (x : Rc) : Nat × Rp × List UInt8 := open Classical in
  if ¬ x.Good then (2, p, B) else if p.off then (4, p, B) else if size - B.length < 37 then (9, p, B) else if p.step.1 then (0, p.step.2, B ++ x.bytes) else (4, p.step.2, B ++ x.bytes.take 18)
theorem rpack_good {x : Rc} (hx : x.Valid) (hg : x.Good) (w : World) : Calls Try.prog 38 #[.agg x.cells.toArray] w fun e w' => ∃ pa pc, e = .returned (.tuple #[.slice pa 37 pc, .int .i64 0]) ∧ Bts w' pa 37 pc x.bytes ∧ Below w.heap.size w w' := by
  obtain ⟨hg2, hcells⟩ := good_nat hg
  have := rpack_yes (k := x.k) (v := x.v) (a := x.a.toNat) hx.1 hx.2.1 hg2 w
  rw [← hcells] at this
  refine this.mono fun e w' ⟨pv, h1, h2, h3⟩ => ?_
  obtain ⟨pa, pc, rfl, hb⟩ := OwnB.bts_own (by rw [List.length_append, rec33_len _ _ _ _ hx.1, be_len]) h2
  exact ⟨pa, pc, h1, hb, h3⟩
theorem rpack_bad {x : Rc} (hx : x.Valid) (hg : ¬ x.Good) (w : World) : Calls Try.prog 38 #[.agg x.cells.toArray] w fun e w' => e = .returned (.tuple #[.slice none 0 0, .int .i64 2]) ∧ Below w.heap.size w w' := rpack_no (v := x.v) hx.1 hg w
set_option maxHeartbeats 4000000 in
theorem rappend_any (p : Rp) (hp : -1 ≤ p.left ∧ p.left ≤ 9223372036854775807 ∧ p.steps ≤ 4611686018427387904) (size : Nat) (s : Value) (B : List UInt8) (base : Nat) (w : World) (hs : w.ownsRow base 5 1 s B.length (bv B)) (hb : base ≤ w.heap.size) (h2 : B.length ≤ size) (hsz : size ≤ 65536) (x : Rc) (hx : x.Valid) : Calls Try.prog 24 #[p.v, rmv size s, .agg x.cells.toArray] w fun e w' => ∃ s', e = .returned (.tuple #[.int .i64 ((p.app size B x).1 : Int), (p.app size B x).2.1.v, rmv size s']) ∧ Sv w w' s s' (p.app size B x).2.2 base ∧ Below w.heap.size w w' := by
  obtain ⟨a, c, rfl, hB⟩ := OwnB.bts_own rfl hs
  obtain ⟨n, hn⟩ : ∃ n, n = B.length := ⟨_, rfl⟩
  rw [← hn] at hB h2 hs ⊢
  obtain ⟨pv, hpv⟩ : ∃ l, l = p.c := ⟨_, rfl⟩
  obtain ⟨rv, hrv⟩ : ∃ l, l = rmc size (.slice a n c) := ⟨_, rfl⟩
  obtain ⟨xv, hxv⟩ : ∃ l, l = x.cells := ⟨_, rfl⟩
  obtain ⟨wb, hwb⟩ : ∃ wb, wb = ((((w.alloc (.cells pv.toArray 50)).alloc (.cells rv.toArray 48)).alloc (.cells xv.toArray 27)).alloc (.cells zpw.toArray 50)).alloc (.cells zrm.toArray 48) := ⟨_, rfl⟩
  obtain ⟨pb, hpb⟩ : ∃ b, b = w.heap.size := ⟨_, rfl⟩
  obtain ⟨rb, hrb⟩ : ∃ b, b = w.heap.size + 1 := ⟨_, rfl⟩
  obtain ⟨xb, hxb⟩ : ∃ b, b = w.heap.size + 1 + 1 := ⟨_, rfl⟩
  obtain ⟨pr, hpr⟩ : ∃ b, b = w.heap.size + 1 + 1 + 1 := ⟨_, rfl⟩
  obtain ⟨rr, hrr⟩ : ∃ b, b = w.heap.size + 1 + 1 + 1 + 1 := ⟨_, rfl⟩
  have AM0 := Lib.hid (show Am w wb p size (.slice a n c) pb rb pr rr from by
    refine ⟨?_, ?_, ?_, ?_, ?_, by omega, by omega⟩
    · rw [hwb]
      exact (((((Below.refl _ _).alloc (Nat.le_refl _) _).alloc (by simp) _).alloc (by simp; omega) _).alloc (by simp; omega) _).alloc (by simp; omega) _
    · rw [hwb, hpb, ← hpv]
      exact ((((blk_at rfl rfl).alloc _).alloc _).alloc _).alloc _
    · rw [hwb, hrb, ← hrv]
      exact (((blk_at (by simp) rfl).alloc _).alloc _).alloc _
    · rw [hwb, hpr]
      exact (blk_at (by simp) rfl).alloc _
    · rw [hwb, hrr]
      exact blk_at (by simp) rfl)
  have XB := Lib.hid (show Blk wb xb xv 27 from by rw [hwb, hxb]; exact ((blk_at (by simp) rfl).alloc _).alloc _)
  have HPV := Lib.hid hpv
  have HRV := Lib.hid hrv
  have HXV := Lib.hid hxv
  have PV3 := Lib.hid (show pv.length = 3 by rw [hpv]; rfl)
  have PV1 := Lib.hid (show ∀ u ∈ pv, u.oneCell' = true by rw [hpv]; exact rpc_one p)
  have RV2 := Lib.hid (show rv.length = 2 by rw [hrv]; rfl)
  have RV1 := Lib.hid (show ∀ u ∈ rv, u.oneCell' = true by rw [hrv]; exact rmc_one _ rfl)
  have XV19 := Lib.hid (show xv.length = 19 by rw [hxv]; exact Rc.len hx)
  have HWB := Lib.hid hwb.symm
  have HN := Lib.hid hn
  have HBT := Lib.hid hB
  have HS := Lib.hid hs
  have HPB := Lib.hid hpb.symm
  have HRB := Lib.hid hrb.symm
  have HXB := Lib.hid hxb.symm
  have HPR := Lib.hid hpr.symm
  have HRR := Lib.hid hrr.symm
  have HP := Lib.hid hp
  rw [show p.v = .agg pv.toArray from by rw [hpv]; rfl, show rmv size (.slice a n c) = .agg rv.toArray from by rw [hrv]; rfl, ← hxv]
  clear hwb hn hB hs hpv hrv hxv hpb hrb hxb hpr hrr hp
  by_cases hg : x.Good
  · have PK := Lib.hid (rpack_good hx hg wb)
    rw [← HXV.out] at PK
    go_enter Try.func24, Try.ntmps24
    go_upto_region 1 with (fail)
    rw [show (#[Value.bool false, Value.int .i64 0, Value.int .i64 0] : Array Value) = zpw.toArray from rfl, show (#[Value.int .i64 0, Value.slice none 0 0] : Array Value) = zrm.toArray from rfl, HWB.out]
    rw [HRR.out, HPR.out, HXB.out, HRB.out, HPB.out]
    go_upto_region 4 with (first | (refine wpList_value_g rfl (.agg xv.toArray) (exec_load rfl rfl XB.out Try.underlying27 rfl (by kernel_rfl) XV19.out) ?_) | (go_at_call 38; refine PK.out.mono ?_; rintro e w5 ⟨pa, pc, rfl, hpt, hb5⟩; have B5 := Lib.hid hb5; have PT := Lib.hid hpt; clear hb5 hpt))
    have AM5 := Lib.hid (AM0.out.below B5.out)
    by_cases hoff : p.off = true
    · have RES := Lib.hid (show p.app size B x = (4, p, B) from by unfold Rp.app; rw [if_neg (fun h => h hg), if_pos hoff])
      have c0 : w5.cell? ⟨pb, 0, none⟩ = some (.bool true) := by rw [← hoff]; exact AM5.out.p.cell 0
      have AM6 := Lib.hid AM5.out.drew
      clear hg hoff PK
      go_upto_region 5 with (fail)
      obtain ⟨W1, hW1⟩ : ∃ W1, W1 = w5.drew.setRow pr pv.toArray := ⟨_, rfl⟩
      have A1 := Lib.hid (show Am1 w W1 p size (.slice a n c) rb pr rr from by rw [hW1, HPV.out]; exact AM6.out.one p)
      have HW1 := Lib.hid hW1
      clear hW1
      have KP := Lib.hid (show Blk w5.drew pb pv 50 ∧ Blk W1 rr zrm 48 ∧ Blk w5.drew pr zpw 50 from ⟨by rw [HPV.out]; exact AM6.out.p, A1.out.zr, AM6.out.zp⟩)
      have KR := Lib.hid (show ∀ d w', At2 3 100 (fun w' => w' = w5.drew) (fun w' => w' = W1) (fun w' => False) d w' → Blk w' rb rv 48 from fun d w' h => by
        rcases h.any with rfl | rfl | h
        · rw [HRV.out]; exact AM6.out.r
        · rw [HRV.out]; exact A1.out.r
        · exact h.elim)
      have KQ := Lib.hid (show ∀ d w', At2 3 100 (fun w' => w' = w5.drew) (fun w' => w' = W1) (fun w' => False) d w' → Blk w' pb pv 50 from fun d w' h => by
        rcases h.any with rfl | rfl | h
        · exact KP.out.1
        · rw [HW1.out]; exact KP.out.1.grown (grown_setRow _ _ _) (Ne.symm AM6.out.l2.1)
        · exact h.elim)
      refine wp_region_gate_tail (fun d w' => At2 3 100 (fun w' => w' = w5.drew) (fun w' => w' = W1) (fun w' => False) d w') 4 (by kernel_rfl) (by kernel_rfl) ?hI ?_
      case hI => exact At2.start (by rfl) (by rfl) rfl
      simp only [List.take_succ_cons, List.take_zero, List.drop_succ_cons, List.drop_zero]
      refine InvC.invc_value (.agg pv.toArray) (fun u hu => by cases hu) rfl (fun d w' _ _ h => by exact exec_load rfl rfl (KQ.out d w' h) Try.underlying50 rfl (by kernel_rfl) PV3.out) (fun d w' _ _ h => At2.keep (by decide) (by decide) h) ?_
      simp only [Act.put, List.setIfInBounds_toArray, List.set_cons_zero, List.set_cons_succ]
      refine InvC.invc_value (.agg rv.toArray) (fun u hu => by cases hu) rfl (fun d w' _ _ h => by exact exec_load rfl rfl (KR.out d w' h) Try.underlying48 rfl (by kernel_rfl) RV2.out) (fun d w' _ _ h => At2.keep (by decide) (by decide) h) ?_
      simp only [Act.put, List.setIfInBounds_toArray, List.set_cons_zero, List.set_cons_succ]
      refine InvC.invc_value (.int .i64 4) (fun u hu => by cases hu) rfl (fun d w' _ _ h => by go_simp; all_goals rfl) (fun d w' _ _ h => At2.keep (by decide) (by decide) h) ?_
      simp only [Act.put, List.setIfInBounds_toArray, List.set_cons_zero, List.set_cons_succ]
      refine invc_skip (fun u hu => by cases hu) rfl (fun d w' hd hG h => ⟨W1, by
        have e := (h.at_p hd).1
        subst e
        refine (exec_store_row (g := pr) (off := 0) (cs := zpw) (vs := pv) (m := 3) rfl rfl rfl KP.out.2.2 (by kernel_rfl) PV3.out (by decide) PV1.out).trans ?_
        rw [put_all _ _ (by rw [PV3.out]; rfl), HW1.out], At2.did_p (by decide) hd h rfl⟩) ?_
      simp only [Act.put, List.setIfInBounds_toArray, List.set_cons_zero, List.set_cons_succ]
      refine InvC.invc_nil fun w8 h8 => ?_
      have e8 : w8 = W1 := by
        rcases h8.any with h | h | h
        · have := h8; unfold At2 at this; rw [if_neg (by decide), if_pos (by rfl)] at this; exact this
        · exact h
        · exact h.elim
      subst e8
      clear h8 KR KQ HW1
      go_wp2_with (refine wpList_store_blk rfl 48 _ _ rfl rr 0 2 rfl 48 zrm rv rfl KP.out.2.1 (by kernel_rfl) RV2.out (by decide) RV1.out ?_; intro w9 z9 g9; rw [put_all _ _ (by rw [RV2.out]; rfl)] at z9; have Z9 := Lib.hid z9; have G9 := Lib.hid g9; clear z9 g9)
      exact bodyPost_ret (v := .tuple #[.int .i64 4, .agg pv.toArray, .agg rv.toArray]) (results_three_cell rfl _ _ pr rr 50 48 _ _ (0, 0) (0, 0) _ _ _ rfl rfl rfl (by have := A1.out.zp.grown G9.out A1.out.l2; rw [← HPV.out] at this; exact this) Z9.out Try.underlying50 rfl (by rw [List.size_toArray, PV3.out]; kernel_rfl) Try.underlying48 rfl (by rw [List.size_toArray, RV2.out]; kernel_rfl)) rfl ⟨.slice a n c, by rw [RES.out, HPV.out, HRV.out]; rfl, by rw [RES.out]; exact ⟨by rw [← HN.out]; exact own_only HS.out (Only.of_below (S := []) (below_grown A1.out.b G9.out A1.out.b.size A1.out.l1)) (by simp), .inl rfl⟩, below_grown A1.out.b G9.out A1.out.b.size A1.out.l1⟩
    · have hoff' : p.off = false := by simpa using hoff
      have c0 : w5.cell? ⟨pb, 0, none⟩ = some (.bool false) := by rw [← hoff']; exact AM5.out.p.cell 0
      have r0 : w5.cell? ⟨rb, 0, none⟩ = some (.int .i64 (size : Int)) := AM5.out.r.cell 0
      have r1 : w5.cell? ⟨rb, 1, none⟩ = some (.slice a n c) := AM5.out.r.cell 1
      by_cases hful : size - n < 37
      · have RES := Lib.hid (show p.app size B x = (9, p, B) from by unfold Rp.app; rw [if_neg (fun h => h hg), if_neg hoff, if_pos (by rw [← HN.out]; exact hful)])
        have hf1 : (size : Int) - (n : Int) < 37 ∧ 0 ≤ (size : Int) - (n : Int) ∧ (size : Int) ≤ 65536 := by omega
        have AM6 := Lib.hid AM5.out.drew
        clear hg hoff hoff' PK
        go_upto_region 7 with (fail)
        obtain ⟨W1, hW1⟩ : ∃ W1, W1 = w5.drew.setRow pr pv.toArray := ⟨_, rfl⟩
        have A1 := Lib.hid (show Am1 w W1 p size (.slice a n c) rb pr rr from by rw [hW1, HPV.out]; exact AM6.out.one p)
        have HW1 := Lib.hid hW1
        clear hW1
        have KP := Lib.hid (show Blk w5.drew pb pv 50 ∧ Blk W1 rr zrm 48 ∧ Blk w5.drew pr zpw 50 from ⟨by rw [HPV.out]; exact AM6.out.p, A1.out.zr, AM6.out.zp⟩)
        have KR := Lib.hid (show ∀ d w', At2 3 100 (fun w' => w' = w5.drew) (fun w' => w' = W1) (fun w' => False) d w' → Blk w' rb rv 48 from fun d w' h => by
          rcases h.any with rfl | rfl | h
          · rw [HRV.out]; exact AM6.out.r
          · rw [HRV.out]; exact A1.out.r
          · exact h.elim)
        have KQ := Lib.hid (show ∀ d w', At2 3 100 (fun w' => w' = w5.drew) (fun w' => w' = W1) (fun w' => False) d w' → Blk w' pb pv 50 from fun d w' h => by
          rcases h.any with rfl | rfl | h
          · exact KP.out.1
          · rw [HW1.out]; exact KP.out.1.grown (grown_setRow _ _ _) (Ne.symm AM6.out.l2.1)
          · exact h.elim)
        refine wp_region_gate_tail (fun d w' => At2 3 100 (fun w' => w' = w5.drew) (fun w' => w' = W1) (fun w' => False) d w') 4 (by kernel_rfl) (by kernel_rfl) ?hI ?_
        case hI => exact At2.start (by rfl) (by rfl) rfl
        simp only [List.take_succ_cons, List.take_zero, List.drop_succ_cons, List.drop_zero]
        refine InvC.invc_value (.agg pv.toArray) (fun u hu => by cases hu) rfl (fun d w' _ _ h => by exact exec_load rfl rfl (KQ.out d w' h) Try.underlying50 rfl (by kernel_rfl) PV3.out) (fun d w' _ _ h => At2.keep (by decide) (by decide) h) ?_
        simp only [Act.put, List.setIfInBounds_toArray, List.set_cons_zero, List.set_cons_succ]
        refine InvC.invc_value (.agg rv.toArray) (fun u hu => by cases hu) rfl (fun d w' _ _ h => by exact exec_load rfl rfl (KR.out d w' h) Try.underlying48 rfl (by kernel_rfl) RV2.out) (fun d w' _ _ h => At2.keep (by decide) (by decide) h) ?_
        simp only [Act.put, List.setIfInBounds_toArray, List.set_cons_zero, List.set_cons_succ]
        refine InvC.invc_value (.int .i64 9) (fun u hu => by cases hu) rfl (fun d w' _ _ h => by go_simp; all_goals rfl) (fun d w' _ _ h => At2.keep (by decide) (by decide) h) ?_
        simp only [Act.put, List.setIfInBounds_toArray, List.set_cons_zero, List.set_cons_succ]
        refine invc_skip (fun u hu => by cases hu) rfl (fun d w' hd hG h => ⟨W1, by
          have e := (h.at_p hd).1
          subst e
          refine (exec_store_row (g := pr) (off := 0) (cs := zpw) (vs := pv) (m := 3) rfl rfl rfl KP.out.2.2 (by kernel_rfl) PV3.out (by decide) PV1.out).trans ?_
          rw [put_all _ _ (by rw [PV3.out]; rfl), HW1.out], At2.did_p (by decide) hd h rfl⟩) ?_
        simp only [Act.put, List.setIfInBounds_toArray, List.set_cons_zero, List.set_cons_succ]
        refine InvC.invc_nil fun w8 h8 => ?_
        have e8 : w8 = W1 := by
          rcases h8.any with h | h | h
          · have := h8; unfold At2 at this; rw [if_neg (by decide), if_pos (by rfl)] at this; exact this
          · exact h
          · exact h.elim
        subst e8
        clear h8 KR KQ HW1
        go_wp2_with (refine wpList_store_blk rfl 48 _ _ rfl rr 0 2 rfl 48 zrm rv rfl KP.out.2.1 (by kernel_rfl) RV2.out (by decide) RV1.out ?_; intro w9 z9 g9; rw [put_all _ _ (by rw [RV2.out]; rfl)] at z9; have Z9 := Lib.hid z9; have G9 := Lib.hid g9; clear z9 g9)
        exact bodyPost_ret (v := .tuple #[.int .i64 9, .agg pv.toArray, .agg rv.toArray]) (results_three_cell rfl _ _ pr rr 50 48 _ _ (0, 0) (0, 0) _ _ _ rfl rfl rfl (by have := A1.out.zp.grown G9.out A1.out.l2; rw [← HPV.out] at this; exact this) Z9.out Try.underlying50 rfl (by rw [List.size_toArray, PV3.out]; kernel_rfl) Try.underlying48 rfl (by rw [List.size_toArray, RV2.out]; kernel_rfl)) rfl ⟨.slice a n c, by rw [RES.out, HPV.out, HRV.out]; rfl, by rw [RES.out]; exact ⟨by rw [← HN.out]; exact own_only HS.out (Only.of_below (S := []) (below_grown A1.out.b G9.out A1.out.b.size A1.out.l1)) (by simp), .inl rfl⟩, below_grown A1.out.b G9.out A1.out.b.size A1.out.l1⟩
      · have hf1 : (37 : Int) ≤ (size : Int) - (n : Int) ∧ (size : Int) ≤ 65536 := by omega
        obtain ⟨ok, hok⟩ : ∃ b, b = p.step.1 := ⟨_, rfl⟩
        obtain ⟨qv, hqv⟩ : ∃ l, l = p.step.2.c := ⟨_, rfl⟩
        have ST := Lib.hid (rstep_any p HP.out w5)
        rw [show p.v = .agg pv.toArray from by rw [HPV.out]; rfl, ← hok, show p.step.2.v = .agg qv.toArray from by rw [hqv]; rfl] at ST
        have QV3 := Lib.hid (show qv.length = 3 by rw [hqv]; rfl)
        have QV1 := Lib.hid (show ∀ u ∈ qv, u.oneCell' = true by rw [hqv]; exact rpc_one _)
        have HQV := Lib.hid hqv
        have HOK := Lib.hid hok
        have KP5 := Lib.hid (show Blk w5 pb pv 50 from by rw [HPV.out]; exact AM5.out.p)
        clear PK hqv hok
        go_upto_region 9 with (first | (refine wpList_value_g rfl (.agg pv.toArray) (exec_load rfl rfl KP5.out Try.underlying50 rfl (by kernel_rfl) PV3.out) ?_) | (go_at_call 39; refine ST.out.mono ?_; rintro e w6 ⟨rfl, hb6⟩; have B6 := Lib.hid hb6; clear hb6; have ZQ := Lib.hid (blk_at (w := w6) (g := w6.heap.size) (cs := zpw) (t := 50) (arr := #[Value.bool false, Value.int .i64 0, Value.int .i64 0]) rfl rfl)) | (refine wpList_store_blk rfl 50 _ _ rfl w6.heap.size 0 3 rfl 50 zpw qv rfl ZQ.out (by kernel_rfl) QV3.out (by decide) QV1.out ?_; intro w7 z7 g7; rw [put_all _ _ (by rw [QV3.out]; rfl)] at z7; have Z7 := Lib.hid z7; have G7 := Lib.hid g7; clear z7 g7))
        have b7 := below_grown ((Below.refl w6.heap.size w6).alloc (Nat.le_refl _) _) G7.out (by simp) (Nat.le_refl _)
        obtain ⟨qb, hqb⟩ : ∃ b, b = w6.heap.size := ⟨_, rfl⟩
        have AM7 := (AM5.out.below B6.out).below b7
        have Z7q : Blk w7 qb qv 50 := by rw [hqb]; exact Z7.out
        have b57 : Below w5.heap.size w5 w7 := B6.out.trans (b7.mono B6.out.size)
        obtain ⟨wa, hwa⟩ : ∃ x, x = w7.alloc (.cells #[] 5) := ⟨_, rfl⟩
        have ba : Below w7.heap.size w7 wa := hwa ▸ (Below.refl _ _).alloc (Nat.le_refl _) _
        have za : Blk wa w7.heap.size [] 5 := by rw [hwa]; exact blk_at rfl rfl
        have hBT5 := HBT.out.below AM7.b (Nat.le_refl _)
        obtain ⟨v9, w8, hr9, ho9, hb9⟩ := copy_own za (hBT5.below ba (Nat.le_refl _)) (by omega)
        obtain ⟨a9, c9, rfl, _⟩ := OwnB.bts_own (HN.out.symm) ho9
        have b78 : Below w7.heap.size w7 w8 := ba.trans hb9
        have AM8 := Lib.hid ((AM7.below b78).drew)
        have QB8 := Lib.hid (show Blk w8.drew qb qv 50 from (Z7q.below b78 Z7q.lt).drew)
        have LQ := Lib.hid (show qb < w7.heap.size ∧ w7.heap.size ≤ w8.heap.size ∧ w.heap.size ≤ w7.heap.size ∧ pb < w7.heap.size ∧ rb < w7.heap.size ∧ pr < w7.heap.size ∧ rr < w7.heap.size ∧ pr < qb ∧ rr < qb from by
          have q1 := AM5.out.zp.lt
          have q2 := AM5.out.zr.lt
          have q3 := B6.out.size
          exact ⟨Z7q.lt, b78.size, AM7.b.size, AM7.p.lt, AM7.r.lt, AM7.zp.lt, AM7.zr.lt, by omega, by omega⟩)
        have O9 := Lib.hid (show w8.drew.ownsRow w7.heap.size 5 1 (.slice a9 n c9) n (bv B) from ho9)
        have PT8 := Lib.hid (show Bts w8.drew pa 37 pc x.bytes from (PT.out.below (b57.trans (b78.mono b57.size)) (Nat.le_refl _)).below (Below.refl w8.heap.size w8).drew (Nat.le_refl _))
        have c71 : (w7.alloc (.cells #[] 5)).cell? ⟨rb, 1, none⟩ = some (.slice a n c) := by rw [← hwa]; exact (AM7.r.below ba AM7.r.lt).cell 1
        rw [hwa] at hr9
        have HR9 := Lib.hid hr9
        rw [← hqb]
        clear r0 r1 c0 b7 hqb AM7 Z7q b57 hwa ba za hBT5 hr9 ho9 hb9 b78 Z7 G7 ZQ KP5 ST
        simp only [Act.put]
        go_upto_region 10 with (at_builtin; refine wpList_world_gg rfl (.slice a9 n c9) (w' := w8) (exec_append _ _ rfl rfl rfl HR9.out) ?_)
        clear c71
        cases ok
        · have RES := Lib.hid (show p.app size B x = (4, p.step.2, B ++ x.bytes.take 18) from by unfold Rp.app; rw [if_neg (fun h => h hg), if_neg hoff, if_neg (by rw [← HN.out]; exact hful), if_neg (by rw [← HOK.out]; decide)])
          clear hg hoff hoff' hful hf1
          go_upto_region 11 with (fail)
          obtain ⟨aE, cE, wE, hrE, hoE, hbE⟩ := grow_own O9.out (PT8.out.take (n := 18) (by decide)) (by omega) LQ.out.2.1
          have AME := Lib.hid (AM8.out.under hbE LQ.out.2.2.1 ⟨LQ.out.2.2.2.1, LQ.out.2.2.2.2.1, LQ.out.2.2.2.2.2.1, LQ.out.2.2.2.2.2.2.1⟩)
          have QBE := Lib.hid (show Blk wE qb qv 50 from QB8.out.below hbE LQ.out.1)
          obtain ⟨W1, hW1⟩ : ∃ W1, W1 = wE.setRow pr qv.toArray := ⟨_, rfl⟩
          have A1 := Lib.hid (show Am1 w W1 p.step.2 size (.slice a n c) rb pr rr from by rw [hW1, HQV.out]; exact AME.out.one p.step.2)
          have gW : wE.grownBy W1 (some pr) := by rw [hW1]; exact grown_setRow _ _ _
          have OE := Lib.hid (show W1.ownsRow w7.heap.size 5 1 (.slice aE (n + 18) cE) (n + 18) (bv (B ++ (x.bytes.take 18))) from own_only hoE (Only.of_grown gW) (fun g hg => by have := (own_lt hoE hg).1; have := LQ.out; simp only [List.mem_singleton]; omega))
          have KQ := Lib.hid (show ∀ d w', At2 6 9 (fun w' => w' = w8.drew) (fun w' => w' = wE) (fun w' => w' = W1) d w' → Blk w' qb qv 50 from fun d w' h => by
            rcases h.any with rfl | rfl | rfl
            · exact QB8.out
            · exact QBE.out
            · exact QBE.out.grown gW (by have := LQ.out; omega))
          have KR := Lib.hid (show ∀ d w', At2 6 9 (fun w' => w' = w8.drew) (fun w' => w' = wE) (fun w' => w' = W1) d w' → w'.cell? ⟨rb, 0, none⟩ = some (.int .i64 (size : Int)) from fun d w' h => by
            rcases h.any with rfl | rfl | rfl
            · exact AM8.out.r.cell 0
            · exact AME.out.r.cell 0
            · exact A1.out.r.cell 0)
          obtain ⟨rv2, hrv2⟩ : ∃ l, l = rmc size (.slice aE (n + 18) cE) := ⟨_, rfl⟩
          have RV22 := Lib.hid (show rv2.length = 2 by rw [hrv2]; rfl)
          have RV21 := Lib.hid (show ∀ u ∈ rv2, u.oneCell' = true by rw [hrv2]; exact rmc_one _ rfl)
          have BT := Lib.hid (show Try.prog.built 48 [(0, .int .i64 (size : Int)), (1, .slice aE (n + 18) cE)] = some rv2.toArray from by rw [hrv2]; kernel_rfl)
          have HRV2 := Lib.hid hrv2
          have HW1 := Lib.hid hW1
          have HRE := Lib.hid hrE
          have ZPE := Lib.hid (show Blk wE pr zpw 50 ∧ Blk W1 rr zrm 48 from ⟨AME.out.zp, A1.out.zr⟩)
          have hpc : 37 ≤ pc := PT8.out.2.1
          clear hrE hoE hbE hW1 gW hrv2
          refine wp_region_gate_tail (fun d w' => At2 6 9 (fun w' => w' = w8.drew) (fun w' => w' = wE) (fun w' => w' = W1) d w') 10 (by kernel_rfl) (by kernel_rfl) ?hI ?_
          case hI => exact At2.start (by rfl) (by rfl) rfl
          simp only [List.take_succ_cons, List.take_zero, List.drop_succ_cons, List.drop_zero]
          refine InvC.invc_value (.agg qv.toArray) (fun u hu => by cases hu) rfl (fun d w' _ _ h => by exact exec_load rfl rfl (KQ.out d w' h) Try.underlying50 rfl (by kernel_rfl) QV3.out) (fun d w' _ _ h => At2.keep (by decide) (by decide) h) ?_
          simp only [Act.put, List.setIfInBounds_toArray, List.set_cons_zero, List.set_cons_succ]
          refine InvC.invc_value (.pointer (some ⟨rb, 0, none⟩)) (fun u hu => by cases hu) rfl (fun d w' _ _ h => by go_simp; all_goals rfl) (fun d w' _ _ h => At2.keep (by decide) (by decide) h) ?_
          simp only [Act.put, List.setIfInBounds_toArray, List.set_cons_zero, List.set_cons_succ]
          refine InvC.invc_value (.int .i64 (size : Int)) (fun u hu => by cases hu) rfl (fun d w' _ _ h => by have q := KR.out d w' h; go_simp) (fun d w' _ _ h => At2.keep (by decide) (by decide) h) ?_
          simp only [Act.put, List.setIfInBounds_toArray, List.set_cons_zero, List.set_cons_succ]
          refine InvC.invc_value (.slice a9 n c9) (fun u hu => by cases hu) rfl (fun d w' _ _ h => by go_simp; all_goals rfl) (fun d w' _ _ h => At2.keep (by decide) (by decide) h) ?_
          simp only [Act.put, List.setIfInBounds_toArray, List.set_cons_zero, List.set_cons_succ]
          refine InvC.invc_value (.slice pa 37 pc) (fun u hu => by cases hu) rfl (fun d w' _ _ h => by go_simp; all_goals rfl) (fun d w' _ _ h => At2.keep (by decide) (by decide) h) ?_
          simp only [Act.put, List.setIfInBounds_toArray, List.set_cons_zero, List.set_cons_succ]
          refine InvC.invc_value (.slice pa 18 pc) (fun u hu => by cases hu) rfl (fun d w' _ _ h => by go_simp; all_goals first | rfl | (intro h9; exfalso; omega)) (fun d w' _ _ h => At2.keep (by decide) (by decide) h) ?_
          simp only [Act.put, List.setIfInBounds_toArray, List.set_cons_zero, List.set_cons_succ]
          refine InvC.invc_world (.slice aE (n + 18) cE) (fun u hu => by cases hu) rfl (fun d w' hd hG h => ⟨wE, by
            have e := (h.at_p hd).1
            subst e
            exact exec_append _ _ rfl rfl rfl HRE.out, At2.did_p (by decide) hd h rfl⟩) ?_
          simp only [Act.put, List.setIfInBounds_toArray, List.set_cons_zero, List.set_cons_succ]
          refine InvC.invc_value (.agg rv2.toArray) (fun u hu => by cases hu) rfl (fun d w' _ _ h => by exact exec_build (vs := [(0, .int .i64 (size : Int)), (1, .slice aE (n + 18) cE)]) rfl rfl BT.out) (fun d w' _ _ h => At2.keep (by decide) (by decide) h) ?_
          simp only [Act.put, List.setIfInBounds_toArray, List.set_cons_zero, List.set_cons_succ]
          refine InvC.invc_value (.int .i64 4) (fun u hu => by cases hu) rfl (fun d w' _ _ h => by go_simp; all_goals rfl) (fun d w' _ _ h => At2.keep (by decide) (by decide) h) ?_
          simp only [Act.put, List.setIfInBounds_toArray, List.set_cons_zero, List.set_cons_succ]
          refine invc_skip (fun u hu => by cases hu) rfl (fun d w' hd hG h => ⟨W1, by
            have e := h.at_q hd (gate_via hG 8 [6] (by kernel_rfl))
            subst e
            refine (exec_store_row (g := pr) (off := 0) (cs := zpw) (vs := qv) (m := 3) rfl rfl rfl ZPE.out.1 (by kernel_rfl) QV3.out (by decide) QV1.out).trans ?_
            rw [put_all _ _ (by rw [QV3.out]; rfl), HW1.out], At2.did_q (by decide) hd (gate_via hG 8 [6] (by kernel_rfl)) rfl⟩) ?_
          simp only [Act.put, List.setIfInBounds_toArray, List.set_cons_zero, List.set_cons_succ]
          refine InvC.invc_nil fun w9 h9 => ?_
          have e9 := h9.done (by rfl)
          subst e9
          clear h9 KR KQ HW1 HRE BT QBE
          go_wp2_with (refine wpList_store_blk rfl 48 _ _ rfl rr 0 2 rfl 48 zrm rv2 rfl ZPE.out.2 (by kernel_rfl) RV22.out (by decide) RV21.out ?_; intro wZ zZ gZ; rw [put_all _ _ (by rw [RV22.out]; rfl)] at zZ; have ZZ := Lib.hid zZ; have GZ := Lib.hid gZ; clear zZ gZ)
          have hlD : (B ++ (x.bytes.take 18)).length = n + 18 := by rw [List.length_append, ← HN.out]; have := (PT8.out.take (n := 18) (by decide)).1; omega
          have OZ : wZ.ownsRow w7.heap.size 5 1 (.slice aE (n + 18) cE) (n + 18) (bv (B ++ (x.bytes.take 18))) := own_only OE.out (Only.of_grown GZ.out) (fun g hg => by have := (own_lt OE.out hg).1; have := LQ.out; simp only [List.mem_singleton]; omega)
          exact bodyPost_ret (v := .tuple #[.int .i64 4, .agg qv.toArray, .agg rv2.toArray]) (results_three_cell rfl _ _ pr rr 50 48 _ _ (0, 0) (0, 0) _ _ _ rfl rfl rfl (by have := A1.out.zp.grown GZ.out A1.out.l2; rw [← HQV.out] at this; exact this) ZZ.out Try.underlying50 rfl (by rw [List.size_toArray, QV3.out]; kernel_rfl) Try.underlying48 rfl (by rw [List.size_toArray, RV22.out]; kernel_rfl)) rfl ⟨.slice aE (n + 18) cE, by rw [RES.out, HQV.out, HRV2.out]; rfl, by rw [RES.out]; exact ⟨by rw [hlD]; exact own_base OZ (fun g hg => by have := (own_lt OZ hg).1; have := LQ.out; omega), .inr fun g hg => by have := (own_lt OZ hg).1; have := LQ.out; omega⟩, below_grown A1.out.b GZ.out A1.out.b.size A1.out.l1⟩
        · have RES := Lib.hid (show p.app size B x = (0, p.step.2, B ++ x.bytes) from by unfold Rp.app; rw [if_neg (fun h => h hg), if_neg hoff, if_neg (by rw [← HN.out]; exact hful), if_pos HOK.out.symm])
          clear hg hoff hoff' hful hf1
          go_upto_region 12 with (fail)
          obtain ⟨aE, cE, wE, hrE, hoE, hbE⟩ := grow_own O9.out (PT8.out) (by omega) LQ.out.2.1
          have AME := Lib.hid (AM8.out.under hbE LQ.out.2.2.1 ⟨LQ.out.2.2.2.1, LQ.out.2.2.2.2.1, LQ.out.2.2.2.2.2.1, LQ.out.2.2.2.2.2.2.1⟩)
          have QBE := Lib.hid (show Blk wE qb qv 50 from QB8.out.below hbE LQ.out.1)
          obtain ⟨W1, hW1⟩ : ∃ W1, W1 = wE.setRow pr qv.toArray := ⟨_, rfl⟩
          have A1 := Lib.hid (show Am1 w W1 p.step.2 size (.slice a n c) rb pr rr from by rw [hW1, HQV.out]; exact AME.out.one p.step.2)
          have gW : wE.grownBy W1 (some pr) := by rw [hW1]; exact grown_setRow _ _ _
          have OE := Lib.hid (show W1.ownsRow w7.heap.size 5 1 (.slice aE (n + 37) cE) (n + 37) (bv (B ++ x.bytes)) from own_only hoE (Only.of_grown gW) (fun g hg => by have := (own_lt hoE hg).1; have := LQ.out; simp only [List.mem_singleton]; omega))
          have KQ := Lib.hid (show ∀ d w', At2 5 8 (fun w' => w' = w8.drew) (fun w' => w' = wE) (fun w' => w' = W1) d w' → Blk w' qb qv 50 from fun d w' h => by
            rcases h.any with rfl | rfl | rfl
            · exact QB8.out
            · exact QBE.out
            · exact QBE.out.grown gW (by have := LQ.out; omega))
          have KR := Lib.hid (show ∀ d w', At2 5 8 (fun w' => w' = w8.drew) (fun w' => w' = wE) (fun w' => w' = W1) d w' → w'.cell? ⟨rb, 0, none⟩ = some (.int .i64 (size : Int)) from fun d w' h => by
            rcases h.any with rfl | rfl | rfl
            · exact AM8.out.r.cell 0
            · exact AME.out.r.cell 0
            · exact A1.out.r.cell 0)
          obtain ⟨rv2, hrv2⟩ : ∃ l, l = rmc size (.slice aE (n + 37) cE) := ⟨_, rfl⟩
          have RV22 := Lib.hid (show rv2.length = 2 by rw [hrv2]; rfl)
          have RV21 := Lib.hid (show ∀ u ∈ rv2, u.oneCell' = true by rw [hrv2]; exact rmc_one _ rfl)
          have BT := Lib.hid (show Try.prog.built 48 [(0, .int .i64 (size : Int)), (1, .slice aE (n + 37) cE)] = some rv2.toArray from by rw [hrv2]; kernel_rfl)
          have HRV2 := Lib.hid hrv2
          have HW1 := Lib.hid hW1
          have HRE := Lib.hid hrE
          have ZPE := Lib.hid (show Blk wE pr zpw 50 ∧ Blk W1 rr zrm 48 from ⟨AME.out.zp, A1.out.zr⟩)
          clear hrE hoE hbE hW1 gW hrv2
          refine wp_region_gate_tail (fun d w' => At2 5 8 (fun w' => w' = w8.drew) (fun w' => w' = wE) (fun w' => w' = W1) d w') 9 (by kernel_rfl) (by kernel_rfl) ?hI ?_
          case hI => exact At2.start (by rfl) (by rfl) rfl
          simp only [List.take_succ_cons, List.take_zero, List.drop_succ_cons, List.drop_zero]
          refine InvC.invc_value (.agg qv.toArray) (fun u hu => by cases hu) rfl (fun d w' _ _ h => by exact exec_load rfl rfl (KQ.out d w' h) Try.underlying50 rfl (by kernel_rfl) QV3.out) (fun d w' _ _ h => At2.keep (by decide) (by decide) h) ?_
          simp only [Act.put, List.setIfInBounds_toArray, List.set_cons_zero, List.set_cons_succ]
          refine InvC.invc_value (.pointer (some ⟨rb, 0, none⟩)) (fun u hu => by cases hu) rfl (fun d w' _ _ h => by go_simp; all_goals rfl) (fun d w' _ _ h => At2.keep (by decide) (by decide) h) ?_
          simp only [Act.put, List.setIfInBounds_toArray, List.set_cons_zero, List.set_cons_succ]
          refine InvC.invc_value (.int .i64 (size : Int)) (fun u hu => by cases hu) rfl (fun d w' _ _ h => by have q := KR.out d w' h; go_simp) (fun d w' _ _ h => At2.keep (by decide) (by decide) h) ?_
          simp only [Act.put, List.setIfInBounds_toArray, List.set_cons_zero, List.set_cons_succ]
          refine InvC.invc_value (.slice a9 n c9) (fun u hu => by cases hu) rfl (fun d w' _ _ h => by go_simp; all_goals rfl) (fun d w' _ _ h => At2.keep (by decide) (by decide) h) ?_
          simp only [Act.put, List.setIfInBounds_toArray, List.set_cons_zero, List.set_cons_succ]
          refine InvC.invc_value (.slice pa 37 pc) (fun u hu => by cases hu) rfl (fun d w' _ _ h => by go_simp; all_goals rfl) (fun d w' _ _ h => At2.keep (by decide) (by decide) h) ?_
          simp only [Act.put, List.setIfInBounds_toArray, List.set_cons_zero, List.set_cons_succ]
          refine InvC.invc_world (.slice aE (n + 37) cE) (fun u hu => by cases hu) rfl (fun d w' hd hG h => ⟨wE, by
            have e := (h.at_p hd).1
            subst e
            exact exec_append _ _ rfl rfl rfl HRE.out, At2.did_p (by decide) hd h rfl⟩) ?_
          simp only [Act.put, List.setIfInBounds_toArray, List.set_cons_zero, List.set_cons_succ]
          refine InvC.invc_value (.agg rv2.toArray) (fun u hu => by cases hu) rfl (fun d w' _ _ h => by exact exec_build (vs := [(0, .int .i64 (size : Int)), (1, .slice aE (n + 37) cE)]) rfl rfl BT.out) (fun d w' _ _ h => At2.keep (by decide) (by decide) h) ?_
          simp only [Act.put, List.setIfInBounds_toArray, List.set_cons_zero, List.set_cons_succ]
          refine InvC.invc_value (.int .i64 0) (fun u hu => by cases hu) rfl (fun d w' _ _ h => by go_simp; all_goals rfl) (fun d w' _ _ h => At2.keep (by decide) (by decide) h) ?_
          simp only [Act.put, List.setIfInBounds_toArray, List.set_cons_zero, List.set_cons_succ]
          refine invc_skip (fun u hu => by cases hu) rfl (fun d w' hd hG h => ⟨W1, by
            have e := h.at_q hd (gate_via hG 7 [5] (by kernel_rfl))
            subst e
            refine (exec_store_row (g := pr) (off := 0) (cs := zpw) (vs := qv) (m := 3) rfl rfl rfl ZPE.out.1 (by kernel_rfl) QV3.out (by decide) QV1.out).trans ?_
            rw [put_all _ _ (by rw [QV3.out]; rfl), HW1.out], At2.did_q (by decide) hd (gate_via hG 7 [5] (by kernel_rfl)) rfl⟩) ?_
          simp only [Act.put, List.setIfInBounds_toArray, List.set_cons_zero, List.set_cons_succ]
          refine InvC.invc_nil fun w9 h9 => ?_
          have e9 := h9.done (by rfl)
          subst e9
          clear h9 KR KQ HW1 HRE BT QBE
          go_wp2_with (refine wpList_store_blk rfl 48 _ _ rfl rr 0 2 rfl 48 zrm rv2 rfl ZPE.out.2 (by kernel_rfl) RV22.out (by decide) RV21.out ?_; intro wZ zZ gZ; rw [put_all _ _ (by rw [RV22.out]; rfl)] at zZ; have ZZ := Lib.hid zZ; have GZ := Lib.hid gZ; clear zZ gZ)
          have hlD : (B ++ x.bytes).length = n + 37 := by rw [List.length_append, ← HN.out]; have := PT8.out.1; omega
          have OZ : wZ.ownsRow w7.heap.size 5 1 (.slice aE (n + 37) cE) (n + 37) (bv (B ++ x.bytes)) := own_only OE.out (Only.of_grown GZ.out) (fun g hg => by have := (own_lt OE.out hg).1; have := LQ.out; simp only [List.mem_singleton]; omega)
          exact bodyPost_ret (v := .tuple #[.int .i64 0, .agg qv.toArray, .agg rv2.toArray]) (results_three_cell rfl _ _ pr rr 50 48 _ _ (0, 0) (0, 0) _ _ _ rfl rfl rfl (by have := A1.out.zp.grown GZ.out A1.out.l2; rw [← HQV.out] at this; exact this) ZZ.out Try.underlying50 rfl (by rw [List.size_toArray, QV3.out]; kernel_rfl) Try.underlying48 rfl (by rw [List.size_toArray, RV22.out]; kernel_rfl)) rfl ⟨.slice aE (n + 37) cE, by rw [RES.out, HQV.out, HRV2.out]; rfl, by rw [RES.out]; exact ⟨by rw [hlD]; exact own_base OZ (fun g hg => by have := (own_lt OZ hg).1; have := LQ.out; omega), .inr fun g hg => by have := (own_lt OZ hg).1; have := LQ.out; omega⟩, below_grown A1.out.b GZ.out A1.out.b.size A1.out.l1⟩
  · have RES := Lib.hid (show p.app size B x = (2, p, B) from by unfold Rp.app; rw [if_pos hg])
    have PK := Lib.hid (rpack_bad hx hg wb)
    rw [← HXV.out] at PK
    clear hg
    go_enter Try.func24, Try.ntmps24
    go_upto_region 1 with (fail)
    rw [show (#[Value.bool false, Value.int .i64 0, Value.int .i64 0] : Array Value) = zpw.toArray from rfl, show (#[Value.int .i64 0, Value.slice none 0 0] : Array Value) = zrm.toArray from rfl, HWB.out]
    rw [HRR.out, HPR.out, HXB.out, HRB.out, HPB.out]
    go_upto_region 3 with (first | (refine wpList_value_g rfl (.agg xv.toArray) (exec_load rfl rfl XB.out Try.underlying27 rfl (by kernel_rfl) XV19.out) ?_) | (go_at_call 38; refine PK.out.mono ?_; rintro e w5 ⟨rfl, hb5⟩; have B5 := Lib.hid hb5; clear hb5))
    have AM5 := Lib.hid (AM0.out.below B5.out).drew
    obtain ⟨W1, hW1⟩ : ∃ W1, W1 = w5.drew.setRow pr pv.toArray := ⟨_, rfl⟩
    have A1 := Lib.hid (show Am1 w W1 p size (.slice a n c) rb pr rr from by rw [hW1, HPV.out]; exact AM5.out.one p)
    have HW1 := Lib.hid hW1
    clear hW1
    have KP := Lib.hid (show Blk w5.drew pb pv 50 ∧ Blk W1 rr zrm 48 ∧ Blk w5.drew pr zpw 50 from ⟨by rw [HPV.out]; exact AM5.out.p, A1.out.zr, AM5.out.zp⟩)
    have KR := Lib.hid (show ∀ d w', At2 4 100 (fun w' => w' = w5.drew) (fun w' => w' = W1) (fun w' => False) d w' → Blk w' rb rv 48 from fun d w' h => by
      rcases h.any with rfl | rfl | h
      · rw [HRV.out]; exact AM5.out.r
      · rw [HRV.out]; exact A1.out.r
      · exact h.elim)
    have KQ := Lib.hid (show ∀ d w', At2 4 100 (fun w' => w' = w5.drew) (fun w' => w' = W1) (fun w' => False) d w' → Blk w' pb pv 50 from fun d w' h => by
      rcases h.any with rfl | rfl | h
      · exact KP.out.1
      · rw [HW1.out]; exact KP.out.1.grown (grown_setRow _ _ _) (Ne.symm AM5.out.l2.1)
      · exact h.elim)
    refine wp_region_gate_tail (fun d w' => At2 4 100 (fun w' => w' = w5.drew) (fun w' => w' = W1) (fun w' => False) d w') 5 (by kernel_rfl) (by kernel_rfl) ?hI ?_
    case hI => exact At2.start (by rfl) (by rfl) rfl
    simp only [List.take_succ_cons, List.take_zero, List.drop_succ_cons, List.drop_zero]
    refine InvC.invc_value (.int .i64 2) (fun u hu => by cases hu) rfl (fun d w' _ _ h => by go_simp; all_goals rfl) (fun d w' _ _ h => At2.keep (by decide) (by decide) h) ?_
    simp only [Act.put, List.setIfInBounds_toArray, List.set_cons_zero, List.set_cons_succ]
    refine InvC.invc_value (.agg pv.toArray) (fun u hu => by cases hu) rfl (fun d w' _ _ h => by exact exec_load rfl rfl (KQ.out d w' h) Try.underlying50 rfl (by kernel_rfl) PV3.out) (fun d w' _ _ h => At2.keep (by decide) (by decide) h) ?_
    simp only [Act.put, List.setIfInBounds_toArray, List.set_cons_zero, List.set_cons_succ]
    refine InvC.invc_value (.agg rv.toArray) (fun u hu => by cases hu) rfl (fun d w' _ _ h => by exact exec_load rfl rfl (KR.out d w' h) Try.underlying48 rfl (by kernel_rfl) RV2.out) (fun d w' _ _ h => At2.keep (by decide) (by decide) h) ?_
    simp only [Act.put, List.setIfInBounds_toArray, List.set_cons_zero, List.set_cons_succ]
    refine InvC.invc_value (.int .i64 2) (fun u hu => by cases hu) rfl (fun d w' _ _ h => by go_simp; all_goals rfl) (fun d w' _ _ h => At2.keep (by decide) (by decide) h) ?_
    simp only [Act.put, List.setIfInBounds_toArray, List.set_cons_zero, List.set_cons_succ]
    refine invc_skip (fun u hu => by cases hu) rfl (fun d w' hd hG h => ⟨W1, by
      have e := (h.at_p hd).1
      subst e
      refine (exec_store_row (g := pr) (off := 0) (cs := zpw) (vs := pv) (m := 3) rfl rfl rfl KP.out.2.2 (by kernel_rfl) PV3.out (by decide) PV1.out).trans ?_
      rw [put_all _ _ (by rw [PV3.out]; rfl), HW1.out], At2.did_p (by decide) hd h rfl⟩) ?_
    simp only [Act.put, List.setIfInBounds_toArray, List.set_cons_zero, List.set_cons_succ]
    refine InvC.invc_nil fun w8 h8 => ?_
    have e8 : w8 = W1 := by
      rcases h8.any with h | h | h
      · have := h8; unfold At2 at this; rw [if_neg (by decide), if_pos (by rfl)] at this; exact this
      · exact h
      · exact h.elim
    subst e8
    clear h8 KR KQ HW1
    go_wp2_with (refine wpList_store_blk rfl 48 _ _ rfl rr 0 2 rfl 48 zrm rv rfl KP.out.2.1 (by kernel_rfl) RV2.out (by decide) RV1.out ?_; intro w9 z9 g9; rw [put_all _ _ (by rw [RV2.out]; rfl)] at z9; have Z9 := Lib.hid z9; have G9 := Lib.hid g9; clear z9 g9)
    exact bodyPost_ret (v := .tuple #[.int .i64 2, .agg pv.toArray, .agg rv.toArray]) (results_three_cell rfl _ _ pr rr 50 48 _ _ (0, 0) (0, 0) _ _ _ rfl rfl rfl (by have := A1.out.zp.grown G9.out A1.out.l2; rw [← HPV.out] at this; exact this) Z9.out Try.underlying50 rfl (by rw [List.size_toArray, PV3.out]; kernel_rfl) Try.underlying48 rfl (by rw [List.size_toArray, RV2.out]; kernel_rfl)) rfl ⟨.slice a n c, by rw [RES.out, HPV.out, HRV.out]; rfl, by rw [RES.out]; exact ⟨by rw [← HN.out]; exact own_only HS.out (Only.of_below (S := []) (below_grown A1.out.b G9.out A1.out.b.size A1.out.l1)) (by simp), .inl rfl⟩, below_grown A1.out.b G9.out A1.out.b.size A1.out.l1⟩
end Go.Proofs.Ytobblbplanimgaa.Nvram
/-
  Load of the reference's memory by contract. Helper text; no statement is proved here.
-/
set_option linter.unusedVariables false
set_option maxRecDepth 20000
set_option linter.unusedSimpArgs false
namespace Go.Proofs.Ytobblbplanimgaa.Nvram
open Go.RowKit Go.Proofs.Ytobblbplanimgaa.Base Go.Proofs.Ytobblbplanimgaa.Laws Go.Proofs.Ytobblbplanimgaa.Disk Go.Proofs.Ytobblbplanimgaa.Row Go.Proofs.Ytobblbplanimgaa.Codec Go.Proofs.Ytobblbplanimgaa.InvL Go.Proofs.Ytobblbplanimgaa.InvM Go.Proofs.Ytobblbplanimgaa.InvG
/-- what Load answers, the power and the bytes behind it -/
def Rp.load (p : Rp) (size : Nat) (B : List UInt8) (rs : List Rc) : Nat × Rp × List UInt8 := open Classical in
  if ∃ r ∈ rs, ¬ r.Good then (2, p, B) else if p.off then (4, p, B) else if size / 37 < rs.length then (9, p, B) else if p.step.1 then (0, p.step.2, laidAll rs) else (4, p.step.2, B)
set_option maxHeartbeats 8000000 in
theorem rload_any (p : Rp) (hp : -1 ≤ p.left ∧ p.left ≤ 9223372036854775807 ∧ p.steps ≤ 4611686018427387904) (size : Nat) (s : Value) (B : List UInt8) (base : Nat) (w : World) (hs : w.ownsRow base 5 1 s B.length (bv B)) (hb : base ≤ w.heap.size) (h2 : B.length ≤ size) (hsz : size ≤ 65536) (la : Option Addr) (ln lc : Nat) (rs : List Rc) (hr : Recs w la ln lc rs) : Calls Try.prog 25 #[p.v, rmv size s, .slice la ln lc] w fun e w' => ∃ s', e = .returned (.tuple #[.int .i64 ((p.load size B rs).1 : Int), (p.load size B rs).2.1.v, rmv size s']) ∧ Sv w w' s s' (p.load size B rs).2.2 base ∧ Below w.heap.size w w' := by
  obtain ⟨a, c, rfl, hB⟩ := OwnB.bts_own rfl hs
  obtain ⟨n, hn⟩ : ∃ n, n = B.length := ⟨_, rfl⟩
  rw [← hn] at hB h2 hs ⊢
  obtain ⟨pv, hpv⟩ : ∃ l, l = p.c := ⟨_, rfl⟩
  obtain ⟨rv, hrv⟩ : ∃ l, l = rmc size (.slice a n c) := ⟨_, rfl⟩
  obtain ⟨wb, hwb⟩ : ∃ wb, wb = (((w.alloc (.cells pv.toArray 50)).alloc (.cells rv.toArray 48)).alloc (.cells zpw.toArray 50)).alloc (.cells zrm.toArray 48) := ⟨_, rfl⟩
  obtain ⟨pb, hpb⟩ : ∃ b, b = w.heap.size := ⟨_, rfl⟩
  obtain ⟨rb, hrb⟩ : ∃ b, b = w.heap.size + 1 := ⟨_, rfl⟩
  obtain ⟨pr, hpr⟩ : ∃ b, b = w.heap.size + 1 + 1 := ⟨_, rfl⟩
  obtain ⟨rr, hrr⟩ : ∃ b, b = w.heap.size + 1 + 1 + 1 := ⟨_, rfl⟩
  have AM0 := Lib.hid (show Am w wb p size (.slice a n c) pb rb pr rr from by
    refine ⟨?_, ?_, ?_, ?_, ?_, by omega, by omega⟩
    · rw [hwb]
      exact ((((Below.refl _ _).alloc (Nat.le_refl _) _).alloc (by simp) _).alloc (by simp; omega) _).alloc (by simp; omega) _
    · rw [hwb, hpb, ← hpv]
      exact (((blk_at rfl rfl).alloc _).alloc _).alloc _
    · rw [hwb, hrb, ← hrv]
      exact ((blk_at (by simp) rfl).alloc _).alloc _
    · rw [hwb, hpr]
      exact (blk_at (by simp) rfl).alloc _
    · rw [hwb, hrr]
      exact blk_at (by simp) rfl)
  have HPV := Lib.hid hpv
  have HRV := Lib.hid hrv
  have PV3 := Lib.hid (show pv.length = 3 by rw [hpv]; rfl)
  have PV1 := Lib.hid (show ∀ u ∈ pv, u.oneCell' = true by rw [hpv]; exact rpc_one p)
  have RV2 := Lib.hid (show rv.length = 2 by rw [hrv]; rfl)
  have RV1 := Lib.hid (show ∀ u ∈ rv, u.oneCell' = true by rw [hrv]; exact rmc_one _ rfl)
  have HWB := Lib.hid hwb.symm
  have HN := Lib.hid hn
  have HBT := Lib.hid hB
  have HS := Lib.hid hs
  have HPB := Lib.hid hpb.symm
  have HRB := Lib.hid hrb.symm
  have HPR := Lib.hid hpr.symm
  have HRR := Lib.hid hrr.symm
  have HP := Lib.hid hp
  have RC := Lib.hid (hr.below AM0.out.b (Nat.le_refl _))
  have HLN := Lib.hid hr.1
  have hlm := hr.2.1
  have hlx := hr.2.2.1
  unfold maxLen at hlx
  have HV := Lib.hid hr.2.2.2.1
  rw [show p.v = .agg pv.toArray from by rw [hpv]; rfl, show rmv size (.slice a n c) = .agg rv.toArray from by rw [hrv]; rfl]
  clear hwb hn hB hs hpv hrv hpb hrb hpr hrr hp hr
  go_enter Try.func25, Try.ntmps25
  go_upto_region 1 with (fail)
  rw [show (#[Value.bool false, Value.int .i64 0, Value.int .i64 0] : Array Value) = zpw.toArray from rfl, show (#[Value.int .i64 0, Value.slice none 0 0] : Array Value) = zrm.toArray from rfl, HWB.out, HRR.out, HPR.out, HRB.out, HPB.out]
  go_wp2_with fail
  go_loopw [9] (fun i wr => ∃ k : Nat, k ≤ ln ∧ i = .int .i64 k ∧ (∀ j x, j < k → rs[j]? = some x → x.Good) ∧ Below wb.heap.size wb wr) (fun i _ => ln - (intOf i).toNat)
  case atStart => exact ⟨0, Nat.zero_le _, rfl, (fun j x hj => by omega), Below.refl _ _⟩
  case round =>
    obtain ⟨k, hk, rfl, hgood, hbr⟩ := hrel
    have HG := Lib.hid hgood
    have BR := Lib.hid hbr
    have AMr := Lib.hid (AM0.out.below hbr)
    clear hgood hbr
    by_cases hkn : k < ln
    · obtain ⟨x, hx⟩ : ∃ x, rs[k]? = some x := ⟨_, List.getElem?_eq_getElem (by rw [HLN.out]; exact hkn)⟩
      have hxv := HV.out x (List.mem_of_getElem? hx)
      obtain ⟨ab, ao, rfl, hcl⟩ := (RC.out.2.2.2.2).resolve_left (by omega)
      have HAT := Lib.hid (show ∀ j v, x.cells[j]? = some v → wr.cell? ((⟨ab, ao + k * 19, none⟩ : Addr).add j) = some v from rec_at HV.out (fun j u hu => (BR.out.cell (p := ⟨ab, ao + j, none⟩) (block_lt_of_cell (hcl j u hu))).trans (hcl j u hu)) hx)
      have x19 := Lib.hid (Rc.len hxv)
      have HX := Lib.hid hx
      have k0 : (0 : Int) ≤ (k : Int) := by omega
      have k1 : (k : Int) < (ln : Int) := by omega
      clear hcl hx hxv
      by_cases hg : x.Good
      · have OKC := Lib.hid (ok_yes hg wr)
        go_wp2_with (first | (refine wpList_value_g rfl (.agg x.cells.toArray) (exec_load_from rfl rfl (HAT.out) Try.underlying27 rfl (by kernel_rfl) x19.out) ?_) | (go_at_call 13; refine OKC.out.mono ?_; rintro e w5 ⟨rfl, hb5⟩; have B5 := Lib.hid hb5; clear hb5))
        refine ⟨⟨k + 1, by omega, by go_num, fun j y hj hy => ?_, BR.out.trans (B5.out.mono BR.out.size)⟩, ?_⟩
        · by_cases hjk : j = k
          · subst hjk; rw [HX.out] at hy; cases hy; exact hg
          · exact HG.out j y (by omega) hy
        · simp [intOf]; omega
      · have OKC := Lib.hid (ok_no hg wr)
        have RES := Lib.hid (show p.load size B rs = (2, p, B) from by unfold Rp.load; rw [if_pos ⟨x, List.mem_of_getElem? HX.out, hg⟩])
        go_upto_region 5 with (first | (refine wpList_value_g rfl (.agg x.cells.toArray) (exec_load_from rfl rfl (HAT.out) Try.underlying27 rfl (by kernel_rfl) x19.out) ?_) | (go_at_call 13; refine OKC.out.mono ?_; rintro e w5 ⟨rfl, hb5⟩; have B5 := Lib.hid hb5; clear hb5))
        have AM5 := Lib.hid (AMr.out.below B5.out).drew
        clear HAT HX HG k0 k1 hg
        obtain ⟨W1, hW1⟩ : ∃ W1, W1 = w5.drew.setRow pr pv.toArray := ⟨_, rfl⟩
        have A1 := Lib.hid (show Am1 w W1 p size (.slice a n c) rb pr rr from by rw [hW1, HPV.out]; exact AM5.out.one p)
        have HW1 := Lib.hid hW1
        clear hW1
        have KP := Lib.hid (show Blk w5.drew pb pv 50 ∧ Blk W1 rr zrm 48 ∧ Blk w5.drew pr zpw 50 from ⟨by rw [HPV.out]; exact AM5.out.p, A1.out.zr, AM5.out.zp⟩)
        have KR := Lib.hid (show ∀ d w', At2 3 100 (fun w' => w' = w5.drew) (fun w' => w' = W1) (fun w' => False) d w' → Blk w' rb rv 48 from fun d w' h => by
          rcases h.any with rfl | rfl | h
          · rw [HRV.out]; exact AM5.out.r
          · rw [HRV.out]; exact A1.out.r
          · exact h.elim)
        have KQ := Lib.hid (show ∀ d w', At2 3 100 (fun w' => w' = w5.drew) (fun w' => w' = W1) (fun w' => False) d w' → Blk w' pb pv 50 from fun d w' h => by
          rcases h.any with rfl | rfl | h
          · exact KP.out.1
          · rw [HW1.out]; exact KP.out.1.grown (grown_setRow _ _ _) (Ne.symm AM5.out.l2.1)
          · exact h.elim)
        refine wp_region_gate_tail (fun d w' => At2 3 100 (fun w' => w' = w5.drew) (fun w' => w' = W1) (fun w' => False) d w') 4 (by kernel_rfl) (by kernel_rfl) ?hI ?_
        case hI => exact At2.start (by rfl) (by rfl) rfl
        simp only [List.take_succ_cons, List.take_zero, List.drop_succ_cons, List.drop_zero]
        refine InvC.invc_value (.agg pv.toArray) (fun u hu => by cases hu) rfl (fun d w' _ _ h => by exact exec_load rfl rfl (KQ.out d w' h) Try.underlying50 rfl (by kernel_rfl) PV3.out) (fun d w' _ _ h => At2.keep (by decide) (by decide) h) ?_
        simp only [Act.put, List.setIfInBounds_toArray, List.set_cons_zero, List.set_cons_succ]
        refine InvC.invc_value (.agg rv.toArray) (fun u hu => by cases hu) rfl (fun d w' _ _ h => by exact exec_load rfl rfl (KR.out d w' h) Try.underlying48 rfl (by kernel_rfl) RV2.out) (fun d w' _ _ h => At2.keep (by decide) (by decide) h) ?_
        simp only [Act.put, List.setIfInBounds_toArray, List.set_cons_zero, List.set_cons_succ]
        refine InvC.invc_value (.int .i64 2) (fun u hu => by cases hu) rfl (fun d w' _ _ h => by go_simp; all_goals rfl) (fun d w' _ _ h => At2.keep (by decide) (by decide) h) ?_
        simp only [Act.put, List.setIfInBounds_toArray, List.set_cons_zero, List.set_cons_succ]
        refine invc_skip (fun u hu => by cases hu) rfl (fun d w' hd hG h => ⟨W1, by
          have e := (h.at_p hd).1
          subst e
          refine (exec_store_row (g := pr) (off := 0) (cs := zpw) (vs := pv) (m := 3) rfl rfl rfl KP.out.2.2 (by kernel_rfl) PV3.out (by decide) PV1.out).trans ?_
          rw [put_all _ _ (by rw [PV3.out]; rfl), HW1.out], At2.did_p (by decide) hd h rfl⟩) ?_
        simp only [Act.put, List.setIfInBounds_toArray, List.set_cons_zero, List.set_cons_succ]
        refine InvC.invc_nil fun w8 h8 => ?_
        have e8 : w8 = W1 := by
          rcases h8.any with h | h | h
          · have := h8; unfold At2 at this; rw [if_neg (by decide), if_pos (by rfl)] at this; exact this
          · exact h
          · exact h.elim
        subst e8
        clear h8 KR KQ HW1
        go_wp2_with (refine wpList_store_blk rfl 48 _ _ rfl rr 0 2 rfl 48 zrm rv rfl KP.out.2.1 (by kernel_rfl) RV2.out (by decide) RV1.out ?_; intro w9 z9 g9; rw [put_all _ _ (by rw [RV2.out]; rfl)] at z9; have Z9 := Lib.hid z9; have G9 := Lib.hid g9; clear z9 g9)
        exact bodyPost_ret (v := .tuple #[.int .i64 2, .agg pv.toArray, .agg rv.toArray]) (results_three_cell rfl _ _ pr rr 50 48 _ _ (0, 0) (0, 0) _ _ _ rfl rfl rfl (by have := A1.out.zp.grown G9.out A1.out.l2; rw [← HPV.out] at this; exact this) Z9.out Try.underlying50 rfl (by rw [List.size_toArray, PV3.out]; kernel_rfl) Try.underlying48 rfl (by rw [List.size_toArray, RV2.out]; kernel_rfl)) rfl ⟨.slice a n c, by rw [RES.out, HPV.out, HRV.out]; rfl, by rw [RES.out]; exact ⟨by rw [← HN.out]; exact own_only HS.out (Only.of_below (S := []) (below_grown A1.out.b G9.out A1.out.b.size A1.out.l1)) (by simp), .inl rfl⟩, below_grown A1.out.b G9.out A1.out.b.size A1.out.l1⟩
    · have hkl : k = ln := by omega
      subst hkl
      have hall : ¬ ∃ r ∈ rs, ¬ r.Good := by
        rintro ⟨r, hr, hng⟩
        obtain ⟨j, hj, e⟩ := List.getElem_of_mem hr
        exact hng (HG.out j r (by rw [← HLN.out]; exact hj) (by rw [List.getElem?_eq_getElem hj, e]))
      have HALL := Lib.hid hall
      clear hall HG
      obtain ⟨w5, hw5⟩ : ∃ x, x = wr := ⟨_, rfl⟩
      rw [← hw5] at AMr BR ⊢
      clear hw5
      by_cases hoff : p.off = true
      · have RES := Lib.hid (show p.load size B rs = (4, p, B) from by unfold Rp.load; rw [if_neg HALL.out, if_pos hoff])
        have c0 : w5.cell? ⟨pb, 0, none⟩ = some (.bool true) := by rw [← hoff]; exact AMr.out.p.cell 0
        have AM6 := Lib.hid AMr.out.drew
        clear hoff
        go_upto_region 7 with (fail)
        obtain ⟨W1, hW1⟩ : ∃ W1, W1 = w5.drew.setRow pr pv.toArray := ⟨_, rfl⟩
        have A1 := Lib.hid (show Am1 w W1 p size (.slice a n c) rb pr rr from by rw [hW1, HPV.out]; exact AM6.out.one p)
        have HW1 := Lib.hid hW1
        clear hW1
        have KP := Lib.hid (show Blk w5.drew pb pv 50 ∧ Blk W1 rr zrm 48 ∧ Blk w5.drew pr zpw 50 from ⟨by rw [HPV.out]; exact AM6.out.p, A1.out.zr, AM6.out.zp⟩)
        have KR := Lib.hid (show ∀ d w', At2 3 100 (fun w' => w' = w5.drew) (fun w' => w' = W1) (fun w' => False) d w' → Blk w' rb rv 48 from fun d w' h => by
          rcases h.any with rfl | rfl | h
          · rw [HRV.out]; exact AM6.out.r
          · rw [HRV.out]; exact A1.out.r
          · exact h.elim)
        have KQ := Lib.hid (show ∀ d w', At2 3 100 (fun w' => w' = w5.drew) (fun w' => w' = W1) (fun w' => False) d w' → Blk w' pb pv 50 from fun d w' h => by
          rcases h.any with rfl | rfl | h
          · exact KP.out.1
          · rw [HW1.out]; exact KP.out.1.grown (grown_setRow _ _ _) (Ne.symm AM6.out.l2.1)
          · exact h.elim)
        refine wp_region_gate_tail (fun d w' => At2 3 100 (fun w' => w' = w5.drew) (fun w' => w' = W1) (fun w' => False) d w') 4 (by kernel_rfl) (by kernel_rfl) ?hI ?_
        case hI => exact At2.start (by rfl) (by rfl) rfl
        simp only [List.take_succ_cons, List.take_zero, List.drop_succ_cons, List.drop_zero]
        refine InvC.invc_value (.agg pv.toArray) (fun u hu => by cases hu) rfl (fun d w' _ _ h => by exact exec_load rfl rfl (KQ.out d w' h) Try.underlying50 rfl (by kernel_rfl) PV3.out) (fun d w' _ _ h => At2.keep (by decide) (by decide) h) ?_
        simp only [Act.put, List.setIfInBounds_toArray, List.set_cons_zero, List.set_cons_succ]
        refine InvC.invc_value (.agg rv.toArray) (fun u hu => by cases hu) rfl (fun d w' _ _ h => by exact exec_load rfl rfl (KR.out d w' h) Try.underlying48 rfl (by kernel_rfl) RV2.out) (fun d w' _ _ h => At2.keep (by decide) (by decide) h) ?_
        simp only [Act.put, List.setIfInBounds_toArray, List.set_cons_zero, List.set_cons_succ]
        refine InvC.invc_value (.int .i64 4) (fun u hu => by cases hu) rfl (fun d w' _ _ h => by go_simp; all_goals rfl) (fun d w' _ _ h => At2.keep (by decide) (by decide) h) ?_
        simp only [Act.put, List.setIfInBounds_toArray, List.set_cons_zero, List.set_cons_succ]
        refine invc_skip (fun u hu => by cases hu) rfl (fun d w' hd hG h => ⟨W1, by
          have e := (h.at_p hd).1
          subst e
          refine (exec_store_row (g := pr) (off := 0) (cs := zpw) (vs := pv) (m := 3) rfl rfl rfl KP.out.2.2 (by kernel_rfl) PV3.out (by decide) PV1.out).trans ?_
          rw [put_all _ _ (by rw [PV3.out]; rfl), HW1.out], At2.did_p (by decide) hd h rfl⟩) ?_
        simp only [Act.put, List.setIfInBounds_toArray, List.set_cons_zero, List.set_cons_succ]
        refine InvC.invc_nil fun w8 h8 => ?_
        have e8 : w8 = W1 := by
          rcases h8.any with h | h | h
          · have := h8; unfold At2 at this; rw [if_neg (by decide), if_pos (by rfl)] at this; exact this
          · exact h
          · exact h.elim
        subst e8
        clear h8 KR KQ HW1
        go_wp2_with (refine wpList_store_blk rfl 48 _ _ rfl rr 0 2 rfl 48 zrm rv rfl KP.out.2.1 (by kernel_rfl) RV2.out (by decide) RV1.out ?_; intro w9 z9 g9; rw [put_all _ _ (by rw [RV2.out]; rfl)] at z9; have Z9 := Lib.hid z9; have G9 := Lib.hid g9; clear z9 g9)
        exact bodyPost_ret (v := .tuple #[.int .i64 4, .agg pv.toArray, .agg rv.toArray]) (results_three_cell rfl _ _ pr rr 50 48 _ _ (0, 0) (0, 0) _ _ _ rfl rfl rfl (by have := A1.out.zp.grown G9.out A1.out.l2; rw [← HPV.out] at this; exact this) Z9.out Try.underlying50 rfl (by rw [List.size_toArray, PV3.out]; kernel_rfl) Try.underlying48 rfl (by rw [List.size_toArray, RV2.out]; kernel_rfl)) rfl ⟨.slice a n c, by rw [RES.out, HPV.out, HRV.out]; rfl, by rw [RES.out]; exact ⟨by rw [← HN.out]; exact own_only HS.out (Only.of_below (S := []) (below_grown A1.out.b G9.out A1.out.b.size A1.out.l1)) (by simp), .inl rfl⟩, below_grown A1.out.b G9.out A1.out.b.size A1.out.l1⟩
      · have hoff' : p.off = false := by simpa using hoff
        have c0 : w5.cell? ⟨pb, 0, none⟩ = some (.bool false) := by rw [← hoff']; exact AMr.out.p.cell 0
        have r0 : w5.cell? ⟨rb, 0, none⟩ = some (.int .i64 (size : Int)) := AMr.out.r.cell 0
        have hq : (size : Int).tdiv 37 = ((size / 37 : Nat) : Int) := rfl
        by_cases hful : size / 37 < k
        · have RES := Lib.hid (show p.load size B rs = (9, p, B) from by unfold Rp.load; rw [if_neg HALL.out, if_neg hoff, if_pos (by rw [HLN.out]; exact hful)])
          have hf1 : (size : Int) < 37 * (k : Int) := by omega
          have AM6 := Lib.hid AMr.out.drew
          clear hoff hoff'
          go_upto_region 9 with (fail)
          obtain ⟨W1, hW1⟩ : ∃ W1, W1 = w5.drew.setRow pr pv.toArray := ⟨_, rfl⟩
          have A1 := Lib.hid (show Am1 w W1 p size (.slice a n c) rb pr rr from by rw [hW1, HPV.out]; exact AM6.out.one p)
          have HW1 := Lib.hid hW1
          clear hW1
          have KP := Lib.hid (show Blk w5.drew pb pv 50 ∧ Blk W1 rr zrm 48 ∧ Blk w5.drew pr zpw 50 from ⟨by rw [HPV.out]; exact AM6.out.p, A1.out.zr, AM6.out.zp⟩)
          have KR := Lib.hid (show ∀ d w', At2 3 100 (fun w' => w' = w5.drew) (fun w' => w' = W1) (fun w' => False) d w' → Blk w' rb rv 48 from fun d w' h => by
            rcases h.any with rfl | rfl | h
            · rw [HRV.out]; exact AM6.out.r
            · rw [HRV.out]; exact A1.out.r
            · exact h.elim)
          have KQ := Lib.hid (show ∀ d w', At2 3 100 (fun w' => w' = w5.drew) (fun w' => w' = W1) (fun w' => False) d w' → Blk w' pb pv 50 from fun d w' h => by
            rcases h.any with rfl | rfl | h
            · exact KP.out.1
            · rw [HW1.out]; exact KP.out.1.grown (grown_setRow _ _ _) (Ne.symm AM6.out.l2.1)
            · exact h.elim)
          refine wp_region_gate_tail (fun d w' => At2 3 100 (fun w' => w' = w5.drew) (fun w' => w' = W1) (fun w' => False) d w') 4 (by kernel_rfl) (by kernel_rfl) ?hI ?_
          case hI => exact At2.start (by rfl) (by rfl) rfl
          simp only [List.take_succ_cons, List.take_zero, List.drop_succ_cons, List.drop_zero]
          refine InvC.invc_value (.agg pv.toArray) (fun u hu => by cases hu) rfl (fun d w' _ _ h => by exact exec_load rfl rfl (KQ.out d w' h) Try.underlying50 rfl (by kernel_rfl) PV3.out) (fun d w' _ _ h => At2.keep (by decide) (by decide) h) ?_
          simp only [Act.put, List.setIfInBounds_toArray, List.set_cons_zero, List.set_cons_succ]
          refine InvC.invc_value (.agg rv.toArray) (fun u hu => by cases hu) rfl (fun d w' _ _ h => by exact exec_load rfl rfl (KR.out d w' h) Try.underlying48 rfl (by kernel_rfl) RV2.out) (fun d w' _ _ h => At2.keep (by decide) (by decide) h) ?_
          simp only [Act.put, List.setIfInBounds_toArray, List.set_cons_zero, List.set_cons_succ]
          refine InvC.invc_value (.int .i64 9) (fun u hu => by cases hu) rfl (fun d w' _ _ h => by go_simp; all_goals rfl) (fun d w' _ _ h => At2.keep (by decide) (by decide) h) ?_
          simp only [Act.put, List.setIfInBounds_toArray, List.set_cons_zero, List.set_cons_succ]
          refine invc_skip (fun u hu => by cases hu) rfl (fun d w' hd hG h => ⟨W1, by
            have e := (h.at_p hd).1
            subst e
            refine (exec_store_row (g := pr) (off := 0) (cs := zpw) (vs := pv) (m := 3) rfl rfl rfl KP.out.2.2 (by kernel_rfl) PV3.out (by decide) PV1.out).trans ?_
            rw [put_all _ _ (by rw [PV3.out]; rfl), HW1.out], At2.did_p (by decide) hd h rfl⟩) ?_
          simp only [Act.put, List.setIfInBounds_toArray, List.set_cons_zero, List.set_cons_succ]
          refine InvC.invc_nil fun w8 h8 => ?_
          have e8 : w8 = W1 := by
            rcases h8.any with h | h | h
            · have := h8; unfold At2 at this; rw [if_neg (by decide), if_pos (by rfl)] at this; exact this
            · exact h
            · exact h.elim
          subst e8
          clear h8 KR KQ HW1
          go_wp2_with (refine wpList_store_blk rfl 48 _ _ rfl rr 0 2 rfl 48 zrm rv rfl KP.out.2.1 (by kernel_rfl) RV2.out (by decide) RV1.out ?_; intro w9 z9 g9; rw [put_all _ _ (by rw [RV2.out]; rfl)] at z9; have Z9 := Lib.hid z9; have G9 := Lib.hid g9; clear z9 g9)
          exact bodyPost_ret (v := .tuple #[.int .i64 9, .agg pv.toArray, .agg rv.toArray]) (results_three_cell rfl _ _ pr rr 50 48 _ _ (0, 0) (0, 0) _ _ _ rfl rfl rfl (by have := A1.out.zp.grown G9.out A1.out.l2; rw [← HPV.out] at this; exact this) Z9.out Try.underlying50 rfl (by rw [List.size_toArray, PV3.out]; kernel_rfl) Try.underlying48 rfl (by rw [List.size_toArray, RV2.out]; kernel_rfl)) rfl ⟨.slice a n c, by rw [RES.out, HPV.out, HRV.out]; rfl, by rw [RES.out]; exact ⟨by rw [← HN.out]; exact own_only HS.out (Only.of_below (S := []) (below_grown A1.out.b G9.out A1.out.b.size A1.out.l1)) (by simp), .inl rfl⟩, below_grown A1.out.b G9.out A1.out.b.size A1.out.l1⟩
        · have hf1 : 37 * (k : Int) ≤ (size : Int) := by omega
          obtain ⟨ok, hok⟩ : ∃ b, b = p.step.1 := ⟨_, rfl⟩
          obtain ⟨qv, hqv⟩ : ∃ l, l = p.step.2.c := ⟨_, rfl⟩
          have ST := Lib.hid (rstep_any p HP.out w5)
          rw [show p.v = .agg pv.toArray from by rw [HPV.out]; rfl, ← hok, show p.step.2.v = .agg qv.toArray from by rw [hqv]; rfl] at ST
          have QV3 := Lib.hid (show qv.length = 3 by rw [hqv]; rfl)
          have QV1 := Lib.hid (show ∀ u ∈ qv, u.oneCell' = true by rw [hqv]; exact rpc_one _)
          have HQV := Lib.hid hqv
          have HOK := Lib.hid hok
          have KP5 := Lib.hid (show Blk w5 pb pv 50 from by rw [HPV.out]; exact AMr.out.p)
          clear hqv hok
          go_upto_region 11 with (first | (refine wpList_value_g rfl (.agg pv.toArray) (exec_load rfl rfl KP5.out Try.underlying50 rfl (by kernel_rfl) PV3.out) ?_) | (go_at_call 39; refine ST.out.mono ?_; rintro e w6 ⟨rfl, hb6⟩; have B6 := Lib.hid hb6; clear hb6; have ZQ := Lib.hid (blk_at (w := w6) (g := w6.heap.size) (cs := zpw) (t := 50) (arr := #[Value.bool false, Value.int .i64 0, Value.int .i64 0]) rfl rfl)) | (refine wpList_store_blk rfl 50 _ _ rfl w6.heap.size 0 3 rfl 50 zpw qv rfl ZQ.out (by kernel_rfl) QV3.out (by decide) QV1.out ?_; intro w7 z7 g7; rw [put_all _ _ (by rw [QV3.out]; rfl)] at z7; have Z7 := Lib.hid z7; have G7 := Lib.hid g7; clear z7 g7))
          have b7 := below_grown ((Below.refl w6.heap.size w6).alloc (Nat.le_refl _) _) G7.out (by simp) (Nat.le_refl _)
          obtain ⟨qb, hqb⟩ : ∃ b, b = w6.heap.size := ⟨_, rfl⟩
          have AM7 := Lib.hid ((AMr.out.below B6.out).below b7)
          have Z7q := Lib.hid (show Blk w7 qb qv 50 from by rw [hqb]; exact Z7.out)
          have B57 := Lib.hid (show Below w5.heap.size w5 w7 from B6.out.trans (b7.mono B6.out.size))
          have LQ := Lib.hid (show qb < w7.heap.size ∧ w.heap.size ≤ w7.heap.size ∧ pb < w7.heap.size ∧ rb < w7.heap.size ∧ pr < w7.heap.size ∧ rr < w7.heap.size ∧ pr < qb ∧ rr < qb from by
            have q1 := AMr.out.zp.lt
            have q2 := AMr.out.zr.lt
            have q3 := B6.out.size
            exact ⟨Z7q.out.lt, AM7.out.b.size, AM7.out.p.lt, AM7.out.r.lt, AM7.out.zp.lt, AM7.out.zr.lt, by omega, by omega⟩)
          rw [← hqb]
          clear r0 c0 b7 hqb Z7 G7 ZQ KP5 ST hq
          simp only [Act.put]
          cases ok
          · have RES := Lib.hid (show p.load size B rs = (4, p.step.2, B) from by unfold Rp.load; rw [if_neg HALL.out, if_neg hoff, if_neg (by rw [HLN.out]; exact hful), if_neg (by rw [← HOK.out]; decide)])
            have AMd := Lib.hid AM7.out.drew
            clear hoff hoff' hful
            go_upto_region 12 with (fail)
            obtain ⟨W1, hW1⟩ : ∃ W1, W1 = w7.drew.setRow pr qv.toArray := ⟨_, rfl⟩
            have A1 := Lib.hid (show Am1 w W1 p.step.2 size (.slice a n c) rb pr rr from by rw [hW1, HQV.out]; exact AMd.out.one p.step.2)
            have HW1 := Lib.hid hW1
            clear hW1
            have KP := Lib.hid (show Blk w7.drew qb qv 50 ∧ Blk W1 rr zrm 48 ∧ Blk w7.drew pr zpw 50 from ⟨Z7q.out.drew, A1.out.zr, AMd.out.zp⟩)
            have KR := Lib.hid (show ∀ d w', At2 3 100 (fun w' => w' = w7.drew) (fun w' => w' = W1) (fun w' => False) d w' → Blk w' rb rv 48 from fun d w' h => by
              rcases h.any with rfl | rfl | h
              · rw [HRV.out]; exact AMd.out.r
              · rw [HRV.out]; exact A1.out.r
              · exact h.elim)
            have KQ := Lib.hid (show ∀ d w', At2 3 100 (fun w' => w' = w7.drew) (fun w' => w' = W1) (fun w' => False) d w' → Blk w' qb qv 50 from fun d w' h => by
              rcases h.any with rfl | rfl | h
              · exact KP.out.1
              · rw [HW1.out]; exact KP.out.1.grown (grown_setRow _ _ _) (by have := LQ.out; omega)
              · exact h.elim)
            refine wp_region_gate_tail (fun d w' => At2 3 100 (fun w' => w' = w7.drew) (fun w' => w' = W1) (fun w' => False) d w') 4 (by kernel_rfl) (by kernel_rfl) ?hI ?_
            case hI => exact At2.start (by rfl) (by rfl) rfl
            simp only [List.take_succ_cons, List.take_zero, List.drop_succ_cons, List.drop_zero]
            refine InvC.invc_value (.agg qv.toArray) (fun u hu => by cases hu) rfl (fun d w' _ _ h => by exact exec_load rfl rfl (KQ.out d w' h) Try.underlying50 rfl (by kernel_rfl) QV3.out) (fun d w' _ _ h => At2.keep (by decide) (by decide) h) ?_
            simp only [Act.put, List.setIfInBounds_toArray, List.set_cons_zero, List.set_cons_succ]
            refine InvC.invc_value (.agg rv.toArray) (fun u hu => by cases hu) rfl (fun d w' _ _ h => by exact exec_load rfl rfl (KR.out d w' h) Try.underlying48 rfl (by kernel_rfl) RV2.out) (fun d w' _ _ h => At2.keep (by decide) (by decide) h) ?_
            simp only [Act.put, List.setIfInBounds_toArray, List.set_cons_zero, List.set_cons_succ]
            refine InvC.invc_value (.int .i64 4) (fun u hu => by cases hu) rfl (fun d w' _ _ h => by go_simp; all_goals rfl) (fun d w' _ _ h => At2.keep (by decide) (by decide) h) ?_
            simp only [Act.put, List.setIfInBounds_toArray, List.set_cons_zero, List.set_cons_succ]
            refine invc_skip (fun u hu => by cases hu) rfl (fun d w' hd hG h => ⟨W1, by
              have e := (h.at_p hd).1
              subst e
              refine (exec_store_row (g := pr) (off := 0) (cs := zpw) (vs := qv) (m := 3) rfl rfl rfl KP.out.2.2 (by kernel_rfl) QV3.out (by decide) QV1.out).trans ?_
              rw [put_all _ _ (by rw [QV3.out]; rfl), HW1.out], At2.did_p (by decide) hd h rfl⟩) ?_
            simp only [Act.put, List.setIfInBounds_toArray, List.set_cons_zero, List.set_cons_succ]
            refine InvC.invc_nil fun w8 h8 => ?_
            have e8 : w8 = W1 := by
              rcases h8.any with h | h | h
              · have := h8; unfold At2 at this; rw [if_neg (by decide), if_pos (by rfl)] at this; exact this
              · exact h
              · exact h.elim
            subst e8
            clear h8 KR KQ HW1
            go_wp2_with (refine wpList_store_blk rfl 48 _ _ rfl rr 0 2 rfl 48 zrm rv rfl KP.out.2.1 (by kernel_rfl) RV2.out (by decide) RV1.out ?_; intro w9 z9 g9; rw [put_all _ _ (by rw [RV2.out]; rfl)] at z9; have Z9 := Lib.hid z9; have G9 := Lib.hid g9; clear z9 g9)
            exact bodyPost_ret (v := .tuple #[.int .i64 4, .agg qv.toArray, .agg rv.toArray]) (results_three_cell rfl _ _ pr rr 50 48 _ _ (0, 0) (0, 0) _ _ _ rfl rfl rfl (by have := A1.out.zp.grown G9.out A1.out.l2; rw [← HQV.out] at this; exact this) Z9.out Try.underlying50 rfl (by rw [List.size_toArray, QV3.out]; kernel_rfl) Try.underlying48 rfl (by rw [List.size_toArray, RV2.out]; kernel_rfl)) rfl ⟨.slice a n c, by rw [RES.out, HQV.out, HRV.out]; rfl, by rw [RES.out]; exact ⟨by rw [← HN.out]; exact own_only HS.out (Only.of_below (S := []) (below_grown A1.out.b G9.out A1.out.b.size A1.out.l1)) (by simp), .inl rfl⟩, below_grown A1.out.b G9.out A1.out.b.size A1.out.l1⟩
          · have RES := Lib.hid (show p.load size B rs = (0, p.step.2, laidAll rs) from by unfold Rp.load; rw [if_neg HALL.out, if_neg hoff, if_neg (by rw [HLN.out]; exact hful), if_pos HOK.out.symm])
            have hk37 : 37 * k ≤ size := by omega
            have RC7 := Lib.hid (RC.out.below ((BR.out.trans (B57.out.mono BR.out.size))) (Nat.le_refl _))
            clear hoff hoff' hful
            obtain ⟨wa, hwa⟩ : ∃ x, x = w7.alloc (.cells #[] 5) := ⟨_, rfl⟩
            have ba : Below w7.heap.size w7 wa := hwa ▸ (Below.refl _ _).alloc (Nat.le_refl _) _
            have za : Blk wa w7.heap.size [] 5 := by rw [hwa]; exact blk_at rfl rfl
            have own0 : wa.ownsRow w7.heap.size 5 1 (.slice (some ⟨w7.heap.size, 0, none⟩) 0 0) 0 ([] : List Value) := ⟨by simp, .inr ⟨w7.heap.size, 0, #[], rfl, Nat.le_refl _, za, Nat.le_refl _, by unfold maxLen; omega, by simp, by simp⟩⟩
            have O0 := Lib.hid own0
            have BA := Lib.hid ba
            have HWA := Lib.hid hwa.symm
            clear hwa ba za own0
            go_upto_region 14 with (fail)
            rw [HWA.out]
            go_wp2_with fail
            go_loopw [13, 12] (fun i v ww => ∃ j : Nat, j ≤ k ∧ i = .int .i64 j ∧ (∃ a c, v = .slice a (37 * j) c) ∧ ww.ownsRow w7.heap.size 5 1 v (37 * j) (bv (laidAll (rs.take j))) ∧ Below w7.heap.size w7 ww) (fun i _ _ => k - (intOf i).toNat)
            case atStart => exact ⟨0, Nat.zero_le _, rfl, ⟨_, _, rfl⟩, O0.out, BA.out⟩
            case round =>
              obtain ⟨j, hj, rfl, ⟨aa, ac, rfl⟩, hoj, hbj⟩ := hrel
              have OJ := Lib.hid hoj
              have BJ := Lib.hid hbj
              clear hoj hbj
              by_cases hjk : j < k
              · obtain ⟨x, hx⟩ : ∃ x, rs[j]? = some x := ⟨_, List.getElem?_eq_getElem (by rw [HLN.out]; exact hjk)⟩
                have hxv := HV.out x (List.mem_of_getElem? hx)
                have hxg : x.Good := Classical.byContradiction fun h => HALL.out ⟨x, List.mem_of_getElem? hx, h⟩
                obtain ⟨ab, ao, rfl, hcl⟩ := (RC7.out.2.2.2.2).resolve_left (by omega)
                obtain ⟨wj, hwj⟩ : ∃ x, x = wr := ⟨_, rfl⟩
                rw [← hwj] at OJ BJ ⊢
                clear hwj
                have HAT := Lib.hid (show ∀ j' v, x.cells[j']? = some v → wj.cell? ((⟨ab, ao + j * 19, none⟩ : Addr).add j') = some v from rec_at HV.out (fun j u hu => (BJ.out.cell (p := ⟨ab, ao + j, none⟩) (block_lt_of_cell (hcl j u hu))).trans (hcl j u hu)) hx)
                have x19 := Lib.hid (Rc.len hxv)
                have PKC := Lib.hid (rpack_good hxv hxg wj)
                have HX := Lib.hid hx
                have k0 : (0 : Int) ≤ (j : Int) := by omega
                have k1 : (j : Int) < (k : Int) := by omega
                clear hcl hx hxv hxg
                go_upto_region 18 with (first | (refine wpList_value_g rfl (.agg x.cells.toArray) (exec_load_from rfl rfl (HAT.out) Try.underlying27 rfl (by kernel_rfl) x19.out) ?_) | (go_at_call 38; refine PKC.out.mono ?_; rintro e w8 ⟨pa, pc, rfl, hpt, hb8⟩; have PT := Lib.hid hpt; have B8 := Lib.hid hb8; clear hpt hb8))
                have hoj8 : w8.ownsRow w7.heap.size 5 1 (.slice aa (37 * j) ac) (37 * j) (bv (laidAll (rs.take j))) := own_only OJ.out (Only.of_below (S := []) B8.out) (by simp)
                have hbj8 := BJ.out.trans (B8.out.mono BJ.out.size)
                obtain ⟨aE, cE, wE, hrE, hoE, hbE⟩ := grow_own hoj8 PT.out (by omega) hbj8.size
                have HRE := Lib.hid hrE
                have OE := Lib.hid (show wE.ownsRow w7.heap.size 5 1 (.slice aE (37 * (j + 1)) cE) (37 * (j + 1)) (bv (laidAll (rs.take (j + 1)))) from by
                  rw [take_snoc rs j x HX.out, laid_one, Nat.mul_succ]
                  exact hoE)
                have BE := Lib.hid (hbj8.trans hbE)
                clear hoj8 hbj8 hrE hoE hbE
                go_wp2_with (at_builtin; refine wpList_world_gg rfl (.slice aE (37 * j + 37) cE) (w' := wE) (exec_append _ _ rfl rfl rfl HRE.out) ?_)
                refine ⟨⟨j + 1, by omega, by go_num, ⟨aE, cE, rfl⟩, OE.out, BE.out⟩, ?_⟩
                simp [intOf]; omega
              · have hjk' : j = k := by omega
                subst hjk'
                rw [List.take_of_length_le (by rw [HLN.out]; exact Nat.le_refl _)] at OJ
                obtain ⟨w9, hw9⟩ : ∃ x, x = wr := ⟨_, rfl⟩
                rw [← hw9] at OJ BJ ⊢
                clear hw9
                obtain ⟨L37, hL37⟩ : ∃ x, x = 37 * j := ⟨_, rfl⟩
                have AM9 := Lib.hid (AM7.out.below BJ.out).drew
                have QB9 := Lib.hid (Z7q.out.below BJ.out Z7q.out.lt).drew
                have O9 := Lib.hid (show w9.drew.ownsRow w7.heap.size 5 1 (.slice aa (37 * j) ac) (37 * j) (bv (laidAll rs)) from OJ.out)
                rw [← hL37] at O9 ⊢
                have H37 := Lib.hid hL37
                clear hL37 OJ BJ RC7
                go_upto_region 19 with (fail)
                obtain ⟨W1, hW1⟩ : ∃ W1, W1 = w9.drew.setRow pr qv.toArray := ⟨_, rfl⟩
                have gW : w9.drew.grownBy W1 (some pr) := by rw [hW1]; exact grown_setRow _ _ _
                have A1 := Lib.hid (show Am1 w W1 p.step.2 size (.slice a n c) rb pr rr from by rw [hW1, HQV.out]; exact AM9.one p.step.2)
                have OE := Lib.hid (show W1.ownsRow w7.heap.size 5 1 (.slice aa L37 ac) L37 (bv (laidAll rs)) from own_only O9.out (Only.of_grown gW) (fun g hg => by have := (own_lt O9.out hg).1; have := LQ.out; simp only [List.mem_singleton]; omega))
                have KQ := Lib.hid (show ∀ d w', At2 6 100 (fun w' => w' = w9.drew) (fun w' => w' = W1) (fun w' => False) d w' → Blk w' qb qv 50 from fun d w' h => by
                  rcases h.any with rfl | rfl | h
                  · exact QB9
                  · exact QB9.grown gW (by have := LQ.out; omega)
                  · exact h.elim)
                have KR := Lib.hid (show ∀ d w', At2 6 100 (fun w' => w' = w9.drew) (fun w' => w' = W1) (fun w' => False) d w' → w'.cell? ⟨rb, 0, none⟩ = some (.int .i64 (size : Int)) from fun d w' h => by
                  rcases h.any with rfl | rfl | h
                  · exact AM9.r.cell 0
                  · exact A1.out.r.cell 0
                  · exact h.elim)
                obtain ⟨rv2, hrv2⟩ : ∃ l, l = rmc size (.slice aa L37 ac) := ⟨_, rfl⟩
                have RV22 := Lib.hid (show rv2.length = 2 by rw [hrv2]; rfl)
                have RV21 := Lib.hid (show ∀ u ∈ rv2, u.oneCell' = true by rw [hrv2]; exact rmc_one _ rfl)
                have BT := Lib.hid (show Try.prog.built 48 [(0, .int .i64 (size : Int)), (1, .slice aa L37 ac)] = some rv2.toArray from by rw [hrv2]; kernel_rfl)
                have HRV2 := Lib.hid hrv2
                have HW1 := Lib.hid hW1
                have ZPE := Lib.hid (show Blk w9.drew pr zpw 50 ∧ Blk W1 rr zrm 48 from ⟨AM9.zp, A1.out.zr⟩)
                clear hW1 gW hrv2 AM9 QB9
                refine wp_region_gate_tail (fun d w' => At2 6 100 (fun w' => w' = w9.drew) (fun w' => w' = W1) (fun w' => False) d w') 7 (by kernel_rfl) (by kernel_rfl) ?hI ?_
                case hI => exact At2.start (by rfl) (by rfl) rfl
                simp only [List.take_succ_cons, List.take_zero, List.drop_succ_cons, List.drop_zero]
                refine InvC.invc_value (.agg qv.toArray) (fun u hu => by cases hu) rfl (fun d w' _ _ h => by exact exec_load rfl rfl (KQ.out d w' h) Try.underlying50 rfl (by kernel_rfl) QV3.out) (fun d w' _ _ h => At2.keep (by decide) (by decide) h) ?_
                simp only [Act.put, List.setIfInBounds_toArray, List.set_cons_zero, List.set_cons_succ]
                refine InvC.invc_value (.pointer (some ⟨rb, 0, none⟩)) (fun u hu => by cases hu) rfl (fun d w' _ _ h => by go_simp; all_goals rfl) (fun d w' _ _ h => At2.keep (by decide) (by decide) h) ?_
                simp only [Act.put, List.setIfInBounds_toArray, List.set_cons_zero, List.set_cons_succ]
                refine InvC.invc_value (.int .i64 (size : Int)) (fun u hu => by cases hu) rfl (fun d w' _ _ h => by have q := KR.out d w' h; go_simp) (fun d w' _ _ h => At2.keep (by decide) (by decide) h) ?_
                simp only [Act.put, List.setIfInBounds_toArray, List.set_cons_zero, List.set_cons_succ]
                refine InvC.invc_value (.slice aa L37 ac) (fun u hu => by cases hu) rfl (fun d w' _ _ h => by go_simp; all_goals rfl) (fun d w' _ _ h => At2.keep (by decide) (by decide) h) ?_
                simp only [Act.put, List.setIfInBounds_toArray, List.set_cons_zero, List.set_cons_succ]
                refine InvC.invc_value (.agg rv2.toArray) (fun u hu => by cases hu) rfl (fun d w' _ _ h => by exact exec_build (vs := [(0, .int .i64 (size : Int)), (1, .slice aa L37 ac)]) rfl rfl BT.out) (fun d w' _ _ h => At2.keep (by decide) (by decide) h) ?_
                simp only [Act.put, List.setIfInBounds_toArray, List.set_cons_zero, List.set_cons_succ]
                refine InvC.invc_value (.int .i64 0) (fun u hu => by cases hu) rfl (fun d w' _ _ h => by go_simp; all_goals rfl) (fun d w' _ _ h => At2.keep (by decide) (by decide) h) ?_
                simp only [Act.put, List.setIfInBounds_toArray, List.set_cons_zero, List.set_cons_succ]
                refine invc_skip (fun u hu => by cases hu) rfl (fun d w' hd hG h => ⟨W1, by
                  have e := (h.at_p hd).1
                  subst e
                  refine (exec_store_row (g := pr) (off := 0) (cs := zpw) (vs := qv) (m := 3) rfl rfl rfl ZPE.out.1 (by kernel_rfl) QV3.out (by decide) QV1.out).trans ?_
                  rw [put_all _ _ (by rw [QV3.out]; rfl), HW1.out], At2.did_p (by decide) hd h rfl⟩) ?_
                simp only [Act.put, List.setIfInBounds_toArray, List.set_cons_zero, List.set_cons_succ]
                refine InvC.invc_nil fun w8 h8 => ?_
                have e8 : w8 = W1 := by
                  have := h8; unfold At2 at this; rw [if_neg (by decide), if_pos (by rfl)] at this; exact this
                subst e8
                clear h8 KR KQ HW1 BT
                go_wp2_with (refine wpList_store_blk rfl 48 _ _ rfl rr 0 2 rfl 48 zrm rv2 rfl ZPE.out.2 (by kernel_rfl) RV22.out (by decide) RV21.out ?_; intro wZ zZ gZ; rw [put_all _ _ (by rw [RV22.out]; rfl)] at zZ; have ZZ := Lib.hid zZ; have GZ := Lib.hid gZ; clear zZ gZ)
                have hlD : (laidAll rs).length = L37 := by have := OE.out.1; rw [bv_len] at this; omega
                have OZ : wZ.ownsRow w7.heap.size 5 1 (.slice aa L37 ac) L37 (bv (laidAll rs)) := own_only OE.out (Only.of_grown GZ.out) (fun g hg => by have := (own_lt OE.out hg).1; have := LQ.out; simp only [List.mem_singleton]; omega)
                exact bodyPost_ret (v := .tuple #[.int .i64 0, .agg qv.toArray, .agg rv2.toArray]) (results_three_cell rfl _ _ pr rr 50 48 _ _ (0, 0) (0, 0) _ _ _ rfl rfl rfl (by have := A1.out.zp.grown GZ.out A1.out.l2; rw [← HQV.out] at this; exact this) ZZ.out Try.underlying50 rfl (by rw [List.size_toArray, QV3.out]; kernel_rfl) Try.underlying48 rfl (by rw [List.size_toArray, RV22.out]; kernel_rfl)) rfl ⟨.slice aa L37 ac, by rw [RES.out, HQV.out, HRV2.out]; rfl, by rw [RES.out]; exact ⟨by rw [hlD]; exact own_base OZ (fun g hg => by have := (own_lt OZ hg).1; have := LQ.out; omega), .inr fun g hg => by have := (own_lt OZ hg).1; have := LQ.out; omega⟩, below_grown A1.out.b GZ.out A1.out.b.size A1.out.l1⟩
end Go.Proofs.Ytobblbplanimgaa.Nvram
/-
  Cut of any number; the two powers side by side. Helper text; no statement is proved here.
-/
set_option linter.unusedVariables false
set_option maxRecDepth 20000
set_option linter.unusedSimpArgs false
namespace Go.Proofs.Ytobblbplanimgaa.Nvram
open Go.RowKit Go.Proofs.Ytobblbplanimgaa.Base Go.Proofs.Ytobblbplanimgaa.Laws Go.Proofs.Ytobblbplanimgaa.Disk Go.Proofs.Ytobblbplanimgaa.Row Go.Proofs.Ytobblbplanimgaa.Codec
theorem cut_small (b : Nat) (p : Pow) (w : World) (h : PowAt w b p) (n : Nat) (hn : n ≤ 4611686018427387904) : Calls Try.prog 11 #[.pointer (some ⟨b, 0, none⟩), .int .i64 (n : Int)] w fun e w' => e = .returned (.int .i64 (if p.off then 4 else 0)) ∧ PowAt w' b (if p.off then p else ⟨p.off, n + 1, p.steps⟩) ∧ Only [b] w w' := by
  have H := Lib.hid (off_load h)
  have H2 := Lib.hid (left_store h (n + 1) ((n : Int) + 1) (by omega))
  have P := Lib.hid h
  have n0 : (0 : Int) ≤ (n : Int) := by omega
  have n1 : (n : Int) ≤ 4611686018427387904 := by omega
  clear h hn
  obtain ⟨off, left, steps⟩ := p
  cases off with
  | true =>
    go_enter Try.func11, Try.ntmps11
    go_wp2_with (first | (go_at_call 32; refine H.out.mono ?_; rintro e w' ⟨rfl, rfl⟩))
    go_ret
    exact ⟨rfl, P.out, Only.refl _ _⟩
  | false =>
    go_enter Try.func11, Try.ntmps11
    go_wp2_with (first | (go_at_call 32; refine H.out.mono ?_; rintro e w' ⟨rfl, rfl⟩))
    refine H2.out.mono ?_
    rintro e w1 ⟨rfl, h1, o1⟩
    have P1 := Lib.hid h1
    have O1 := Lib.hid o1
    clear h1 o1
    go_wp2_with fail
    go_ret
    exact ⟨rfl, P1.out, O1.out⟩
theorem cut_great (b : Nat) (p : Pow) (w : World) (h : PowAt w b p) (n : Nat) (hn : 4611686018427387904 < n) (hn2 : n ≤ 9223372036854775807) : Calls Try.prog 11 #[.pointer (some ⟨b, 0, none⟩), .int .i64 (n : Int)] w fun e w' => e = .returned (.int .i64 (if p.off then 4 else 0)) ∧ PowAt w' b (if p.off then p else ⟨p.off, 4611686018427387905, p.steps⟩) ∧ Only [b] w w' := by
  have H := Lib.hid (off_load h)
  have H2 := Lib.hid (left_store h 4611686018427387905 4611686018427387905 rfl)
  have P := Lib.hid h
  have n0 : (0 : Int) ≤ (n : Int) := by omega
  have n1 : (4611686018427387904 : Int) < (n : Int) ∧ (n : Int) ≤ 9223372036854775807 := by omega
  clear h hn hn2
  obtain ⟨off, left, steps⟩ := p
  cases off with
  | true =>
    go_enter Try.func11, Try.ntmps11
    go_wp2_with (first | (go_at_call 32; refine H.out.mono ?_; rintro e w' ⟨rfl, rfl⟩))
    go_ret
    exact ⟨rfl, P.out, Only.refl _ _⟩
  | false =>
    go_enter Try.func11, Try.ntmps11
    go_wp2_with (first | (go_at_call 32; refine H.out.mono ?_; rintro e w' ⟨rfl, rfl⟩))
    refine H2.out.mono ?_
    rintro e w1 ⟨rfl, h1, o1⟩
    have P1 := Lib.hid h1
    have O1 := Lib.hid o1
    clear h1 o1
    go_wp2_with fail
    go_ret
    exact ⟨rfl, P1.out, O1.out⟩
/-- what Cut answers, and the power behind it -/
def _root_.Go.Proofs.Ytobblbplanimgaa.Disk.Pow.cut (p : Pow) (n : Int) : Int × Pow := if n < 0 then (2, p) else if p.off then (4, p) else (0, ⟨p.off, (if n ≤ 4611686018427387904 then n.toNat else 4611686018427387904) + 1, p.steps⟩)
theorem cut_all (b : Nat) (p : Pow) (w : World) (h : PowAt w b p) (n : Int) (hn : n ≤ 9223372036854775807) : Calls Try.prog 11 #[.pointer (some ⟨b, 0, none⟩), .int .i64 n] w fun e w' => e = .returned (.int .i64 (p.cut n).1) ∧ PowAt w' b (p.cut n).2 ∧ Only [b] w w' := by
  unfold Pow.cut
  by_cases h0 : n < 0
  · rw [if_pos h0]
    refine (cut_low b n w h0).mono ?_
    rintro e w' ⟨rfl, rfl⟩
    exact ⟨rfl, h, Only.refl _ _⟩
  · rw [if_neg h0]
    obtain ⟨m, rfl⟩ := Int.eq_ofNat_of_zero_le (show 0 ≤ n by omega)
    by_cases h1 : m ≤ 4611686018427387904
    · have e1 : (if (m : Int) ≤ 4611686018427387904 then (m : Int).toNat else 4611686018427387904) = m := by rw [if_pos (by omega), Int.toNat_natCast]
      rw [e1]
      refine (cut_small b p w h m h1).mono ?_
      obtain ⟨off, l, s⟩ := p
      rintro e w' ⟨rfl, hp, ho⟩
      cases off <;> exact ⟨rfl, hp, ho⟩
    · have e1 : (if (m : Int) ≤ 4611686018427387904 then (m : Int).toNat else 4611686018427387904) = 4611686018427387904 := by rw [if_neg (by omega)]
      rw [e1]
      refine (cut_great b p w h m (by omega) (by omega)).mono ?_
      obtain ⟨off, l, s⟩ := p
      rintro e w' ⟨rfl, hp, ho⟩
      cases off <;> exact ⟨rfl, hp, ho⟩
/-- the two powers, behind j steps of a script -/
structure Rel (m : Pow) (p : Rp) (j : Nat) : Prop where
  off : m.off = p.off
  steps : m.steps = p.steps
  sj : m.steps ≤ j
  left : (m.left = 0 ∧ p.left = -1) ∨ (0 ≤ p.left ∧ (m.left : Int) = p.left + 1 ∧ p.left ≤ 4611686018427387904) ∨ (4611686018427387904 ≤ p.left + j ∧ 4611686018427387905 ≤ m.left + j ∧ m.left ≤ 4611686018427387905 ∧ p.left ≤ 9223372036854775807)
section
variable {m : Pow} {p : Rp} {j : Nat}
theorem Rel.mono (h : Rel m p j) {j' : Nat} (hj : j ≤ j') : Rel m p j' := ⟨h.off, h.steps, by have := h.sj; omega, by have := h.left; omega⟩
theorem Rel.mok (h : Rel m p j) (hj : j ≤ 4398046511104000) : m.Ok := ⟨by have := h.left; omega, by have := h.sj; omega⟩
theorem Rel.pok (h : Rel m p j) (hj : j ≤ 4398046511104000) : -1 ≤ p.left ∧ p.left ≤ 9223372036854775807 ∧ p.steps ≤ 4611686018427387904 := by
  have := h.left
  have := h.sj
  have := h.steps
  omega
theorem Rel.step (h : Rel m p j) (hj : j ≤ 4398046511104000) : m.step.1 = p.step.1 ∧ Rel m.step.2 p.step.2 (j + 1) := by
  have h1 := h.off
  have h2 := h.steps
  have h3 := h.sj
  have h4 := h.left
  obtain ⟨off, ml, ms⟩ := m
  obtain ⟨off', pl, ps⟩ := p
  simp only at h1 h2 h3 h4
  subst h1
  subst h2
  cases off
  · unfold Pow.step Rp.step
    simp only [Bool.false_eq_true, if_false]
    by_cases e0 : ml = 0
    · have : pl = -1 := by omega
      subst e0
      subst this
      exact ⟨rfl, rfl, rfl, by show ms + 1 ≤ j + 1; omega, .inl ⟨rfl, rfl⟩⟩
    · by_cases e1 : ml = 1
      · have : pl = 0 := by omega
        subst e1
        subst this
        exact ⟨rfl, rfl, rfl, by show ms ≤ j + 1; omega, .inl ⟨rfl, rfl⟩⟩
      · rw [if_neg e0, if_neg e1, if_neg (by omega)]
        refine ⟨rfl, rfl, rfl, by show ms + 1 ≤ j + 1; omega, ?_⟩
        simp only
        rw [if_pos (by omega)]
        omega
  · exact ⟨rfl, h.mono (by omega)⟩
theorem Rel.cut (h : Rel m p j) (n : Int) (hn : n ≤ 9223372036854775807) : (m.cut n).1 = (p.cut n).1 ∧ Rel (m.cut n).2 (p.cut n).2 (j + 1) := by
  have h1 := h.off
  unfold Pow.cut Rp.cut
  by_cases h0 : n < 0
  · rw [if_pos h0, if_pos h0]; exact ⟨rfl, h.mono (by omega)⟩
  · rw [if_neg h0, if_neg h0]
    obtain ⟨off, ml, ms⟩ := m
    obtain ⟨off', pl, ps⟩ := p
    simp only at h1
    subst h1
    cases off
    · refine ⟨rfl, rfl, h.steps, by have := h.sj; show ms ≤ j + 1; simp only at this; omega, ?_⟩
      show ((if n ≤ 4611686018427387904 then n.toNat else 4611686018427387904) + 1 = 0 ∧ n = -1) ∨ (0 ≤ n ∧ (((if n ≤ 4611686018427387904 then n.toNat else 4611686018427387904) + 1 : Nat) : Int) = n + 1 ∧ n ≤ 4611686018427387904) ∨ (4611686018427387904 ≤ n + (j + 1 : Nat) ∧ 4611686018427387905 ≤ (if n ≤ 4611686018427387904 then n.toNat else 4611686018427387904) + 1 + (j + 1) ∧ (if n ≤ 4611686018427387904 then n.toNat else 4611686018427387904) + 1 ≤ 4611686018427387905 ∧ n ≤ 9223372036854775807)
      split <;> omega
    · exact ⟨rfl, h.mono (by omega)⟩
theorem Rel.restore (h : Rel m p j) : Rel ⟨false, 0, m.steps⟩ ⟨false, -1, p.steps⟩ (j + 1) := ⟨rfl, h.steps, by have := h.sj; show m.steps ≤ j + 1; omega, .inl ⟨rfl, rfl⟩⟩
theorem Rel.app (h : Rel m p j) (hj : j ≤ 4398046511104000) (size : Nat) (B : List UInt8) (x : Rc) : ((appR m size B x).1 = (p.app size B x).1 ∧ (appR m size B x).2.2 = (p.app size B x).2.2) ∧ Rel (appR m size B x).2.1 (p.app size B x).2.1 (j + 1) := by
  obtain ⟨s1, s2⟩ := h.step hj
  unfold appR Rp.app
  rw [h.off, s1]
  split
  · exact ⟨⟨rfl, rfl⟩, h.mono (by omega)⟩
  · split
    · exact ⟨⟨rfl, rfl⟩, h.mono (by omega)⟩
    · split
      · exact ⟨⟨rfl, rfl⟩, h.mono (by omega)⟩
      · split
        · exact ⟨⟨rfl, rfl⟩, s2⟩
        · exact ⟨⟨rfl, rfl⟩, s2⟩
theorem Rel.load (h : Rel m p j) (hj : j ≤ 4398046511104000) (size : Nat) (B : List UInt8) (rs : List Rc) : ((loadR m size B rs).1 = (p.load size B rs).1 ∧ (loadR m size B rs).2.2 = (p.load size B rs).2.2) ∧ Rel (loadR m size B rs).2.1 (p.load size B rs).2.1 (j + 1) := by
  obtain ⟨s1, s2⟩ := h.step hj
  unfold loadR Rp.load
  rw [h.off, s1]
  split
  · exact ⟨⟨rfl, rfl⟩, h.mono (by omega)⟩
  · split
    · exact ⟨⟨rfl, rfl⟩, h.mono (by omega)⟩
    · split
      · exact ⟨⟨rfl, rfl⟩, h.mono (by omega)⟩
      · split
        · exact ⟨⟨rfl, rfl⟩, s2⟩
        · exact ⟨⟨rfl, rfl⟩, s2⟩
end
end Go.Proofs.Ytobblbplanimgaa.Nvram
/-
  Pieces of one size, one behind the other. Helper text; no statement is proved here.
-/
set_option linter.unusedVariables false
set_option maxRecDepth 20000
set_option linter.unusedSimpArgs false
namespace Go.Proofs.Ytobblbplanimgaa.Flat
open Go.RowKit Go.Proofs.Ytobblbplanimgaa.Base Go.Proofs.Ytobblbplanimgaa.Laws
section
variable {α : Type} {f : α → List Value} {m : Nat}
/-- pieces of one size, one behind the other -/
def flat (f : α → List Value) (l : List α) : List Value := (l.map f).flatten
theorem flat_nil : flat f [] = [] := rfl
theorem flat_cons (x : α) (l : List α) : flat f (x :: l) = f x ++ flat f l := rfl
theorem flat_append (k l : List α) : flat f (k ++ l) = flat f k ++ flat f l := by simp [flat]
theorem flat_one (x : α) : flat f [x] = f x := by simp [flat]
theorem flat_len {l : List α} (h : ∀ x ∈ l, (f x).length = m) : (flat f l).length = l.length * m := by
  induction l with
  | nil => simp [flat]
  | cons x l ih => rw [flat_cons, List.length_append, h x (by simp), ih (fun y hy => h y (by simp [hy])), List.length_cons, Nat.succ_mul]; omega
theorem flat_mem {l : List α} {u : Value} (h : u ∈ flat f l) : ∃ x ∈ l, u ∈ f x := by
  unfold flat at h
  rw [List.mem_flatten] at h
  obtain ⟨q, hq, hu⟩ := h
  obtain ⟨x, hx, rfl⟩ := List.mem_map.1 hq
  exact ⟨x, hx, hu⟩
theorem flat_split {l : List α} {i : Nat} {x : α} (h : ∀ x ∈ l, (f x).length = m) (hx : l[i]? = some x) : ∃ A B, flat f l = A ++ (f x ++ B) ∧ A.length = i * m ∧ flat f (l.take i) = A ∧ flat f (l.drop (i + 1)) = B := by
  obtain ⟨hi, rfl⟩ := List.getElem?_eq_some_iff.1 hx
  refine ⟨flat f (l.take i), flat f (l.drop (i + 1)), ?_, ?_, rfl, rfl⟩
  · rw [← flat_cons, ← flat_append, ← List.drop_eq_getElem_cons, List.take_append_drop]
  · rw [flat_len (m := m) (fun x hx => h x (List.mem_of_mem_take hx)), List.length_take]
    congr 1
    omega
theorem flat_piece {l : List α} {i : Nat} {x : α} (h : ∀ x ∈ l, (f x).length = m) (hx : l[i]? = some x) : ((flat f l).drop (i * m)).take m = f x := by
  obtain ⟨A, B, e, hA, _, _⟩ := flat_split h hx
  have hm := h x (List.mem_of_getElem? hx)
  rw [e, ← hA, List.drop_left, ← hm, List.take_left]
theorem flat_get {l : List α} {i j : Nat} {x : α} {u : Value} (h : ∀ x ∈ l, (f x).length = m) (hx : l[i]? = some x) (hu : (f x)[j]? = some u) : (flat f l)[i * m + j]? = some u := by
  obtain ⟨A, B, e, hA, _, _⟩ := flat_split h hx
  have hj := (List.getElem?_eq_some_iff.1 hu).1
  rw [e, List.getElem?_append_right (by omega), hA, show i * m + j - i * m = j from by omega, List.getElem?_append_left hj]
  exact hu
theorem flat_put {l : List α} {i : Nat} {x : α} (h : ∀ x ∈ l, (f x).length = m) (hx : (f x).length = m) (hi : i < l.length) : put (flat f l) (i * m) (f x) = flat f (l.set i x) := by
  have h0 := h l[i] (List.getElem_mem hi)
  obtain ⟨A, B, e, hA, e1, e2⟩ := flat_split h (List.getElem?_eq_getElem hi)
  have es : flat f (l.set i x) = A ++ (f x ++ B) := by
    rw [List.set_eq_take_append_cons_drop, if_pos hi, flat_append, flat_cons, e1, e2]
  rw [es, e]
  unfold put
  rw [← hA, List.take_left, hx, ← h0, ← List.drop_drop, List.drop_left, List.drop_left]
theorem flat_inb {l : List α} {i : Nat} {x : α} (h : ∀ x ∈ l, (f x).length = m) (hx : l[i]? = some x) : i * m + m ≤ (flat f l).length := by
  have hi := (List.getElem?_eq_some_iff.1 hx).1
  rw [flat_len h]
  have := Nat.mul_le_mul_right m (show i + 1 ≤ l.length from hi)
  rw [Nat.succ_mul] at this
  exact this

/-- a slice reads as a list -/
def Sl (w : World) (f : α → List Value) (m : Nat) (a : Option Addr) (n cap : Nat) (l : List α) : Prop :=
  l.length = n ∧ n ≤ cap ∧ cap ≤ maxLen ∧ (∀ x ∈ l, (f x).length = m) ∧ (n = 0 ∨ ∃ b o, a = some ⟨b, o, none⟩ ∧ ∀ j u, (flat f l)[j]? = some u → w.cell? ⟨b, o + j, none⟩ = some u)
theorem Sl.below {w w' : World} {a : Option Addr} {n cap : Nat} {l : List α} (h : Sl w f m a n cap l) {B : Nat} (hb : Below B w w') (hB : w.heap.size ≤ B) : Sl w' f m a n cap l := by
  obtain ⟨h1, h2, h3, h5, h4⟩ := h
  refine ⟨h1, h2, h3, h5, ?_⟩
  rcases h4 with h4 | ⟨b, o, e, hc⟩
  · exact .inl h4
  · exact .inr ⟨b, o, e, fun j u hu => (hb.cell (p := ⟨b, o + j, none⟩) (Nat.lt_of_lt_of_le (block_lt_of_cell (hc j u hu)) hB)).trans (hc j u hu)⟩
theorem Sl.src {w : World} {a : Option Addr} {n cap : Nat} {l : List α} (h : Sl w f m a n cap l) (h1 : ∀ x ∈ l, ∀ u ∈ f x, u.oneCell' = true) : SrcOf w a n m (flat f l) := by
  obtain ⟨e, _, _, h5, h4⟩ := h
  refine ⟨by rw [flat_len h5, e], fun u hu => ?_, ?_⟩
  · obtain ⟨x, hx, hu⟩ := flat_mem hu
    exact h1 x hx u hu
  · rcases h4 with h4 | ⟨b, o, e, hc⟩
    · exact .inl h4
    · exact .inr ⟨_, e, fun j u hu => by rw [Addr.add_lit]; exact hc j u hu⟩
/-- the i-th of them lies there -/
theorem Sl.at {w : World} {a : Option Addr} {n cap i : Nat} {l : List α} {x : α} (h : Sl w f m a n cap l) (hx : l[i]? = some x) : ∃ b o, a = some ⟨b, o, none⟩ ∧ ∀ j u, (f x)[j]? = some u → w.cell? ⟨b, o + i * m + j, none⟩ = some u := by
  obtain ⟨e, _, _, h5, h4⟩ := h
  have hi := (List.getElem?_eq_some_iff.1 hx).1
  rcases h4 with h4 | ⟨b, o, rfl, hc⟩
  · omega
  · exact ⟨b, o, rfl, fun j u hu => by rw [Nat.add_assoc]; exact hc _ u (flat_get h5 hx hu)⟩
theorem Sl.take {w : World} {a : Option Addr} {n cap k : Nat} {l : List α} (h : Sl w f m a n cap l) (hk : k ≤ n) : Sl w f m a k cap (l.take k) := by
  obtain ⟨h1, h2, h3, h5, h4⟩ := h
  refine ⟨by rw [List.length_take]; omega, by omega, h3, fun x hx => h5 x (List.mem_of_mem_take hx), ?_⟩
  rcases h4 with h4 | ⟨b, o, e, hc⟩
  · exact .inl (by omega)
  · refine .inr ⟨b, o, e, fun j u hu => hc j u ?_⟩
    have : flat f l = flat f (l.take k) ++ flat f (l.drop k) := by rw [← flat_append, List.take_append_drop]
    rw [this, List.getElem?_append_left (List.getElem?_eq_some_iff.1 hu).1]
    exact hu
theorem sl_nil (w : World) (a : Option Addr) {cap : Nat} (hc : cap ≤ maxLen) : Sl w f m a 0 cap [] := ⟨rfl, Nat.zero_le _, hc, by simp, .inl rfl⟩
theorem sl_own {w : World} {base : Nat} {e : TypeId} {v : Value} {n : Nat} {l : List α} (hn : l.length = n) (hv : ∀ x ∈ l, (f x).length = m) (h0 : 0 < m) (h : w.ownsRow base e m v n (flat f l)) : ∃ a cap, v = .slice a n cap ∧ Sl w f m a n cap l := by
  obtain ⟨a, cap, rfl, h1, h2, h3⟩ := own_slice h h0
  refine ⟨a, cap, rfl, hn, h1, h2, hv, ?_⟩
  rcases h3 with h3 | ⟨g, rfl, _, hc⟩
  · exact .inl h3
  · exact .inr ⟨g, 0, rfl, fun j u hu => hc j u hu⟩
theorem sl_blk {w : World} {g : Nat} {l : List α} {t : TypeId} {n cap : Nat} (h : Blk w g (flat f l) t) (hv : ∀ x ∈ l, (f x).length = m) (hn : l.length = n) (hc : n ≤ cap) (hm : cap ≤ maxLen) : Sl w f m (some ⟨g, 0, none⟩) n cap l :=
  ⟨hn, hc, hm, hv, .inr ⟨g, 0, rfl, fun j u hu => by rw [Nat.zero_add, h.cell]; exact hu⟩⟩
end
end Go.Proofs.Ytobblbplanimgaa.Flat
/-
  Slices that came in, read as lists. Helper text; no statement is proved here.
-/
set_option linter.unusedVariables false
set_option maxRecDepth 20000
set_option linter.unusedSimpArgs false
namespace Go.Proofs.Ytobblbplanimgaa.Flat
open Go.RowKit Go.Proofs.Ytobblbplanimgaa.Base Go.Proofs.Ytobblbplanimgaa.Laws
section
variable {H : Type} {enc : TypeId × Value → H} {base : Nat} {spare : Nat → Bool} {held : Bool} {W : World}
theorem cellsu8 : Try.prog.cellsOf 5 = 1 := by kernel_rfl
theorem bytesu8 : Try.prog.bytesOf 5 = 1 := by kernel_rfl
/-- bytes that came in -/
theorem bytes_in {a : Option Addr} {len cap : Nat} (h : Opens.LfOk enc Try.prog W base spare held (.slice 5) (.slice a len cap)) : ∃ l, Bts W a len cap l ∧ len ≤ 140737488351232 := by
  obtain ⟨l, h1, h2, h3, h4, h5⟩ := Opens.bytes_of_lf Try.underlying5 cellsu8 bytesu8 h
  exact ⟨l, ⟨h1, h2, h3, h5⟩, h4⟩
/-- pieces that came in -/
theorem sl_in {α : Type} {f : α → List Value} {Ok : α → Prop} {e : TypeId} {m : Nat} {ks : List Opens.Lf} (hm0 : 0 < m) (hlv : Opens.leaves Try.prog 8 e = some ks) (hce : Try.prog.cellsOf e = m)
    (hin : ∀ cs : List Value, cs.length = m → Opens.Fits enc Try.prog W base spare held ks cs → ∃ x, cs = f x ∧ Ok x)
    {a : Option Addr} {len cap : Nat} (h : Opens.LfOk enc Try.prog W base spare held (.slice e) (.slice a len cap)) : ∃ l, Sl W f m a len cap l ∧ (∀ x ∈ l, Ok x) ∧ len * Try.prog.bytesOf e ≤ reachBytes := by
  rcases h with h | ⟨ad, len', cap', h, hb, hl, hm, hr, hq⟩
  · simp only [Value.slice.injEq] at h
    obtain ⟨rfl, rfl, rfl⟩ := h
    exact ⟨[], sl_nil _ _ (by unfold maxLen; omega), by simp, by simp⟩
  · simp only [Value.slice.injEq] at h
    obtain ⟨rfl, rfl, rfl⟩ := h
    rw [hce] at hq
    obtain ⟨xs, hxl, hxs⟩ := Opens.choose_list (q := fun i (x : α) => Ok x ∧ (f x).length = m ∧ ∀ j u, (f x)[j]? = some u → W.cell? ((ad.add (i * m)).add j) = some u) len fun i hi => by
      obtain ⟨cs, n, y, h1, h2, h3⟩ := hq i hi
      have hf := Opens.fits_of_trod 8 _ _ hlv n cs y h2 h3
      obtain ⟨_, hcl, hc⟩ := World.cells?_some h1
      obtain ⟨x, rfl, hok⟩ := hin cs hcl hf
      refine ⟨x, hok, hcl, fun j u hu => ?_⟩
      have hj := (List.getElem?_eq_some_iff.1 hu).1
      rw [hcl] at hj
      rw [hc j hj]
      exact hu
    have hlen : ∀ x ∈ xs, (f x).length = m := fun x hx => by
      obtain ⟨i, hi⟩ := List.mem_iff_getElem?.1 hx
      exact (hxs i x hi).2.1
    refine ⟨xs, ⟨hxl, hl, hm, hlen, ?_⟩, fun x hx => by
      obtain ⟨i, hi⟩ := List.mem_iff_getElem?.1 hx
      exact (hxs i x hi).1, hr⟩
    by_cases h0 : len = 0
    · exact .inl h0
    · obtain ⟨x0, hx0⟩ : ∃ u, xs[0]? = some u := ⟨_, List.getElem?_eq_getElem (by omega)⟩
      obtain ⟨_, hl0, hc0⟩ := hxs 0 x0 hx0
      obtain ⟨v0, hv0⟩ : ∃ v, (f x0)[0]? = some v := ⟨_, List.getElem?_eq_getElem (by omega)⟩
      have hs := World.cell?_spot (hc0 0 v0 hv0)
      obtain ⟨b, o, sp⟩ := ad
      have hsp : sp = none := by simpa [Addr.add] using hs
      subst hsp
      refine .inr ⟨b, o, rfl, fun j u hu => ?_⟩
      have hj := (List.getElem?_eq_some_iff.1 hu).1
      rw [flat_len hlen] at hj
      have hi : j / m < xs.length := Nat.div_lt_of_lt_mul (by rw [Nat.mul_comm]; exact hj)
      obtain ⟨x, hx⟩ : ∃ r, xs[j / m]? = some r := ⟨_, List.getElem?_eq_getElem hi⟩
      obtain ⟨_, hlx, hcells⟩ := hxs _ x hx
      have hmj : j % m < (f x).length := by rw [hlx]; exact Nat.mod_lt _ hm0
      have hg : (f x)[j % m]? = some ((f x)[j % m]'hmj) := List.getElem?_eq_getElem hmj
      have e := flat_get hlen hx hg
      have hd : j / m * m + j % m = j := by rw [Nat.mul_comm]; exact Nat.div_add_mod _ _
      rw [hd, hu] at e
      have := hcells _ _ hg
      rw [← Option.some.inj e] at this
      simp only [Addr.add_lit] at this
      rw [show o + j = o + j / m * m + j % m from by rw [Nat.add_assoc, hd]]
      exact this
end
end Go.Proofs.Ytobblbplanimgaa.Flat
/-
  A script over a memory, as it comes in; the state of its walk. Helper text; no statement is proved here.
-/
set_option linter.unusedVariables false
set_option maxRecDepth 20000
set_option linter.unusedSimpArgs false
namespace Go.Proofs.Ytobblbplanimgaa.Nvram
open Go.RowKit Go.Proofs.Ytobblbplanimgaa.Base Go.Proofs.Ytobblbplanimgaa.Laws Go.Proofs.Ytobblbplanimgaa.Disk Go.Proofs.Ytobblbplanimgaa.Row Go.Proofs.Ytobblbplanimgaa.Codec Go.Proofs.Ytobblbplanimgaa.Flat
/-- a step of a script -/
structure So where
  k : Int
  n : Int
  x : Rc
  rs : List Rc
def oc (p : So × Value) : List Value := .int .i64 p.1.k :: .int .i64 p.1.n :: (p.1.x.cells ++ [p.2])
def So.Ok (o : So) : Prop := I64 o.k ∧ I64 o.n ∧ o.x.Valid
/-- a script that came in -/
def Scr (w : World) (a : Option Addr) (len cap : Nat) (l : List So) : Prop :=
  l.length = len ∧ len ≤ cap ∧ cap ≤ maxLen ∧ len ≤ 1759218604392 ∧ (∀ o ∈ l, o.Ok) ∧
  (len = 0 ∨ ∃ b o, a = some ⟨b, o, none⟩ ∧ ∀ i s, l[i]? = some s → ∃ a' len' cap', (∀ j u, (oc (s, .slice a' len' cap'))[j]? = some u → w.cell? ⟨b, o + i * 22 + j, none⟩ = some u) ∧ Recs w a' len' cap' s.rs ∧ len' * 40 ≤ 140737488355328)
section
variable {H : Type} {enc : TypeId × Value → H} {base : Nat} {spare : Nat → Bool} {held : Bool} {W : World}
theorem rv_flat : ∀ l : List Rc, rv l = flat Rc.cells l
  | [] => rfl
  | r :: l => by rw [flat_cons, ← rv_flat l]; rfl
theorem recs_lf {a : Option Addr} {len cap : Nat} (h : Opens.LfOk enc Try.prog W base spare held (.slice 27) (.slice a len cap)) : ∃ rs, Recs W a len cap rs ∧ len * 40 ≤ 140737488355328 := by
  obtain ⟨l, ⟨h1, h2, h3, h4, h5⟩, hok, hb⟩ := sl_in (f := Rc.cells) (m := 19) (Ok := Rc.Valid) (by decide) leavesRec cellsRec (fun cs hcs hf => by
    obtain ⟨k, v, a, l, hl16, hv, hk, ha, rfl⟩ := rec_in hcs rfl hf
    exact ⟨⟨k, v, a, l⟩, rfl, hl16, hv, hk, ha⟩) h
  have hbo : Try.prog.bytesOf 27 = 40 := by kernel_rfl
  rw [hbo] at hb
  exact ⟨l, ⟨h1, h2, h3, hok, by rw [rv_flat]; exact h5⟩, by unfold reachBytes at hb; omega⟩
theorem scr_in {a : Option Addr} {len cap : Nat} (h : Opens.LfOk enc Try.prog W base spare held (.slice 53) (.slice a len cap)) : ∃ l, Scr W a len cap l := by
  obtain ⟨l, ⟨h1, h2, h3, h4, h5⟩, hok, hb⟩ := sl_in (f := oc) (m := 22) (Ok := fun p => p.1.Ok ∧ ∃ a l c, p.2 = .slice a l c ∧ Recs W a l c p.1.rs ∧ l * 40 ≤ 140737488355328) (ks := .int .i64 :: .int .i64 :: (.int .i64 :: .int .u64 :: .int .i64 :: (List.replicate 16 (.int .u8) ++ [.slice 27]))) (by decide) (by kernel_rfl) (by kernel_rfl) (fun cs hcs hf => by
    obtain ⟨k, c1, rfl, hk, hf⟩ := hf.int
    obtain ⟨n, c2, rfl, hn, hf⟩ := hf.int
    obtain ⟨xk, xv, xa, xl, c3, hl16, hxv, hxk, hxa, rfl, hf3⟩ := rec_next hf
    obtain ⟨c, cs', rfl, hc, _⟩ := hf3.next
    have hx19 : (recV xk xv xa xl).length = 19 := recV_len _ _ _ _ hl16
    obtain rfl : cs' = [] := List.eq_nil_of_length_eq_zero (by simp [hx19] at hcs; omega)
    have hk' : I64 k := Opens.wf_i64 hk
    have hn' : I64 n := Opens.wf_i64 hn
    have hv : Rc.Valid ⟨xk, xv, xa, xl⟩ := ⟨hl16, hxv, hxk, hxa⟩
    rcases hc with rfl | ⟨a', l', c', rfl, hr⟩
    · exact ⟨(⟨k, n, ⟨xk, xv, xa, xl⟩, []⟩, .slice none 0 0), rfl, ⟨hk', hn', hv⟩, none, 0, 0, rfl, ⟨rfl, Nat.le_refl _, by unfold maxLen; omega, by simp, .inl rfl⟩, by omega⟩
    · obtain ⟨u, hu, hl⟩ := recs_lf (a := some a') (len := l') (cap := c') (.inr ⟨a', l', c', rfl, hr⟩)
      exact ⟨(⟨k, n, ⟨xk, xv, xa, xl⟩, u⟩, .slice (some a') l' c'), rfl, ⟨hk', hn', hv⟩, some a', l', c', rfl, hu, hl⟩) h
  have hbo : Try.prog.bytesOf 53 = 80 := by kernel_rfl
  rw [hbo] at hb
  refine ⟨l.map Prod.fst, by simp [h1], h2, h3, by unfold reachBytes at hb; omega, fun o ho => ?_, ?_⟩
  · obtain ⟨p, hp, rfl⟩ := List.mem_map.1 ho
    exact (hok p hp).1
  rcases h5 with h5 | ⟨b, o, rfl, hc⟩
  · exact .inl h5
  · refine .inr ⟨b, o, rfl, fun i s hs => ?_⟩
    rw [List.getElem?_map] at hs
    obtain ⟨q, hq, rfl⟩ := Option.map_eq_some_iff.1 hs
    obtain ⟨_, a', l', c', e, hb', hl'⟩ := hok q (List.mem_of_getElem? hq)
    refine ⟨a', l', c', fun j u hu => ?_, hb', hl'⟩
    rw [Nat.add_assoc]
    exact hc (i * 22 + j) u (flat_get (m := 22) (f := oc) (fun x hx => h4 x hx) hq (by rw [← e] at hu; exact hu))
end
end Go.Proofs.Ytobblbplanimgaa.Nvram
/-
  A memory beside the reference's: the state of a script's walk. Helper text; no statement is proved here.
-/
set_option linter.unusedVariables false
set_option maxRecDepth 20000
set_option linter.unusedSimpArgs false
namespace Go.Proofs.Ytobblbplanimgaa.Nvram
open Go.RowKit Go.Proofs.Ytobblbplanimgaa.Base Go.Proofs.Ytobblbplanimgaa.Laws Go.Proofs.Ytobblbplanimgaa.Disk Go.Proofs.Ytobblbplanimgaa.Row Go.Proofs.Ytobblbplanimgaa.Codec Go.Proofs.Ytobblbplanimgaa.Flat
/-- the memory (bytes B) and the power of the program, those of the reference (bytes C) in their boxes -/
structure Nv (w0 w : World) (bm br xb qb size : Nat) (v s : Value) (B C : List UInt8) (m : Pow) (p : Rp) : Prop where
  b : Below w0.heap.size w0 w
  lo : w0.heap.size ≤ bm
  ram : RamAt w br bm size v B
  pow : PowAt w bm m
  x : Blk w xb (rmc size s) 48
  q : Blk w qb p.c 50
  own : w.ownsRow (br + 1) 5 1 s C.length (bv C)
  ap : Apart v s
  ord : br < xb ∧ xb < qb
  vx : ∀ g, v.ownBlock = some g → g ≠ xb ∧ g ≠ qb
  sx : ∀ g, s.ownBlock = some g → g ≠ xb ∧ g ≠ qb
  cl : C.length ≤ size
section
variable {w0 w w' w1 : World} {bm br xb qb size : Nat} {v s v' s' : Value} {B B' C C' : List UInt8} {m m' : Pow} {p p' : Rp}
theorem Nv.out (h : Nv w0 w bm br xb qb size v s B C m p) {g : Nat} (h1 : br < g) (h2 : ∀ x, v.ownBlock = some x → x ≠ g) : g ∉ [br, bm, blkOf v br] := by
  have := h.ram.lt
  simp only [List.mem_cons, List.not_mem_nil, or_false, not_or]
  refine ⟨by omega, by omega, fun e => ?_⟩
  unfold blkOf at e
  cases hv : v.ownBlock with
  | none => rw [hv] at e; simp at e; omega
  | some g' => rw [hv] at e; simp at e; exact h2 g' hv e.symm
theorem Nv.below (h : Nv w0 w bm br xb qb size v s B C m p) (hb : Below w.heap.size w w') : Nv w0 w' bm br xb qb size v s B C m p :=
  ⟨h.b.trans (hb.mono h.b.size), h.lo, h.ram.below hb, h.pow.only (Only.of_below (S := []) hb) (by simp), h.x.below hb h.x.lt, h.q.below hb h.q.lt, own_only h.own (Only.of_below (S := []) hb) (by simp), h.ap, h.ord, h.vx, h.sx, h.cl⟩
/-- the program has gone on -/
theorem Nv.prog (h : Nv w0 w bm br xb qb size v s B C m p) (hr : RamAt w' br bm size v' B') (hp : PowAt w' bm m') (hv : ∀ g, v'.ownBlock = some g → v.ownBlock = some g ∨ w.heap.size ≤ g) (ho : Only [br, bm, blkOf v br] w w') : Nv w0 w' bm br xb qb size v' s B' C m' p := by
  have hx := h.out h.ord.1 (fun x hx => (h.vx x hx).1)
  have hq := h.out (by have := h.ord; omega) (fun x hx => (h.vx x hx).2)
  refine ⟨h.b.trans (ho.below h.b.size (fun x hx => Nat.le_trans h.lo (ram_ge h.ram (Nat.le_refl _) x hx))), h.lo, hr, hp, h.x.only ho hx, h.q.only ho hq, own_only h.own ho (row_set h.ram h.own h.ap), apart_after h.own h.ap hv, h.ord, fun g hg => ?_, h.sx, h.cl⟩
  rcases hv g hg with e | e
  · exact h.vx g e
  · have := h.x.lt
    have := h.q.lt
    omega
/-- the reference has gone on -/
theorem Nv.ref (h : Nv w0 w bm br xb qb size v s B C m p) (hb : Below w.heap.size w w1) (hs : Sv w w1 s s' C' (br + 1)) (hC : C'.length ≤ size) (ho : Only [xb, qb] w1 w') (hx : Blk w' xb (rmc size s') 48) (hq : Blk w' qb p'.c 50) : Nv w0 w' bm br xb qb size v s' B C' m p' := by
  have h1 := h.below hb
  have hl := h.ram.lt
  have hbr := h.ram.head.lt
  have hxl := h.x.lt
  have hql := h.q.lt
  have hord := h.ord
  have hlo := h.lo
  have hb0 := h.b.size
  have hvl : ∀ g, v.ownBlock = some g → g < w.heap.size := fun g hg => (own_lt h.ram.own hg).2
  have hs2 : ∀ g, s'.ownBlock = some g → s.ownBlock = some g ∨ w.heap.size ≤ g := fun g hg => by
    rcases hs.2 with e | e
    · left; rw [← e]; exact hg
    · exact .inr (e g hg)
  have hsx : ∀ g, s'.ownBlock = some g → g ≠ xb ∧ g ≠ qb := fun g hg => by
    rcases hs2 g hg with e | e
    · exact h.sx g e
    · omega
  refine ⟨h1.b.trans (ho.below h1.b.size (fun x hx => by simp only [List.mem_cons, List.not_mem_nil, or_false] at hx; rcases hx with rfl | rfl <;> omega)), h.lo, h1.ram.only ho (by simp; omega) (fun g hg => by have := h.vx g hg; simp; exact this), h1.pow.only ho (by simp; omega), hx, hq, own_only hs.1 ho (fun g hg => by have := hsx g hg; simp; exact this), fun g hg e => ?_, h.ord, h.vx, hsx, hC⟩
  rcases hs2 g e with e2 | e2
  · exact h.ap g hg e2
  · have := hvl g hg
    omega
theorem Nv.drew (h : Nv w0 w bm br xb qb size v s B C m p) : Nv w0 w.drew bm br xb qb size v s B C m p := h.below (Below.refl w.heap.size w).drew
/-- the memory of the reference as it was -/
theorem Nv.same (h : Nv w0 w bm br xb qb size v s B C m p) (hb : Below w.heap.size w w1) : Sv w w1 s s C (br + 1) := ⟨own_only h.own (Only.of_below (S := []) hb) (by simp), .inl rfl⟩
end
theorem app_len {p : Rp} {size : Nat} {B : List UInt8} {x : Rc} (hB : B.length ≤ size) (hx : x.Valid) : (p.app size B x).2.2.length ≤ size := by
  have hb : x.bytes.length = 37 := Rc.bytes_len hx
  unfold Rp.app
  split
  · exact hB
  · split
    · exact hB
    · split
      · exact hB
      · split
        · simp only [List.length_append]; omega
        · simp only [List.length_append, List.length_take]; omega
theorem load_len {p : Rp} {size : Nat} {B : List UInt8} {rs : List Rc} (hB : B.length ≤ size) (hx : ∀ r ∈ rs, r.Valid) : (p.load size B rs).2.2.length ≤ size := by
  have hb := laidAll_len hx
  unfold Rp.load
  split
  · exact hB
  · split
    · exact hB
    · split
      · exact hB
      · split
        · show (laidAll rs).length ≤ size; omega
        · exact hB
end Go.Proofs.Ytobblbplanimgaa.Nvram
/-
  The walk of the statement on every step of a script over a memory. Helper text; no statement is proved here.
-/
set_option linter.unusedVariables false
set_option maxRecDepth 20000
set_option linter.unusedSimpArgs false
namespace Go.Proofs.Ytobblbplanimgaa.Nvram
open Go.RowKit Go.Proofs.Ytobblbplanimgaa.Base Go.Proofs.Ytobblbplanimgaa.Laws Go.Proofs.Ytobblbplanimgaa.Disk Go.Proofs.Ytobblbplanimgaa.Row Go.Proofs.Ytobblbplanimgaa.Codec Go.Proofs.Ytobblbplanimgaa.Flat Go.Proofs.Ytobblbplanimgaa.InvL Go.Proofs.Ytobblbplanimgaa.InvM
def zop : List Value := [.int .i64 0, .int .i64 0, .int .i64 0, .int .u64 0, .int .i64 0, .int .u8 0, .int .u8 0, .int .u8 0, .int .u8 0, .int .u8 0, .int .u8 0, .int .u8 0, .int .u8 0, .int .u8 0, .int .u8 0, .int .u8 0, .int .u8 0, .int .u8 0, .int .u8 0, .int .u8 0, .int .u8 0, .slice none 0 0]
theorem zop_blk (w : World) : Blk (w.alloc (.cells #[.int .i64 0, .int .i64 0, .int .i64 0, .int .u64 0, .int .i64 0, .int .u8 0, .int .u8 0, .int .u8 0, .int .u8 0, .int .u8 0, .int .u8 0, .int .u8 0, .int .u8 0, .int .u8 0, .int .u8 0, .int .u8 0, .int .u8 0, .int .u8 0, .int .u8 0, .int .u8 0, .int .u8 0, .slice none 0 0] 53)) w.heap.size zop 53 := blk_at rfl rfl
theorem oc_len {o : So} {v : Value} (h : o.Ok) : (oc (o, v)).length = 22 := by
  simp only [oc, List.length_cons, List.length_append, List.length_nil, Rc.len h.2.2]
theorem oc_one (o : So) {v : Value} (h : v.oneCell' = true) : ∀ u ∈ oc (o, v), u.oneCell' = true := by
  intro u hu
  simp only [oc, List.mem_cons, List.mem_append, List.not_mem_nil, or_false] at hu
  rcases hu with rfl | rfl | hu | rfl
  · rfl
  · rfl
  · exact Rc.one o.x u hu
  · exact h
theorem only_sub {S T : List Nat} {w w' : World} (h : Only S w w') (hs : ∀ x ∈ S, x ∈ T) : Only T w w' := ⟨h.os, h.tape, h.output, h.size, fun x hx hn => h.block x hx (fun hm => hn (hs x hm))⟩
theorem oc_at {w : World} {pb : Nat} {o : So} {v : Value} (h : Blk w pb (oc (o, v)) 53) : ∀ j u, o.x.cells[j]? = some u → w.cell? ((⟨pb, 2, none⟩ : Addr).add j) = some u := fun j u hu => by
  rw [Addr.add_lit, h.cell, Nat.add_comm]
  show (o.x.cells ++ [v])[j]? = some u
  rw [List.getElem?_append_left (List.getElem?_eq_some_iff.1 hu).1]
  exact hu
theorem oc_list {w : World} {pb : Nat} {o : So} {v : Value} (h : Blk w pb (oc (o, v)) 53) (hok : o.Ok) : w.cell? ⟨pb, 21, none⟩ = some v := by
  rw [h.cell]
  show (o.x.cells ++ [v])[19]? = some v
  rw [List.getElem?_append_right (by rw [Rc.len hok.2.2]; exact Nat.le_refl _), Rc.len hok.2.2]
  rfl
theorem copy_recs {w : World} {g : Nat} (hg : Blk w g [] 27) {a : Option Addr} {n c : Nat} {rs : List Rc} (hr : Recs w a n c rs) (hn : n * 40 ≤ 140737488355328) : ∃ a' c' w', (Builtin.append_ #[22, 22] 22 #[.slice (some ⟨g, 0, none⟩) 0 0, .slice a n c]).run Try.prog w = .ok (.slice a' n c') w' ∧ Recs w' a' n c' rs ∧ Below g w w' := by
  have own0 : w.ownsRow g 27 19 (.slice (some ⟨g, 0, none⟩) 0 0) 0 ([] : List Value) := ⟨by simp, .inr ⟨g, 0, #[], rfl, Nat.le_refl _, hg, Nat.le_refl _, by unfold maxLen; omega, by simp, by simp⟩⟩
  obtain ⟨v', w', hrun, ho, hgr, hv⟩ := run_append_any_at (P := Try.prog) w g 22 22 27 (.agg zrec.toArray) 19 40 Try.underlying22 info_rec rfl (by decide) (.slice (some ⟨g, 0, none⟩) 0 0) 0 [] own0 a n c (rv rs) hr.src (by omega) (by unfold maxLen; omega) (by have := hg.lt; omega)
  rw [Nat.zero_add, List.nil_append] at ho
  obtain ⟨a', c', rfl, hb⟩ := recs_own hr.1 hr.2.2.2.1 ho
  exact ⟨a', c', w', hrun, hb, ⟨hgr.os, hgr.tape, hgr.output, hgr.size, fun x hx => hgr.block x (by have := hg.lt; omega) (fun e => by have := Option.some.inj e; simp only at this; omega)⟩⟩
theorem own_one9 {w : World} {base : Nat} {e : TypeId} {sz n : Nat} {v : Value} {xs : List Value} (h : w.ownsRow base e sz v n xs) : v.oneCell' = true := by
  rcases h.2 with ⟨rfl, _⟩ | ⟨g, cap, cur, rfl, _⟩ <;> rfl
set_option maxHeartbeats 16000000 in
theorem plays_walk (sz : Int) (hsz : -9223372036854775808 ≤ sz ∧ sz ≤ 9223372036854775807) (a : Option Addr) (n cap : Nat) (os : List So) (w : World) (h : Scr w a n cap os) :
    Calls Try.prog 7 #[.int .i64 sz, .slice a n cap] w fun e w' => e = .returned (.bool true) ∧ Below w.heap.size w w' := by
  obtain ⟨h1, h2, h3, h4, h5, h6⟩ := h
  unfold maxLen at h3
  have HN4 := Lib.hid h4
  have HSC := Lib.hid h6
  have HN := Lib.hid h1
  have HR := Lib.hid h5
  clear h6 h1 h5 h4
  by_cases hlow : sz < 37 ∨ 65536 < sz
  · have NL := Lib.hid (fun w' m => new_low sz hlow m w')
    go_enter Try.func7, Try.ntmps7
    go_upto_region 5 with (first | (go_at_call 8; refine (awake_any w).mono ?_; rintro e w1 ⟨rfl, hb1⟩; have B1 := Lib.hid hb1; clear hb1) | (go_at_call 9; refine (newmains w1).mono ?_; rintro e w2 ⟨rfl, hp2, hb2, hs2⟩; have B2 := Lib.hid hb2; clear hb2 hp2 hs2) | (go_at_call 10; refine (NL.out _ _).mono ?_; intro e w' hh; have he := hh.1; have hw := hh.2; subst he; subst w'; clear hh))
    have BB := Lib.hid (B1.out.trans (B2.out.mono B1.out.size))
    by_cases hlo : sz < 37
    · go_wp2_with fail
      go_ret
      exact ⟨rfl, BB.out⟩
    · have hhi : 65536 < sz := by omega
      go_wp2_with fail
      go_ret
      exact ⟨rfl, BB.out⟩
  · obtain ⟨size, rfl⟩ := Int.eq_ofNat_of_zero_le (show 0 ≤ sz by omega)
    have hs1 : 37 ≤ size := by omega
    have hs2 : size ≤ 65536 := by omega
    clear hlow hsz
    go_enter Try.func7, Try.ntmps7
    go_upto_region 5 with (first | (go_at_call 8; refine (awake_any w).mono ?_; rintro e w1 ⟨rfl, hb1⟩; have B1 := Lib.hid hb1; clear hb1) | (go_at_call 9; refine (newmains w1).mono ?_; rintro e w2 ⟨rfl, hp2, hb2, hsz2⟩; have B2 := Lib.hid hb2; have P2 := Lib.hid hp2; have S2 := Lib.hid hsz2; clear hb2 hp2 hsz2) | (go_at_call 10; refine (new_ok size hs1 hs2 P2.out).mono ?_; rintro e w3 ⟨rfl, hr3, hb3, hsz3⟩; have B3 := Lib.hid hb3; have R3 := Lib.hid hr3; have S3 := Lib.hid hsz3; clear hb3 hr3 hsz3))
    have i1 : (37 : Int) ≤ (size : Int) ∧ (size : Int) ≤ 65536 := by omega
    have Z4 := Lib.hid (blk_at (w := w3) (g := w3.heap.size) (cs := zrm) (t := 48) (arr := #[.int .i64 0, .slice none 0 0]) rfl rfl)
    go_upto_region 10 with (fail)
    obtain ⟨w4, hw4⟩ : ∃ x, x = w3.alloc (.cells #[.int .i64 (size : Int), .slice none 0 0] 48) := ⟨_, rfl⟩
    have b4 : Below w3.heap.size w3 w4 := hw4 ▸ (Below.refl _ _).alloc (Nat.le_refl _) _
    have z4 : Blk w4 w3.heap.size (rmc size (.slice none 0 0)) 48 := by rw [hw4]; exact blk_at rfl rfl
    obtain ⟨pv, hpv⟩ : ∃ l, l = Rp.c ⟨false, -1, 0⟩ := ⟨_, rfl⟩
    have ON := Lib.hid (ron_any w4)
    rw [show Rp.v ⟨false, -1, 0⟩ = .agg pv.toArray from by rw [hpv]; rfl] at ON
    have PV3 := Lib.hid (show pv.length = 3 by rw [hpv]; rfl)
    have PV1 := Lib.hid (show ∀ u ∈ pv, u.oneCell' = true by rw [hpv]; exact rpc_one _)
    have HPV := Lib.hid hpv
    have B4 := Lib.hid b4
    have Z4' := Lib.hid z4
    rw [← hw4]
    clear hw4 b4 z4 hpv Z4
    go_upto_region 11 with (first | (go_at_call 23; refine ON.out.mono ?_; rintro e w5 ⟨rfl, hb5⟩; have B5 := Lib.hid hb5; clear hb5; have ZQ := Lib.hid (blk_at (w := w5) (g := w5.heap.size) (cs := zpw) (t := 50) (arr := #[Value.bool false, Value.int .i64 0, Value.int .i64 0]) rfl rfl)) | (refine wpList_store_blk rfl 50 _ _ rfl w5.heap.size 0 3 rfl 50 zpw pv rfl ZQ.out (by kernel_rfl) PV3.out (by decide) PV1.out ?_; intro w6 z6 g6; rw [put_all _ _ (by rw [PV3.out]; rfl)] at z6; have Z6 := Lib.hid z6; have G6 := Lib.hid g6; clear z6 g6))
    have b6 := below_grown ((Below.refl w5.heap.size w5).alloc (Nat.le_refl _) _) G6.out (by simp) (Nat.le_refl _)
    obtain ⟨bm, hbm⟩ : ∃ b, b = w1.heap.size := ⟨_, rfl⟩
    obtain ⟨br, hbr⟩ : ∃ b, b = w2.heap.size := ⟨_, rfl⟩
    obtain ⟨xb, hxb⟩ : ∃ b, b = w3.heap.size := ⟨_, rfl⟩
    obtain ⟨qb, hqb⟩ : ∃ b, b = w5.heap.size := ⟨_, rfl⟩
    have NV0 := Lib.hid (show Nv w w6 bm br xb qb size (.slice none 0 0) (.slice none 0 0) [] [] ⟨false, 0, 0⟩ ⟨false, -1, 0⟩ from by
      have s1 := B1.out.size
      have s2 := S2.out
      have s3 := S3.out
      have s4 := Z4'.out.lt
      have s5 := B5.out.size
      have b36 : Below w3.heap.size w3 w6 := (B4.out.trans (B5.out.mono B4.out.size)).trans (b6.mono (Nat.le_trans B4.out.size B5.out.size))
      have b26 : Below w2.heap.size w2 w6 := B3.out.trans (b36.mono B3.out.size)
      have b46 : Below w4.heap.size w4 w6 := B5.out.trans (b6.mono B5.out.size)
      refine ⟨(B1.out.trans (B2.out.mono B1.out.size)).trans (b26.mono (Nat.le_trans B1.out.size B2.out.size)), by omega, ?_, ?_, ?_, ?_, ⟨rfl, .inl ⟨rfl, rfl⟩⟩, (fun g hg => by cases hg), by omega, (fun g hg => by cases hg), (fun g hg => by cases hg), Nat.zero_le _⟩
      · rw [hbm, hbr]; exact R3.out.below b36
      · rw [hbm]; exact P2.out.only (Only.of_below (S := []) b26) (by simp)
      · rw [hxb]; exact Z4'.out.below b46 Z4'.out.lt
      · rw [hqb, ← HPV.out]; exact Z6.out)
    rw [← hbm, ← hbr, ← hxb, ← hqb]
    clear b6 Z6 G6 hbm hbr hxb hqb B1 B2 B3 B4 B5 R3 P2 S2 S3 Z4' ON HPV PV3 PV1 ZQ
    simp only [Act.put]
    go_wp2_with fail
    go_loopw [10] (fun i wr => ∃ (kk : Nat) (v s : Value) (B : List UInt8) (m : Pow) (p : Rp), kk ≤ n ∧ i = .int .i64 kk ∧ Nv w wr bm br xb qb size v s B B m p ∧ Rel m p kk) (fun i _ => n - (intOf i).toNat)
    case atStart => exact ⟨0, _, _, _, _, _, Nat.zero_le _, rfl, NV0.out, rfl, rfl, Nat.le_refl _, .inl ⟨rfl, rfl⟩⟩
    case round =>
      obtain ⟨kk, v, s, B, m, p, hk, rfl, hnv, hrel⟩ := hrel
      have NV := Lib.hid hnv
      have RL := Lib.hid hrel
      have KJ := Lib.hid (show kk ≤ 4398046511104000 by have := HN4.out; omega)
      clear hnv hrel NV0
      by_cases hkn : kk < n
      · obtain ⟨o, ho⟩ : ∃ o, os[kk]? = some o := ⟨_, List.getElem?_eq_getElem (by have := HN.out; omega)⟩
        obtain ⟨g, off, rfl, hc⟩ := HSC.out.resolve_left (by omega)
        obtain ⟨a', l', c', hcell, hrc, hl'⟩ := hc kk o ho
        have HOK := Lib.hid (HR.out o (List.mem_of_getElem? ho))
        have hg : g < w.heap.size := block_lt_of_cell (hcell 0 _ rfl)
        have hBel := NV.out.b
        obtain ⟨ov, hov⟩ : ∃ ov, ov = oc (o, .slice a' l' c') := ⟨_, rfl⟩
        have HOV := Lib.hid hov
        have LD := Lib.hid (show ∀ j v, ov[j]? = some v → wr.cell? ((⟨g, off + kk * 22, none⟩ : Addr).add j) = some v from fun j v hj => by
          rw [Addr.add_lit]
          exact (Below.cell hBel (p := ⟨g, off + kk * 22 + j, none⟩) hg).trans (hcell j v (by rw [← hov]; exact hj)))
        have O22 := Lib.hid (show ov.length = 22 by rw [hov]; exact oc_len HOK.out)
        have O1 := Lib.hid (show ∀ u ∈ ov, u.oneCell' = true by rw [hov]; exact oc_one o rfl)
        have HRC := Lib.hid hrc
        have HLC := Lib.hid hl'
        have j0 : (0 : Int) ≤ (kk : Int) ∧ (kk : Int) < (n : Int) := by omega
        have ZO := Lib.hid (zop_blk wr)
        clear ho hc hcell hrc hl' hg hBel hov
        go_upto_region 16 with (first | (refine wpList_value_g rfl (.agg ov.toArray) (exec_load_from rfl rfl LD.out Try.underlying53 rfl (by kernel_rfl) O22.out) ?_) | (refine wpList_store_blk rfl 53 _ _ rfl wr.heap.size 0 22 rfl 53 zop ov rfl ZO.out (by kernel_rfl) O22.out (by decide) O1.out ?_; intro w4 z3 g3; have Z3 := Lib.hid z3; have G3 := Lib.hid g3; clear z3 g3))
        have b3 := below_grown ((Below.refl wr.heap.size wr).alloc (Nat.le_refl _) _) G3.out (by simp) (Nat.le_refl _)
        obtain ⟨pb, hpb⟩ : ∃ pb, pb = wr.heap.size := ⟨_, rfl⟩
        have P6 := Lib.hid (show Blk w4 pb (oc (o, .slice a' l' c')) 53 from by have := Z3.out; rw [put_all _ _ (by rw [O22.out]; rfl), ← hpb, HOV.out] at this; exact this)
        have NV4 := Lib.hid (NV.out.below b3)
        have PBN := Lib.hid (show pb ∉ [br, bm, blkOf v br] ∧ xb < pb ∧ qb < pb from by
          have h1 := NV.out.x.lt
          have h2 := NV.out.q.lt
          have h3 := NV.out.ord
          exact ⟨NV.out.out (by omega) (fun x hx => by have := (own_lt NV.out.ram.own hx).2; omega), by omega, by omega⟩)
        have q0 : w4.cell? ⟨pb, 0, none⟩ = some (.int .i64 o.k) := P6.out.cell 0
        rw [← hpb]
        clear Z3 ZO LD G3 b3 hpb NV
        go_upto_block 2 with (fail)
        go_cut [12, 13, 55] (fun ve vf v55 wx => ∃ (E : Int) (v s : Value) (B : List UInt8) (m : Pow) (p : Rp), ve = .int .i64 E ∧ vf = .int .i64 E ∧ Nv w wx bm br xb qb size v s B B m p ∧ Rel m p (kk + 1))
        case first =>
          obtain ⟨okd, hokd⟩ : ∃ x, x = o.k := ⟨_, rfl⟩
          rw [← hokd] at q0 ⊢
          clear hokd
          by_cases k1 : okd = 1
          · subst k1
            have AP := Lib.hid (append_any NV4.out.ram NV4.out.pow (RL.out.mok KJ.out) HOK.out.2.2)
            have RAP := RL.out.app KJ.out size B o.x
            have CL2 := Lib.hid (app_len (p := p) (x := o.x) NV4.out.cl HOK.out.2.2)
            obtain ⟨⟨E, m2, B2⟩, hr1⟩ : ∃ r, r = appR m size B o.x := ⟨_, rfl⟩
            obtain ⟨⟨E2, p2, C2⟩, hr2⟩ : ∃ r, r = p.app size B o.x := ⟨_, rfl⟩
            rw [← hr1, ← hr2] at RAP
            obtain ⟨⟨hE, hB⟩, hrel2⟩ := RAP
            simp only at hE hB
            subst hE
            subst hB
            have REL := Lib.hid hrel2
            rw [← hr1] at AP
            rw [← hr2] at CL2
            have HR2 := Lib.hid hr2
            have LX := Lib.hid (oc_at P6.out)
            have X19 := Lib.hid (Rc.len HOK.out.2.2)
            clear hr1 hr2 hrel2
            go_upto_region 19 with (first | (refine wpList_value_g rfl (.agg o.x.cells.toArray) (exec_load_from rfl rfl LX.out Try.underlying27 rfl (by kernel_rfl) X19.out) ?_) | (go_at_call 12; refine AP.out.mono ?_; rintro e w5 ⟨rfl, v2, hr5, hp5, hv5, ho5⟩; have NV5 := Lib.hid (NV4.out.prog hr5 hp5 hv5 ho5); have P65 := Lib.hid (P6.out.only ho5 PBN.out.1); clear hr5 hp5 hv5 ho5))
            have LX5 := Lib.hid (oc_at P65.out)
            clear q0
            have RA := Lib.hid (rappend_any p (RL.out.pok KJ.out) size s B (br + 1) w5 NV5.out.own (by have := NV5.out.ram.head.lt; omega) NV5.out.cl hs2 o.x HOK.out.2.2)
            obtain ⟨pv, hpv⟩ : ∃ l, l = p.c := ⟨_, rfl⟩
            obtain ⟨rv, hrv⟩ : ∃ l, l = rmc size s := ⟨_, rfl⟩
            have ZQ5 := Lib.hid (show Blk w5 qb pv 50 from by rw [hpv]; exact NV5.out.q)
            have ZX5 := Lib.hid (show Blk w5 xb rv 48 from by rw [hrv]; exact NV5.out.x)
            have PV3 := Lib.hid (show pv.length = 3 by rw [hpv]; rfl)
            have RV2 := Lib.hid (show rv.length = 2 by rw [hrv]; rfl)
            rw [show p.v = .agg pv.toArray from by rw [hpv]; rfl, show rmv size s = .agg rv.toArray from by rw [hrv]; rfl] at RA
            clear hpv hrv
            rw [← HR2.out] at RA
            obtain ⟨pv2, hpv2⟩ : ∃ l, l = p2.c := ⟨_, rfl⟩
            rw [show p2.v = .agg pv2.toArray from by rw [hpv2]; rfl] at RA
            have PV23 := Lib.hid (show pv2.length = 3 by rw [hpv2]; rfl)
            have PV21 := Lib.hid (show ∀ u ∈ pv2, u.oneCell' = true by rw [hpv2]; exact rpc_one _)
            have HPV2 := Lib.hid hpv2
            clear hpv2
            go_wp2_with (first | (refine wpList_value_g rfl (.agg pv.toArray) (exec_load rfl rfl ZQ5.out Try.underlying50 rfl (by kernel_rfl) PV3.out) ?_) | (refine wpList_value_g rfl (.agg rv.toArray) (exec_load rfl rfl ZX5.out Try.underlying48 rfl (by kernel_rfl) RV2.out) ?_) | (refine wpList_value_g rfl (.agg o.x.cells.toArray) (exec_load_from rfl rfl LX5.out Try.underlying27 rfl (by kernel_rfl) X19.out) ?_) | (go_at_call 24; refine RA.out.mono ?_; rintro e w6 ⟨s2, rfl, hsv, hb6⟩; unfold rmv; obtain ⟨rv2, hrv2⟩ : ∃ l, l = rmc size s2 := ⟨_, rfl⟩; rw [show (#[Value.int .i64 (size : Int), s2] : Array Value) = rv2.toArray from by rw [hrv2]; rfl]; have HRV2 := Lib.hid hrv2; have SV := Lib.hid hsv; have B6 := Lib.hid hb6; have RV22 := Lib.hid (show rv2.length = 2 by rw [hrv2]; rfl); have RV21 := Lib.hid (show ∀ u ∈ rv2, u.oneCell' = true by rw [hrv2]; exact rmc_one _ (own_one9 hsv.1)); have ZQ6 := Lib.hid (ZQ5.out.below hb6 ZQ5.out.lt); have ZX6 := Lib.hid (ZX5.out.below hb6 ZX5.out.lt); clear hsv hb6 hrv2) | (refine wpList_store_blk rfl 50 _ _ rfl qb 0 3 rfl 50 pv pv2 rfl ZQ6.out (by kernel_rfl) PV23.out (by rw [PV3.out]; decide) PV21.out ?_; intro w7 z7 g7; rw [put_all _ _ (by rw [PV23.out, PV3.out])] at z7; have Z7 := Lib.hid z7; have G7 := Lib.hid g7; clear z7 g7) | (refine wpList_store_blk rfl 48 _ _ rfl xb 0 2 rfl 48 rv rv2 rfl (ZX6.out.grown G7.out (by have := PBN.out; have := NV5.out.ord; omega)) (by kernel_rfl) RV22.out (by rw [RV2.out]; decide) RV21.out ?_; intro w8 z8 g8; rw [put_all _ _ (by rw [RV22.out, RV2.out])] at z8; have Z8 := Lib.hid z8; have G8 := Lib.hid g8; clear z8 g8))
            go_meet
            case rel => exact ⟨(E : Int), _, _, _, _, _, rfl, rfl, NV5.out.ref B6.out SV.out CL2.out ((only_sub (Only.of_grown G7.out) (by simp)).trans (only_sub (Only.of_grown G8.out) (by simp))) (by rw [← HRV2.out]; exact Z8.out) (by rw [← HPV2.out]; exact Z7.out.grown G8.out (by have := NV5.out.ord; omega)), REL.out⟩
          · by_cases k2 : okd = 2
            · subst k2
              obtain ⟨wa, hwa⟩ : ∃ x, x = w4.alloc (.cells #[] 27) := ⟨_, rfl⟩
              have ba : Below w4.heap.size w4 wa := hwa ▸ (Below.refl _ _).alloc (Nat.le_refl _) _
              have za : Blk wa w4.heap.size [] 27 := by rw [hwa]; exact blk_at rfl rfl
              have hrc4 : Recs wa a' l' c' o.rs := HRC.out.below (NV4.out.b.trans (ba.mono NV4.out.b.size)) (Nat.le_refl _)
              obtain ⟨a9, c9, wc, hr9, hrc9, hb9⟩ := copy_recs za hrc4 HLC.out
              have bc : Below w4.heap.size w4 wc := ba.trans hb9
              have NVc := Lib.hid (NV4.out.below bc)
              have P6c := Lib.hid (P6.out.below bc P6.out.lt)
              have c21 : wa.cell? ⟨pb, 21, none⟩ = some (.slice a' l' c') := oc_list (P6.out.below ba P6.out.lt) HOK.out
              have AP := Lib.hid (load_any NVc.out.ram NVc.out.pow (RL.out.mok KJ.out) a9 l' c9 o.rs hrc9)
              have RAP := RL.out.load KJ.out size B o.rs
              have CL2 := Lib.hid (load_len (p := p) (rs := o.rs) NV4.out.cl HRC.out.2.2.2.1)
              obtain ⟨⟨E, m2, B2⟩, hr1⟩ : ∃ r, r = loadR m size B o.rs := ⟨_, rfl⟩
              obtain ⟨⟨E2, p2, C2⟩, hr2⟩ : ∃ r, r = p.load size B o.rs := ⟨_, rfl⟩
              rw [← hr1, ← hr2] at RAP
              obtain ⟨⟨hE, hB⟩, hrel2⟩ := RAP
              simp only at hE hB
              subst hE
              subst hB
              have REL := Lib.hid hrel2
              rw [← hr1] at AP
              rw [← hr2] at CL2
              have HR2 := Lib.hid hr2
              rw [hwa] at hr9 c21
              have HR9 := Lib.hid hr9
              clear hr1 hr2 hrel2 hwa ba za hrc4 hr9 hrc9 hb9 bc q0
              go_upto_region 22 with (first | (at_builtin; refine wpList_world_gg rfl (.slice a9 l' c9) (w' := wc) (exec_append _ _ rfl rfl rfl HR9.out) ?_) | (go_at_call 21; refine AP.out.mono ?_; rintro e w5 ⟨rfl, v2, hr5, hp5, hv5, ho5⟩; have NV5 := Lib.hid (NVc.out.prog hr5 hp5 hv5 ho5); have P65 := Lib.hid (P6c.out.only ho5 PBN.out.1); clear hr5 hp5 hv5 ho5))
              clear c21
              have c21 : w5.cell? ⟨pb, 21, none⟩ = some (.slice a' l' c') := oc_list P65.out HOK.out
              have RA := Lib.hid (rload_any p (RL.out.pok KJ.out) size s B (br + 1) w5 NV5.out.own (by have := NV5.out.ram.head.lt; omega) NV5.out.cl hs2 a' l' c' o.rs (HRC.out.below NV5.out.b (Nat.le_refl _)))
              obtain ⟨pv, hpv⟩ : ∃ l, l = p.c := ⟨_, rfl⟩
              obtain ⟨rv, hrv⟩ : ∃ l, l = rmc size s := ⟨_, rfl⟩
              have ZQ5 := Lib.hid (show Blk w5 qb pv 50 from by rw [hpv]; exact NV5.out.q)
              have ZX5 := Lib.hid (show Blk w5 xb rv 48 from by rw [hrv]; exact NV5.out.x)
              have PV3 := Lib.hid (show pv.length = 3 by rw [hpv]; rfl)
              have RV2 := Lib.hid (show rv.length = 2 by rw [hrv]; rfl)
              rw [show p.v = .agg pv.toArray from by rw [hpv]; rfl, show rmv size s = .agg rv.toArray from by rw [hrv]; rfl] at RA
              clear hpv hrv
              rw [← HR2.out] at RA
              obtain ⟨pv2, hpv2⟩ : ∃ l, l = p2.c := ⟨_, rfl⟩
              rw [show p2.v = .agg pv2.toArray from by rw [hpv2]; rfl] at RA
              have PV23 := Lib.hid (show pv2.length = 3 by rw [hpv2]; rfl)
              have PV21 := Lib.hid (show ∀ u ∈ pv2, u.oneCell' = true by rw [hpv2]; exact rpc_one _)
              have HPV2 := Lib.hid hpv2
              clear hpv2
              go_wp2_with (first | (refine wpList_value_g rfl (.agg pv.toArray) (exec_load rfl rfl ZQ5.out Try.underlying50 rfl (by kernel_rfl) PV3.out) ?_) | (refine wpList_value_g rfl (.agg rv.toArray) (exec_load rfl rfl ZX5.out Try.underlying48 rfl (by kernel_rfl) RV2.out) ?_) | (go_at_call 25; refine RA.out.mono ?_; rintro e w6 ⟨s2, rfl, hsv, hb6⟩; unfold rmv; obtain ⟨rv2, hrv2⟩ : ∃ l, l = rmc size s2 := ⟨_, rfl⟩; rw [show (#[Value.int .i64 (size : Int), s2] : Array Value) = rv2.toArray from by rw [hrv2]; rfl]; have HRV2 := Lib.hid hrv2; have SV := Lib.hid hsv; have B6 := Lib.hid hb6; have RV22 := Lib.hid (show rv2.length = 2 by rw [hrv2]; rfl); have RV21 := Lib.hid (show ∀ u ∈ rv2, u.oneCell' = true by rw [hrv2]; exact rmc_one _ (own_one9 hsv.1)); have ZQ6 := Lib.hid (ZQ5.out.below hb6 ZQ5.out.lt); have ZX6 := Lib.hid (ZX5.out.below hb6 ZX5.out.lt); clear hsv hb6 hrv2) | (refine wpList_store_blk rfl 50 _ _ rfl qb 0 3 rfl 50 pv pv2 rfl ZQ6.out (by kernel_rfl) PV23.out (by rw [PV3.out]; decide) PV21.out ?_; intro w7 z7 g7; rw [put_all _ _ (by rw [PV23.out, PV3.out])] at z7; have Z7 := Lib.hid z7; have G7 := Lib.hid g7; clear z7 g7) | (refine wpList_store_blk rfl 48 _ _ rfl xb 0 2 rfl 48 rv rv2 rfl (ZX6.out.grown G7.out (by have := PBN.out; have := NV5.out.ord; omega)) (by kernel_rfl) RV22.out (by rw [RV2.out]; decide) RV21.out ?_; intro w8 z8 g8; rw [put_all _ _ (by rw [RV22.out, RV2.out])] at z8; have Z8 := Lib.hid z8; have G8 := Lib.hid g8; clear z8 g8))
              go_meet
              case rel => exact ⟨(E : Int), _, _, _, _, _, rfl, rfl, NV5.out.ref B6.out SV.out CL2.out ((only_sub (Only.of_grown G7.out) (by simp)).trans (only_sub (Only.of_grown G8.out) (by simp))) (by rw [← HRV2.out]; exact Z8.out) (by rw [← HPV2.out]; exact Z7.out.grown G8.out (by have := NV5.out.ord; omega)), REL.out⟩
            · by_cases k3 : okd = 3
              · subst k3
                have AP := Lib.hid (trim_any NV4.out.ram)
                obtain ⟨B2, hB2⟩ : ∃ x, x = B.take (37 * (scanAll B).length) := ⟨_, rfl⟩
                rw [← hB2] at AP
                have CL2 := Lib.hid (show B2.length ≤ size from by rw [hB2, List.length_take]; have := NV4.out.cl; omega)
                have HB2 := Lib.hid hB2
                clear hB2 q0
                go_upto_region 25 with (go_at_call 18; refine AP.out.mono ?_; rintro e w5 ⟨rfl, v2, hr5, hv5, ho5⟩; have NV5 := Lib.hid (NV4.out.prog hr5 (NV4.out.pow.only ho5 (by have := NV4.out.ram.lt; simp; omega)) (fun g hg => .inl (hv5 g hg)) (only_sub ho5 (by simp))); clear hr5 hv5 ho5)
                have RA := Lib.hid (rtrim_any size s B (br + 1) w5 NV5.out.own (by have := NV5.out.ram.head.lt; omega) (by have := NV5.out.cl; omega) hs2)
                rw [← HB2.out] at RA
                obtain ⟨rv, hrv⟩ : ∃ l, l = rmc size s := ⟨_, rfl⟩
                have ZX5 := Lib.hid (show Blk w5 xb rv 48 from by rw [hrv]; exact NV5.out.x)
                have RV2 := Lib.hid (show rv.length = 2 by rw [hrv]; rfl)
                rw [show rmv size s = .agg rv.toArray from by rw [hrv]; rfl] at RA
                clear hrv
                go_wp2_with (first | (refine wpList_value_g rfl (.agg rv.toArray) (exec_load rfl rfl ZX5.out Try.underlying48 rfl (by kernel_rfl) RV2.out) ?_) | (go_at_call 26; refine RA.out.mono ?_; rintro e w6 ⟨s2, rfl, hsv, hb6⟩; unfold rmv; obtain ⟨rv2, hrv2⟩ : ∃ l, l = rmc size s2 := ⟨_, rfl⟩; rw [show (#[Value.int .i64 (size : Int), s2] : Array Value) = rv2.toArray from by rw [hrv2]; rfl]; have HRV2 := Lib.hid hrv2; have SV := Lib.hid hsv; have B6 := Lib.hid hb6; have RV22 := Lib.hid (show rv2.length = 2 by rw [hrv2]; rfl); have RV21 := Lib.hid (show ∀ u ∈ rv2, u.oneCell' = true by rw [hrv2]; exact rmc_one _ (own_one9 hsv.1)); have ZX6 := Lib.hid (ZX5.out.below hb6 ZX5.out.lt); have ZQ6 := Lib.hid (NV5.out.q.below hb6 NV5.out.q.lt); clear hsv hb6 hrv2) | (refine wpList_store_blk rfl 48 _ _ rfl xb 0 2 rfl 48 rv rv2 rfl ZX6.out (by kernel_rfl) RV22.out (by rw [RV2.out]; decide) RV21.out ?_; intro w8 z8 g8; rw [put_all _ _ (by rw [RV22.out, RV2.out])] at z8; have Z8 := Lib.hid z8; have G8 := Lib.hid g8; clear z8 g8))
                go_meet
                case rel => exact ⟨0, _, _, _, _, _, rfl, rfl, NV5.out.ref B6.out SV.out CL2.out (only_sub (Only.of_grown G8.out) (by simp)) (by rw [← HRV2.out]; exact Z8.out) (ZQ6.out.grown G8.out (by have := NV5.out.ord; omega)), RL.out.mono (by omega)⟩
              · by_cases k4 : okd = 4
                · subst k4
                  have AP := Lib.hid (wipe_any NV4.out.ram)
                  clear q0
                  go_upto_region 28 with (go_at_call 22; refine AP.out.mono ?_; rintro e w5 ⟨rfl, hr5, ho5⟩; have NV5 := Lib.hid (NV4.out.prog hr5 (NV4.out.pow.only ho5 (by have := NV4.out.ram.lt; simp; omega)) (fun g hg => by cases hg) (only_sub ho5 (by simp))); clear hr5 ho5)
                  go_wp2_with (refine wpList_store_blk rfl 48 _ _ rfl xb 0 2 rfl 48 (rmc size s) (rmc size (.slice none 0 0)) rfl NV5.out.x (by kernel_rfl) rfl (by show 0 + 2 ≤ 2; decide) (rmc_one _ rfl) ?_; intro w8 z8 g8; rw [put_all (rmc size s) (rmc size (.slice none 0 0)) rfl] at z8; have Z8 := Lib.hid z8; have G8 := Lib.hid g8; clear z8 g8)
                  go_meet
                  case rel => exact ⟨0, _, _, _, _, _, rfl, rfl, NV5.out.ref (Below.refl _ _) (s' := .slice none 0 0) (C' := []) ⟨⟨rfl, .inl ⟨rfl, rfl⟩⟩, .inr (fun g hg => by cases hg)⟩ (Nat.zero_le _) (only_sub (Only.of_grown G8.out) (by simp)) Z8.out (NV5.out.q.grown G8.out (by have := NV5.out.ord; omega)), RL.out.mono (by omega)⟩
                · by_cases k5 : okd = 5
                  · subst k5
                    have AP := Lib.hid (cut_all bm m w4 NV4.out.pow o.n HOK.out.2.1.2)
                    have RAP := RL.out.cut o.n HOK.out.2.1.2
                    obtain ⟨⟨E, m2⟩, hr1⟩ : ∃ r, r = m.cut o.n := ⟨_, rfl⟩
                    obtain ⟨⟨E2, p2⟩, hr2⟩ : ∃ r, r = p.cut o.n := ⟨_, rfl⟩
                    rw [← hr1, ← hr2] at RAP
                    obtain ⟨hE, hrel2⟩ := RAP
                    simp only at hE
                    subst hE
                    have REL := Lib.hid hrel2
                    rw [← hr1] at AP
                    have HR2 := Lib.hid hr2
                    have q1 : w4.cell? ⟨pb, 1, none⟩ = some (.int .i64 o.n) := P6.out.cell 1
                    clear hr1 hr2 hrel2 q0
                    go_upto_region 31 with (go_at_call 11; refine AP.out.mono ?_; rintro e w5 ⟨rfl, hp5, ho5⟩; have NV5 := Lib.hid (NV4.out.prog (NV4.out.ram.only ho5 (by have := NV4.out.ram.lt; simp; omega) (fun g hg => by have := (own_lt NV4.out.ram.own hg).1; have := NV4.out.ram.lt; simp; omega)) hp5 (fun g hg => .inl hg) (only_sub ho5 (by simp))); have P65 := Lib.hid (P6.out.only ho5 (by have := PBN.out; have := NV4.out.ord; have := NV4.out.ram.lt; simp; omega)); clear hp5 ho5)
                    clear q1
                    have q1 : w5.cell? ⟨pb, 1, none⟩ = some (.int .i64 o.n) := P65.out.cell 1
                    have RA := Lib.hid (rcut_any p o.n w5)
                    rw [← HR2.out] at RA
                    simp only at RA
                    obtain ⟨pv, hpv⟩ : ∃ l, l = p.c := ⟨_, rfl⟩
                    have ZQ5 := Lib.hid (show Blk w5 qb pv 50 from by rw [hpv]; exact NV5.out.q)
                    have PV3 := Lib.hid (show pv.length = 3 by rw [hpv]; rfl)
                    rw [show p.v = .agg pv.toArray from by rw [hpv]; rfl] at RA
                    obtain ⟨pv2, hpv2⟩ : ∃ l, l = p2.c := ⟨_, rfl⟩
                    rw [show p2.v = .agg pv2.toArray from by rw [hpv2]; rfl] at RA
                    have PV23 := Lib.hid (show pv2.length = 3 by rw [hpv2]; rfl)
                    have PV21 := Lib.hid (show ∀ u ∈ pv2, u.oneCell' = true by rw [hpv2]; exact rpc_one _)
                    have HPV2 := Lib.hid hpv2
                    clear hpv hpv2
                    go_wp2_with (first | (refine wpList_value_g rfl (.agg pv.toArray) (exec_load rfl rfl ZQ5.out Try.underlying50 rfl (by kernel_rfl) PV3.out) ?_) | (go_at_call 27; refine RA.out.mono ?_; rintro e w6 ⟨rfl, hb6⟩; have B6 := Lib.hid hb6; have ZQ6 := Lib.hid (ZQ5.out.below hb6 ZQ5.out.lt); have ZX6 := Lib.hid (NV5.out.x.below hb6 NV5.out.x.lt); clear hb6) | (refine wpList_store_blk rfl 50 _ _ rfl qb 0 3 rfl 50 pv pv2 rfl ZQ6.out (by kernel_rfl) PV23.out (by rw [PV3.out]; decide) PV21.out ?_; intro w7 z7 g7; rw [put_all _ _ (by rw [PV23.out, PV3.out])] at z7; have Z7 := Lib.hid z7; have G7 := Lib.hid g7; clear z7 g7))
                    go_meet
                    case rel => exact ⟨E, _, _, _, _, _, rfl, rfl, NV5.out.ref B6.out (NV5.out.same B6.out) NV5.out.cl (only_sub (Only.of_grown G7.out) (by simp)) (ZX6.out.grown G7.out (by have := NV5.out.ord; omega)) (by rw [← HPV2.out]; exact Z7.out), REL.out⟩
                  · by_cases k6 : okd = 6
                    · subst k6
                      have AP := Lib.hid (restore_any bm m w4 NV4.out.pow)
                      have REL := Lib.hid RL.out.restore
                      obtain ⟨p2, hp2⟩ : ∃ x : Rp, x = ⟨false, -1, p.steps⟩ := ⟨_, rfl⟩
                      rw [← hp2] at REL
                      have HP2 := Lib.hid hp2
                      clear hp2 q0
                      go_upto_region 34 with (go_at_call 15; refine AP.out.mono ?_; rintro e w5 ⟨rfl, hp5, ho5⟩; have NV5 := Lib.hid (NV4.out.prog (NV4.out.ram.only ho5 (by have := NV4.out.ram.lt; simp; omega) (fun g hg => by have := (own_lt NV4.out.ram.own hg).1; have := NV4.out.ram.lt; simp; omega)) hp5 (fun g hg => .inl hg) (only_sub ho5 (by simp))); clear hp5 ho5)
                      have RA := Lib.hid (rrestore_any p w5)
                      rw [← HP2.out] at RA
                      obtain ⟨pv, hpv⟩ : ∃ l, l = p.c := ⟨_, rfl⟩
                      have ZQ5 := Lib.hid (show Blk w5 qb pv 50 from by rw [hpv]; exact NV5.out.q)
                      have PV3 := Lib.hid (show pv.length = 3 by rw [hpv]; rfl)
                      rw [show p.v = .agg pv.toArray from by rw [hpv]; rfl] at RA
                      obtain ⟨pv2, hpv2⟩ : ∃ l, l = p2.c := ⟨_, rfl⟩
                      rw [show p2.v = .agg pv2.toArray from by rw [hpv2]; rfl] at RA
                      have PV23 := Lib.hid (show pv2.length = 3 by rw [hpv2]; rfl)
                      have PV21 := Lib.hid (show ∀ u ∈ pv2, u.oneCell' = true by rw [hpv2]; exact rpc_one _)
                      have HPV2 := Lib.hid hpv2
                      clear hpv hpv2
                      go_wp2_with (first | (refine wpList_value_g rfl (.agg pv.toArray) (exec_load rfl rfl ZQ5.out Try.underlying50 rfl (by kernel_rfl) PV3.out) ?_) | (go_at_call 28; refine RA.out.mono ?_; rintro e w6 ⟨rfl, hb6⟩; have B6 := Lib.hid hb6; have ZQ6 := Lib.hid (ZQ5.out.below hb6 ZQ5.out.lt); have ZX6 := Lib.hid (NV5.out.x.below hb6 NV5.out.x.lt); clear hb6) | (refine wpList_store_blk rfl 50 _ _ rfl qb 0 3 rfl 50 pv pv2 rfl ZQ6.out (by kernel_rfl) PV23.out (by rw [PV3.out]; decide) PV21.out ?_; intro w7 z7 g7; rw [put_all _ _ (by rw [PV23.out, PV3.out])] at z7; have Z7 := Lib.hid z7; have G7 := Lib.hid g7; clear z7 g7))
                      go_meet
                      case rel => exact ⟨0, _, _, _, _, _, rfl, rfl, NV5.out.ref B6.out (NV5.out.same B6.out) NV5.out.cl (only_sub (Only.of_grown G7.out) (by simp)) (ZX6.out.grown G7.out (by have := NV5.out.ord; omega)) (by rw [← HPV2.out]; exact Z7.out), REL.out⟩
                    · go_wp2_with fail
                      go_meet
                      case rel => exact ⟨0, _, _, _, _, _, rfl, rfl, NV4.out, RL.out.mono (by omega)⟩
        case rest =>
          obtain ⟨E, v', s', B', m', p', rfl, rfl, hnv, hrel2⟩ := hcut
          have NV := Lib.hid hnv
          have REL := Lib.hid hrel2
          clear hnv hrel2 q0 NV4 P6 PBN HRC HLC HOV O22 O1 RL
          obtain ⟨sa, sc, hsv, hsb⟩ := OwnB.bts_own rfl NV.out.own
          obtain ⟨bn, hbn⟩ : ∃ x, x = B'.length := ⟨_, rfl⟩
          rw [← hbn] at hsv hsb
          obtain ⟨rmn, hrmn⟩ : ∃ x, x = (size - bn) / 37 := ⟨_, rfl⟩
          obtain ⟨stn, hstn⟩ : ∃ x, x = m'.steps := ⟨_, rfl⟩
          obtain ⟨lft, hlft⟩ : ∃ x, x = p'.left := ⟨_, rfl⟩
          obtain ⟨off, hoff⟩ : ∃ x, x = p'.off := ⟨_, rfl⟩
          have hmo : m'.off = off := by rw [hoff]; exact REL.out.off
          have hms : p'.steps = stn := by rw [hstn]; exact REL.out.steps.symm
          have hcl := NV.out.cl
          have bdr : Below wc.heap.size wc wc.drew := (Below.refl _ _).drew
          have KP := Lib.hid (show ∀ w', Below wc.heap.size wc w' → w'.cell? ⟨xb, 0, none⟩ = some (.int .i64 (size : Int)) ∧ w'.cell? ⟨xb, 1, none⟩ = some (.slice sa bn sc) ∧ w'.cell? ⟨qb, 0, none⟩ = some (.bool off) ∧ w'.cell? ⟨qb, 2, none⟩ = some (.int .i64 (stn : Int)) from fun w' hb => by
            have h := NV.out.below hb
            refine ⟨h.x.cell 0, (h.x.cell 1).trans (by rw [← hsv]; rfl), (h.q.cell 0).trans (by rw [hoff]; rfl), (h.q.cell 2).trans (by rw [← hms]; rfl)⟩)
          have KP0 := Lib.hid (KP.out _ bdr)
          have BD := Lib.hid bdr
          have US := Lib.hid (show ∀ w', Below wc.heap.size wc w' → Calls Try.prog 19 #[.pointer (some ⟨br, 0, none⟩)] w' (fun e w'' => e = .returned (.int .i64 (bn : Int)) ∧ Below wc.heap.size wc w'') from fun w' hb =>
            (used_any (NV.out.below hb).ram).mono (by
              rintro e w'' ⟨rfl, rfl⟩
              exact ⟨by rw [hbn], hb⟩))
          have RM := Lib.hid (show ∀ w', Below wc.heap.size wc w' → Calls Try.prog 20 #[.pointer (some ⟨br, 0, none⟩)] w' (fun e w'' => e = .returned (.int .i64 (rmn : Int)) ∧ Below wc.heap.size wc w'') from fun w' hb =>
            (room_any (NV.out.below hb).ram).mono (by
              rintro e w'' ⟨rfl, nd, rfl⟩
              exact ⟨by rw [hrmn, hbn], hb.trans ⟨rfl, rfl, rfl, Nat.le_refl _, fun _ _ => rfl⟩⟩))
          have RR := Lib.hid (show ∀ w', Below wc.heap.size wc w' → Calls Try.prog 29 #[.agg #[.int .i64 (size : Int), .slice sa bn sc]] w' (fun e w'' => e = .returned (.int .i64 (rmn : Int)) ∧ Below wc.heap.size wc w'') from fun w' hb =>
            (rroom_any size sa bn sc w' (by omega) hs2).mono (by
              rintro e w'' ⟨rfl, h⟩
              exact ⟨by rw [hrmn], hb.trans (h.mono hb.size)⟩))
          have ONC := Lib.hid (show ∀ w', Below wc.heap.size wc w' → Calls Try.prog 14 #[.pointer (some ⟨bm, 0, none⟩)] w' (fun e w'' => e = .returned (.bool (!off)) ∧ Below wc.heap.size wc w'') from fun w' hb =>
            (on_any bm m' w' (NV.out.below hb).pow).mono (by
              rintro e w'' ⟨rfl, rfl⟩
              exact ⟨by rw [hmo], hb⟩))
          have STP := Lib.hid (show ∀ w', Below wc.heap.size wc w' → Calls Try.prog 30 #[.pointer (some ⟨bm, 0, none⟩)] w' (fun e w'' => e = .returned (.int .i64 (stn : Int)) ∧ Below wc.heap.size wc w'') from fun w' hb =>
            (steps_any bm m' w' (NV.out.below hb).pow (REL.out.mok (by have := HN4.out; omega))).mono (by
              rintro e w'' ⟨rfl, rfl⟩
              exact ⟨by rw [hstn], hb⟩))
          have RCS := Lib.hid (show ∀ w', Below wc.heap.size wc w' → Calls Try.prog 17 #[.pointer (some ⟨br, 0, none⟩)] w' (fun e w'' => ∃ a c, e = .returned (.slice a (scanAll B').length c) ∧ Recs w'' a (scanAll B').length c (scanAll B') ∧ Below wc.heap.size wc w'') from fun w' hb =>
            (records_any (NV.out.below hb).ram).mono (by
              rintro e w'' ⟨r, rfl, ho, h⟩
              obtain ⟨a, c, rfl, hr⟩ := recs_own rfl (scanAll_valid _) ho
              exact ⟨a, c, rfl, hr, hb.trans (h.mono hb.size)⟩))
          have RRC := Lib.hid (show ∀ w', Below wc.heap.size wc w' → Calls Try.prog 31 #[.agg #[.int .i64 (size : Int), .slice sa bn sc]] w' (fun e w'' => ∃ a c, e = .returned (.slice a (scanAll B').length c) ∧ Recs w'' a (scanAll B').length c (scanAll B') ∧ Below wc.heap.size wc w'' ∧ Below w'.heap.size w' w'') from fun w' hb =>
            (rrecords_any size sa bn sc B' w' (hsb.below hb (Nat.le_refl _)) (by omega)).mono (by
              rintro e w'' ⟨r, rfl, ho, h⟩
              obtain ⟨a, c, rfl, hr⟩ := recs_own rfl (scanAll_valid _) ho
              exact ⟨a, c, rfl, hr, hb.trans (h.mono hb.size), h⟩))
          have SMR := Lib.hid (show ∀ w' a c a2 c2, Recs w' a (scanAll B').length c (scanAll B') → Recs w' a2 (scanAll B').length c2 (scanAll B') → Below wc.heap.size wc w' → Calls Try.prog 16 #[.slice a (scanAll B').length c, .slice a2 (scanAll B').length c2] w' (fun e w'' => e = .returned (.bool true) ∧ Below wc.heap.size wc w'') from fun w' a c a2 c2 h1 h2 hb =>
            (same_recs a _ c _ a2 _ c2 _ w' h1 h2).mono (by
              rintro e w'' ⟨rfl, nd, rfl⟩
              exact ⟨by rw [decide_eq_true rfl], hb.trans ⟨rfl, rfl, rfl, Nat.le_refl _, fun _ _ => rfl⟩⟩))
          obtain ⟨sn, hsn⟩ : ∃ x, x = (scanAll B').length := ⟨_, rfl⟩
          rw [← hsn] at RCS RRC SMR
          clear hsv hsb hbn hrmn hstn hlft hoff hmo hms bdr hsn
          cases off
          · go_upto_region 35 with (fail)
            go_region_held3 (fun w' => w'.cell? ⟨xb, 0, none⟩ = some (.int .i64 (size : Int)) ∧ w'.cell? ⟨xb, 1, none⟩ = some (.slice sa bn sc) ∧ w'.cell? ⟨qb, 0, none⟩ = some (.bool false) ∧ w'.cell? ⟨qb, 2, none⟩ = some (.int .i64 (stn : Int))) (first | exact KP0.out | exact KP.out _ hb1 | exact KP.out _ hb2 | exact KP.out _ hb3 | exact KP.out _ hb4 | exact KP.out _ hb5 | exact KP.out _ hb6 | exact KP.out _ hb7 | exact KP.out _ hb8)
              (first
                | (go_at_call 19; refine (US.out _ BD.out).mono ?_; rintro e w1' ⟨rfl, hb1⟩)
                | (go_at_call 20; refine (RM.out _ hb1).mono ?_; rintro e w2' ⟨rfl, hb2⟩)
                | (go_at_call 29; refine (RR.out _ hb2).mono ?_; rintro e w3' ⟨rfl, hb3⟩)
                | (go_at_call 14; refine (ONC.out _ hb3).mono ?_; rintro e w4' ⟨rfl, hb4⟩)
                | (go_at_call 30; refine (STP.out _ hb4).mono ?_; rintro e w5' ⟨rfl, hb5⟩)
                | (go_at_call 17; refine (RCS.out _ hb5).mono ?_; rintro e w6' ⟨ra, rc, rfl, hr6, hb6⟩)
                | (go_at_call 31; refine (RRC.out _ hb6).mono ?_; rintro e w7' ⟨ra2, rc2, rfl, hr7, hb7, hb67⟩)
                | (go_at_call 16; refine (SMR.out _ _ _ _ _ (hr6.below hb67 (Nat.le_refl _)) hr7 hb7).mono ?_; rintro e w8' ⟨rfl, hb8⟩))
            go_wp2_with fail
            refine ⟨⟨kk + 1, _, _, _, _, _, by omega, by go_num, NV.out.below hb8, REL.out⟩, ?_⟩
            simp [intOf]; omega
          · go_upto_region 35 with (fail)
            go_region_held3 (fun w' => w'.cell? ⟨xb, 0, none⟩ = some (.int .i64 (size : Int)) ∧ w'.cell? ⟨xb, 1, none⟩ = some (.slice sa bn sc) ∧ w'.cell? ⟨qb, 0, none⟩ = some (.bool true) ∧ w'.cell? ⟨qb, 2, none⟩ = some (.int .i64 (stn : Int))) (first | exact KP0.out | exact KP.out _ hb1 | exact KP.out _ hb2 | exact KP.out _ hb3 | exact KP.out _ hb4 | exact KP.out _ hb5 | exact KP.out _ hb6 | exact KP.out _ hb7 | exact KP.out _ hb8)
              (first
                | (go_at_call 19; refine (US.out _ BD.out).mono ?_; rintro e w1' ⟨rfl, hb1⟩)
                | (go_at_call 20; refine (RM.out _ hb1).mono ?_; rintro e w2' ⟨rfl, hb2⟩)
                | (go_at_call 29; refine (RR.out _ hb2).mono ?_; rintro e w3' ⟨rfl, hb3⟩)
                | (go_at_call 14; refine (ONC.out _ hb3).mono ?_; rintro e w4' ⟨rfl, hb4⟩)
                | (go_at_call 30; refine (STP.out _ hb4).mono ?_; rintro e w5' ⟨rfl, hb5⟩)
                | (go_at_call 17; refine (RCS.out _ hb5).mono ?_; rintro e w6' ⟨ra, rc, rfl, hr6, hb6⟩)
                | (go_at_call 31; refine (RRC.out _ hb6).mono ?_; rintro e w7' ⟨ra2, rc2, rfl, hr7, hb7, hb67⟩)
                | (go_at_call 16; refine (SMR.out _ _ _ _ _ (hr6.below hb67 (Nat.le_refl _)) hr7 hb7).mono ?_; rintro e w8' ⟨rfl, hb8⟩))
            go_wp2_with fail
            refine ⟨⟨kk + 1, _, _, _, _, _, by omega, by go_num, NV.out.below hb8, REL.out⟩, ?_⟩
            simp [intOf]; omega
      · go_wp2_with fail
        go_ret
        exact ⟨rfl, NV.out.b⟩
end Go.Proofs.Ytobblbplanimgaa.Nvram
/-
  The statement on every step of a script over a memory, its arguments as they come in. Helper text; no statement is proved here.
-/
set_option linter.unusedVariables false
set_option maxRecDepth 20000
set_option linter.unusedSimpArgs false
namespace Go.Proofs.Ytobblbplanimgaa.Nvram
open Go.RowKit Go.Proofs.Ytobblbplanimgaa.Base Go.Proofs.Ytobblbplanimgaa.Laws
section
variable {H : Type} {enc : TypeId × Value → H} {base : Nat} {spare : Nat → Bool} {held : Bool} {W : World}
theorem plays_in (sz : Int) (hw : (Lit.int .i64 sz).wf = true) (a : Option Addr) (n ca : Nat) (lf : Opens.LfOk enc Try.prog W base spare held (.slice 53) (.slice a n ca)) : Calls Try.prog 7 #[.int .i64 sz, .slice a n ca] W fun e w' => e = .returned (.bool true) ∧ Below W.heap.size W w' := by
  obtain ⟨os, ho⟩ := scr_in lf
  exact plays_walk sz (Opens.wf_i64 hw) a n ca os W ho
end
end Go.Proofs.Ytobblbplanimgaa.Nvram
