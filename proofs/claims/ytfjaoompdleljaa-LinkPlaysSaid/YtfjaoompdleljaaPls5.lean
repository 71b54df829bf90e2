/-
  Helper texts, joined in build order; no statement is proved here.
-/
import Derived.Deep.DeepCutAuto
import Derived.Deep.CutBlock
import Derived.Deep.RegionHeld3
import Derived.Test.YtfjaoompdleljaaPls4
/-
  Deliver (whole) of the reference by contract. Helper text; no statement is proved here.
-/
set_option linter.unusedVariables false
set_option maxRecDepth 20000
set_option linter.unusedSimpArgs false
namespace Go.Proofs.Ytfjaoompdleljaa.Link
open Go.RowKit Go.Proofs.Ytfjaoompdleljaa.Base Go.Proofs.Ytfjaoompdleljaa.Laws Go.Proofs.Ytfjaoompdleljaa.Disk Go.Proofs.Ytfjaoompdleljaa.Row Go.Proofs.Ytfjaoompdleljaa.Flat Go.Proofs.Ytfjaoompdleljaa.InvM Go.Proofs.Ytfjaoompdleljaa.Inv Go.Proofs.Ytfjaoompdleljaa.InvL Go.Proofs.Ytfjaoompdleljaa.InvC Go.Proofs.Ytfjaoompdleljaa.InvG Go.Proofs.Ytfjaoompdleljaa.Codec
variable {N : Nat → Prop}
set_option maxHeartbeats 2000000 in
theorem rdeliver_no {w : World} {V : Nat → Value} {k : Lk} (h : Rk N w V k) (i : Int) (hfl : k.fl.length ≤ 1024) (hin : ¬ k.inR i) : Calls Try.prog 24 #[rl k V, .int .i64 i] w fun e w' => Ck N w 2 k e w' := by
  obtain ⟨lv, wb, rb, hp⟩ := pro h
  obtain ⟨fa, fc, hvf, hfm, hfx⟩ := h.fl.form
  obtain ⟨fn, hfn⟩ : ∃ fn, fn = k.fl.length := ⟨_, rfl⟩
  have c9 : wb.cell? ⟨w.heap.size, 9, none⟩ = some (.slice fa fn fc) := by rw [hfn, ← hvf]; exact (hp.x.z.cell 9)
  have PR := Lib.hid hp
  have HFN := Lib.hid hfn
  have HFL := Lib.hid hfl
  have ZL := Lib.hid (show Blk wb.drew w.heap.size lv 52 from hp.z.drew)
  have ZRR := Lib.hid (show Blk wb.drew rb zlk 52 from hp.r.drew)
  have OUT := Lib.hid (hp.x.drew.out ZRR.out zlk_no (by have := hp.erb; omega) hp.elv (by have := hp.erb; omega))
  unfold rl
  rw [← hp.elv]
  unfold Lk.inR at hin
  rw [← hfn] at hin
  clear hvf hfl h hfn hp hfm hfx
  by_cases h0 : i < 0
  · clear hin
    go_enter Try.func24, Try.ntmps24
    go_upto_region 1 with (fail)
    rw [zlk_is, PR.out.ewb, PR.out.erb]
    go_upto_region 2 with (fail)
    refine wp_region_gate_tail (fun d w' => w' = wb.drew) 2 (by kernel_rfl) (by kernel_rfl) rfl ?_
    simp only [List.take_succ_cons, List.take_zero, List.drop_succ_cons, List.drop_zero]
    refine InvC.invc_value (.agg lv.toArray) (fun u hu => by cases hu) rfl (fun d w' _ _ h => by subst h; exact exec_load rfl rfl ZL.out Try.underlying52 rfl (by kernel_rfl) PR.out.n) (fun d w' _ _ h => h) ?_
    simp only [Act.put, List.setIfInBounds_toArray, List.set_cons_zero, List.set_cons_succ]
    refine InvC.invc_value (.int .i64 2) (fun u hu => by cases hu) rfl (fun d w' _ _ h => by go_simp; all_goals rfl) (fun d w' _ _ h => h) ?_
    simp only [Act.put, List.setIfInBounds_toArray, List.set_cons_zero, List.set_cons_succ]
    refine InvC.invc_nil fun w8 e8 => ?_
    subst e8
    go_wp2_with (refine wpList_store_row rfl 52 _ _ rfl rb 0 10 rfl 52 zlk lv rfl ZRR.out (by kernel_rfl) PR.out.n (by decide) PR.out.one ?_)
    rw [put_all zlk lv (by rw [PR.out.n]; rfl)]
    exact bodyPost_ret (v := .tuple #[.int .i64 2, .agg lv.toArray]) (results_two_cell rfl _ _ rb 52 _ (0, 0) _ _ rfl rfl OUT.out.2 Try.underlying52 rfl (by rw [List.size_toArray, PR.out.n]; kernel_rfl)) rfl ⟨V, by rw [PR.out.elv]; rfl, OUT.out.1.r, OUT.out.1.b⟩
  · have h1 : (fn : Int) ≤ i := by omega
    have h0' : 0 ≤ i := by omega
    clear hin
    go_enter Try.func24, Try.ntmps24
    go_upto_region 1 with (fail)
    rw [zlk_is, PR.out.ewb, PR.out.erb]
    go_upto_region 2 with (fail)
    refine wp_region_gate_tail (fun d w' => w' = wb.drew) 2 (by kernel_rfl) (by kernel_rfl) rfl ?_
    simp only [List.take_succ_cons, List.take_zero, List.drop_succ_cons, List.drop_zero]
    refine InvC.invc_value (.agg lv.toArray) (fun u hu => by cases hu) rfl (fun d w' _ _ h => by subst h; exact exec_load rfl rfl ZL.out Try.underlying52 rfl (by kernel_rfl) PR.out.n) (fun d w' _ _ h => h) ?_
    simp only [Act.put, List.setIfInBounds_toArray, List.set_cons_zero, List.set_cons_succ]
    refine InvC.invc_value (.int .i64 2) (fun u hu => by cases hu) rfl (fun d w' _ _ h => by go_simp; all_goals rfl) (fun d w' _ _ h => h) ?_
    simp only [Act.put, List.setIfInBounds_toArray, List.set_cons_zero, List.set_cons_succ]
    refine InvC.invc_nil fun w8 e8 => ?_
    subst e8
    go_wp2_with (refine wpList_store_row rfl 52 _ _ rfl rb 0 10 rfl 52 zlk lv rfl ZRR.out (by kernel_rfl) PR.out.n (by decide) PR.out.one ?_)
    rw [put_all zlk lv (by rw [PR.out.n]; rfl)]
    exact bodyPost_ret (v := .tuple #[.int .i64 2, .agg lv.toArray]) (results_two_cell rfl _ _ rb 52 _ (0, 0) _ _ rfl rfl OUT.out.2 Try.underlying52 rfl (by rw [List.size_toArray, PR.out.n]; kernel_rfl)) rfl ⟨V, by rw [PR.out.elv]; rfl, OUT.out.1.r, OUT.out.1.b⟩
theorem rdeliver_any {w : World} {V : Nat → Value} {k : Lk} (h : Rk N w V k) (i : Int) (hfl : k.fl.length ≤ 1024) (hf : ∀ p ∈ k.fl, p.f < 2) (hop : ∀ n, n < 2 → (k.en n).op.length ≤ 256) (hgot : ∀ n, n < 2 → ((k.en n).got.length + 1) * 24 ≤ 140737488355328) : Calls Try.prog 24 #[rl k V, .int .i64 i] w fun e w' => Ck N w (if k.inR i then 0 else 2) (if k.inR i then k.dels i.toNat else k) e w' := by
  by_cases hin : k.inR i
  · rw [if_pos hin, if_pos hin]
    obtain ⟨m, rfl⟩ := Int.eq_ofNat_of_zero_le hin.1
    have hm : m < k.fl.length := by have := hin.2; omega
    rw [Int.toNat_natCast]
    have hp := List.getElem?_eq_getElem hm
    rw [show k.dels m = (k.less m).comes k.fl[m] from by unfold Lk.dels; rw [hp]]
    exact rdeliver_yes h m k.fl[m] hp hfl (hf _ (List.getElem_mem hm)) hop hgot
  · rw [if_neg hin, if_neg hin]
    exact rdeliver_no h i hfl hin
end Go.Proofs.Ytfjaoompdleljaa.Link
/-
  SameFlight of the reference by contract. Helper text; no statement is proved here.
-/
set_option linter.unusedVariables false
set_option maxRecDepth 20000
set_option linter.unusedSimpArgs false
namespace Go.Proofs.Ytfjaoompdleljaa.Link
open Go.RowKit Go.Proofs.Ytfjaoompdleljaa.Base Go.Proofs.Ytfjaoompdleljaa.Laws Go.Proofs.Ytfjaoompdleljaa.Disk Go.Proofs.Ytfjaoompdleljaa.Row Go.Proofs.Ytfjaoompdleljaa.Flat Go.Proofs.Ytfjaoompdleljaa.InvM Go.Proofs.Ytfjaoompdleljaa.Inv Go.Proofs.Ytfjaoompdleljaa.InvL Go.Proofs.Ytfjaoompdleljaa.InvC Go.Proofs.Ytfjaoompdleljaa.InvG Go.Proofs.Ytfjaoompdleljaa.Codec
variable {N : Nat → Prop}
def bn (b : Bool) : Nat := if b then 1 else 0
/-- two boxes made in either order, the first of them written -/
def Sf (w0 : World) (t : TypeId) (zs xs : List Value) (p q s : Nat) (κ : Bool) (d : Array Bool) (w' : World) : Prop :=
  Below w0.heap.size w0 w' ∧ w'.heap.size = w0.heap.size + bn (d.getD p false) + bn (d.getD q false) ∧
  (d.getD s false = true → d.getD p false = true) ∧ (if κ then d.getD q false = true → d.getD p false = true else d.getD p false = true → d.getD q false = true) ∧
  (d.getD p false = true → Blk w' (w0.heap.size + bn (!κ)) (if d.getD s false then xs else zs) t) ∧
  (d.getD q false = true → Blk w' (w0.heap.size + bn κ) zs t)
section
variable {w0 w : World} {t : TypeId} {zs xs : List Value} {p q s : Nat} {κ : Bool} {d : Array Bool}
theorem Sf.keep {i : Nat} (h1 : i ≠ p) (h2 : i ≠ q) (h3 : i ≠ s) (h : Sf w0 t zs xs p q s κ d w) : Sf w0 t zs xs p q s κ (d.setIfInBounds i true) w := by
  unfold Sf at h ⊢
  rw [getD_set_ne false h1, getD_set_ne false h2, getD_set_ne false h3]
  exact h
theorem Sf.start (hp : d.getD p false = false) (hq : d.getD q false = false) (hs : d.getD s false = false) (hb : Below w0.heap.size w0 w) (hz : w.heap.size = w0.heap.size) : Sf w0 t zs xs p q s κ d w := by
  unfold Sf
  rw [hp, hq, hs]
  refine ⟨hb, by simp [bn, hz], fun e => e, ?_, (fun e => by cases e), (fun e => by cases e)⟩
  split <;> exact fun e => e
theorem Sf.did_p (hpq : p ≠ q) (hps : p ≠ s) (hd : d.getD p true = false) (h : Sf w0 t zs xs p q s κ d w) (hG : Two p q κ p d) {ty : TypeId} (hty : ty = t) : w.heap.size = w0.heap.size + bn (!κ) ∧ Sf w0 t zs xs p q s κ (d.setIfInBounds p true) (w.alloc (.cells zs.toArray t)) := by
  obtain ⟨h1, h2, h3, h4, h5, h6⟩ := h
  have hdp := getD_true_of hd
  have hds : d.getD s false = false := by cases e : d.getD s false with | false => rfl | true => (have := h3 e; rw [hdp] at this; cases this)
  have hdq : d.getD q false = !κ := by
    cases κ with
    | true => (cases e : d.getD q false with | false => rfl | true => (have := h4 e; rw [hdp] at this; cases this))
    | false => exact hG rfl
  have hsz : w.heap.size = w0.heap.size + bn (!κ) := by rw [h2, hdp, hdq]; simp [bn]
  have hB : Below w0.heap.size w0 (w.alloc (.cells zs.toArray t)) := h1.alloc h1.size _
  have hb2 : Below w.heap.size w (w.alloc (.cells zs.toArray t)) := (Below.refl _ _).alloc (Nat.le_refl _) _
  refine ⟨hsz, ?_⟩
  unfold Sf
  rw [now hd, getD_set_ne false hpq, getD_set_ne false hps, hds, hdq]
  refine ⟨hB, by simp [bn, h2, hdp, hdq]; omega, (fun e => by cases e), ?_, fun _ => ?_, fun e => ?_⟩
  · cases κ <;> simp
  · rw [← hsz]; exact blk_at rfl rfl
  · have := h6 (by rw [hdq]; exact e)
    exact this.below hb2 this.lt
theorem Sf.did_q (hpq : p ≠ q) (hqs : q ≠ s) (hd : d.getD q true = false) (h : Sf w0 t zs xs p q s κ d w) (hG : Two p q κ q d) : w.heap.size = w0.heap.size + bn κ ∧ Sf w0 t zs xs p q s κ (d.setIfInBounds q true) (w.alloc (.cells zs.toArray t)) := by
  obtain ⟨h1, h2, h3, h4, h5, h6⟩ := h
  have hdq := getD_true_of hd
  have hdp : d.getD p false = κ := by
    cases κ with
    | true => exact hG rfl
    | false => (cases e : d.getD p false with | false => rfl | true => (have := h4 e; rw [hdq] at this; cases this))
  have hsz : w.heap.size = w0.heap.size + bn κ := by rw [h2, hdp, hdq]; simp [bn]
  have hB : Below w0.heap.size w0 (w.alloc (.cells zs.toArray t)) := h1.alloc h1.size _
  have hb2 : Below w.heap.size w (w.alloc (.cells zs.toArray t)) := (Below.refl _ _).alloc (Nat.le_refl _) _
  refine ⟨hsz, ?_⟩
  unfold Sf
  rw [now hd, getD_set_ne false (Ne.symm hpq), getD_set_ne false hqs, hdp]
  refine ⟨hB, by simp [bn, h2, hdp, hdq], (fun e => by have := h3 e; rwa [hdp] at this), ?_, fun e => ?_, fun _ => ?_⟩
  · cases κ <;> simp
  · have := h5 (by rw [hdp]; exact e)
    exact this.below hb2 this.lt
  · rw [← hsz]; exact blk_at rfl rfl
theorem Sf.at_s (hd : d.getD s true = false) (hp : d.getD p false = true) (h : Sf w0 t zs xs p q s κ d w) : Blk w (w0.heap.size + bn (!κ)) zs t := by
  have := h.2.2.2.2.1 hp
  rwa [getD_true_of hd] at this
theorem Sf.did_s {w' : World} (hps : p ≠ s) (hqs : q ≠ s) (hd : d.getD s true = false) (hp : d.getD p false = true) (h : Sf w0 t zs xs p q s κ d w) (hg : w.grownBy w' (some (w0.heap.size + bn (!κ)))) (hsz : w'.heap.size = w.heap.size) (hz : Blk w' (w0.heap.size + bn (!κ)) xs t) : Sf w0 t zs xs p q s κ (d.setIfInBounds s true) w' := by
  obtain ⟨h1, h2, h3, h4, h5, h6⟩ := h
  unfold Sf
  rw [now hd, getD_set_ne false (Ne.symm hps), getD_set_ne false (Ne.symm hqs)]
  exact ⟨below_grown h1 hg h1.size (by omega), by rw [hsz]; exact h2, fun _ => hp, h4, fun _ => hz, fun e => (h6 e).grown hg (by cases κ <;> simp [bn])⟩
theorem Sf.sym (hp : d.getD p false = false) (hq : d.getD q false = false) : Sf w0 t zs xs p q s true d w ↔ Sf w0 t zs xs p q s false d w := by
  unfold Sf
  rw [hp, hq]
  simp
end
theorem exec_store_row {P : Program} {ρ : Operand → Value} {w : World} {o : Oper} {ty : TypeId} {x y : Operand} {g off m : Nat} {t : TypeId} {cs vs : List Value} (ho : o.op = .store ty x y) (hx : ρ x = .pointer (some ⟨g, off, none⟩)) (hy : ρ y = .agg vs.toArray) (hg : Blk w g cs t) (hi : (P.info? ty).map (·.size) = some m) (hl : vs.length = m) (hm : off + m ≤ cs.length) (h1 : ∀ v ∈ vs, v.oneCell' = true) :
    (execOp ρ o).run P w = .ok .skip (w.setRow g (put cs off vs).toArray) := by
  unfold execOp
  simp only [ho, hx, hy, Instr.storeAt, Instr.sureAddr, Sem.run_bind, Sem.run_pure, Result.andThen_ok, run_store_blk hg hi hl hm h1]
theorem invc_skip {P : Program} {I : Array Bool → World → Prop} {G : Nat → Array Bool → Prop} {T : Nat → Option Value} {ops : Array Oper} {Q : Act → Prop} {i : Nat} {a : Act} {o : Oper} {rest : List Oper} (hT : ∀ u, T i = some u → undef = u) (hw : Region.wanted o (yielded ops a.tmps) = true) (hr : ∀ d w, d.getD i true = false → G i d → I d w → ∃ w', (execOp a.eval o).run P w = .ok .skip w' ∧ I (d.setIfInBounds i true) w')
    (h : InvC.wpInvC P I G T ops Q (i + 1) rest (a.put o.dst undef)) : InvC.wpInvC P I G T ops Q i (o :: rest) a :=
  ⟨undef, ⟨hT, .inl ⟨hw, fun d w hd hG hI => by obtain ⟨w', h1, h2⟩ := hr d w hd hG hI; rw [h1]; exact ⟨rfl, h2⟩⟩⟩, h⟩
set_option maxHeartbeats 2000000 in
theorem rsame_any {w : World} {va vb : Value} {ps : List Pk} (ha : Rd N w 74 pc (·.m.B) va ps) (hb : Rd N w 74 pc (·.m.B) vb ps) (hl : ps.length ≤ 1024) : Calls Try.prog 29 #[va, vb] w fun e w' => e = .returned (.bool true) ∧ Below w.heap.size w w' := by
  obtain ⟨a, ca, eva, _, _⟩ := ha.form
  obtain ⟨b, cb, evb, _, _⟩ := hb.form
  obtain ⟨n, hn⟩ : ∃ n, n = ps.length := ⟨_, rfl⟩
  rw [← hn] at eva evb hl
  subst eva
  subst evb
  have HA := Lib.hid ha
  have HB := Lib.hid hb
  have HN := Lib.hid hn
  clear ha hb hn
  go_enter Try.func29, Try.ntmps29
  go_wp2_with fail
  go_loopw [5] (fun i wr => ∃ j : Nat, j ≤ n ∧ i = .int .i64 j ∧ Below w.heap.size w wr) (fun i _ => n - (intOf i).toNat)
  case atStart => exact ⟨0, by omega, rfl, Below.refl _ _⟩
  case round =>
    obtain ⟨j, hj, rfl, hbl⟩ := hrel
    have BL := Lib.hid hbl
    clear hbl
    by_cases hjn : j < n
    · obtain ⟨x, hx⟩ : ∃ x, ps[j]? = some x := ⟨_, List.getElem?_eq_getElem (by have := HN.out; omega)⟩
      obtain ⟨g, go, c1, y, ee, hcy, hY⟩ := HA.out.at_ (m := 5) (fun _ => rfl) hx
      injection ee with e1 e2 e3
      subst e1
      clear e2 e3
      obtain ⟨g', go', c2, y', ee, hcy', hY'⟩ := HB.out.at_ (m := 5) (fun _ => rfl) hx
      injection ee with e1 e2 e3
      subst e1
      clear e2 e3
      obtain ⟨xs, hxs⟩ : ∃ l, l = pc (x, y) := ⟨_, rfl⟩
      obtain ⟨ys, hys⟩ : ∃ l, l = pc (x, y') := ⟨_, rfl⟩
      have LDX := Lib.hid (show ∀ w', Below wr.heap.size wr w' → ∀ i v, xs[i]? = some v → w'.cell? ((⟨g, go + j * 5, none⟩ : Addr).add i) = some v from fun w' hb' i v hi => by
        rw [Addr.add_lit]
        have q := hcy i v (by rw [← hxs]; exact hi)
        exact (Below.cell (BL.out.trans (hb'.mono BL.out.size)) (p := ⟨g, go + j * 5 + i, none⟩) (block_lt_of_cell q)).trans q)
      have LDY := Lib.hid (show ∀ w', Below wr.heap.size wr w' → ∀ i v, ys[i]? = some v → w'.cell? ((⟨g', go' + j * 5, none⟩ : Addr).add i) = some v from fun w' hb' i v hi => by
        rw [Addr.add_lit]
        have q := hcy' i v (by rw [← hys]; exact hi)
        exact (Below.cell (BL.out.trans (hb'.mono BL.out.size)) (p := ⟨g', go' + j * 5 + i, none⟩) (block_lt_of_cell q)).trans q)
      have X5 := Lib.hid (show xs.length = 5 by rw [hxs]; rfl)
      have Y5 := Lib.hid (show ys.length = 5 by rw [hys]; rfl)
      have X1 := Lib.hid (show ∀ u ∈ xs, u.oneCell' = true by rw [hxs]; exact pc_one hY.one)
      have Y1 := Lib.hid (show ∀ u ∈ ys, u.oneCell' = true by rw [hys]; exact pc_one hY'.one)
      have HXS := Lib.hid hxs
      have HYS := Lib.hid hys
      have HY := Lib.hid hY
      have HY' := Lib.hid hY'
      have jj : (0 : Int) ≤ (j : Int) ∧ (j : Int) < (n : Int) := by omega
      clear hx hcy hcy' hY hY' hxs hys
      go_upto_region 6 with (fail)
      go_cut [6, 7] (fun v u wx => ∃ p q, v = .pointer (some ⟨p, 0, none⟩) ∧ u = .pointer (some ⟨q, 0, none⟩) ∧ Blk wx p xs 74 ∧ Blk wx q ys 74 ∧ Below wr.heap.size wr wx)
      case first =>
        refine InvG.wp_region_two_gate_tail (fun κ d w' => Sf wr 74 zpk xs 8 9 10 κ d w') (fun i => [some (.slice (some ⟨g, go, none⟩) n ca), some (.int .i64 (j : Int)), some (.pointer (some ⟨g, go + j * 5, none⟩)), some (.agg xs.toArray), some (.slice (some ⟨g', go', none⟩) n cb), some (.int .i64 (j : Int)), some (.pointer (some ⟨g', go' + j * 5, none⟩)), some (.agg ys.toArray), none, none, none].getD i none) 11 8 9 (by kernel_rfl) (by kernel_rfl) (by decide) (by decide) (by decide) (by kernel_rfl) (fun d w' h1 h2 => Sf.sym h1 h2) (fun κ => Sf.start (by rfl) (by rfl) (by rfl) (Below.refl wr.heap.size wr).drew rfl) (fun κ => ?_)
        simp only [List.take_succ_cons, List.take_zero, List.drop_succ_cons, List.drop_zero]
        obtain ⟨u1, hu1⟩ : ∃ u, u = wr.heap.size + bn (!κ) := ⟨_, rfl⟩
        obtain ⟨u2, hu2⟩ : ∃ u, u = wr.heap.size + bn κ := ⟨_, rfl⟩
        have hne : u1 ≠ u2 := by rw [hu1, hu2]; cases κ <;> simp [bn]
        have h1w : wr.heap.size ≤ u1 ∧ wr.heap.size ≤ u2 := by omega
        have U1 := Lib.hid hu1
        have U2 := Lib.hid hu2
        clear hu1 hu2
        refine InvC.invc_value (.slice (some ⟨g, go, none⟩) n ca) (fun u hu => Option.some.inj hu) rfl (fun d w' _ _ h => by go_simp; all_goals rfl) (fun d w' _ _ h => Sf.keep (by decide) (by decide) (by decide) h) ?_
        simp only [Act.put, List.setIfInBounds_toArray, List.set_cons_zero, List.set_cons_succ]
        refine InvC.invc_value (.int .i64 (j : Int)) (fun u hu => Option.some.inj hu) rfl (fun d w' _ _ h => by go_simp; all_goals rfl) (fun d w' _ _ h => Sf.keep (by decide) (by decide) (by decide) h) ?_
        simp only [Act.put, List.setIfInBounds_toArray, List.set_cons_zero, List.set_cons_succ]
        refine InvC.invc_value (.pointer (some ⟨g, go + j * 5, none⟩)) (fun u hu => Option.some.inj hu) rfl (fun d w' _ _ h => by go_simp; all_goals rfl) (fun d w' _ _ h => Sf.keep (by decide) (by decide) (by decide) h) ?_
        simp only [Act.put, List.setIfInBounds_toArray, List.set_cons_zero, List.set_cons_succ]
        refine InvC.invc_value (.agg xs.toArray) (fun u hu => Option.some.inj hu) rfl (fun d w' _ _ h => by exact exec_load_from rfl rfl (LDX.out w' h.1) Try.underlying74 rfl (by kernel_rfl) X5.out) (fun d w' _ _ h => Sf.keep (by decide) (by decide) (by decide) h) ?_
        simp only [Act.put, List.setIfInBounds_toArray, List.set_cons_zero, List.set_cons_succ]
        refine InvC.invc_value (.slice (some ⟨g', go', none⟩) n cb) (fun u hu => Option.some.inj hu) rfl (fun d w' _ _ h => by go_simp; all_goals rfl) (fun d w' _ _ h => Sf.keep (by decide) (by decide) (by decide) h) ?_
        simp only [Act.put, List.setIfInBounds_toArray, List.set_cons_zero, List.set_cons_succ]
        refine InvC.invc_value (.int .i64 (j : Int)) (fun u hu => Option.some.inj hu) rfl (fun d w' _ _ h => by go_simp; all_goals rfl) (fun d w' _ _ h => Sf.keep (by decide) (by decide) (by decide) h) ?_
        simp only [Act.put, List.setIfInBounds_toArray, List.set_cons_zero, List.set_cons_succ]
        refine InvC.invc_value (.pointer (some ⟨g', go' + j * 5, none⟩)) (fun u hu => Option.some.inj hu) rfl (fun d w' _ _ h => by go_simp; all_goals rfl) (fun d w' _ _ h => Sf.keep (by decide) (by decide) (by decide) h) ?_
        simp only [Act.put, List.setIfInBounds_toArray, List.set_cons_zero, List.set_cons_succ]
        refine InvC.invc_value (.agg ys.toArray) (fun u hu => Option.some.inj hu) rfl (fun d w' _ _ h => by exact exec_load_from rfl rfl (LDY.out w' h.1) Try.underlying74 rfl (by kernel_rfl) Y5.out) (fun d w' _ _ h => Sf.keep (by decide) (by decide) (by decide) h) ?_
        simp only [Act.put, List.setIfInBounds_toArray, List.set_cons_zero, List.set_cons_succ]
        refine InvC.invc_world (.pointer (some ⟨u1, 0, none⟩)) (fun u hu => by cases hu) rfl (fun d w' hd hG h => ⟨w'.alloc (.cells zpk.toArray 74), by
          have e := (h.did_p (by decide) (by decide) hd hG.1 rfl).1
          rw [U1.out, ← e]
          go_simp; all_goals rfl, (h.did_p (by decide) (by decide) hd hG.1 rfl).2⟩) ?_
        simp only [Act.put, List.setIfInBounds_toArray, List.set_cons_zero, List.set_cons_succ]
        refine InvC.invc_world (.pointer (some ⟨u2, 0, none⟩)) (fun u hu => by cases hu) rfl (fun d w' hd hG h => ⟨w'.alloc (.cells zpk.toArray 74), by
          have e := (h.did_q (by decide) (by decide) hd hG.1).1
          rw [U2.out, ← e]
          go_simp; all_goals rfl, (h.did_q (by decide) (by decide) hd hG.1).2⟩) ?_
        simp only [Act.put, List.setIfInBounds_toArray, List.set_cons_zero, List.set_cons_succ]
        refine invc_skip (fun u hu => by cases hu) rfl (fun d w' hd hG h => ⟨w'.setRow u1 xs.toArray, by
          have z := h.at_s hd (hG.2.of (by kernel_rfl))
          rw [← U1.out] at z
          refine (exec_store_row (g := u1) (off := 0) (cs := zpk) (vs := xs) (m := 5) rfl rfl rfl z (by kernel_rfl) X5.out (by decide) X1.out).trans ?_
          rw [put_all _ _ (by rw [X5.out]; rfl)], h.did_s (by decide) (by decide) hd (hG.2.of (by kernel_rfl)) (by rw [← U1.out]; exact grown_setRow _ _ _) (by simp) (by
            have z := h.at_s hd (hG.2.of (by kernel_rfl))
            rw [← U1.out] at z ⊢
            exact setRow_heap _ _ _ _ _ _ z)⟩) ?_
        simp only [Act.put, List.setIfInBounds_toArray, List.set_cons_zero, List.set_cons_succ]
        refine InvC.invc_nil fun w8 h8 => ?_
        have q1 : Blk w8 u1 xs 74 := by
          have := h8.2.2.2.2.1 (by rfl)
          rw [if_pos (by rfl), ← U1.out] at this
          exact this
        have q2 : Blk w8 u2 zpk 74 := by
          have := h8.2.2.2.2.2 (by rfl)
          rw [← U2.out] at this
          exact this
        have q3 := h8.1
        have Q1 := Lib.hid q1
        have Q2 := Lib.hid q2
        have Q3 := Lib.hid q3
        clear q1 q2 q3 h8
        go_wp2_with (first | (refine wpList_store_blk rfl 74 _ _ rfl u2 0 5 rfl 74 zpk ys rfl Q2.out (by kernel_rfl) Y5.out (by decide) Y1.out ?_; intro w9 z9 g9; rw [put_all _ _ (by rw [Y5.out]; rfl)] at z9; have Z9 := Lib.hid z9; have G9 := Lib.hid g9; clear z9 g9))
        go_meet
        case rel => exact ⟨u1, u2, rfl, rfl, Q1.out.grown G9.out hne, Z9.out, below_grown Q3.out G9.out Q3.out.size h1w.2⟩
      case rest =>
        obtain ⟨p1, q1, rfl, rfl, z1, z2, bb⟩ := hcut
        obtain ⟨ya, yc, hy, hyb⟩ := HY.out
        obtain ⟨za, zc, hz, hzb⟩ := HY'.out
        obtain ⟨yl, hyl⟩ : ∃ yl, yl = x.m.B.length := ⟨_, rfl⟩
        rw [← hyl] at hy hz
        rw [HXS.out, hy] at z1
        rw [HYS.out, hz] at z2
        have bt := BL.out.trans (bb.mono BL.out.size)
        have a0 : wc.cell? ⟨p1, 0, none⟩ = some (.int .i64 (x.f : Int)) := z1.cell 0
        have a1 : wc.cell? ⟨p1, 1, none⟩ = some (.int .u32 (x.m.e : Int)) := z1.cell 1
        have a2 : wc.cell? ⟨p1, 2, none⟩ = some (.int .u32 (x.m.s : Int)) := z1.cell 2
        have a3 : wc.cell? ⟨p1, 3, none⟩ = some (.int .u32 (x.m.k : Int)) := z1.cell 3
        have a4 : wc.cell? ⟨p1, 4, none⟩ = some (.slice ya yl yc) := z1.cell 4
        have b0 : wc.cell? ⟨q1, 0, none⟩ = some (.int .i64 (x.f : Int)) := z2.cell 0
        have b1 : wc.cell? ⟨q1, 1, none⟩ = some (.int .u32 (x.m.e : Int)) := z2.cell 1
        have b2 : wc.cell? ⟨q1, 2, none⟩ = some (.int .u32 (x.m.s : Int)) := z2.cell 2
        have b3 : wc.cell? ⟨q1, 3, none⟩ = some (.int .u32 (x.m.k : Int)) := z2.cell 3
        have b4 : wc.cell? ⟨q1, 4, none⟩ = some (.slice za yl zc) := z2.cell 4
        have SM := Lib.hid (show Calls Try.prog 17 #[.slice ya yl yc, .slice za yl zc] wc fun e w' => e = .returned (.bool true) ∧ ∃ nd, w' = wc.drewN nd from by
          have := Same.same_any ya yl yc x.m.B za yl zc x.m.B wc (by rw [hyl]; exact hyb.1.below bt (Nat.le_refl _)) (by rw [hyl]; exact hzb.1.below bt (Nat.le_refl _))
          rwa [decide_eq_true rfl] at this)
        have BT := Lib.hid bt
        clear z1 z2 bb bt hyb hzb hy hz hyl
        go_wp2_with (first | (go_at_call 17; refine SM.out.mono ?_; rintro e w5 ⟨rfl, nd, rfl⟩))
        refine ⟨⟨j + 1, by omega, by go_num, BT.out.trans ⟨rfl, rfl, rfl, Nat.le_refl _, fun _ _ => rfl⟩⟩, ?_⟩
        simp [intOf]; omega
    · go_wp2_with fail
      go_ret
      exact ⟨rfl, BL.out⟩
end Go.Proofs.Ytfjaoompdleljaa.Link
/-
  A link beside the reference's: the state of a script's walk. Helper text; no statement is proved here.
-/
set_option linter.unusedVariables false
set_option maxRecDepth 20000
set_option linter.unusedSimpArgs false
namespace Go.Proofs.Ytfjaoompdleljaa.Link
open Go.RowKit Go.Proofs.Ytfjaoompdleljaa.Base Go.Proofs.Ytfjaoompdleljaa.Laws Go.Proofs.Ytfjaoompdleljaa.Disk Go.Proofs.Ytfjaoompdleljaa.Row Go.Proofs.Ytfjaoompdleljaa.Flat Go.Proofs.Ytfjaoompdleljaa.InvM
/-- blocks that are there and are none of these -/
def NoB (F : Nat → Prop) (w : World) : Nat → Prop := fun x => x < w.heap.size ∧ ¬ F x
section
variable {N N' : Nat → Prop} {w w' : World}
theorem BodyR.re {v : Value} {B : List UInt8} (h : BodyR N w v B) (hs : ∀ x, x < w.heap.size → ¬ N x → w'.heap[x]? = w.heap[x]? ∧ ¬ N' x) : BodyR N' w' v B := by
  obtain ⟨a, c, e, hb, h0⟩ := h
  by_cases hB : B.length = 0
  · have hB' : B = [] := List.eq_nil_of_length_eq_zero hB
    subst hB'
    exact ⟨a, c, e, ⟨hb.1, hb.2.1, hb.2.2.1, .inl rfl⟩, .inl rfl⟩
  · obtain ⟨g, o, rfl, hn⟩ := h0.resolve_left hB
    have hlt := bts_block hb (by omega)
    have := hs g hlt hn
    exact ⟨_, c, e, bts_stay hb this.1, .inr ⟨g, o, rfl, this.2⟩⟩
theorem Rd.re {α : Type} {t : TypeId} {f : α × Value → List Value} {body : α → List UInt8} {v : Value} {xs : List α} (h : Rd N w t f body v xs) (hs : ∀ x, x < w.heap.size → ¬ N x → w'.heap[x]? = w.heap[x]? ∧ ¬ N' x) : Rd N' w' t f body v xs := by
  obtain ⟨ps, a, c, e1, e2, h1, h2, h3, h4⟩ := h
  refine ⟨ps, a, c, e1, e2, h1, h2, h3.imp id ?_, fun p hp => (h4 p hp).re hs⟩
  rintro ⟨g, o, e, ⟨cs, hz, hn⟩, hc⟩
  have q := hs g hz.lt hn
  have hz' : Blk w' g cs t := q.1.trans hz
  exact ⟨g, o, e, ⟨cs, hz', q.2⟩, fun j u hu => (World.cell?_of_block (w := w) q.1).trans (hc j u hu)⟩
theorem Rk.re {V : Nat → Value} {k : Lk} (h : Rk N w V k) (hs : ∀ x, x < w.heap.size → ¬ N x → w'.heap[x]? = w.heap[x]? ∧ ¬ N' x) (hN : ∀ x, N' x → x < w'.heap.size) : Rk N' w' V k :=
  ⟨fun n hn => (h.o n hn).re hs, fun n hn => (h.g n hn).re hs, h.fl.re hs, hN⟩
end
theorem Rd.any {N : Nat → Prop} {w : World} {α : Type} {t : TypeId} {f : α × Value → List Value} {body : α → List UInt8} {v : Value} {xs : List α} (h : Rd N w t f body v xs) : Rd (fun _ => False) w t f body v xs := h.re fun x _ _ => ⟨rfl, id⟩
/-- the walk's state: the link k, and the reference's link r in its box rx; F: the blocks of the reference; R: the blocks of the caller -/
structure Pl (w0 : World) (bl rx : Nat) (A : List Nat) (R F : Nat → Prop) (k r : Lk) (w : World) : Prop where
  lf : Lf w0 bl A R k w
  fr : ∀ x, F x → R x
  rr : R rx
  nf : ¬ F rx
  ex : ∃ V, Blk w rx (lcells r V) 52 ∧ Rk (NoB F w) w V r
section
variable {w0 w w' : World} {bl rx : Nat} {A A' : List Nat} {R R' F : Nat → Prop} {k k' r r' : Lk}
theorem Rk.held {V : Nat → Value} (h : Rk (NoB F w) w V r) (hs : ∀ x, F x → w'.heap[x]? = w.heap[x]?) : Rk (NoB F w') w' V r :=
  h.re (fun x hx hn => by
    have hF : F x := Classical.byContradiction fun h9 => hn ⟨hx, h9⟩
    exact ⟨hs x hF, fun h9 => h9.2 hF⟩) (fun x hx => hx.1)
/-- the link has gone on -/
theorem Pl.link (h : Pl w0 bl rx A R F k r w) (hl : Lf w0 bl A R k' w') (hs : Stay R w w') : Pl w0 bl rx A R F k' r w' := by
  obtain ⟨V, hz, hr⟩ := h.ex
  exact ⟨hl, h.fr, h.rr, h.nf, V, hs.blk h.rr hz, hr.held fun x hx => hs x (h.fr x hx)⟩
/-- new blocks, which are the caller's -/
theorem Pl.grow (h : Pl w0 bl rx A R F k r w) (hb : Below w.heap.size w w') : Pl w0 bl rx A (fun x => R x ∨ (w.heap.size ≤ x ∧ x < w'.heap.size)) F k r w' := by
  obtain ⟨V, hz, hr⟩ := h.ex
  have hR : ∀ x, R x → x < w.heap.size := fun x hx => h.lf.lt hx
  have hA := h.lf.choose_spec.2.2.1
  refine ⟨h.lf.news hb (fun x hx => ?_) (fun x hx => ⟨.inl hx, .inl (hA x hx).1⟩), fun x hx => .inl (h.fr x hx), .inl h.rr, h.nf, V, hz.below hb hz.lt, hr.held fun x hx => hb.block x (hR x (h.fr x hx))⟩
  rcases hx with hx | hx
  · exact ⟨.inl hx, Nat.lt_of_lt_of_le (hR x hx) hb.size⟩
  · exact ⟨.inr hx.1, hx.2⟩
/-- the reference has gone on: its new link lies in its box -/
theorem Pl.ref (h : Pl w0 bl rx A R F k r w) (hrx : rx ∈ A) {w1 : World} {V' : Nat → Value} (hb : Below w.heap.size w w1) (hr : Rk (NoB F w) w1 V' r') (hg : w1.grownBy w' (some rx)) (hz : Blk w' rx (lcells r' V') 52) :
    Pl w0 bl rx A (fun x => R x ∨ (w.heap.size ≤ x ∧ x < w1.heap.size)) (fun x => F x ∨ (w.heap.size ≤ x ∧ x < w1.heap.size)) k r' w' := by
  have h1 := h.grow hb
  obtain ⟨V, hz0, _⟩ := h1.ex
  have hlt : rx < w.heap.size := h.lf.lt h.rr
  have hr1 : Rk (NoB (fun x => F x ∨ (w.heap.size ≤ x ∧ x < w1.heap.size)) w1) w1 V' r' := hr.re (fun x hx hn => by
    refine ⟨rfl, fun h9 => h9.2 ?_⟩
    by_cases hxs : w.heap.size ≤ x
    · exact .inr ⟨hxs, hx⟩
    · exact .inl (Classical.byContradiction fun h8 => hn ⟨by omega, h8⟩)) (fun x hx => hx.1)
  refine ⟨h1.lf.wrote (T := [rx]) (Only.of_grown hg) (by simpa using hrx), fun x hx => ?_, .inl h.rr, ?_, V', hz, hr1.re (fun x hx hn => ?_) (fun x hx => hx.1)⟩
  · rcases hx with hx | hx
    · exact .inl (h.fr x hx)
    · exact .inr hx
  · rintro (h9 | h9)
    · exact h.nf h9
    · omega
  · have hF : F x ∨ (w.heap.size ≤ x ∧ x < w1.heap.size) := Classical.byContradiction fun h9 => hn ⟨hx, h9⟩
    refine ⟨hg.block x hx fun e => ?_, fun h9 => h9.2 hF⟩
    obtain rfl : x = rx := Option.some.inj e
    rcases hF with hF | hF
    · exact h.nf hF
    · omega
/-- fewer blocks may be written, or others -/
theorem Pl.less (h : Pl w0 bl rx A R F k r w) (hA : ∀ x ∈ A', x ∈ A) : Pl w0 bl rx A' R F k r w := by
  have hA0 := h.lf.choose_spec.2.2.1
  exact ⟨h.lf.news (Below.refl _ _) (fun x hx => ⟨.inl hx, h.lf.lt hx⟩) (fun x hx => ⟨.inl (hA x hx), (hA0 x (hA x hx)).1⟩), h.fr, h.rr, h.nf, h.ex⟩
theorem Pl.below (h : Pl w0 bl rx A R F k r w) : Below w0.heap.size w0 w := h.lf.below
/-- the ref's cells at every world that keeps them -/
theorem Pl.drew (h : Pl w0 bl rx A R F k r w) : Pl w0 bl rx A R F k r w.drew := by
  have hl := h.lf.news (w' := w.drew) (R' := R) (A' := A) (Below.refl w.heap.size w).drew (fun x hx => ⟨.inl hx, h.lf.lt hx⟩) (fun x hx => ⟨.inl hx, (h.lf.choose_spec.2.2.1 x hx).1⟩)
  exact h.link hl fun x hx => rfl
end
end Go.Proofs.Ytfjaoompdleljaa.Link
/-
  What holds of the links of a script; more calls of a link. Helper text; no statement is proved here.
-/
set_option linter.unusedVariables false
set_option maxRecDepth 20000
set_option linter.unusedSimpArgs false
namespace Go.Proofs.Ytfjaoompdleljaa.Link
open Go.RowKit Go.Proofs.Ytfjaoompdleljaa.Base Go.Proofs.Ytfjaoompdleljaa.Laws Go.Proofs.Ytfjaoompdleljaa.Disk Go.Proofs.Ytfjaoompdleljaa.Row Go.Proofs.Ytfjaoompdleljaa.Flat Go.Proofs.Ytfjaoompdleljaa.InvM
structure Kok (k : Lk) (m : Nat) : Prop where
  fl : k.fl.length ≤ 1024
  f2 : ∀ p ∈ k.fl, p.f < 2
  op : ∀ n, n < 2 → (k.en n).op.length ≤ 256
  got : ∀ n, n < 2 → (k.en n).got.length ≤ m
section
variable {k : Lk} {m : Nat}
theorem Kok.mono (h : Kok k m) {m' : Nat} (hm : m ≤ m') : Kok k m' := ⟨h.fl, h.f2, h.op, fun n hn => Nat.le_trans (h.got n hn) hm⟩
theorem Kok.put (h : Kok k m) (n s : Nat) (B : List UInt8) (hn : n < 2) (hr : k.fl.length < 1024) : Kok (k.put n s B) m := by
  refine ⟨by show (k.fl ++ [_]).length ≤ 1024; simp; omega, fun p hp => ?_, h.op, h.got⟩
  rcases List.mem_append.1 hp with hp | hp
  · exact h.f2 p hp
  · rw [List.mem_singleton.1 hp]; exact hn
theorem Kok.with (h : Kok k m) (n : Nat) (hn : n < 2) (e : En) (h1 : e.op.length ≤ 256) {m' : Nat} (h2 : e.got.length ≤ m') (hm : m ≤ m') : Kok (k.with n e) m' := by
  refine ⟨by rw [with_fl]; exact h.fl, by rw [with_fl]; exact h.f2, fun j hj => ?_, fun j hj => ?_⟩
  · rw [en_with k n j e hn hj]
    split
    · exact h1
    · exact h.op j hj
  · rw [en_with k n j e hn hj]
    split
    · exact h2
    · exact Nat.le_trans (h.got j hj) hm
theorem Kok.sends (h : Kok k m) (n : Int) (B : List UInt8) : Kok (k.sends n B) m := by
  unfold Lk.sends
  split
  · rename_i e
    unfold Lk.sendE at e
    split at e
    · cases e
    · rename_i h1
      obtain ⟨j, rfl⟩ := Int.eq_ofNat_of_zero_le (show 0 ≤ n by omega)
      split at e
      · rename_i h2
        rw [Int.toNat_natCast] at h2 ⊢
        rw [send_eq k j (by omega) B]
        refine Kok.put (Kok.with h j (by omega) _ ?_ ?_ (Nat.le_refl _)) j _ B (by omega) (by rw [with_fl]; exact h2.1)
        · show ((k.en j).op ++ [_]).length ≤ 256
          simp; omega
        · exact h.got j (by omega)
      · cases e
  · exact h
theorem Kok.less (h : Kok k m) (i : Nat) : Kok (k.less i) m := by
  refine ⟨?_, fun p hp => ?_, h.op, h.got⟩
  · have := h.fl
    show (k.fl.take i ++ k.fl.drop (i + 1)).length ≤ 1024
    simp; omega
  · rcases List.mem_append.1 (show p ∈ k.fl.take i ++ k.fl.drop (i + 1) from hp) with hp | hp
    · exact h.f2 p (List.mem_of_mem_take hp)
    · exact h.f2 p (List.mem_of_mem_drop hp)
theorem Kok.twin (h : Kok k m) (i : Nat) (hr : k.fl.length < 1024) : Kok (k.twin i) m := by
  unfold Lk.twin
  split
  · rename_i p hp
    refine ⟨by show (k.fl ++ [p]).length ≤ 1024; simp; omega, fun q hq => ?_, h.op, h.got⟩
    rcases List.mem_append.1 (show q ∈ k.fl ++ [p] from hq) with hq | hq
    · exact h.f2 q hq
    · rw [List.mem_singleton.1 hq]; exact h.f2 p (List.mem_of_getElem? hp)
  · exact h
theorem Kok.tries (h : Kok k m) (n : Nat) (hn : n < 2) (ms : List Mk) : Kok (k.tries n ms) m := by
  unfold Lk.tries
  induction ms generalizing k with
  | nil => exact h
  | cons x xs ih =>
    rw [List.foldl_cons]
    refine ih ?_
    unfold Lk.try1
    split
    · exact h.put n _ _ hn (by assumption)
    · exact h
theorem Kok.tick (h : Kok k m) : Kok k.tick m := (h.tries 0 (by decide) _).tries 1 (by decide) _
theorem Kok.renew (h : Kok k m) (e : Nat) : Kok (k.renew e) m := by
  refine ⟨h.fl, h.f2, fun n hn => ?_, fun n hn => ?_⟩
  · obtain rfl | rfl : n = 0 ∨ n = 1 := by omega
    · exact Nat.zero_le _
    · exact Nat.zero_le _
  · obtain rfl | rfl : n = 0 ∨ n = 1 := by omega
    · exact h.got 0 hn
    · exact h.got 1 hn
theorem Kok.dels (h : Kok k m) (i : Nat) : Kok (k.dels i) (m + 1) := by
  unfold Lk.dels
  split
  · rename_i p hp
    have h1 := h.less i
    have hp2 := h.f2 p (List.mem_of_getElem? hp)
    generalize k.less i = q at h1 ⊢
    unfold Lk.comes
    split
    · have h2 : Kok (q.ackd (1 - p.f) p.m.k) m := h1.with (1 - p.f) (by omega) _ (Nat.le_trans (List.length_filter_le _ _) (h1.op _ (by omega))) (h1.got _ (by omega)) (Nat.le_refl _)
      split
      · exact h2.mono (by omega)
      · have h3 : Kok ((q.ackd (1 - p.f) p.m.k).handed (1 - p.f) p.m) (m + 1) := by
          unfold Lk.handed
          split
          · have h4 : Kok ((q.ackd (1 - p.f) p.m.k).come1 (1 - p.f)) m := by
              unfold Lk.come1
              refine Kok.with h2 (1 - p.f) (by omega) _ ?_ ?_ (Nat.le_refl _)
              · exact h2.op (1 - p.f) (by omega)
              · exact h2.got (1 - p.f) (by omega)
            generalize (q.ackd (1 - p.f) p.m.k).come1 (1 - p.f) = q4 at h4 ⊢
            unfold Lk.addGot
            refine Kok.with h4 (1 - p.f) (by omega) _ ?_ ?_ (by omega)
            · exact h4.op (1 - p.f) (by omega)
            have := h4.got (1 - p.f) (by omega)
            show ((q4.en (1 - p.f)).got ++ [p.m.B]).length ≤ m + 1
            simp; omega
          · exact h2.mono (by omega)
        unfold Lk.answer
        split
        · exact h3.put _ _ _ (by omega) (by assumption)
        · exact h3
    · exact h1.mono (by omega)
  · exact h.mono (by omega)
theorem kok_k0 : Kok k0 0 := by
  refine ⟨by simp [k0], by simp [k0], fun n hn => ?_, fun n hn => ?_⟩
  · obtain rfl | rfl : n = 0 ∨ n = 1 := by omega
    · exact Nat.zero_le _
    · exact Nat.zero_le _
  · obtain rfl | rfl : n = 0 ∨ n = 1 := by omega
    · exact Nat.le_refl _
    · exact Nat.le_refl _
end
section
variable {w0 w w' : World} {bl : Nat} {A : List Nat} {R : Nat → Prop} {k : Lk}
theorem lf_deliverI (h : Lf w0 bl A R k w) (i : Int) (hf : ∀ p ∈ k.fl, p.f < 2) (hg : ∀ n, n < 2 → ((k.en n).got.length + 1) * 24 ≤ 140737488355328) : Calls Try.prog 15 #[.pointer (some ⟨bl, 0, none⟩), .int .i64 i] w fun e w' => e = .returned (.int .i64 (if k.inR i then 0 else 2)) ∧ Lf w0 bl A R (if k.inR i then k.dels i.toNat else k) w' ∧ Stay R w w' := by
  by_cases hi : k.inR i
  · rw [if_pos hi, if_pos hi]
    obtain ⟨n, rfl⟩ := Int.eq_ofNat_of_zero_le hi.1
    exact lf_deliver h n (by have := hi.2; omega) hf hg
  · rw [if_neg hi, if_neg hi]
    obtain ⟨V, h1, h2, h3, h4, h5⟩ := h
    refine (deliver_no h1 i (by unfold Lk.inR at hi; omega)).mono ?_
    rintro e w' ⟨rfl, hb⟩
    exact ⟨rfl, Goes.lf h1 h2 h3 h4 h5 (Goes.of_below h1 hb)⟩
theorem lf_renew (h : Lf w0 bl A R k w) (e : Nat) : Calls Try.prog 13 #[.pointer (some ⟨bl, 0, none⟩), .int .u32 (e : Int)] w fun x w' => x = .returned (.int .i64 (if e ≤ k.ep then 2 else 0)) ∧ Lf w0 bl A R (if e ≤ k.ep then k else k.renew e) w' ∧ Stay R w w' := by
  obtain ⟨V, h1, h2, h3, h4, h5⟩ := h
  by_cases he : e ≤ k.ep
  · rw [if_pos he, if_pos he]
    refine (renew_no h1 e he).mono ?_
    rintro e w' ⟨rfl, rfl⟩
    exact ⟨rfl, ⟨V, h1, h2, h3, h4, h5⟩, fun x hx => rfl⟩
  · rw [if_neg he, if_neg he]
    refine (renew_ok h1 e (by omega)).mono ?_
    rintro e w' ⟨rfl, V', g⟩
    exact ⟨rfl, Goes.lf h1 h2 h3 h4 h5 g⟩
theorem lf_openI (h : Lf w0 bl A R k w) (n : Int) : Calls Try.prog 14 #[.pointer (some ⟨bl, 0, none⟩), .int .i64 n] w fun e w' => e = .returned (.int .i64 ((k.openI n : Nat) : Int)) ∧ w = w' := by
  by_cases hn : n < 0 ∨ 1 < n
  · rw [show k.openI n = 0 by unfold Lk.openI; rw [if_neg (by omega), if_neg (by omega)]]
    exact open_no _ n hn w
  · obtain ⟨V, h1, _⟩ := h
    obtain rfl | rfl : n = 0 ∨ n = 1 := by omega
    · exact open_any h1 0 (by decide)
    · exact open_any h1 1 (by decide)
/-- a readable [][]byte -/
def Tx (w : World) (v : Value) (l : List (List UInt8)) : Prop := ∃ a c, v = .slice a l.length c ∧ l.length ≤ maxLen ∧ ∀ i B, l[i]? = some B → ∃ g o a' c', a = some ⟨g, o, none⟩ ∧ w.cell? ⟨g, o + i, none⟩ = some (.slice a' B.length c') ∧ Bts w a' B.length c' B
theorem Txt.tx {v : Value} {l : List (List UInt8)} (h : Txt w v l) : Tx w v l := by
  obtain ⟨a, c, e, h1, h2, h3⟩ := h
  refine ⟨a, c, e, h1, fun i B hB => ?_⟩
  obtain ⟨g, a', c', e1, e2, e3⟩ := h3 i B hB
  exact ⟨g, 0, a', c', e1, by rw [Nat.zero_add]; exact e2, e3⟩
theorem Rd.tx {N : Nat → Prop} {v : Value} {l : List (List UInt8)} (h : Rd N w 23 gc id v l) : Tx w v l := by
  obtain ⟨a, c, e, h1, h2⟩ := h.form
  refine ⟨a, c, e, by omega, fun i B hB => ?_⟩
  obtain ⟨g, o, c', y, e2, hc, hy⟩ := h.at_ (m := 1) (fun _ => rfl) hB
  rw [e] at e2
  cases e2
  obtain ⟨a', c2, rfl, hb, _⟩ := hy
  have := hc 0 _ rfl
  exact ⟨g, o, a', c2, rfl, by simpa using this, hb⟩
theorem Tx.below {v : Value} {l : List (List UInt8)} (h : Tx w v l) (hb : Below w.heap.size w w') : Tx w' v l := by
  obtain ⟨a, c, e, h1, h3⟩ := h
  refine ⟨a, c, e, h1, fun i B hB => ?_⟩
  obtain ⟨g, o, a', c', e1, e2, e3⟩ := h3 i B hB
  exact ⟨g, o, a', c', e1, (Below.cell hb (p := ⟨g, o + i, none⟩) (block_lt_of_cell e2)).trans e2, e3.below hb (Nat.le_refl _)⟩
theorem lf_gotI (h : Lf w0 bl A R k w) (n : Int) (hg : ∀ n, n < 2 → ((k.en n).got.length + 1) * 24 ≤ 140737488355328) : Calls Try.prog 16 #[.pointer (some ⟨bl, 0, none⟩), .int .i64 n] w fun e w' => ∃ v, e = .returned v ∧ Tx w' v (k.gotI n) ∧ Below w.heap.size w w' := by
  by_cases hn : n < 0 ∨ 1 < n
  · rw [show k.gotI n = [] by unfold Lk.gotI; rw [if_neg (by omega), if_neg (by omega)]]
    refine (got_no _ n hn w).mono ?_
    rintro e w' ⟨rfl, rfl⟩
    exact ⟨_, rfl, ⟨none, 0, rfl, by simp [maxLen], fun i B hB => by simp at hB⟩, Below.refl _ _⟩
  · obtain rfl | rfl : n = 0 ∨ n = 1 := by omega
    · refine (lf_got h 0 (by decide) (hg 0 (by decide))).mono ?_
      rintro e w' ⟨v, rfl, ht, _, hb⟩
      exact ⟨v, rfl, ht.tx, hb⟩
    · refine (lf_got h 1 (by decide) (hg 1 (by decide))).mono ?_
      rintro e w' ⟨v, rfl, ht, _, hb⟩
      exact ⟨v, rfl, ht.tx, hb⟩
theorem Body.r {S : List Nat} {v : Value} {B : List UInt8} (h : Body w S v B) : BodyR (fun _ => False) w v B := by
  rcases h with ⟨rfl, rfl⟩ | ⟨g, o, c, e, h1, h2, h3, h4⟩
  · exact ⟨none, 0, rfl, ⟨rfl, Nat.le_refl _, by unfold maxLen; omega, .inl rfl⟩, .inl rfl⟩
  · exact ⟨_, c, e, h3, .inr ⟨g, o, rfl, id⟩⟩
theorem RowOf.rd {α : Type} {base : Nat} {S : List Nat} {t : TypeId} {m : Nat} {f : α × Value → List Value} {body : α → List UInt8} {v : Value} {xs : List α} (h : RowOf w base S t m f body v xs) : Rd (fun _ => False) w t f body v xs := by
  obtain ⟨ps, e, ⟨hl, h1⟩, h2⟩ := h
  have hpl : ps.length = xs.length := by rw [← e]; simp
  rcases h1 with ⟨rfl, e2⟩ | ⟨g, cap, cur, rfl, hb, hg, hnc, hcm, hsz, htk⟩
  · have : xs = [] := List.eq_nil_of_length_eq_zero (by omega)
    subst this
    exact Rd.nil
  · refine ⟨ps, _, cap, e, by rw [hpl], by omega, hcm, .inr ⟨g, 0, rfl, ⟨cur.toList, by simpa [Blk] using hg, id⟩, fun j u hu => ?_⟩, fun p hp => (h2 p hp).r⟩
    have hj := (List.getElem?_eq_some_iff.1 hu).1
    rw [hl] at hj
    rw [← htk, List.getElem?_take_of_lt hj] at hu
    rw [cell_of_row w g _ _ _ (0, 0) hg]
    simpa using hu
theorem lf_flightR (h : Lf w0 bl A R k w) (hfl : k.fl.length ≤ 1024) : Calls Try.prog 12 #[.pointer (some ⟨bl, 0, none⟩)] w fun e w' => ∃ v, e = .returned v ∧ Rd (fun _ => False) w' 74 pc (·.m.B) v k.fl ∧ Below w.heap.size w w' := by
  obtain ⟨V, h1, h2, h3, h4, h5⟩ := h
  refine (flight_any h1 hfl).mono ?_
  rintro e w' ⟨v, rfl, hr, hb⟩
  exact ⟨v, rfl, hr.rd, hb⟩
end
end Go.Proofs.Ytfjaoompdleljaa.Link
/-
  SameTexts of rows at any place; a copy of bytes that its owner writes. Helper text; no statement is proved here.
-/
set_option linter.unusedVariables false
set_option maxRecDepth 20000
set_option linter.unusedSimpArgs false
namespace Go.Proofs.Ytfjaoompdleljaa.Link
open Go.RowKit Go.Proofs.Ytfjaoompdleljaa.Base Go.Proofs.Ytfjaoompdleljaa.Laws Go.Proofs.Ytfjaoompdleljaa.Disk Go.Proofs.Ytfjaoompdleljaa.Row Go.Proofs.Ytfjaoompdleljaa.Flat Go.Proofs.Ytfjaoompdleljaa.InvM
/-- SameTexts of the reference -/
theorem texts_two (va vb : Value) (la lb : List (List UInt8)) (w : World) (ha : Tx w va la) (hb : Tx w vb lb) : Calls Try.prog 19 #[va, vb] w fun e w' => e = .returned (.bool (decide (la = lb))) ∧ ∃ nd, w' = w.drewN nd := by
  obtain ⟨a, ca, rfl, h1, h3⟩ := ha
  obtain ⟨b, cb, rfl, g1, g3⟩ := hb
  unfold maxLen at h1 g1
  obtain ⟨n, hn⟩ : ∃ n, n = la.length := ⟨_, rfl⟩
  obtain ⟨m, hm⟩ : ∃ m, m = lb.length := ⟨_, rfl⟩
  rw [← hn] at h1 ⊢
  rw [← hm] at g1 ⊢
  have HA := Lib.hid h3
  have HB := Lib.hid g3
  have HN := Lib.hid hn
  have HM := Lib.hid hm
  clear h3 g3 hn hm
  by_cases hnm : n = m
  · subst hnm
    go_enter Try.func19, Try.ntmps19
    go_wp2
    go_loopw [5] (fun i wr => ∃ k nd : Nat, k ≤ n ∧ i = .int .i64 k ∧ la.take k = lb.take k ∧ wr = w.drewN nd) (fun i _ => n - (intOf i).toNat)
    case atStart => exact ⟨0, 0, by omega, rfl, rfl, rfl⟩
    case round =>
      obtain ⟨k, nd, hk, rfl, ht, rfl⟩ := hrel
      have HT := Lib.hid ht
      clear ht
      by_cases hkn : k < n
      · obtain ⟨x, hx⟩ : ∃ x, la[k]? = some x := ⟨_, List.getElem?_eq_getElem (by have := HN.out; omega)⟩
        obtain ⟨y, hy⟩ : ∃ y, lb[k]? = some y := ⟨_, List.getElem?_eq_getElem (by have := HM.out; omega)⟩
        obtain ⟨g, go, xa, xc, rfl, xcell, xb⟩ := HA.out k x hx
        obtain ⟨g', go', ya, yc, rfl, ycell, yb⟩ := HB.out k y hy
        have X1 := Lib.hid (take_snoc la k x hx)
        have Y1 := Lib.hid (take_snoc lb k y hy)
        have XG := Lib.hid hx
        have YG := Lib.hid hy
        have SM := Lib.hid (show ∀ q : Nat, Calls Try.prog 17 #[.slice xa x.length xc, .slice ya y.length yc] (w.drewN (nd + q)) fun e w' => e = .returned (.bool (decide (x = y))) ∧ ∃ n, w' = w.drewN (nd + n) from fun q =>
          (Same.same_any xa x.length xc x ya y.length yc y (w.drewN (nd + q)) (xb.below ⟨rfl, rfl, rfl, Nat.le_refl _, fun _ _ => rfl⟩ (Nat.le_refl _)) (yb.below ⟨rfl, rfl, rfl, Nat.le_refl _, fun _ _ => rfl⟩ (Nat.le_refl _))).mono (by
            rintro e w' ⟨rfl, m, rfl⟩
            exact ⟨rfl, q + m, by rw [World.drewN_drewN, Nat.add_assoc]⟩))
        obtain ⟨xl, hxl⟩ : ∃ xl, xl = x.length := ⟨_, rfl⟩
        obtain ⟨yl, hyl⟩ : ∃ yl, yl = y.length := ⟨_, rfl⟩
        rw [← hxl] at xcell SM
        rw [← hyl] at ycell SM
        clear hx hy xb yb hxl hyl
        by_cases hxy : x = y
        · have ED := Lib.hid (show decide (x = y) = true from decide_eq_true hxy)
          rw [ED.out] at SM
          clear ED
          go_wp2
          go_quiet (first | (go_at_call 17; exact SM.out _))
          go_wp2
          go_roundw
          case rel => exact ⟨k + 1, nd + nq, by omega, by go_num, by rw [X1.out, Y1.out, HT.out, hxy], rfl⟩
          case measure => simp [intOf]; omega
        · rw [decide_eq_false hxy] at SM
          go_wp2
          go_quiet (first | (go_at_call 17; exact SM.out _))
          go_wp2
          go_ret
          refine ⟨ret_bool (decide_eq_false fun e => hxy ?_).symm, nd + nq, by first | rfl | exact World.drewN_drewN ..⟩
          have := XG.out
          rw [e, YG.out] at this
          exact (Option.some.inj this).symm
      · go_wp2
        go_ret
        exact ⟨ret_bool (decide_eq_true (Same.take_eq_of (by have := HN.out; have := HM.out; omega) (by have := HN.out; omega) HT.out)).symm, _, rfl⟩
  · have HNE := Lib.hid (show la ≠ lb from fun e => by subst e; exact hnm (HN.out.trans HM.out.symm))
    go_enter Try.func19, Try.ntmps19
    go_wp2
    go_ret
    exact ⟨ret_bool (decide_eq_false HNE.out).symm, 0, rfl⟩
theorem copy_u8 {w : World} {g : Nat} (hg : Blk w g [] 5) {a : Option Addr} {bn c : Nat} {B : List UInt8} (hB : Bts w a bn c B) (hn : bn ≤ 140737488351232) : ∃ a' c' w', (Builtin.append_ #[23, 23] 23 #[.slice (some ⟨g, 0, none⟩) 0 0, .slice a bn c]).run Try.prog w = .ok (.slice a' bn c') w' ∧ Bts w' a' bn c' B ∧ Below g w w' ∧ (bn = 0 ∨ ∃ g1 cs, a' = some ⟨g1, 0, none⟩ ∧ g ≤ g1 ∧ Blk w' g1 cs 5 ∧ bn ≤ cs.length) := by
  have own0 : w.ownsRow g 5 1 (.slice (some ⟨g, 0, none⟩) 0 0) 0 ([] : List Value) := ⟨by simp, .inr ⟨g, 0, #[], rfl, Nat.le_refl _, hg, Nat.le_refl _, by unfold maxLen; omega, by simp, by simp⟩⟩
  obtain ⟨v', w', hr, ho, hgr, hv⟩ := run_append_any_at (P := Try.prog) w g 23 23 5 (.int .u8 0) 1 1 Try.underlying23 OwnB.infou8 rfl (by decide) (.slice (some ⟨g, 0, none⟩) 0 0) 0 [] own0 a bn c (bv B) (OwnB.src_bts hB) (by omega) (by unfold maxLen; omega) (by have := hg.lt; omega)
  rw [Nat.zero_add, List.nil_append] at ho
  obtain ⟨a', c', rfl, hb⟩ := OwnB.bts_own hB.1 ho
  refine ⟨a', c', w', hr, hb, ⟨hgr.os, hgr.tape, hgr.output, hgr.size, fun x hx => hgr.block x (by have := hg.lt; omega) (fun e => by have := Option.some.inj e; simp only at this; omega)⟩, ?_⟩
  rcases ho.2 with ⟨_, e0⟩ | ⟨g', cap, cur, e, hb', hblk, hnc, _, hsz, _⟩
  · exact .inl e0
  · exact .inr ⟨g', cur.toList, by cases e; rfl, hb', by simpa [Blk] using hblk, by simp; omega⟩
end Go.Proofs.Ytfjaoompdleljaa.Link
/-
  How many messages can come in a script of so many steps: plain law, no program in sight. Helper text; no statement is proved here.
-/
set_option linter.unusedVariables false
set_option maxRecDepth 20000
set_option linter.unusedSimpArgs false
namespace Go.Proofs.Ytfjaoompdleljaa.Link
/-- the numbers that may still come to end t: of packets under way, and of open messages -/
def Lk.alive (k : Lk) (t : Nat) : List Nat := (k.fl.filter (fun p => decide (p.f = 1 - t ∧ p.m.e = k.ep ∧ p.m.B ≠ []))).map (·.m.s) ++ (k.en (1 - t)).op.map (·.s)
/-- the nearer to its turn, the more -/
def near (come s : Nat) : Nat := 4294967296 - (s + 8589934591 - come) % 4294967296
def sumN (c : Nat) : List Nat → Nat
  | [] => 0
  | s :: l => near c s + sumN c l
theorem sumN_filter (c : Nat) (q : Nat → Bool) (l : List Nat) : sumN c (l.filter q) ≤ sumN c l := by
  induction l with
  | nil => exact Nat.le_refl _
  | cons s l ih =>
    rw [List.filter_cons]
    split
    · show near c s + _ ≤ near c s + _; omega
    · show _ ≤ near c s + _; omega
theorem near_le (c s : Nat) : near c s ≤ 4294967296 := by unfold near; omega
theorem sumN_next (c : Nat) (hc : c < 4294967296) (l : List Nat) (hl : ∀ s ∈ l, s < 4294967296) : sumN ((c + 1) % 4294967296) l + (if (c + 1) % 4294967296 ∈ l then 4294967296 else 0) ≤ sumN c l + l.length := by
  induction l with
  | nil => simp [sumN]
  | cons s l ih =>
    have h := ih fun x hx => hl x (List.mem_cons_of_mem _ hx)
    have hs := hl s (List.mem_cons_self ..)
    have h1 : near ((c + 1) % 4294967296) s ≤ near c s + 1 := by unfold near; omega
    have h2 : s = (c + 1) % 4294967296 → near ((c + 1) % 4294967296) s + 4294967296 ≤ near c s + 1 := fun e => by unfold near; omega
    show near _ s + sumN _ l + _ ≤ near c s + sumN c l + (l.length + 1)
    by_cases e : (c + 1) % 4294967296 = s
    · have := h2 e.symm
      rw [if_pos (by rw [e]; exact List.mem_cons_self ..)]
      have h3 : sumN ((c + 1) % 4294967296) l ≤ sumN c l + l.length := by omega
      omega
    · by_cases e2 : (c + 1) % 4294967296 ∈ l
      · rw [if_pos (List.mem_cons_of_mem _ e2)]
        rw [if_pos e2] at h
        omega
      · rw [if_neg (by simp [e, e2])]
        omega
theorem nodup_len : ∀ (l x : List Nat), l.Nodup → (∀ s ∈ l, s ∈ x) → l.length ≤ x.length
  | [], x, _, _ => Nat.zero_le _
  | s :: l, x, hn, hs => by
    have h1 := hs s (List.mem_cons_self ..)
    have hn' := List.nodup_cons.1 hn
    have h2 := nodup_len l (x.erase s) hn'.2 fun y hy => by
      have := hs y (List.mem_cons_of_mem _ hy)
      exact (List.mem_erase_of_ne (fun e => hn'.1 (by rw [← e]; exact hy))).2 this
    have h3 := List.length_erase_of_mem h1
    have h4 : 0 < x.length := List.length_pos_of_mem h1
    simp only [List.length_cons]
    omega
/-- of end t: what has come, of what was sent -/
def Pot (k : Lk) (t sent : Nat) : Prop := ∃ l : List Nat, l.Nodup ∧ (∀ s ∈ k.alive t, s ∈ l) ∧ (∀ s ∈ l, s ∈ k.alive t) ∧ 4294966016 * (k.en t).got.length + sumN (k.en t).come l ≤ 4294967296 * sent
/-- what holds of a link in a script -/
structure Gd (k : Lk) (m : Nat) : Prop where
  fl : k.fl.length ≤ 1024
  f2 : ∀ p ∈ k.fl, p.f < 2
  fe : ∀ p ∈ k.fl, p.m.e ≤ k.ep
  fs : ∀ p ∈ k.fl, p.m.s < 4294967296
  op : ∀ n, n < 2 → (k.en n).op.length ≤ 256
  os : ∀ n, n < 2 → ∀ x ∈ (k.en n).op, x.s < 4294967296
  cm : ∀ n, n < 2 → (k.en n).come < 4294967296
  po : ∃ s0 s1, Pot k 0 s1 ∧ Pot k 1 s0 ∧ k.a.got.length + k.b.got.length + s0 + s1 ≤ m
theorem arith_came (g s x1 x2 y l : Nat) (h4 : 4294966016 * g + y ≤ 4294967296 * s) (q1 : x2 ≤ x1) (q2 : x1 + 4294967296 ≤ y + l) (h5 : l ≤ 1280) : 4294966016 * (g + 1) + x2 ≤ 4294967296 * s := by omega
theorem arith_sent (g s y : Nat) (h4 : 4294966016 * g + y ≤ 4294967296 * s) : 4294966016 * g + y ≤ 4294967296 * (s + 1) := by omega
theorem arith_sent2 (g s y z : Nat) (h4 : 4294966016 * g + y ≤ 4294967296 * s) (hz : z ≤ 4294967296) : 4294966016 * g + (z + y) ≤ 4294967296 * (s + 1) := by omega
/-- fewer may come -/
theorem Pot.sub {k k' : Lk} {t sent : Nat} (h : Pot k t sent) (hs : ∀ s ∈ k'.alive t, s ∈ k.alive t) (hg : (k'.en t).got = (k.en t).got) (hc : (k'.en t).come = (k.en t).come) : Pot k' t sent := by
  obtain ⟨l, h1, h2, h3, h4⟩ := h
  refine ⟨l.filter (fun s => decide (s ∈ k'.alive t)), h1.sublist List.filter_sublist, fun s hx => List.mem_filter.2 ⟨h2 s (hs s hx), decide_eq_true hx⟩, fun s hx => of_decide_eq_true (List.mem_filter.1 hx).2, ?_⟩
  simp only [hg, hc]
  have := sumN_filter (k.en t).come (fun s => decide (s ∈ k'.alive t)) l
  omega
theorem Pot.len {k : Lk} {t sent : Nat} (h : Pot k t sent) (hf : k.fl.length ≤ 1024) (ho : (k.en (1 - t)).op.length ≤ 256) : ∃ l : List Nat, l.Nodup ∧ (∀ s ∈ k.alive t, s ∈ l) ∧ (∀ s ∈ l, s ∈ k.alive t) ∧ 4294966016 * (k.en t).got.length + sumN (k.en t).come l ≤ 4294967296 * sent ∧ l.length ≤ 1280 := by
  obtain ⟨l, h1, h2, h3, h4⟩ := h
  refine ⟨l, h1, h2, h3, h4, Nat.le_trans (nodup_len l _ h1 h3) ?_⟩
  unfold Lk.alive
  rw [List.length_append, List.length_map, List.length_map]
  have := List.length_filter_le (fun p : Pk => decide (p.f = 1 - t ∧ p.m.e = k.ep ∧ p.m.B ≠ [])) k.fl
  omega
/-- one more was sent -/
theorem Pot.sent {k k' : Lk} {t sent x : Nat} (h : Pot k t sent) (hs : ∀ s ∈ k'.alive t, s ∈ k.alive t ∨ s = x) (hx : x ∈ k'.alive t) (hs' : ∀ s ∈ k.alive t, s ∈ k'.alive t) (hg : (k'.en t).got = (k.en t).got) (hc : (k'.en t).come = (k.en t).come) : Pot k' t (sent + 1) := by
  obtain ⟨l, h1, h2, h3, h4⟩ := h
  by_cases e : x ∈ l
  · refine ⟨l, h1, fun s hx => ?_, fun s hx => hs' s (h3 s hx), ?_⟩
    · rcases hs s hx with q | rfl
      · exact h2 s q
      · exact e
    · simp only [hg, hc]
      exact arith_sent _ _ _ h4
  · refine ⟨x :: l, List.nodup_cons.2 ⟨e, h1⟩, fun s hx => ?_, fun s hx' => ?_, ?_⟩
    · rcases hs s hx with q | rfl
      · exact List.mem_cons_of_mem _ (h2 s q)
      · exact List.mem_cons_self ..
    · rcases List.mem_cons.1 hx' with rfl | q
      · exact hx
      · exact hs' s (h3 s q)
    · simp only [hg, hc]
      exact arith_sent2 _ _ _ _ h4 (near_le (k.en t).come x)
/-- one more has come -/
theorem Pot.came {k k' : Lk} {t sent : Nat} (h : Pot k t sent) (hf : k.fl.length ≤ 1024) (ho : (k.en (1 - t)).op.length ≤ 256) (hl : ∀ s ∈ k.alive t, s < 4294967296) (hcm : (k.en t).come < 4294967296) (hx : ((k.en t).come + 1) % 4294967296 ∈ k.alive t) (hs : ∀ s ∈ k'.alive t, s ∈ k.alive t) (hg : (k'.en t).got.length = (k.en t).got.length + 1) (hc : (k'.en t).come = ((k.en t).come + 1) % 4294967296) : Pot k' t sent := by
  obtain ⟨l, h1, h2, h3, h4, h5⟩ := h.len hf ho
  refine ⟨l.filter (fun s => decide (s ∈ k'.alive t)), h1.sublist List.filter_sublist, fun s hx => List.mem_filter.2 ⟨h2 s (hs s hx), decide_eq_true hx⟩, fun s hx => of_decide_eq_true (List.mem_filter.1 hx).2, ?_⟩
  simp only [hg, hc]
  have q1 := sumN_filter (((k.en t).come + 1) % 4294967296) (fun s => decide (s ∈ k'.alive t)) l
  have q2 := sumN_next (k.en t).come hcm l fun s hs => hl s (h3 s hs)
  rw [if_pos (h2 _ hx)] at q2
  exact arith_came _ _ _ _ _ _ h4 q1 q2 h5
theorem Gd.got {k : Lk} {m : Nat} (h : Gd k m) (hm : m ≤ 7036874417767) : ∀ n, n < 2 → ((k.en n).got.length + 1) * 24 ≤ 140737488355328 := by
  obtain ⟨s0, s1, ⟨l0, _, _, _, p0⟩, ⟨l1, _, _, _, p1⟩, hs⟩ := h.po
  intro n hn
  have e0 : (k.en 0).got.length = k.a.got.length := rfl
  have e1 : (k.en 1).got.length = k.b.got.length := rfl
  obtain rfl | rfl : n = 0 ∨ n = 1 := by omega
  · omega
  · omega
theorem Gd.mono {k : Lk} {m m' : Nat} (h : Gd k m) (hm : m ≤ m') : Gd k m' := by
  obtain ⟨s0, s1, p0, p1, hs⟩ := h.po
  exact ⟨h.fl, h.f2, h.fe, h.fs, h.op, h.os, h.cm, s0, s1, p0, p1, by omega⟩
theorem mem_alive {k : Lk} {t s : Nat} : s ∈ k.alive t ↔ (∃ p ∈ k.fl, (p.f = 1 - t ∧ p.m.e = k.ep ∧ p.m.B ≠ []) ∧ p.m.s = s) ∨ ∃ x ∈ (k.en (1 - t)).op, x.s = s := by
  unfold Lk.alive
  rw [List.mem_append, List.mem_map, List.mem_map]
  constructor
  · rintro (⟨p, hp, rfl⟩ | h)
    · have := List.mem_filter.1 hp
      exact .inl ⟨p, this.1, of_decide_eq_true this.2, rfl⟩
    · exact .inr h
  · rintro (⟨p, hp, hq, rfl⟩ | h)
    · exact .inl ⟨p, List.mem_filter.2 ⟨hp, decide_eq_true hq⟩, rfl⟩
    · exact .inr h
section
variable {k k' : Lk} {m : Nat}
theorem two' {n : Nat} (hn : n < 2) : n = 0 ∨ n = 1 := by omega
theorem Gd.alive_lt (h : Gd k m) (t : Nat) (ht : t < 2) : ∀ s ∈ k.alive t, s < 4294967296 := fun s hs => by
  rcases mem_alive.1 hs with ⟨p, hp, _, rfl⟩ | ⟨x, hx, rfl⟩
  · exact h.fs p hp
  · exact h.os (1 - t) (by omega) x hx
/-- not more than was -/
theorem Gd.sub (h : Gd k m) (h1 : k'.fl.length ≤ 1024) (h2 : ∀ p ∈ k'.fl, p ∈ k.fl) (he : k'.ep = k.ep) (ho : ∀ n, n < 2 → (k'.en n).op.length ≤ 256 ∧ ∀ x ∈ (k'.en n).op, x ∈ (k.en n).op) (hc : ∀ n, n < 2 → (k'.en n).come = (k.en n).come ∧ (k'.en n).got = (k.en n).got) : Gd k' m := by
  obtain ⟨s0, s1, p0, p1, hs⟩ := h.po
  have ha : ∀ t, t < 2 → ∀ s ∈ k'.alive t, s ∈ k.alive t := fun t ht s hs => by
    rcases mem_alive.1 hs with ⟨p, hp, ⟨q1, q2, q3⟩, rfl⟩ | ⟨x, hx, rfl⟩
    · exact mem_alive.2 (.inl ⟨p, h2 p hp, ⟨q1, by rw [q2, he], q3⟩, rfl⟩)
    · exact mem_alive.2 (.inr ⟨x, (ho (1 - t) (by omega)).2 x hx, rfl⟩)
  have g0 : k'.a.got = k.a.got := (hc 0 (by decide)).2
  have g1 : k'.b.got = k.b.got := (hc 1 (by decide)).2
  exact ⟨h1, fun p hp => h.f2 p (h2 p hp), fun p hp => by rw [he]; exact h.fe p (h2 p hp), fun p hp => h.fs p (h2 p hp), fun n hn => (ho n hn).1, fun n hn x hx => h.os n hn x ((ho n hn).2 x hx), fun n hn => by rw [(hc n hn).1]; exact h.cm n hn,
    s0, s1, p0.sub (ha 0 (by decide)) (hc 0 (by decide)).2 (hc 0 (by decide)).1, p1.sub (ha 1 (by decide)) (hc 1 (by decide)).2 (hc 1 (by decide)).1, by rw [g0, g1]; exact hs⟩
theorem Gd.less (h : Gd k m) (i : Nat) : Gd (k.less i) m := by
  refine h.sub ?_ (fun p hp => ?_) rfl (fun n hn => ⟨h.op n hn, fun x hx => hx⟩) (fun n hn => ⟨rfl, rfl⟩)
  · have := h.fl
    show (k.fl.take i ++ k.fl.drop (i + 1)).length ≤ 1024
    simp; omega
  · rcases List.mem_append.1 (show p ∈ k.fl.take i ++ k.fl.drop (i + 1) from hp) with hp | hp
    · exact List.mem_of_mem_take hp
    · exact List.mem_of_mem_drop hp
theorem Gd.twin (h : Gd k m) (i : Nat) (hr : k.fl.length < 1024) : Gd (k.twin i) m := by
  unfold Lk.twin
  split
  · rename_i p hp
    refine h.sub (by show (k.fl ++ [p]).length ≤ 1024; simp; omega) (fun q hq => ?_) rfl (fun n hn => ⟨h.op n hn, fun x hx => hx⟩) (fun n hn => ⟨rfl, rfl⟩)
    rcases List.mem_append.1 (show q ∈ k.fl ++ [p] from hq) with hq | hq
    · exact hq
    · rw [List.mem_singleton.1 hq]; exact List.mem_of_getElem? hp
  · exact h
theorem Gd.put (h : Gd k m) (n s : Nat) (B : List UInt8) (hn : n < 2) (hr : k.fl.length < 1024) (hs : s < 4294967296) (hin : B ≠ [] → s ∈ k.alive (1 - n)) : Gd (k.put n s B) m := by
  obtain ⟨s0, s1, p0, p1, hsum⟩ := h.po
  have hm : ∀ p, p ∈ (k.put n s B).fl → p ∈ k.fl ∨ p = ⟨n, ⟨k.ep, s, (k.en n).come, B⟩⟩ := fun p hp => by
    rcases List.mem_append.1 (show p ∈ k.fl ++ [_] from hp) with hp | hp
    · exact .inl hp
    · exact .inr (List.mem_singleton.1 hp)
  have ha : ∀ t, t < 2 → ∀ x ∈ (k.put n s B).alive t, x ∈ k.alive t := fun t ht x hx => by
    rcases mem_alive.1 hx with ⟨p, hp, ⟨q1, q2, q3⟩, rfl⟩ | hx
    · rcases hm p hp with hp | rfl
      · exact mem_alive.2 (.inl ⟨p, hp, ⟨q1, q2, q3⟩, rfl⟩)
      · have e : t = 1 - n := by have : n = 1 - t := q1; omega
        rw [e]; exact hin q3
    · exact mem_alive.2 (.inr hx)
  refine ⟨by show (k.fl ++ [_]).length ≤ 1024; simp; omega, fun p hp => ?_, fun p hp => ?_, fun p hp => ?_, h.op, h.os, h.cm, s0, s1, p0.sub (ha 0 (by decide)) rfl rfl, p1.sub (ha 1 (by decide)) rfl rfl, hsum⟩
  · rcases hm p hp with hp | rfl
    · exact h.f2 p hp
    · exact hn
  · rcases hm p hp with hp | rfl
    · exact h.fe p hp
    · exact Nat.le_refl _
  · rcases hm p hp with hp | rfl
    · exact h.fs p hp
    · exact hs
theorem Gd.tries (h : Gd k m) (n : Nat) (hn : n < 2) (ms : List Mk) (hms : ∀ x ∈ ms, x ∈ (k.en n).op) : Gd (k.tries n ms) m := by
  unfold Lk.tries
  induction ms generalizing k with
  | nil => exact h
  | cons x xs ih =>
    rw [List.foldl_cons]
    have hx := hms x (List.mem_cons_self ..)
    have hr := fun y hy => hms y (List.mem_cons_of_mem _ hy)
    unfold Lk.try1
    split
    · refine ih (h.put n _ _ hn (by assumption) (h.os n hn x hx) fun _ => mem_alive.2 (.inr ⟨x, ?_, rfl⟩)) hr
      rw [show 1 - (1 - n) = n by omega]
      exact hx
    · exact ih h hr
theorem Gd.tick (h : Gd k m) : Gd k.tick m := by
  refine (h.tries 0 (by decide) _ fun x hx => hx).tries 1 (by decide) _ fun x hx => ?_
  have := (tries_en k 0 k.a.op).2.2.1
  show x ∈ (k.tries 0 k.a.op).b.op
  rw [this]
  exact hx
theorem Gd.renew (h : Gd k m) (e : Nat) (he : k.ep < e) : Gd (k.renew e) m := by
  obtain ⟨s0, s1, ⟨l0, _, _, _, p0⟩, ⟨l1, _, _, _, p1⟩, hsum⟩ := h.po
  have ha : ∀ t, t < 2 → ∀ x, x ∉ (k.renew e).alive t := fun t ht x hx => by
    rcases mem_alive.1 hx with ⟨p, hp, ⟨_, q2, _⟩, _⟩ | ⟨y, hy, _⟩
    · have := h.fe p hp
      have : p.m.e = e := q2
      omega
    · obtain rfl | rfl : t = 0 ∨ t = 1 := by omega
      · simp [Lk.renew, Lk.en] at hy
      · simp [Lk.renew, Lk.en] at hy
  refine ⟨h.fl, h.f2, fun p hp => ?_, h.fs, fun n hn => ?_, fun n hn x hx => ?_, fun n hn => ?_, s0, s1, ⟨[], List.nodup_nil, fun x hx => absurd hx (ha 0 (by decide) x), by simp, ?_⟩, ⟨[], List.nodup_nil, fun x hx => absurd hx (ha 1 (by decide) x), by simp, ?_⟩, hsum⟩
  · have := h.fe p hp
    show p.m.e ≤ e
    omega
  · obtain rfl | rfl := two' hn
    · exact Nat.zero_le _
    · exact Nat.zero_le _
  · obtain rfl | rfl := two' hn
    · simp [Lk.renew, Lk.en] at hx
    · simp [Lk.renew, Lk.en] at hx
  · obtain rfl | rfl := two' hn
    · show 0 < 4294967296; decide
    · show 0 < 4294967296; decide
  · exact Nat.le_trans (Nat.le_add_right _ _) p0
  · exact Nat.le_trans (Nat.le_add_right _ _) p1
theorem Gd.send (h : Gd k m) (n : Nat) (hn : n < 2) (B : List UInt8) (hB : B ≠ []) (hr : k.fl.length < 1024) (ho : (k.en n).op.length < 256) : Gd (k.send n B) (m + 1) := by
  obtain ⟨s0, s1, p0, p1, hsum⟩ := h.po
  rw [send_eq k n hn B]
  obtain ⟨x, hx⟩ : ∃ x, x = ((k.en n).sent + 1) % 4294967296 := ⟨_, rfl⟩
  have hx4 : x < 4294967296 := by rw [hx]; omega
  rw [← hx]
  obtain ⟨q, hq⟩ : ∃ q, q = (k.with n { (k.en n) with sent := x, op := (k.en n).op ++ [⟨0, x, 0, B⟩] }).put n x B := ⟨_, rfl⟩
  rw [← hq]
  have qe : q.ep = k.ep := by rw [hq]; obtain rfl | rfl := two' hn <;> rfl
  have qf : q.fl = k.fl ++ [⟨n, ⟨k.ep, x, (k.en n).come, B⟩⟩] := by rw [hq]; obtain rfl | rfl := two' hn <;> rfl
  have qn : (q.en n).op = (k.en n).op ++ [⟨0, x, 0, B⟩] ∧ (q.en n).come = (k.en n).come ∧ (q.en n).got = (k.en n).got := by rw [hq]; obtain rfl | rfl := two' hn <;> exact ⟨rfl, rfl, rfl⟩
  have qo : q.en (1 - n) = k.en (1 - n) := by rw [hq]; obtain rfl | rfl := two' hn <;> rfl
  clear hq hx
  have qen : ∀ j, j < 2 → j = n ∨ j = 1 - n := fun j hj => by omega
  have qc : ∀ j, j < 2 → (q.en j).come = (k.en j).come ∧ (q.en j).got = (k.en j).got := fun j hj => by
    rcases qen j hj with rfl | rfl
    · exact qn.2
    · rw [qo]; exact ⟨rfl, rfl⟩
  have qm : ∀ p ∈ q.fl, p ∈ k.fl ∨ p = ⟨n, ⟨k.ep, x, (k.en n).come, B⟩⟩ := fun p hp => by
    rw [qf] at hp
    rcases List.mem_append.1 hp with hp | hp
    · exact .inl hp
    · exact .inr (List.mem_singleton.1 hp)
  have a1 : ∀ y ∈ q.alive (1 - n), y ∈ k.alive (1 - n) ∨ y = x := fun y hy => by
    rcases mem_alive.1 hy with ⟨p, hp, ⟨q1, q2, q3⟩, rfl⟩ | ⟨z, hz, rfl⟩
    · rcases qm p hp with hp | rfl
      · exact .inl (mem_alive.2 (.inl ⟨p, hp, ⟨q1, by rw [q2, qe], q3⟩, rfl⟩))
      · exact .inr rfl
    · rw [show 1 - (1 - n) = n by omega, qn.1] at hz
      rcases List.mem_append.1 hz with hz | hz
      · exact .inl (mem_alive.2 (.inr ⟨z, by rw [show 1 - (1 - n) = n by omega]; exact hz, rfl⟩))
      · rw [List.mem_singleton.1 hz]; exact .inr rfl
  have a2 : x ∈ q.alive (1 - n) := mem_alive.2 (.inl ⟨⟨n, ⟨k.ep, x, (k.en n).come, B⟩⟩, by rw [qf]; simp, ⟨by show n = 1 - (1 - n); omega, qe.symm, hB⟩, rfl⟩)
  have a3 : ∀ t, t < 2 → ∀ y ∈ k.alive t, y ∈ q.alive t := fun t ht y hy => by
    rcases mem_alive.1 hy with ⟨p, hp, ⟨q1, q2, q3⟩, rfl⟩ | ⟨z, hz, rfl⟩
    · exact mem_alive.2 (.inl ⟨p, by rw [qf]; exact List.mem_append_left _ hp, ⟨q1, by rw [q2, qe], q3⟩, rfl⟩)
    · refine mem_alive.2 (.inr ⟨z, ?_, rfl⟩)
      rcases qen (1 - t) (by omega) with e | e
      · rw [e] at hz ⊢; rw [qn.1]; exact List.mem_append_left _ hz
      · rw [e] at hz ⊢; rw [qo]; exact hz
  have a4 : ∀ y ∈ q.alive n, y ∈ k.alive n := fun y hy => by
    rcases mem_alive.1 hy with ⟨p, hp, ⟨q1, q2, q3⟩, rfl⟩ | ⟨z, hz, rfl⟩
    · rcases qm p hp with hp | rfl
      · exact mem_alive.2 (.inl ⟨p, hp, ⟨q1, by rw [q2, qe], q3⟩, rfl⟩)
      · have : n = 1 - n := q1
        omega
    · exact mem_alive.2 (.inr ⟨z, by rw [← qo]; exact hz, rfl⟩)
  have hpo : ∃ s0 s1, Pot q 0 s1 ∧ Pot q 1 s0 ∧ q.a.got.length + q.b.got.length + s0 + s1 ≤ m + 1 := by
    have g0 : q.a.got = k.a.got := (qc 0 (by decide)).2
    have g1 : q.b.got = k.b.got := (qc 1 (by decide)).2
    rw [g0, g1]
    obtain rfl | rfl := two' hn
    · exact ⟨s0 + 1, s1, p0.sub a4 (qc 0 (by decide)).2 (qc 0 (by decide)).1, p1.sent a1 a2 (a3 1 (by decide)) (qc 1 (by decide)).2 (qc 1 (by decide)).1, by omega⟩
    · exact ⟨s0, s1 + 1, p0.sent a1 a2 (a3 0 (by decide)) (qc 0 (by decide)).2 (qc 0 (by decide)).1, p1.sub a4 (qc 1 (by decide)).2 (qc 1 (by decide)).1, by omega⟩
  refine ⟨by rw [qf]; simp; omega, fun p hp => ?_, fun p hp => ?_, fun p hp => ?_, fun j hj => ?_, fun j hj y hy => ?_, fun j hj => by rw [(qc j hj).1]; exact h.cm j hj, hpo⟩
  · rcases qm p hp with hp | rfl
    · exact h.f2 p hp
    · exact hn
  · rw [qe]
    rcases qm p hp with hp | rfl
    · exact h.fe p hp
    · exact Nat.le_refl _
  · rcases qm p hp with hp | rfl
    · exact h.fs p hp
    · exact hx4
  · rcases qen j hj with rfl | rfl
    · rw [qn.1]; simp; omega
    · rw [qo]; exact h.op _ hj
  · rcases qen j hj with rfl | rfl
    · rw [qn.1] at hy
      rcases List.mem_append.1 hy with hy | hy
      · exact h.os _ hj y hy
      · rw [List.mem_singleton.1 hy]; exact hx4
    · rw [qo] at hy; exact h.os _ hj y hy
theorem Gd.sends (h : Gd k m) (n : Int) (B : List UInt8) : Gd (k.sends n B) (m + 1) := by
  unfold Lk.sends
  split
  · rename_i e
    unfold Lk.sendE at e
    split at e
    · cases e
    · rename_i h1
      obtain ⟨j, rfl⟩ := Int.eq_ofNat_of_zero_le (show 0 ≤ n by omega)
      split at e
      · rename_i h2
        rw [Int.toNat_natCast] at h2 ⊢
        exact h.send j (by omega) B (fun e => by rw [e] at h1; simp at h1) h2.1 h2.2
      · cases e
  · exact h.mono (by omega)
theorem Gd.dels (h : Gd k m) (i : Nat) : Gd (k.dels i) (m + 1) := by
  unfold Lk.dels
  split
  case h_2 => exact h.mono (by omega)
  case h_1 p hp =>
  have hpm := List.mem_of_getElem? hp
  have hp2 := h.f2 p hpm
  have h1 := h.less i
  obtain ⟨q, hq⟩ : ∃ q, q = k.less i := ⟨_, rfl⟩
  have qep : q.ep = k.ep := by rw [hq]; rfl
  have qen : ∀ j, q.en j = k.en j := fun j => by rw [hq]; rfl
  have qfl : ∀ p ∈ q.fl, p ∈ k.fl := fun p hp => by
    rw [hq] at hp
    rcases List.mem_append.1 (show p ∈ k.fl.take i ++ k.fl.drop (i + 1) from hp) with hp | hp
    · exact List.mem_of_mem_take hp
    · exact List.mem_of_mem_drop hp
  rw [← hq] at h1 ⊢
  clear hq
  unfold Lk.comes
  split
  case isFalse => exact h1.mono (by omega)
  case isTrue hpe =>
  obtain ⟨t, ht⟩ : ∃ t, t = 1 - p.f := ⟨_, rfl⟩
  rw [← ht]
  have ht2 : t < 2 := by omega
  have h2 : Gd (q.ackd t p.m.k) m := by
    refine h1.sub (by unfold Lk.ackd; rw [with_fl]; exact h1.fl) (fun x hx => by unfold Lk.ackd at hx; rwa [with_fl] at hx) (by obtain rfl | rfl := two' ht2 <;> rfl) (fun n hn => ?_) (fun n hn => ?_)
    · unfold Lk.ackd
      rw [en_with q t n _ ht2 hn]
      split
      · rename_i e
        subst e
        exact ⟨Nat.le_trans (List.length_filter_le _ _) (h1.op _ hn), fun x hx => (List.mem_filter.1 hx).1⟩
      · exact ⟨h1.op n hn, fun x hx => hx⟩
    · unfold Lk.ackd
      rw [en_with q t n _ ht2 hn]
      split
      · rename_i e
        subst e
        exact ⟨rfl, rfl⟩
      · exact ⟨rfl, rfl⟩
  obtain ⟨r, hr⟩ : ∃ r, r = q.ackd t p.m.k := ⟨_, rfl⟩
  have rep : r.ep = k.ep := by rw [hr, ← qep]; obtain rfl | rfl := two' ht2 <;> rfl
  have rfl' : r.fl = q.fl := by rw [hr]; unfold Lk.ackd; rw [with_fl]
  have ren : ∀ j, j < 2 → (∀ x ∈ (r.en j).op, x ∈ (k.en j).op) ∧ (r.en j).come = (k.en j).come ∧ (r.en j).got = (k.en j).got := fun j hj => by
    rw [hr]
    unfold Lk.ackd
    rw [en_with q t j _ ht2 hj]
    split
    · rename_i e
      subst e
      exact ⟨fun x hx => by rw [← qen]; exact (List.mem_filter.1 hx).1, by rw [qen], by rw [qen]⟩
    · rw [qen]; exact ⟨fun x hx => hx, rfl, rfl⟩
  rw [← hr] at h2 ⊢
  clear hr
  split
  case isTrue => exact h2.mono (by omega)
  case isFalse hB =>
  have h3 : Gd (r.handed t p.m) (m + 1) := by
    unfold Lk.handed
    split
    case isFalse => exact h2.mono (by omega)
    case isTrue hs =>
    obtain ⟨u, hu⟩ : ∃ u, u = (r.come1 t).addGot t p.m.B := ⟨_, rfl⟩
    have uep : u.ep = k.ep := by rw [hu, ← rep]; obtain rfl | rfl := two' ht2 <;> rfl
    have ufl : u.fl = q.fl := by rw [hu, ← rfl']; obtain rfl | rfl := two' ht2 <;> rfl
    have ut : (u.en t).op = (r.en t).op ∧ (u.en t).come = ((r.en t).come + 1) % 4294967296 ∧ (u.en t).got = (r.en t).got ++ [p.m.B] := by rw [hu]; obtain rfl | rfl := two' ht2 <;> exact ⟨rfl, rfl, rfl⟩
    have uo : u.en (1 - t) = r.en (1 - t) := by rw [hu]; obtain rfl | rfl := two' ht2 <;> rfl
    rw [← hu]
    clear hu
    have hrt := ren t ht2
    have hro := ren (1 - t) (by omega)
    have ux : ∀ j, j < 2 → j = t ∨ j = 1 - t := fun j hj => by omega
    have uop : ∀ j, j < 2 → ∀ x ∈ (u.en j).op, x ∈ (k.en j).op := fun j hj x hx => by
      rcases ux j hj with rfl | rfl
      · rw [ut.1] at hx; exact hrt.1 x hx
      · rw [uo] at hx; exact hro.1 x hx
    have ha : ∀ j, j < 2 → ∀ s ∈ u.alive j, s ∈ k.alive j := fun j hj s hs => by
      rcases mem_alive.1 hs with ⟨p, hp, ⟨q1, q2, q3⟩, rfl⟩ | ⟨x, hx, rfl⟩
      · exact mem_alive.2 (.inl ⟨p, qfl p (by rw [← ufl]; exact hp), ⟨q1, by rw [q2, uep], q3⟩, rfl⟩)
      · exact mem_alive.2 (.inr ⟨x, uop (1 - j) (by omega) x hx, rfl⟩)
    obtain ⟨s0, s1, p0, p1, hsum⟩ := h.po
    have hx : ((k.en t).come + 1) % 4294967296 ∈ k.alive t := mem_alive.2 (.inl ⟨p, hpm, ⟨by omega, by rw [hpe, qep], hB⟩, by rw [hs, hrt.2.1]⟩)
    have hg : (u.en t).got.length = (k.en t).got.length + 1 := by rw [ut.2.2, hrt.2.2]; simp
    have hc : (u.en t).come = ((k.en t).come + 1) % 4294967296 := by rw [ut.2.1, hrt.2.1]
    have hgo : (u.en (1 - t)).got = (k.en (1 - t)).got := by rw [uo]; exact hro.2.2
    have hco : (u.en (1 - t)).come = (k.en (1 - t)).come := by rw [uo]; exact hro.2.1
    have hpo : ∃ s0 s1, Pot u 0 s1 ∧ Pot u 1 s0 ∧ u.a.got.length + u.b.got.length + s0 + s1 ≤ m + 1 := by
      obtain rfl | rfl := two' ht2
      · have g0 : u.a.got.length = k.a.got.length + 1 := hg
        have g1 : u.b.got = k.b.got := hgo
        exact ⟨s0, s1, p0.came h.fl (h.op _ (by decide)) (h.alive_lt 0 ht2) (h.cm 0 ht2) hx (ha 0 ht2) hg hc, p1.sub (ha 1 (by decide)) hgo hco, by rw [g0, g1]; omega⟩
      · have g0 : u.b.got.length = k.b.got.length + 1 := hg
        have g1 : u.a.got = k.a.got := hgo
        exact ⟨s0, s1, p0.sub (ha 0 (by decide)) hgo hco, p1.came h.fl (h.op _ (by decide)) (h.alive_lt 1 ht2) (h.cm 1 ht2) hx (ha 1 ht2) hg hc, by rw [g0, g1]; omega⟩
    refine ⟨by rw [ufl]; exact h1.fl, fun p hp => h1.f2 p (by rw [← ufl]; exact hp), fun p hp => by rw [uep, ← qep]; exact h1.fe p (by rw [← ufl]; exact hp), fun p hp => h1.fs p (by rw [← ufl]; exact hp), fun j hj => ?_, fun j hj x hx => h.os j hj x (uop j hj x hx), fun j hj => ?_, hpo⟩
    · rcases ux j hj with rfl | rfl
      · rw [ut.1]; exact h2.op _ hj
      · rw [uo]; exact h2.op _ hj
    · rcases ux j hj with rfl | rfl
      · rw [ut.2.1]; omega
      · rw [uo]; exact h2.cm _ hj
  unfold Lk.answer
  split
  · exact h3.put t 0 [] ht2 (by assumption) (by decide) (fun h9 => absurd rfl h9)
  · exact h3
theorem gd_k0 : Gd k0 0 := by
  have ha : ∀ t, t < 2 → ∀ x, x ∉ k0.alive t := fun t ht x hx => by
    rcases mem_alive.1 hx with ⟨p, hp, _⟩ | ⟨y, hy, _⟩
    · simp [k0] at hp
    · obtain rfl | rfl := two' ht
      · simp [k0, Lk.en] at hy
      · simp [k0, Lk.en] at hy
  refine ⟨by simp [k0], by simp [k0], by simp [k0], by simp [k0], fun n hn => ?_, fun n hn x hx => ?_, fun n hn => ?_, 0, 0, ⟨[], List.nodup_nil, fun x hx => absurd hx (ha 0 (by decide) x), by simp, ?_⟩, ⟨[], List.nodup_nil, fun x hx => absurd hx (ha 1 (by decide) x), by simp, ?_⟩, ?_⟩
  · obtain rfl | rfl := two' hn
    · exact Nat.zero_le _
    · exact Nat.zero_le _
  · obtain rfl | rfl := two' hn
    · simp [k0, Lk.en] at hx
    · simp [k0, Lk.en] at hx
  · obtain rfl | rfl := two' hn
    · show 0 < 4294967296; decide
    · show 0 < 4294967296; decide
  · exact Nat.le_refl _
  · exact Nat.le_refl _
  · exact Nat.le_refl _
end
end Go.Proofs.Ytfjaoompdleljaa.Link
/-
  The walk of the statement on every step of a script. Helper text; no statement is proved here.
-/
set_option linter.unusedVariables false
set_option maxRecDepth 20000
set_option linter.unusedSimpArgs false
namespace Go.Proofs.Ytfjaoompdleljaa.Link
open Go.RowKit Go.Proofs.Ytfjaoompdleljaa.Base Go.Proofs.Ytfjaoompdleljaa.Laws Go.Proofs.Ytfjaoompdleljaa.Disk Go.Proofs.Ytfjaoompdleljaa.Row Go.Proofs.Ytfjaoompdleljaa.Flat Go.Proofs.Ytfjaoompdleljaa.InvM Go.Proofs.Ytfjaoompdleljaa.Inv Go.Proofs.Ytfjaoompdleljaa.InvL Go.Proofs.Ytfjaoompdleljaa.InvC Go.Proofs.Ytfjaoompdleljaa.InvG
section
variable {w0 w w' : World} {bl rx : Nat} {A A' T : List Nat} {R R' F : Nat → Prop} {k k' r r' : Lk}
theorem Pl.growA (h : Pl w0 bl rx A R F k r w) (hb : Below w.heap.size w w') (hA' : ∀ x ∈ A', x ∈ A ∨ (w.heap.size ≤ x ∧ x < w'.heap.size)) : Pl w0 bl rx A' (fun x => R x ∨ (w.heap.size ≤ x ∧ x < w'.heap.size)) F k r w' := by
  obtain ⟨V, hz, hr⟩ := h.ex
  have hR : ∀ x, R x → x < w.heap.size := fun x hx => h.lf.lt hx
  have hA := h.lf.choose_spec.2.2.1
  refine ⟨h.lf.news hb (fun x hx => ?_) (fun x hx => ?_), fun x hx => .inl (h.fr x hx), .inl h.rr, h.nf, V, hz.below hb hz.lt, hr.held fun x hx => hb.block x (hR x (h.fr x hx))⟩
  · rcases hx with hx | hx
    · exact ⟨.inl hx, Nat.lt_of_lt_of_le (hR x hx) hb.size⟩
    · exact ⟨.inr hx.1, hx.2⟩
  · rcases hA' x hx with hx | hx
    · exact ⟨.inl hx, .inl (hA x hx).1⟩
    · exact ⟨.inr hx.1, .inr hx⟩
theorem Pl.wrote (h : Pl w0 bl rx A R F k r w) (ho : Only T w w') (hT : ∀ x ∈ T, x ∈ A) (hrx : rx ∉ T) (hF : ∀ x ∈ T, ¬ F x) : Pl w0 bl rx A R F k r w' := by
  obtain ⟨V, hz, hr⟩ := h.ex
  have hR : ∀ x, R x → x < w.heap.size := fun x hx => h.lf.lt hx
  exact ⟨h.lf.wrote ho hT, h.fr, h.rr, h.nf, V, (ho.block rx hz.lt hrx).trans hz, hr.held fun x hx => ho.block x (hR x (h.fr x hx)) fun h9 => hF x h9 hx⟩
end
theorem vnil : ∀ i : Nat, (fun _ : Nat => Value.slice none 0 0) i = .slice none 0 0 := fun _ => rfl
theorem rk_k0 (N : Nat → Prop) (w : World) (hN : ∀ x, N x → x < w.heap.size) : Rk N w (fun _ => .slice none 0 0) k0 := by
  refine ⟨fun n hn => ?_, fun n hn => ?_, Rd.nil, hN⟩
  · obtain rfl | rfl : n = 0 ∨ n = 1 := by omega
    · exact Rd.nil
    · exact Rd.nil
  · obtain rfl | rfl : n = 0 ∨ n = 1 := by omega
    · exact Rd.nil
    · exact Rd.nil
set_option maxHeartbeats 16000000 in
theorem plays_walk (a : Option Addr) (n cap : Nat) (os : List So) (w : World) (h : Scr w a n cap os) :
    Calls Try.prog 7 #[.slice a n cap] w fun e w' => e = .returned (.bool true) ∧ Below w.heap.size w w' := by
  obtain ⟨h1, h2, h3, h4, h5, h6⟩ := h
  unfold maxLen at h3
  have HN7 := Lib.hid h4
  have HSC := Lib.hid h6
  have HN := Lib.hid h1
  have HR := Lib.hid h5
  clear h6 h1 h5
  go_enter Try.func7, Try.ntmps7
  go_upto_region 4 with (first | (go_at_call 9; refine (awake_any w).mono ?_; rintro e w1 ⟨rfl, hb1⟩; have NW := Lib.hid (lf_new hb1); clear hb1) | (go_at_call 10; refine NW.out.mono ?_; rintro e w2 ⟨rfl, hl⟩; have L2 := Lib.hid hl; clear hl NW))
  have Z4 := Lib.hid (blk_at (w := w2) (g := w2.heap.size) (cs := zlk) (t := 52) (arr := #[.int .u32 0, .slice none 0 0, .int .u32 0, .int .u32 0, .slice none 0 0, .slice none 0 0, .int .u32 0, .int .u32 0, .slice none 0 0, .slice none 0 0]) rfl rfl)
  go_upto_region 5 with (first | (refine wpList_store_blk rfl 52 _ _ rfl w2.heap.size 0 10 rfl 52 zlk zlk rfl Z4.out (by kernel_rfl) rfl (by decide) (by decide) ?_; intro w3 z3 g3; have Z3 := Lib.hid z3; have G3 := Lib.hid g3; clear z3 g3))
  have b3 := below_grown ((Below.refl w2.heap.size w2).alloc (Nat.le_refl _) _) G3.out (by simp) (Nat.le_refl _)
  obtain ⟨rx, hrx⟩ : ∃ rx, rx = w2.heap.size := ⟨_, rfl⟩
  obtain ⟨bl, hbl⟩ : ∃ bl, bl = w1.heap.size := ⟨_, rfl⟩
  rw [← hbl] at L2
  have z3 : Blk w3 rx zlk 52 := by have := Z3.out; rw [← hrx] at this; exact this
  have PL0 := Lib.hid (show Pl w bl rx [rx] (fun x => x = rx) (fun _ => False) k0 k0 w3 from by
    have hs := L2.out.below.size
    refine ⟨L2.out.news b3 (fun x hx => ?_) (fun x hx => ?_), fun x hx => hx.elim, rfl, id, fun _ => .slice none 0 0, z3, rk_k0 _ _ fun x hx => hx.1⟩
    · rw [hx]; exact ⟨.inr (by omega), z3.lt⟩
    · have e := List.mem_singleton.1 hx
      rw [e]; exact ⟨.inr (by omega), rfl⟩)
  rw [← hrx, ← hbl]
  clear Z3 G3 Z4 b3 hrx hbl z3 L2
  simp only [Act.put]
  go_wp2_with fail
  go_loopw [5] (fun i wr => ∃ kk : Nat, ∃ k R F, kk ≤ n ∧ i = .int .i64 kk ∧ Pl w bl rx [rx] R F k k wr ∧ Gd k kk) (fun i _ => n - (intOf i).toNat)
  case atStart => exact ⟨0, k0, _, _, by omega, rfl, PL0.out, gd_k0⟩
  case round =>
    obtain ⟨kk, k, R, F, hk, rfl, hpl, hgd⟩ := hrel
    have PL := Lib.hid hpl
    have GD := Lib.hid hgd
    have GG := Lib.hid (hgd.got (by have := HN7.out; omega))
    clear hpl hgd PL0
    by_cases hkn : kk < n
    · obtain ⟨o, ho⟩ : ∃ o, os[kk]? = some o := ⟨_, List.getElem?_eq_getElem (by have := HN.out; omega)⟩
      obtain ⟨g, off, rfl, hc⟩ := HSC.out.resolve_left (by omega)
      obtain ⟨a', l', c', hcell, hbt, hl'⟩ := hc kk o ho
      have hrg := HR.out o (List.mem_of_getElem? ho)
      have hBel := PL.out.below
      have hg : g < w.heap.size := block_lt_of_cell (hcell 0 _ rfl)
      obtain ⟨ov, hov⟩ : ∃ ov, ov = oc (o, .slice a' l' c') := ⟨_, rfl⟩
      have HOV := Lib.hid hov
      have LD := Lib.hid (show ∀ j v, ov[j]? = some v → wr.cell? ((⟨g, off + kk * 3, none⟩ : Addr).add j) = some v from fun j v hj => by
        rw [Addr.add_lit]
        exact (Below.cell hBel (p := ⟨g, off + kk * 3 + j, none⟩) hg).trans (hcell j v (by rw [← hov]; exact hj)))
      have O3 := Lib.hid (show ov.length = 3 by rw [hov]; rfl)
      have O1 := Lib.hid (show ∀ u ∈ ov, u.oneCell' = true by
        rw [hov]; intro u hu
        simp only [oc, List.mem_cons, List.not_mem_nil, or_false] at hu
        rcases hu with rfl | rfl | rfl <;> rfl)
      have Z2 := Lib.hid (blk_at (w := wr) (g := wr.heap.size) (cs := [.int .i64 0, .int .i64 0, .slice none 0 0]) (t := 44) (arr := #[.int .i64 0, .int .i64 0, .slice none 0 0]) rfl rfl)
      have HBT := Lib.hid hbt
      have HLB := Lib.hid hl'
      clear ho hc hcell hBel hg hov hbt hl'
      go_upto_region 11 with (first | (refine wpList_value_g rfl (.agg ov.toArray) (exec_load_from rfl rfl LD.out Try.underlying44 rfl (by kernel_rfl) O3.out) ?_) | (refine wpList_store_blk rfl 44 _ _ rfl wr.heap.size 0 3 rfl 44 [.int .i64 0, .int .i64 0, .slice none 0 0] ov rfl Z2.out (by kernel_rfl) O3.out (by decide) O1.out ?_; intro w4 z3 g3; have Z3 := Lib.hid z3; have G3 := Lib.hid g3; clear z3 g3))
      have B3 := Lib.hid (below_grown ((Below.refl wr.heap.size wr).alloc (Nat.le_refl _) _) G3.out (by simp) (Nat.le_refl _))
      obtain ⟨pb, hpb⟩ : ∃ pb, pb = wr.heap.size := ⟨_, rfl⟩
      have P6 := Lib.hid (show Blk w4 pb (oc (o, .slice a' l' c')) 44 from by have := Z3.out; rw [put_all _ _ (by rw [O3.out]; rfl), ← hpb, HOV.out] at this; exact this)
      obtain ⟨R1, hR1⟩ : ∃ R1 : Nat → Prop, R1 = fun x => R x ∨ (wr.heap.size ≤ x ∧ x < w4.heap.size) := ⟨_, rfl⟩
      have PK := Lib.hid (show Pl w bl rx [rx] R1 F k k w4 from by rw [hR1]; exact PL.out.grow B3.out)
      have RPB := Lib.hid (show R1 pb from by rw [hR1]; exact .inr ⟨by omega, P6.out.lt⟩)
      have NPB := Lib.hid (show pb ≠ rx ∧ ¬ F pb from by
        have h1 := PL.out.lf.lt PL.out.rr
        refine ⟨by omega, fun hF => ?_⟩
        have := PL.out.lf.lt (PL.out.fr _ hF)
        omega)
      have q0 : w4.cell? ⟨pb, 0, none⟩ = some (.int .i64 o.k) := P6.out.cell 0
      have q1 : w4.cell? ⟨pb, 1, none⟩ = some (.int .i64 o.n) := P6.out.cell 1
      have q2 : w4.cell? ⟨pb, 2, none⟩ = some (.slice a' l' c') := P6.out.cell 2
      rw [← hpb]
      clear Z3 Z2 LD G3 B3 hpb hR1 PL
      go_upto_block 2 with (fail)
      go_cut [7, 8, 9, 10, 30] (fun ve vf va vb v30 wx => ∃ (E D : Int) (k' : Lk) (R' F' : Nat → Prop), ve = .int .i64 E ∧ vf = .int .i64 E ∧ va = .int .i64 D ∧ vb = .int .i64 D ∧ Pl w bl rx [rx] R' F' k' k' wx ∧ Gd k' (kk + 1))
      case first =>
        obtain ⟨okd, hokd⟩ : ∃ x, x = o.k := ⟨_, rfl⟩
        rw [← hokd] at q0 ⊢
        clear hokd
        by_cases k3 : okd = 3
        · subst k3
          obtain ⟨E, hE⟩ : ∃ E, E = (if k.inR o.n then 0 else 2 : Int) := ⟨_, rfl⟩
          obtain ⟨k2, hk2⟩ : ∃ k2, k2 = (if k.inR o.n then k.less o.n.toNat else k) := ⟨_, rfl⟩
          have GD3 := Lib.hid (show Gd k2 (kk + 1) from by rw [hk2]; split; exact (GD.out.less _).mono (by omega); exact GD.out.mono (by omega))
          have SD := Lib.hid (lf_drop PK.out.lf o.n)
          rw [← hE, ← hk2] at SD
          have HE := Lib.hid hE
          have HK2 := Lib.hid hk2
          clear hE hk2
          go_upto_region 30 with (go_at_call 20; refine SD.out.mono ?_; rintro e w5 ⟨rfl, hl5, hs5⟩; have P5 := Lib.hid (PK.out.link hl5 hs5); have B5 := Lib.hid (hs5.blk RPB.out P6.out); clear hl5 hs5 SD)
          clear q0 q1 q2
          have q1 : w5.cell? ⟨pb, 1, none⟩ = some (.int .i64 o.n) := B5.out.cell 1
          obtain ⟨V, zr, rk⟩ := P5.out.ex
          have RD := Lib.hid (rdrop_any rk o.n GD.out.fl)
          unfold Ck rl at RD
          rw [← HE.out, ← HK2.out] at RD
          obtain ⟨lv, hlv⟩ : ∃ l, l = lcells k V := ⟨_, rfl⟩
          rw [← hlv] at RD zr
          have L10 := Lib.hid (show lv.length = 10 by rw [hlv]; rfl)
          have ZR := Lib.hid zr
          clear zr rk hlv
          go_wp2_with (first | (refine wpList_value_g rfl (.agg lv.toArray) (exec_load rfl rfl ZR.out Try.underlying52 rfl (by kernel_rfl) L10.out) ?_) | (go_at_call 25; refine RD.out.mono ?_; rintro e w6 ⟨V6, rfl, r6, b6⟩; obtain ⟨nv, hnv⟩ : ∃ l, l = lcells k2 V6 := ⟨_, rfl⟩; rw [← hnv]; have HNV := Lib.hid hnv; have R6 := Lib.hid r6; have B6 := Lib.hid b6; have N10 := Lib.hid (show nv.length = 10 by rw [hnv]; rfl); have N11 := Lib.hid (show ∀ u ∈ nv, u.oneCell' = true by rw [hnv]; exact lc_one _ _ r6.one); have Z6 := Lib.hid (ZR.out.below b6 ZR.out.lt); clear r6 b6 hnv) | (refine wpList_store_blk rfl 52 _ _ rfl rx 0 10 rfl 52 lv nv rfl Z6.out (by kernel_rfl) N10.out (by rw [L10.out]; decide) N11.out ?_; intro w7 z7 g7; rw [put_all lv nv (by rw [N10.out, L10.out])] at z7; have Z7 := Lib.hid z7; have G7 := Lib.hid g7; clear z7 g7))
          go_meet
          case rel => exact ⟨E, 0, k2, _, _, rfl, rfl, rfl, rfl, P5.out.ref (List.mem_singleton.2 rfl) B6.out R6.out G7.out (by rw [← HNV.out]; exact Z7.out), GD3.out⟩
        · by_cases k2 : okd = 2
          · subst k2
            obtain ⟨E, hE⟩ : ∃ E, E = (if k.inR o.n then 0 else 2 : Int) := ⟨_, rfl⟩
            obtain ⟨k2, hk2⟩ : ∃ k2, k2 = (if k.inR o.n then k.dels o.n.toNat else k) := ⟨_, rfl⟩
            have GD3 := Lib.hid (show Gd k2 (kk + 1) from by rw [hk2]; split; exact GD.out.dels _; exact GD.out.mono (by omega))
            have SD := Lib.hid (lf_deliverI PK.out.lf o.n GD.out.f2 GG.out)
            rw [← hE, ← hk2] at SD
            have HE := Lib.hid hE
            have HK2 := Lib.hid hk2
            clear hE hk2
            go_upto_region 22 with (go_at_call 15; refine SD.out.mono ?_; rintro e w5 ⟨rfl, hl5, hs5⟩; have P5 := Lib.hid (PK.out.link hl5 hs5); have B5 := Lib.hid (hs5.blk RPB.out P6.out); clear hl5 hs5 SD)
            clear q0 q1 q2
            have q1 : w5.cell? ⟨pb, 1, none⟩ = some (.int .i64 o.n) := B5.out.cell 1
            obtain ⟨V, zr, rk⟩ := P5.out.ex
            have RD := Lib.hid (rdeliver_any rk o.n GD.out.fl GD.out.f2 GD.out.op GG.out)
            unfold Ck rl at RD
            rw [← HE.out, ← HK2.out] at RD
            obtain ⟨lv, hlv⟩ : ∃ l, l = lcells k V := ⟨_, rfl⟩
            rw [← hlv] at RD zr
            have L10 := Lib.hid (show lv.length = 10 by rw [hlv]; rfl)
            have ZR := Lib.hid zr
            clear zr rk hlv
            go_wp2_with (first | (refine wpList_value_g rfl (.agg lv.toArray) (exec_load rfl rfl ZR.out Try.underlying52 rfl (by kernel_rfl) L10.out) ?_) | (go_at_call 24; refine RD.out.mono ?_; rintro e w6 ⟨V6, rfl, r6, b6⟩; obtain ⟨nv, hnv⟩ : ∃ l, l = lcells k2 V6 := ⟨_, rfl⟩; rw [← hnv]; have HNV := Lib.hid hnv; have R6 := Lib.hid r6; have B6 := Lib.hid b6; have N10 := Lib.hid (show nv.length = 10 by rw [hnv]; rfl); have N11 := Lib.hid (show ∀ u ∈ nv, u.oneCell' = true by rw [hnv]; exact lc_one _ _ r6.one); have Z6 := Lib.hid (ZR.out.below b6 ZR.out.lt); clear r6 b6 hnv) | (refine wpList_store_blk rfl 52 _ _ rfl rx 0 10 rfl 52 lv nv rfl Z6.out (by kernel_rfl) N10.out (by rw [L10.out]; decide) N11.out ?_; intro w7 z7 g7; rw [put_all lv nv (by rw [N10.out, L10.out])] at z7; have Z7 := Lib.hid z7; have G7 := Lib.hid g7; clear z7 g7))
            go_meet
            case rel => exact ⟨E, 0, k2, _, _, rfl, rfl, rfl, rfl, P5.out.ref (List.mem_singleton.2 rfl) B6.out R6.out G7.out (by rw [← HNV.out]; exact Z7.out), GD3.out⟩
          · by_cases k4 : okd = 4
            · subst k4
              obtain ⟨E, hE⟩ : ∃ E, E = (if k.inR o.n then if k.fl.length < 1024 then 0 else 9 else 2 : Int) := ⟨_, rfl⟩
              obtain ⟨k2, hk2⟩ : ∃ k2, k2 = (if k.inR o.n ∧ k.fl.length < 1024 then k.twin o.n.toNat else k) := ⟨_, rfl⟩
              have GD3 := Lib.hid (show Gd k2 (kk + 1) from by rw [hk2]; split; (rename_i h9; exact (GD.out.twin _ h9.2).mono (by omega)); exact GD.out.mono (by omega))
              have SD := Lib.hid (lf_twin PK.out.lf o.n)
              rw [← hE, ← hk2] at SD
              have HE := Lib.hid hE
              have HK2 := Lib.hid hk2
              clear hE hk2
              go_upto_region 33 with (go_at_call 22; refine SD.out.mono ?_; rintro e w5 ⟨rfl, hl5, hs5⟩; have P5 := Lib.hid (PK.out.link hl5 hs5); have B5 := Lib.hid (hs5.blk RPB.out P6.out); clear hl5 hs5 SD)
              clear q0 q1 q2
              have q1 : w5.cell? ⟨pb, 1, none⟩ = some (.int .i64 o.n) := B5.out.cell 1
              obtain ⟨V, zr, rk⟩ := P5.out.ex
              have RD := Lib.hid (rtwin_any rk o.n GD.out.fl)
              unfold Ck rl at RD
              rw [← HE.out, ← HK2.out] at RD
              obtain ⟨lv, hlv⟩ : ∃ l, l = lcells k V := ⟨_, rfl⟩
              rw [← hlv] at RD zr
              have L10 := Lib.hid (show lv.length = 10 by rw [hlv]; rfl)
              have ZR := Lib.hid zr
              clear zr rk hlv
              go_wp2_with (first | (refine wpList_value_g rfl (.agg lv.toArray) (exec_load rfl rfl ZR.out Try.underlying52 rfl (by kernel_rfl) L10.out) ?_) | (go_at_call 26; refine RD.out.mono ?_; rintro e w6 ⟨V6, rfl, r6, b6⟩; obtain ⟨nv, hnv⟩ : ∃ l, l = lcells k2 V6 := ⟨_, rfl⟩; rw [← hnv]; have HNV := Lib.hid hnv; have R6 := Lib.hid r6; have B6 := Lib.hid b6; have N10 := Lib.hid (show nv.length = 10 by rw [hnv]; rfl); have N11 := Lib.hid (show ∀ u ∈ nv, u.oneCell' = true by rw [hnv]; exact lc_one _ _ r6.one); have Z6 := Lib.hid (ZR.out.below b6 ZR.out.lt); clear r6 b6 hnv) | (refine wpList_store_blk rfl 52 _ _ rfl rx 0 10 rfl 52 lv nv rfl Z6.out (by kernel_rfl) N10.out (by rw [L10.out]; decide) N11.out ?_; intro w7 z7 g7; rw [put_all lv nv (by rw [N10.out, L10.out])] at z7; have Z7 := Lib.hid z7; have G7 := Lib.hid g7; clear z7 g7))
              go_meet
              case rel => exact ⟨E, 0, k2, _, _, rfl, rfl, rfl, rfl, P5.out.ref (List.mem_singleton.2 rfl) B6.out R6.out G7.out (by rw [← HNV.out]; exact Z7.out), GD3.out⟩
            · by_cases k6 : okd = 6
              · subst k6
                obtain ⟨en, hen⟩ : ∃ en, en = (o.n % 4294967296).toNat := ⟨_, rfl⟩
                have wn : IntKind.u32.wrap o.n = (en : Int) := by rw [hen, IntKind.wrap_u32]; omega
                have HEN := Lib.hid hen
                clear hen
                obtain ⟨E, hE⟩ : ∃ E, E = (if en ≤ k.ep then 2 else 0 : Int) := ⟨_, rfl⟩
                obtain ⟨k2, hk2⟩ : ∃ k2, k2 = (if en ≤ k.ep then k else k.renew en) := ⟨_, rfl⟩
                have GD3 := Lib.hid (show Gd k2 (kk + 1) from by rw [hk2]; split; exact GD.out.mono (by omega); (rename_i h9; exact (GD.out.renew _ (by omega)).mono (by omega)))
                have SD := Lib.hid (lf_renew PK.out.lf en)
                rw [← hE, ← hk2] at SD
                have HE := Lib.hid hE
                have HK2 := Lib.hid hk2
                clear hE hk2
                go_upto_region 39 with (go_at_call 13; refine SD.out.mono ?_; rintro e w5 ⟨rfl, hl5, hs5⟩; have P5 := Lib.hid (PK.out.link hl5 hs5); have B5 := Lib.hid (hs5.blk RPB.out P6.out); clear hl5 hs5 SD)
                clear q0 q1 q2
                have q1 : w5.cell? ⟨pb, 1, none⟩ = some (.int .i64 o.n) := B5.out.cell 1
                obtain ⟨V, zr, rk⟩ := P5.out.ex
                have RD := Lib.hid (rrenew_any rk en GD.out.fl)
                unfold Ck rl at RD
                rw [← HE.out, ← HK2.out] at RD
                obtain ⟨lv, hlv⟩ : ∃ l, l = lcells k V := ⟨_, rfl⟩
                rw [← hlv] at RD zr
                have L10 := Lib.hid (show lv.length = 10 by rw [hlv]; rfl)
                have ZR := Lib.hid zr
                clear zr rk hlv
                go_wp2_with (first | (refine wpList_value_g rfl (.agg lv.toArray) (exec_load rfl rfl ZR.out Try.underlying52 rfl (by kernel_rfl) L10.out) ?_) | (go_at_call 28; refine RD.out.mono ?_; rintro e w6 ⟨V6, rfl, r6, b6⟩; obtain ⟨nv, hnv⟩ : ∃ l, l = lcells k2 V6 := ⟨_, rfl⟩; rw [← hnv]; have HNV := Lib.hid hnv; have R6 := Lib.hid r6; have B6 := Lib.hid b6; have N10 := Lib.hid (show nv.length = 10 by rw [hnv]; rfl); have N11 := Lib.hid (show ∀ u ∈ nv, u.oneCell' = true by rw [hnv]; exact lc_one _ _ r6.one); have Z6 := Lib.hid (ZR.out.below b6 ZR.out.lt); clear r6 b6 hnv) | (refine wpList_store_blk rfl 52 _ _ rfl rx 0 10 rfl 52 lv nv rfl Z6.out (by kernel_rfl) N10.out (by rw [L10.out]; decide) N11.out ?_; intro w7 z7 g7; rw [put_all lv nv (by rw [N10.out, L10.out])] at z7; have Z7 := Lib.hid z7; have G7 := Lib.hid g7; clear z7 g7))
                go_meet
                case rel => exact ⟨E, 0, k2, _, _, rfl, rfl, rfl, rfl, P5.out.ref (List.mem_singleton.2 rfl) B6.out R6.out G7.out (by rw [← HNV.out]; exact Z7.out), GD3.out⟩
              · by_cases k7 : okd = 7
                · subst k7
                  obtain ⟨Vc, zc, rc⟩ := PK.out.ex
                  obtain ⟨fa, fc, hvf, _, _⟩ := rc.fl.form
                  obtain ⟨fn, hfn⟩ : ∃ fn, fn = k.fl.length := ⟨_, rfl⟩
                  have c9 : w4.cell? ⟨rx, 9, none⟩ = some (.slice fa fn fc) := by rw [hfn, ← hvf]; exact zc.cell 9
                  have fn1024 : fn ≤ 1024 := by rw [hfn]; exact GD.out.fl
                  clear zc rc hvf hfn
                  by_cases hf0 : fn = 0
                  · subst hf0
                    go_wp2_with fail
                    go_meet
                    case rel => exact ⟨0, 0, k, R1, F, rfl, rfl, rfl, rfl, PK.out, GD.out.mono (by omega)⟩
                  · have hf1 : (0 : Int) < (fn : Int) := by omega
                    have RS := Lib.hid (rest_any o.n (fn : Int) hrg.2.1 hrg.2.2 hf1 (by omega) w4)
                    obtain ⟨ri, hri⟩ : ∃ ri, ri = restI o.n (fn : Int) := ⟨_, rfl⟩
                    rw [← hri] at RS
                    clear hri
                    go_upto_region 26 with (go_at_call 21; refine RS.out.mono ?_; intro e w' hh; have he := hh.1; have hw := hh.2; subst he; subst w'; clear hh)
                    clear c9 q0 q1 q2
                    obtain ⟨E, hE⟩ : ∃ E, E = (if k.inR ri then 0 else 2 : Int) := ⟨_, rfl⟩
                    obtain ⟨k2, hk2⟩ : ∃ k2, k2 = (if k.inR ri then k.dels ri.toNat else k) := ⟨_, rfl⟩
                    have GD3 := Lib.hid (show Gd k2 (kk + 1) from by rw [hk2]; split; exact GD.out.dels _; exact GD.out.mono (by omega))
                    have SD := Lib.hid (lf_deliverI PK.out.lf ri GD.out.f2 GG.out)
                    rw [← hE, ← hk2] at SD
                    have HE := Lib.hid hE
                    have HK2 := Lib.hid hk2
                    clear hE hk2
                    go_upto_region 27 with (go_at_call 15; refine SD.out.mono ?_; rintro e w5 ⟨rfl, hl5, hs5⟩; have P5 := Lib.hid (PK.out.link hl5 hs5); have B5 := Lib.hid (hs5.blk RPB.out P6.out); clear hl5 hs5 SD)
                    obtain ⟨V, zr, rk⟩ := P5.out.ex
                    have RD := Lib.hid (rdeliver_any rk ri GD.out.fl GD.out.f2 GD.out.op GG.out)
                    unfold Ck rl at RD
                    rw [← HE.out, ← HK2.out] at RD
                    obtain ⟨lv, hlv⟩ : ∃ l, l = lcells k V := ⟨_, rfl⟩
                    rw [← hlv] at RD zr
                    have L10 := Lib.hid (show lv.length = 10 by rw [hlv]; rfl)
                    have ZR := Lib.hid zr
                    clear zr rk hlv
                    go_wp2_with (first | (refine wpList_value_g rfl (.agg lv.toArray) (exec_load rfl rfl ZR.out Try.underlying52 rfl (by kernel_rfl) L10.out) ?_) | (go_at_call 24; refine RD.out.mono ?_; rintro e w6 ⟨V6, rfl, r6, b6⟩; obtain ⟨nv, hnv⟩ : ∃ l, l = lcells k2 V6 := ⟨_, rfl⟩; rw [← hnv]; have HNV := Lib.hid hnv; have R6 := Lib.hid r6; have B6 := Lib.hid b6; have N10 := Lib.hid (show nv.length = 10 by rw [hnv]; rfl); have N11 := Lib.hid (show ∀ u ∈ nv, u.oneCell' = true by rw [hnv]; exact lc_one _ _ r6.one); have Z6 := Lib.hid (ZR.out.below b6 ZR.out.lt); clear r6 b6 hnv) | (refine wpList_store_blk rfl 52 _ _ rfl rx 0 10 rfl 52 lv nv rfl Z6.out (by kernel_rfl) N10.out (by rw [L10.out]; decide) N11.out ?_; intro w7 z7 g7; rw [put_all lv nv (by rw [N10.out, L10.out])] at z7; have Z7 := Lib.hid z7; have G7 := Lib.hid g7; clear z7 g7))
                    go_meet
                    case rel => exact ⟨E, 0, k2, _, _, rfl, rfl, rfl, rfl, P5.out.ref (List.mem_singleton.2 rfl) B6.out R6.out G7.out (by rw [← HNV.out]; exact Z7.out), GD3.out⟩
                · by_cases k5 : okd = 5
                  · subst k5
                    obtain ⟨D, hD⟩ : ∃ D, D = ((k.tick.fl.length - k.fl.length : Nat) : Int) := ⟨_, rfl⟩
                    obtain ⟨k2, hk2⟩ : ∃ k2, k2 = k.tick := ⟨_, rfl⟩
                    have GD3 := Lib.hid (show Gd k2 (kk + 1) from by rw [hk2]; exact GD.out.tick.mono (by omega))
                    have SD := Lib.hid (lf_tick PK.out.lf GD.out.fl GD.out.op)
                    rw [← hD, ← hk2] at SD
                    have HD := Lib.hid hD
                    have HK2 := Lib.hid hk2
                    clear hD hk2
                    go_upto_region 36 with (go_at_call 18; refine SD.out.mono ?_; rintro e w5 ⟨rfl, hl5, hs5⟩; have P5 := Lib.hid (PK.out.link hl5 hs5); clear hl5 hs5 SD)
                    clear q0 q1 q2
                    obtain ⟨V, zr, rk⟩ := P5.out.ex
                    have RD := Lib.hid (rtick_any rk GD.out.fl GD.out.op)
                    unfold rl at RD
                    rw [← HD.out, ← HK2.out] at RD
                    obtain ⟨lv, hlv⟩ : ∃ l, l = lcells k V := ⟨_, rfl⟩
                    rw [← hlv] at RD zr
                    have L10 := Lib.hid (show lv.length = 10 by rw [hlv]; rfl)
                    have ZR := Lib.hid zr
                    clear zr rk hlv
                    go_wp2_with (first | (refine wpList_value_g rfl (.agg lv.toArray) (exec_load rfl rfl ZR.out Try.underlying52 rfl (by kernel_rfl) L10.out) ?_) | (go_at_call 27; refine RD.out.mono ?_; rintro e w6 ⟨V6, rfl, r6, b6⟩; obtain ⟨nv, hnv⟩ : ∃ l, l = lcells k2 V6 := ⟨_, rfl⟩; rw [← hnv]; have HNV := Lib.hid hnv; have R6 := Lib.hid r6; have B6 := Lib.hid b6; have N10 := Lib.hid (show nv.length = 10 by rw [hnv]; rfl); have N11 := Lib.hid (show ∀ u ∈ nv, u.oneCell' = true by rw [hnv]; exact lc_one _ _ r6.one); have Z6 := Lib.hid (ZR.out.below b6 ZR.out.lt); clear r6 b6 hnv) | (refine wpList_store_blk rfl 52 _ _ rfl rx 0 10 rfl 52 lv nv rfl Z6.out (by kernel_rfl) N10.out (by rw [L10.out]; decide) N11.out ?_; intro w7 z7 g7; rw [put_all lv nv (by rw [N10.out, L10.out])] at z7; have Z7 := Lib.hid z7; have G7 := Lib.hid g7; clear z7 g7))
                    go_meet
                    case rel => exact ⟨0, D, k2, _, _, rfl, rfl, rfl, rfl, P5.out.ref (List.mem_singleton.2 rfl) B6.out R6.out G7.out (by rw [← HNV.out]; exact Z7.out), GD3.out⟩
                  · by_cases k1 : okd = 1
                    · subst k1
                      have hbt := HBT.out.below PK.out.below (Nat.le_refl _)
                      obtain ⟨wa, hwa⟩ : ∃ wa, wa = w4.alloc (.cells #[] 5) := ⟨_, rfl⟩
                      have ba : Below w4.heap.size w4 wa := hwa ▸ (Below.refl _ _).alloc (Nat.le_refl _) _
                      have za : Blk wa w4.heap.size [] 5 := by rw [hwa]; exact blk_at rfl rfl
                      obtain ⟨a1, c1, wc, hrc, htc, bc, hown⟩ := copy_u8 za (hbt.below ba (Nat.le_refl _)) HLB.out
                      have bac : Below w4.heap.size w4 wc := ba.trans bc
                      have hsa := bac.size
                      obtain ⟨A2, hrA, hA2, hown2⟩ : ∃ A2 : List Nat, rx ∈ A2 ∧ (∀ x ∈ A2, x ∈ [rx] ∨ (w4.heap.size ≤ x ∧ x < wc.heap.size)) ∧ (l' = 0 ∨ ∃ g1 cs, a1 = some ⟨g1, 0, none⟩ ∧ g1 ∈ A2 ∧ w4.heap.size ≤ g1 ∧ Blk wc g1 cs 5 ∧ l' ≤ cs.length) := by
                        rcases hown with h0 | ⟨g1, cs, e, h1, hz, hl⟩
                        · exact ⟨[rx], List.mem_singleton.2 rfl, fun x hx => .inl hx, .inl h0⟩
                        · refine ⟨[g1, rx], by simp, fun x hx => ?_, .inr ⟨g1, cs, e, by simp, h1, hz, hl⟩⟩
                          rcases List.mem_cons.1 hx with rfl | hx
                          · exact .inr ⟨h1, hz.lt⟩
                          · exact .inl hx
                      have c2w : wa.cell? ⟨pb, 2, none⟩ = some (.slice a' l' c') := (P6.out.below ba P6.out.lt).cell 2
                      have PC := Lib.hid (PK.out.growA bac hA2)
                      have BC := Lib.hid (P6.out.below bac P6.out.lt)
                      obtain ⟨R2, hR2⟩ : ∃ R2 : Nat → Prop, R2 = fun x => R1 x ∨ (w4.heap.size ≤ x ∧ x < wc.heap.size) := ⟨_, rfl⟩
                      rw [← hR2] at PC
                      have RPB2 := Lib.hid (show R2 pb from by rw [hR2]; exact .inl RPB.out)
                      have SD := Lib.hid (lf_send PC.out.lf o.n a1 l' c1 o.B htc (fun hl g o e => .inr (by
                        rcases hown2 with h0 | ⟨g1, cs, e2, h1, h2, hz, _⟩
                        · omega
                        · rw [e2] at e
                          cases e
                          rw [hR2]; exact .inr ⟨h2, hz.lt⟩)))
                      obtain ⟨E, hE⟩ : ∃ E, E = k.sendE o.n l' := ⟨_, rfl⟩
                      obtain ⟨k2, hk2⟩ : ∃ k2, k2 = k.sends o.n o.B := ⟨_, rfl⟩
                      have GD3 := Lib.hid (show Gd k2 (kk + 1) from by rw [hk2]; exact GD.out.sends _ _)
                      rw [← hE, ← hk2] at SD
                      have HE := Lib.hid hE
                      have HK2 := Lib.hid hk2
                      have NF4 := Lib.hid (show ∀ x, F x → x < w4.heap.size from fun x hx => PK.out.lf.lt (PK.out.fr x hx))
                      have RX4 := Lib.hid (show rx < w4.heap.size from PK.out.lf.lt PK.out.rr)
                      have OW := Lib.hid hown2
                      have HA2 := Lib.hid hA2
                      have HWA := Lib.hid hwa.symm
                      have HSA := Lib.hid hsa
                      have hcc : wc.cell? ⟨pb, 1, none⟩ = some (.int .i64 o.n) := BC.out.cell 1
                      rw [hwa] at c2w hrc
                      have HRC := Lib.hid hrc
                      clear hE hk2 hown hown2 htc bc bac hsa hwa ba za hrc hbt hR2 hA2 q0
                      go_upto_region 14 with (first | (at_builtin; refine wpList_world_gg rfl (.slice a1 l' c1) (w' := wc) (exec_append _ _ rfl rfl rfl HRC.out) ?_))
                      clear q1 q2 c2w
                      go_upto_region 15 with (go_at_call 11; refine SD.out.mono ?_; rintro e w5 ⟨rfl, hl5, hs5⟩; have P5 := Lib.hid (PC.out.link hl5 hs5); have B5 := Lib.hid (hs5.blk RPB2.out BC.out); have S5 := Lib.hid hs5; clear hl5 hs5 SD)
                      clear hcc
                      have q1 : w5.cell? ⟨pb, 1, none⟩ = some (.int .i64 o.n) := B5.out.cell 1
                      have q2 : w5.cell? ⟨pb, 2, none⟩ = some (.slice a' l' c') := B5.out.cell 2
                      obtain ⟨V, zr, rk⟩ := P5.out.ex
                      have RD := Lib.hid (rsend_any rk o.n a' l' c' o.B (HBT.out.below P5.out.below (Nat.le_refl _)) GD.out.fl)
                      unfold Ck rl at RD
                      rw [← HE.out, ← HK2.out] at RD
                      obtain ⟨lv, hlv⟩ : ∃ l, l = lcells k V := ⟨_, rfl⟩
                      rw [← hlv] at RD zr
                      have L10 := Lib.hid (show lv.length = 10 by rw [hlv]; rfl)
                      have ZR := Lib.hid zr
                      clear zr rk hlv
                      go_upto_region 16 with (first | (refine wpList_value_g rfl (.agg lv.toArray) (exec_load rfl rfl ZR.out Try.underlying52 rfl (by kernel_rfl) L10.out) ?_) | (go_at_call 23; refine RD.out.mono ?_; rintro e w6 ⟨V6, rfl, r6, b6⟩; obtain ⟨nv, hnv⟩ : ∃ l, l = lcells k2 V6 := ⟨_, rfl⟩; rw [← hnv]; have HNV := Lib.hid hnv; have R6 := Lib.hid r6; have B6 := Lib.hid b6; have N10 := Lib.hid (show nv.length = 10 by rw [hnv]; rfl); have N11 := Lib.hid (show ∀ u ∈ nv, u.oneCell' = true by rw [hnv]; exact lc_one _ _ r6.one); have Z6 := Lib.hid (ZR.out.below b6 ZR.out.lt); clear r6 b6 hnv) | (refine wpList_store_blk rfl 52 _ _ rfl rx 0 10 rfl 52 lv nv rfl Z6.out (by kernel_rfl) N10.out (by rw [L10.out]; decide) N11.out ?_; intro w7 z7 g7; rw [put_all lv nv (by rw [N10.out, L10.out])] at z7; have Z7 := Lib.hid z7; have G7 := Lib.hid g7; clear z7 g7))
                      clear q1 q2
                      obtain ⟨R3, hR3⟩ : ∃ R3 : Nat → Prop, R3 = fun x => R2 x ∨ (w5.heap.size ≤ x ∧ x < w6.heap.size) := ⟨_, rfl⟩
                      obtain ⟨F3, hF3⟩ : ∃ F3 : Nat → Prop, F3 = fun x => F x ∨ (w5.heap.size ≤ x ∧ x < w6.heap.size) := ⟨_, rfl⟩
                      have P7 := Lib.hid (show Pl w bl rx A2 R3 F3 k2 k2 w7 from by rw [hR3, hF3]; exact P5.out.ref hrA B6.out R6.out G7.out (by rw [← HNV.out]; exact Z7.out))
                      have OW7 := Lib.hid (show l' = 0 ∨ ∃ g1 cs, a1 = some ⟨g1, 0, none⟩ ∧ g1 ∈ A2 ∧ g1 ≠ rx ∧ ¬ F3 g1 ∧ Blk w7 g1 cs 5 ∧ l' ≤ cs.length from by
                        rcases OW.out with h0 | ⟨g1, cs, e, h1, h2, hz, hl⟩
                        · exact .inl h0
                        · have hne : g1 ≠ rx := by have := RX4.out; omega
                          have hR2' : R2 g1 := PC.out.lf.choose_spec.2.2.1 g1 h1 |>.1
                          have z5 := S5.out.blk hR2' hz
                          have z6 := z5.below B6.out z5.lt
                          refine .inr ⟨g1, cs, e, h1, hne, ?_, z6.grown G7.out hne, hl⟩
                          rw [hF3]
                          rintro (h9 | h9)
                          · have := NF4.out g1 h9; omega
                          · have := z5.lt; omega)
                      clear Z7 G7 R6 B6 Z6 N10 N11 HNV ZR L10 RD P5 B5 S5 hR3 hF3 OW PC BC
                      simp only [Act.put]
                      have hlb := HLB.out
                      go_wp2_with fail
                      go_loopw [12] (fun i ww => ∃ j : Nat, j ≤ l' ∧ i = .int .i64 j ∧ Pl w bl rx A2 R3 F3 k2 k2 ww ∧ (l' = 0 ∨ ∃ g1 cs, a1 = some ⟨g1, 0, none⟩ ∧ g1 ∈ A2 ∧ g1 ≠ rx ∧ ¬ F3 g1 ∧ Blk ww g1 cs 5 ∧ l' ≤ cs.length)) (fun i _ => l' - (intOf i).toNat)
                      case atStart => exact ⟨0, by omega, rfl, P7.out, OW7.out⟩
                      case round =>
                        obtain ⟨j, hj, rfl, hpj, hoj⟩ := hrel
                        have PJ := Lib.hid hpj
                        clear hpj P7 OW7
                        by_cases hjl : j < l'
                        · obtain ⟨g1, cs, rfl, h1, hne, hnf, hz, hl⟩ := hoj.resolve_left (by omega)
                          obtain ⟨u, hu⟩ : ∃ u, cs[j]? = some u := ⟨_, List.getElem?_eq_getElem (by omega)⟩
                          have cj : wr.cell? ⟨g1, j, none⟩ = some u := by rw [hz.cell]; exact hu
                          have fj : wr.frozen? ⟨g1, j, none⟩ = false := hz.frozen j
                          have Z1 := Lib.hid (hz.setCell j (.int .u8 0))
                          have ZL := Lib.hid (show l' ≤ (cs.set j (.int .u8 0)).length by rw [List.length_set]; exact hl)
                          have PW := Lib.hid (PJ.out.wrote (T := [g1]) (Only.of_grown (grown_setCell' wr g1 j (.int .u8 0))) (by simpa using h1) (by simpa using Ne.symm hne) (by simpa using hnf))
                          have HH := Lib.hid (show g1 ∈ A2 ∧ g1 ≠ rx ∧ ¬ F3 g1 from ⟨h1, hne, hnf⟩)
                          clear hoj h1 hne hnf hz hl hu PJ
                          go_wp2_with fail
                          refine ⟨⟨j + 1, by omega, by go_num, PW.out, .inr ⟨g1, _, rfl, HH.out.1, HH.out.2.1, HH.out.2.2, Z1.out, ZL.out⟩⟩, ?_⟩
                          simp [intOf]; omega
                        · clear hoj
                          go_wp2_with fail
                          go_meet
                          case rel => exact ⟨E, 0, k2, _, _, rfl, rfl, rfl, rfl, PJ.out.less (fun x hx => by rw [List.mem_singleton.1 hx]; exact hrA), GD3.out⟩
                    · go_wp2_with fail
                      go_meet
                      case rel => exact ⟨0, 0, k, R1, F, rfl, rfl, rfl, rfl, PK.out, GD.out.mono (by omega)⟩
      case rest =>
        obtain ⟨E, D, k', R', F', rfl, rfl, rfl, rfl, hpl, hgd⟩ := hcut
        have PL := Lib.hid hpl
        have GD2 := Lib.hid hgd
        clear hpl hgd q0 q1 q2 GD PK RPB NPB P6 HBT HLB
        obtain ⟨V, zr, rk⟩ := PL.out.ex
        obtain ⟨fa, fc, hvf, _, _⟩ := rk.fl.form
        obtain ⟨fn, hfn⟩ : ∃ fn, fn = k'.fl.length := ⟨_, rfl⟩
        rw [← hfn] at hvf
        have c9 : wc.cell? ⟨rx, 9, none⟩ = some (.slice fa fn fc) := by rw [← hvf]; exact zr.cell 9
        have hrd : Rd (fun _ => False) wc 74 pc (·.m.B) (.slice fa fn fc) k'.fl := by rw [← hvf]; exact rk.fl.any
        have hrxl := zr.lt
        have bdr : Below wc.heap.size wc wc.drew := (Below.refl _ _).drew
        have KP := Lib.hid (show ∀ w', Below wc.heap.size wc w' → w'.cell? ⟨rx, 9, none⟩ = some (.slice fa fn fc) from fun w' hb => (Below.cell hb (p := ⟨rx, 9, none⟩) hrxl).trans c9)
        have FL := Lib.hid (show Calls Try.prog 12 #[.pointer (some ⟨bl, 0, none⟩)] wc.drew (fun e w' => ∃ v, e = .returned v ∧ Rd (fun _ => False) w' 74 pc (·.m.B) v k'.fl ∧ Below wc.heap.size wc w') from
          (lf_flightR PL.out.drew.lf GD2.out.fl).mono (by
            rintro e w' ⟨v, rfl, h1, h2⟩
            exact ⟨v, rfl, h1, bdr.trans h2⟩))
        have SF := Lib.hid (show ∀ w' v, Rd (fun _ => False) w' 74 pc (·.m.B) v k'.fl → Below wc.heap.size wc w' → Calls Try.prog 29 #[v, .slice fa fn fc] w' (fun e w'' => e = .returned (.bool true) ∧ Below wc.heap.size wc w'') from fun w' v h1 h2 =>
          (rsame_any h1 (hrd.below h2) GD2.out.fl).mono (by
            rintro e w'' ⟨rfl, h3⟩
            exact ⟨rfl, h2.trans (h3.mono h2.size)⟩))
        have KP0 := Lib.hid (KP.out _ bdr)
        clear zr rk hvf hfn hrd hrxl bdr c9
        go_upto_region 40 with (fail)
        go_region_held3 (fun w' => w'.cell? ⟨rx, 9, none⟩ = some (.slice fa fn fc)) (first | exact KP0.out | exact KP.out _ hb1 | exact KP.out _ hb2)
          (first
            | (go_at_call 12; refine FL.out.mono ?_; rintro e w1' ⟨v1, rfl, hr1, hb1⟩)
            | (go_at_call 29; refine (SF.out _ _ hr1 hb1).mono ?_; rintro e w2' ⟨rfl, hb2⟩))
        go_wp2_with fail
        refine ⟨⟨kk + 1, k', _, F', by omega, by go_num, PL.out.grow hb2, GD2.out⟩, ?_⟩
        simp [intOf]; omega
    · have hnil : Pl w bl rx [rx] R F k k wr := PL.out
      clear PL
      go_wp2_with fail
      go_loopw [14] (fun i ww => ∃ (q : Int) (R F : Nat → Prop), -1 ≤ q ∧ q ≤ 3 ∧ i = .int .i64 q ∧ Pl w bl rx [rx] R F k k ww) (fun i _ => (3 - intOf i).toNat)
      case atStart => exact ⟨-1, R, F, by omega, by omega, rfl, hnil⟩
      case round =>
        obtain ⟨q, R', F', hq1, hq2, rfl, hpl⟩ := hrel
        have PL := Lib.hid hpl
        clear hpl hnil
        by_cases hq : q ≤ 2
        · obtain ⟨V, zr, rk⟩ := PL.out.ex
          obtain ⟨v0, hv0⟩ : ∃ v, v = V 0 := ⟨_, rfl⟩
          obtain ⟨v1, hv1⟩ : ∃ v, v = V 1 := ⟨_, rfl⟩
          obtain ⟨v2, hv2⟩ : ∃ v, v = V 2 := ⟨_, rfl⟩
          obtain ⟨v3, hv3⟩ : ∃ v, v = V 3 := ⟨_, rfl⟩
          obtain ⟨v4, hv4⟩ : ∃ v, v = V 4 := ⟨_, rfl⟩
          have hlv : lcells k V = [.int .u32 (k.ep : Int), v0, .int .u32 (k.a.sent : Int), .int .u32 (k.a.come : Int), v1, v2, .int .u32 (k.b.sent : Int), .int .u32 (k.b.come : Int), v3, v4] := by rw [hv0, hv1, hv2, hv3, hv4]; rfl
          rw [hlv] at zr
          have hrxl := zr.lt
          have bdr : Below wr.heap.size wr wr.drew := (Below.refl _ _).drew
          have KP := Lib.hid (show ∀ w', Below wr.heap.size wr w' → w'.cell? ⟨rx, 0, none⟩ = some (.int .u32 (k.ep : Int)) ∧ w'.cell? ⟨rx, 1, none⟩ = some v0 ∧ w'.cell? ⟨rx, 2, none⟩ = some (.int .u32 (k.a.sent : Int)) ∧ w'.cell? ⟨rx, 3, none⟩ = some (.int .u32 (k.a.come : Int)) ∧ w'.cell? ⟨rx, 4, none⟩ = some v1 ∧ w'.cell? ⟨rx, 5, none⟩ = some v2 ∧ w'.cell? ⟨rx, 6, none⟩ = some (.int .u32 (k.b.sent : Int)) ∧ w'.cell? ⟨rx, 7, none⟩ = some (.int .u32 (k.b.come : Int)) ∧ w'.cell? ⟨rx, 8, none⟩ = some v3 ∧ w'.cell? ⟨rx, 9, none⟩ = some v4 from fun w' hb => by
            have z := zr.below hb hrxl
            exact ⟨z.cell 0, z.cell 1, z.cell 2, z.cell 3, z.cell 4, z.cell 5, z.cell 6, z.cell 7, z.cell 8, z.cell 9⟩)
          have KP0 := Lib.hid (KP.out _ bdr)
          have GT := Lib.hid (show Calls Try.prog 16 #[.pointer (some ⟨bl, 0, none⟩), .int .i64 q] wr.drew (fun e w' => ∃ v, e = .returned v ∧ Tx w' v (k.gotI q) ∧ Below wr.heap.size wr w') from
            (lf_gotI PL.out.drew.lf q GG.out).mono (by
              rintro e w' ⟨v, rfl, h1, h2⟩
              exact ⟨v, rfl, h1, bdr.trans h2⟩))
          have RG := Lib.hid (show ∀ w', Below wr.heap.size wr w' → Calls Try.prog 30 #[.agg #[.int .u32 (k.ep : Int), v0, .int .u32 (k.a.sent : Int), .int .u32 (k.a.come : Int), v1, v2, .int .u32 (k.b.sent : Int), .int .u32 (k.b.come : Int), v3, v4], .int .i64 q] w' (fun e w'' => ∃ v, e = .returned v ∧ Tx w'' v (k.gotI q) ∧ Below wr.heap.size wr w'' ∧ Below w'.heap.size w' w'') from fun w' h2 => by
            have := (rgot_any (N := fun _ => False) ((rk.re (fun x _ _ => ⟨rfl, id⟩) (fun x hx => hx.elim)).below h2) q)
            unfold rl at this
            rw [hlv] at this
            refine this.mono ?_
            rintro e w'' ⟨v, rfl, h3, h4⟩
            exact ⟨v, rfl, h3.tx, h2.trans (h4.mono h2.size), h4⟩)
          have ST := Lib.hid (show ∀ w' va vb, Tx w' va (k.gotI q) → Tx w' vb (k.gotI q) → Below wr.heap.size wr w' → Calls Try.prog 19 #[va, vb] w' (fun e w'' => e = .returned (.bool true) ∧ Below wr.heap.size wr w'') from fun w' va vb h1 h2 h3 => by
            refine (texts_two va vb _ _ w' h1 h2).mono ?_
            rintro e w'' ⟨rfl, nd, rfl⟩
            exact ⟨by rw [decide_eq_true rfl], h3.trans ⟨rfl, rfl, rfl, Nat.le_refl _, fun _ _ => rfl⟩⟩)
          have OP := Lib.hid (show ∀ w', Below wr.heap.size wr w' → Calls Try.prog 14 #[.pointer (some ⟨bl, 0, none⟩), .int .i64 q] w' (fun e w'' => e = .returned (.int .i64 ((k.openI q : Nat) : Int)) ∧ Below wr.heap.size wr w'') from fun w' h2 => by
            refine (lf_openI (PL.out.grow h2).lf q).mono ?_
            rintro e w'' ⟨rfl, rfl⟩
            exact ⟨rfl, h2⟩)
          have RO := Lib.hid (show ∀ w', Below wr.heap.size wr w' → Calls Try.prog 31 #[.agg #[.int .u32 (k.ep : Int), v0, .int .u32 (k.a.sent : Int), .int .u32 (k.a.come : Int), v1, v2, .int .u32 (k.b.sent : Int), .int .u32 (k.b.come : Int), v3, v4], .int .i64 q] w' (fun e w'' => e = .returned (.int .i64 ((k.openI q : Nat) : Int)) ∧ Below wr.heap.size wr w'') from fun w' h2 => by
            have := (ropen_any (N := fun _ => False) ((rk.re (fun x _ _ => ⟨rfl, id⟩) (fun x hx => hx.elim)).below h2) q)
            unfold rl at this
            rw [hlv] at this
            refine this.mono ?_
            rintro e w'' ⟨rfl, h4⟩
            exact ⟨rfl, h2.trans (h4.mono h2.size)⟩)
          obtain ⟨oi, hoi⟩ : ∃ x, x = k.openI q := ⟨_, rfl⟩
          rw [← hoi] at OP RO
          clear zr rk hlv hrxl bdr hv0 hv1 hv2 hv3 hv4 hoi
          go_upto_region 45 with (fail)
          go_region_held3 (fun w' => w'.cell? ⟨rx, 0, none⟩ = some (.int .u32 (k.ep : Int)) ∧ w'.cell? ⟨rx, 1, none⟩ = some v0 ∧ w'.cell? ⟨rx, 2, none⟩ = some (.int .u32 (k.a.sent : Int)) ∧ w'.cell? ⟨rx, 3, none⟩ = some (.int .u32 (k.a.come : Int)) ∧ w'.cell? ⟨rx, 4, none⟩ = some v1 ∧ w'.cell? ⟨rx, 5, none⟩ = some v2 ∧ w'.cell? ⟨rx, 6, none⟩ = some (.int .u32 (k.b.sent : Int)) ∧ w'.cell? ⟨rx, 7, none⟩ = some (.int .u32 (k.b.come : Int)) ∧ w'.cell? ⟨rx, 8, none⟩ = some v3 ∧ w'.cell? ⟨rx, 9, none⟩ = some v4) (first | exact KP0.out | exact KP.out _ hb1 | exact KP.out _ hb2 | exact KP.out _ hb3 | exact KP.out _ hb4 | exact KP.out _ hb5)
            (first
              | (go_at_call 16; refine GT.out.mono ?_; rintro e w1' ⟨va, rfl, ht1, hb1⟩)
              | (go_at_call 30; refine (RG.out _ hb1).mono ?_; rintro e w2' ⟨vb, rfl, ht2, hb2, hb12⟩)
              | (go_at_call 19; refine (ST.out _ _ _ (ht1.below hb12) ht2 hb2).mono ?_; rintro e w3' ⟨rfl, hb3⟩)
              | (go_at_call 14; refine (OP.out _ hb3).mono ?_; rintro e w4' ⟨rfl, hb4⟩)
              | (go_at_call 31; refine (RO.out _ hb4).mono ?_; rintro e w5' ⟨rfl, hb5⟩))
          go_wp2_with fail
          refine ⟨⟨q + 1, _, F', by omega, by omega, rfl, PL.out.grow hb5⟩, ?_⟩
          simp [intOf]; omega
        · go_wp2_with fail
          go_ret
          exact ⟨rfl, PL.out.below⟩
end Go.Proofs.Ytfjaoompdleljaa.Link
/-
  The statement on every step of a script, its argument as it comes in. Helper text; no statement is proved here.
-/
set_option linter.unusedVariables false
set_option maxRecDepth 20000
set_option linter.unusedSimpArgs false
namespace Go.Proofs.Ytfjaoompdleljaa.Link
open Go.RowKit Go.Proofs.Ytfjaoompdleljaa.Base Go.Proofs.Ytfjaoompdleljaa.Laws Go.Proofs.Ytfjaoompdleljaa.Disk Go.Proofs.Ytfjaoompdleljaa.Row Go.Proofs.Ytfjaoompdleljaa.Flat Go.Proofs.Ytfjaoompdleljaa.InvM
section
variable {H : Type} {enc : TypeId × Value → H} {base : Nat} {spare : Nat → Bool} {held : Bool} {W : World}
theorem plays_in (a : Option Addr) (n ca : Nat) (lf : Opens.LfOk enc Try.prog W base spare held (.slice 44) (.slice a n ca)) : Calls Try.prog 7 #[.slice a n ca] W fun e w' => e = .returned (.bool true) ∧ Below W.heap.size W w' := by
  obtain ⟨os, ho⟩ := scr_in lf
  exact plays_walk a n ca os W ho
end
end Go.Proofs.Ytfjaoompdleljaa.Link
