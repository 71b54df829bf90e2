/-
  Writing to a disk. Helper text; no statement is proved here.
-/
import Derived.Test.YtnjcepjhllgccaaDiskR
import Derived.StillTailTactics
set_option linter.unusedVariables false
set_option linter.unusedSimpArgs false
namespace Go.Proofs.Ytnjcepjhllgccaa.Disk
open Go.RowKit Go.Proofs.Ytnjcepjhllgccaa.Base Go.Proofs.Ytnjcepjhllgccaa.Laws Go.Proofs.Ytnjcepjhllgccaa.Flat Go.Proofs.Ytnjcepjhllgccaa.InvM
/-- cells that are written one by one from a place on, each by a step: how many; the power; the sectors -/
def wrs (i : Nat) : List Cel → Pow → List Sec → Nat × Pow × List Sec
  | [], p, s => (0, p, s)
  | c :: cs, p, s => if p.step.1 then ((wrs (i + 1) cs p.step.2 (s.set i ⟨c, true⟩)).1 + 1, (wrs (i + 1) cs p.step.2 (s.set i ⟨c, true⟩)).2) else (0, p.step.2, s)
theorem wrs_cons_yes {i : Nat} {c : Cel} {cs : List Cel} {p : Pow} {s : List Sec} (h : p.step.1 = true) : wrs i (c :: cs) p s = ((wrs (i + 1) cs p.step.2 (s.set i ⟨c, true⟩)).1 + 1, (wrs (i + 1) cs p.step.2 (s.set i ⟨c, true⟩)).2) := by rw [wrs, if_pos h]
theorem wrs_cons_no {i : Nat} {c : Cel} {cs : List Cel} {p : Pow} {s : List Sec} (h : p.step.1 = false) : wrs i (c :: cs) p s = (0, p.step.2, s) := by rw [wrs, if_neg (by rw [h]; decide)]
theorem wrs_le (cs : List Cel) : ∀ (i : Nat) (p : Pow) (s : List Sec), (wrs i cs p s).1 ≤ cs.length := by
  induction cs with
  | nil => intro i p s; exact Nat.le_refl _
  | cons c cs ih =>
    intro i p s
    unfold wrs
    split
    · have := ih (i + 1) p.step.2 (s.set i ⟨c, true⟩); simp only [List.length_cons]; omega
    · exact Nat.zero_le _
theorem step_ok {p : Pow} (h : p.Ok) (k : Nat) (hk : p.steps + k ≤ 4611686018427387904) (h1 : 1 ≤ k) : p.step.2.Ok ∧ p.step.2.steps + (k - 1) ≤ 4611686018427387904 := by
  obtain ⟨a, b⟩ := h
  unfold Pow.step Pow.Ok
  split
  · exact ⟨⟨a, b⟩, by simp only; omega⟩
  · split
    · exact ⟨⟨by simp only; omega, by simp only; omega⟩, by simp only; omega⟩
    · split
      · exact ⟨⟨by simp only; omega, by simp only; omega⟩, by simp only; omega⟩
      · exact ⟨⟨by simp only; omega, by simp only; omega⟩, by simp only; omega⟩
def Dsk.refuse (D : Dsk) (p : Pow) (ep : Nat) : Nat := if p.off then 4 else if D.dead then 5 else if ep < D.key then 6 else 0
theorem _root_.Go.Proofs.Ytnjcepjhllgccaa.Flat.Sl.only {α : Type} {f : α → List Value} {m : Nat} {w w' : World} {a : Option Addr} {n cap : Nat} {l : List α} (h : Sl w f m a n cap l) {S : List Nat} (ho : Only S w w') (hn : ∀ b o, a = some ⟨b, o, none⟩ → n ≠ 0 → b ∉ S) : Sl w' f m a n cap l := by
  obtain ⟨h1, h2, h3, h5, h4⟩ := h
  refine ⟨h1, h2, h3, h5, ?_⟩
  by_cases hn0 : n = 0
  · exact .inl hn0
  rcases h4 with h4 | ⟨b, o, e, hc⟩
  · exact .inl h4
  · exact .inr ⟨b, o, e, fun j u hu => by
      have h0 := hc j u hu
      have hb : b < w.heap.size := block_lt_of_cell h0
      exact (World.cell?_of_block (w := w) (ho.block b hb (hn b o e hn0))).trans h0⟩
theorem _root_.Go.Proofs.Ytnjcepjhllgccaa.Flat.Sl.lt {α : Type} {f : α → List Value} {m : Nat} {w : World} {a : Option Addr} {n cap : Nat} {l : List α} (h : Sl w f m a n cap l) (hm : 0 < m) {b o : Nat} (e : a = some ⟨b, o, none⟩) (hn : n ≠ 0) : b < w.heap.size := by
  obtain ⟨h1, h2, h3, h5, h4⟩ := h
  rcases h4 with h4 | ⟨b', o', e', hc⟩
  · exact absurd h4 hn
  · rw [e] at e'
    cases e'
    obtain ⟨u, hu⟩ : ∃ u, (flat f l)[0]? = some u := ⟨_, List.getElem?_eq_getElem (by rw [flat_len h5, h1]; exact Nat.mul_pos (by omega) hm)⟩
    exact block_lt_of_cell (hc 0 u hu)
section
variable {bd bm bs n : Nat} {D : Dsk} {w : World} {p : Pow}
set_option maxHeartbeats 400000 in
theorem write_no (h : DiskAt w bd bm bs n D) (hp : PowAt w bm p) (i : Nat) (a : Option Addr) (m c ep : Nat) (hi : i + m ≤ n) (hmc : m ≤ c) (hr : D.refuse p ep ≠ 0) : Calls Try.prog 11 #[.pointer (some ⟨bd, 0, none⟩), .int .i64 (i : Int), .slice a m c, .int .u32 (ep : Int)] w fun e w' => e = .returned (.tuple #[.int .i64 0, .int .i64 (D.refuse p ep : Nat)]) ∧ w = w' := by
  have hn := h.hi
  have ON := Lib.hid (on_any bm p w hp)
  have c0 := h.c0
  have c1 := h.c1
  have c2 := h.c2
  have c3 := h.c3
  have i0 : (0 : Int) ≤ (i : Int) := by omega
  have i1 : (i : Int) ≤ (n : Int) := by omega
  have i2 : (m : Int) ≤ (n : Int) - (i : Int) := by omega
  clear h hp
  obtain ⟨off, left, steps⟩ := p
  obtain ⟨key, dead, secs⟩ := D
  cases off with
  | true =>
    go_enter Try.func11, Try.ntmps11
    go_wp2_with (first | (go_at_call 16; refine ON.out.mono ?_; rintro e w' ⟨rfl, rfl⟩))
    go_ret2
    exact ⟨rfl, rfl⟩
  | false =>
    cases dead with
    | true =>
      go_enter Try.func11, Try.ntmps11
      go_wp2_with (first | (go_at_call 16; refine ON.out.mono ?_; rintro e w' ⟨rfl, rfl⟩))
      go_ret2
      exact ⟨rfl, rfl⟩
    | false =>
      have hlt : ep < key := Decidable.byContradiction fun hh => hr (by simp [Dsk.refuse, hh])
      have HE := Lib.hid (show Dsk.refuse ⟨key, false, secs⟩ ⟨false, left, steps⟩ ep = 6 by simp [Dsk.refuse, hlt])
      clear hr
      go_enter Try.func11, Try.ntmps11
      go_wp2_with (first | (go_at_call 16; refine ON.out.mono ?_; rintro e w' ⟨rfl, rfl⟩))
      go_ret2
      rw [HE.out]
      exact ⟨rfl, rfl⟩
/-- how a write ends that has written k cells of m -/
def wErr (k m : Nat) : Nat := if k = m then 0 else 4
theorem exec_built' {P : Program} {ρ : Operand → Value} {w : World} {o : Oper} {t : TypeId} {parts : Array (Nat × Operand)} {vs : List (Nat × Value)} {cells : Array Value} (ho : o.op = .build t parts) (hx : parts.toList.map (fun (i, x) => (i, ρ x)) = vs) (hb : P.built t vs = some cells) : (execOp ρ o).run P w = .ok (.value (.agg cells)) w := by
  unfold execOp
  simp only [ho]
  have hx' : parts.map (fun (i, x) => (i, ρ x)) = vs.toArray := by rw [← hx]; apply Array.ext'; simp
  rw [hx']
  simp only [Sem.run_bind, run_build w t vs.toArray cells hb, Result.andThen_ok, Sem.run_pure]
/-- what holds behind k cells -/
def WI (w : World) (bd bm bs n i key m : Nat) (cs : List Cel) (p0 : Pow) (s0 : List Sec) (k : Nat) (wr : World) : Prop :=
  ∃ pk sk, PowAt wr bm pk ∧ pk.Ok ∧ pk.steps + (m - k) ≤ 4611686018427387904 ∧ DiskAt wr bd bm bs n ⟨key, false, sk⟩ ∧ Only [bm, bs] w wr ∧ wrs i cs p0 s0 = (k + (wrs (i + k) (cs.drop k) pk sk).1, (wrs (i + k) (cs.drop k) pk sk).2)
theorem list16 {α : Type} : ∀ (l : List α), l.length = 16 → ∃ x0 x1 x2 x3 x4 x5 x6 x7 x8 x9 x10 x11 x12 x13 x14 x15 : α, l = [x0, x1, x2, x3, x4, x5, x6, x7, x8, x9, x10, x11, x12, x13, x14, x15]
  | [x0, x1, x2, x3, x4, x5, x6, x7, x8, x9, x10, x11, x12, x13, x14, x15], _ => ⟨x0, x1, x2, x3, x4, x5, x6, x7, x8, x9, x10, x11, x12, x13, x14, x15, rfl⟩
theorem built_sec (c : Cel) (h : c.d.length = 16) : Try.prog.built 63 [(0, .agg c.cells.toArray), (1, .bool true)] = some (Sec.cells ⟨c, true⟩).toArray := by
  obtain ⟨d, s⟩ := c
  obtain ⟨x0, x1, x2, x3, x4, x5, x6, x7, x8, x9, x10, x11, x12, x13, x14, x15, rfl⟩ := list16 d h
  kernel_rfl
set_option maxHeartbeats 1000000 in
theorem write_yes (h : DiskAt w bd bm bs n D) (hp : PowAt w bm p) (hpo : p.Ok) (i : Nat) (a : Option Addr) (m c ep : Nat) (cs : List Cel) (hs : Sl w Cel.cells 17 a m c cs) (hok : ∀ x ∈ cs, x.Ok) (hi : i + m ≤ n) (hst : p.steps + m ≤ 4611686018427387904) (hne : ∀ b o, a = some ⟨b, o, none⟩ → m ≠ 0 → b ∉ [bm, bs]) (hr : D.refuse p ep = 0) :
    Calls Try.prog 11 #[.pointer (some ⟨bd, 0, none⟩), .int .i64 (i : Int), .slice a m c, .int .u32 (ep : Int)] w fun e w' => e = .returned (.tuple #[.int .i64 ((wrs i cs p D.secs).1 : Nat), .int .i64 (wErr (wrs i cs p D.secs).1 m : Nat)]) ∧ PowAt w' bm (wrs i cs p D.secs).2.1 ∧ DiskAt w' bd bm bs n ⟨D.key, D.dead, (wrs i cs p D.secs).2.2⟩ ∧ Only [bm, bs] w w' := by
  have hn := h.hi
  have ON := Lib.hid (on_any bm p w hp)
  have c0 := h.c0
  have c1 := h.c1
  have c2 := h.c2
  have c3 := h.c3
  have i0 : (0 : Int) ≤ (i : Int) := by omega
  have i1 : (i : Int) ≤ (n : Int) := by omega
  have i2 : (m : Int) ≤ (n : Int) - (i : Int) := by omega
  have H0 := Lib.hid h
  have P0 := Lib.hid hp
  have O0 := Lib.hid hpo
  have S0 := Lib.hid hs
  have NE := Lib.hid hne
  have OK := Lib.hid hok
  have ST := Lib.hid hst
  have hml := hs.2.1
  have hcl := hs.1
  have CL := Lib.hid hcl
  clear h hp hpo hs hne hok hst hcl
  obtain ⟨off, left, steps⟩ := p
  obtain ⟨key, dead, secs⟩ := D
  cases off with
  | true => exact absurd hr (by simp [Dsk.refuse])
  | false =>
    cases dead with
    | true => exact absurd hr (by simp [Dsk.refuse])
    | false =>
      have hlt : ¬ ep < key := fun hh => by simp [Dsk.refuse, hh] at hr
      clear hr
      go_enter Try.func11, Try.ntmps11
      go_wp2_with (first | (go_at_call 16; refine ON.out.mono ?_; rintro e w' ⟨rfl, rfl⟩))
      go_loopw [61] (fun j wr => ∃ k : Nat, k ≤ m ∧ j = .int .i64 k ∧ WI w bd bm bs n i key m cs ⟨false, left, steps⟩ secs k wr) (fun j _ => m - (intOf j).toNat)
      case atStart => exact ⟨0, by omega, rfl, _, _, P0.out, O0.out, by have hh := ST.out; show steps + (m - 0) ≤ _; omega, H0.out, Only.refl _ _, by rw [Nat.zero_add]; rfl⟩
      case round =>
        obtain ⟨k, hk, rfl, pk, sk, hp, ho, hst, hd, hon, hw⟩ := hrel
        by_cases hkm : k < m
        · obtain ⟨x, hx⟩ : ∃ x, cs[k]? = some x := ⟨_, List.getElem?_eq_getElem (by rw [CL.out]; exact hkm)⟩
          have hdrop : cs.drop k = x :: cs.drop (k + 1) := by
            obtain ⟨hh, rfl⟩ := List.getElem?_eq_some_iff.1 hx
            exact List.drop_eq_getElem_cons hh
          have hxok := OK.out x (List.mem_of_getElem? hx)
          have hx17 := Lib.hid (Cel.len hxok)
          obtain ⟨b, o, rfl, hat⟩ := (S0.out.only hon NE.out).at hx
          have HAT := Lib.hid (show ∀ j v, x.cells[j]? = some v → wr.cell? ((⟨b, o + k * 17, none⟩ : Addr).add j) = some v from fun j v hv => by rw [Addr.add_lit]; exact hat j v hv)
          have HP := Lib.hid hp
          have HO := Lib.hid ho
          have HST := Lib.hid hst
          have HD := Lib.hid hd
          have HON := Lib.hid hon
          have HW := Lib.hid (hdrop ▸ hw)
          have HX := Lib.hid hxok
          have k0 : (0 : Int) ≤ (k : Int) := by omega
          have k1 : (k : Int) < (m : Int) := by omega
          clear hp ho hst hd hon hw hat hx hdrop hxok c0 c1 c2 c3
          go_wp2_with (first | (refine wpList_value_g rfl (.agg x.cells.toArray) (exec_load_from rfl rfl HAT.out Try.underlying37 rfl (by kernel_rfl) hx17.out) ?_) | (refine wpList_store_blk rfl 37 _ _ rfl wr.heap.size 0 17 rfl 37 Cel.zero.cells x.cells rfl (zblk wr) (by kernel_rfl) hx17.out (by decide) (Cel.one x) ?_; intro w2 z2 g2; rw [put_all _ _ (by rw [hx17.out]; rfl)] at z2; have B2 := below_grown ((Below.refl wr.heap.size wr).alloc (Nat.le_refl _) _) g2 (by simp only [size_alloc]; omega) (Nat.le_refl _); have D2 := HD.out.only (Only.of_below (S := []) B2) (by simp) (by simp); have P2 := HP.out.only (Only.of_below (S := []) B2) (by simp); have c0 := D2.c0; have c1 := D2.c1; have HD2 := Lib.hid D2; have HP2 := Lib.hid P2; have HB2 := Lib.hid B2; have HZ2 := Lib.hid z2; clear D2 P2 B2 z2 g2))
          have SP := Lib.hid (step_any bm pk w2 HP2.out HO.out)
          have hbd := HD2.out.head.lt
          have hbs := HD2.out.body.lt
          have hz2 := HZ2.out.lt
          have hwd := HD.out.head.lt
          have hws := HD.out.body.lt
          have hwm := HP.out.lt
          rcases hsb : pk.step.1 with _ | _
          · rw [hsb] at SP
            have HF := Lib.hid (wrs_cons_no (i := i + k) (c := x) (cs := cs.drop (k + 1)) (s := sk) hsb)
            clear hsb
            refine SP.out.mono ?_
            rintro e w3 ⟨rfl, p3, o3⟩
            have HP3 := Lib.hid p3
            have HD3 := Lib.hid (HD2.out.only o3 (by simpa using HD2.out.ne1) (by simpa using HD2.out.ne2))
            have HO3 := Lib.hid ((HON.out.trans (Only.of_below HB2.out)).trans (o3.mono (by simp)))
            have E := Lib.hid (show wrs i cs ⟨false, left, steps⟩ secs = (k, pk.step.2, sk) by rw [HW.out, HF.out]; rfl)
            clear p3 o3
            go_wp2_with fail
            go_ret2
            rw [E.out, show wErr k m = 4 from if_neg (by omega)]
            exact ⟨rfl, HP3.out, HD3.out, HO3.out⟩
          · rw [hsb] at SP
            have HF := Lib.hid (wrs_cons_yes (i := i + k) (c := x) (cs := cs.drop (k + 1)) (s := sk) hsb)
            clear hsb
            refine SP.out.mono ?_
            rintro e w3 ⟨rfl, p3, o3⟩
            have HP3 := Lib.hid p3
            have D3 := HD2.out.only o3 (by simpa using HD2.out.ne1) (by simpa using HD2.out.ne2)
            have HZ3 := Lib.hid (HZ2.out.only o3 (by simp; omega))
            have HO3 := Lib.hid ((HON.out.trans (Only.of_below HB2.out)).trans (o3.mono (by simp)))
            have e1 : w3.cell? ⟨bd, 1, none⟩ = some (.slice (some ⟨bs, 0, none⟩) n n) := D3.c1
            have HD3 := Lib.hid D3
            have q0 : (0 : Int) ≤ (i : Int) + (k : Int) := by omega
            have q1 : (i : Int) + (k : Int) < (n : Int) := by omega
            have q2 : ((i : Int) + (k : Int)).toNat = i + k := by omega
            have q3 : IntKind.i64.wrap ((i : Int) + (k : Int)) = (i : Int) + (k : Int) := Go.IntWalk.i64_in _ (by omega)
            clear p3 o3 D3 c0 c1
            go_wp2_with fail
            refine wp_region_still_tail 10 (by kernel_rfl) (by kernel_rfl) ?_
            simp only [List.take_succ_cons, List.take_zero, List.drop_succ_cons, List.drop_zero]
            repeat still_step
            refine wpStill_load_blk rfl 37 _ rfl wr.heap.size 0 17 rfl 37 x.cells _ HZ3.out.drew Try.underlying37 rfl (by kernel_rfl) (by rw [hx17.out]; omega) x.cells (by rw [List.drop_zero, List.take_of_length_le (by rw [hx17.out]; omega)]) ?_
            simp only [Act.put, List.setIfInBounds_toArray, List.set_cons_zero, List.set_cons_succ]
            refine wpStill_value rfl _ (exec_built' rfl rfl (built_sec x HX.out.1)) ?_
            simp only [Act.put, List.setIfInBounds_toArray, List.set_cons_zero, List.set_cons_succ]
            repeat still_step
            clear q3
            refine wpStill_nil ?_
            refine wpList_store_blk rfl 63 _ _ rfl bs ((i + k) * 18) 18 rfl 63 (flat Sec.cells sk) (Sec.cells ⟨x, true⟩) rfl HD3.out.body.drew (by kernel_rfl) (Sec.len HX.out) (by rw [flat_len HD3.out.len18, HD3.out.len]; omega) (Sec.one _) ?_
            intro w4 z4 g4
            rw [flat_put HD3.out.len18 (Sec.len HX.out) (show i + k < sk.length from by have hh : sk.length = n := HD3.out.len; omega)] at z4
            have O4 := Lib.hid (Only.of_grown g4)
            have HD4 := Lib.hid ((HD3.out.drewN 1).set HX.out z4 O4.out)
            have HP4 := Lib.hid ((HP3.out.drewN 1).only O4.out (by simpa using Ne.symm HD3.out.ne2))
            have HO4 := Lib.hid (HO3.out.drew.trans (O4.out.mono (by simp)))
            have SO := step_ok HO.out (m - k) HST.out (by omega)
            clear z4 g4
            have E := Lib.hid (show wrs i cs ⟨false, left, steps⟩ secs = (k + 1 + (wrs (i + (k + 1)) (cs.drop (k + 1)) pk.step.2 (sk.set (i + k) ⟨x, true⟩)).1, (wrs (i + (k + 1)) (cs.drop (k + 1)) pk.step.2 (sk.set (i + k) ⟨x, true⟩)).2) by
              rw [HW.out, HF.out]
              show (k + (_ + 1), _) = (k + 1 + _, _)
              rw [Nat.add_right_comm k 1, Nat.add_assoc k _ 1]
              rfl)
            go_wp2_with fail
            exact ⟨⟨k + 1, by omega, by go_num, _, _, HP4.out, SO.1, by have := SO.2; rw [show m - (k + 1) = m - k - 1 from by omega]; exact this, HD4.out, HO4.out, E.out⟩, by simp [intOf]; omega⟩
        · obtain rfl : k = m := by omega
          have HP := Lib.hid hp
          have HD := Lib.hid hd
          have HON := Lib.hid hon
          have E := Lib.hid (show wrs i cs ⟨false, left, steps⟩ secs = (k, pk, sk) by rw [hw, List.drop_of_length_le (by rw [CL.out]; omega)]; rfl)
          clear hp ho hst hd hon hw c0 c1 c2 c3
          go_wp2_with fail
          go_ret2
          rw [E.out, show wErr k k = 0 from if_pos rfl]
          exact ⟨rfl, HP.out, HD.out, HON.out⟩
end
end Go.Proofs.Ytnjcepjhllgccaa.Disk
