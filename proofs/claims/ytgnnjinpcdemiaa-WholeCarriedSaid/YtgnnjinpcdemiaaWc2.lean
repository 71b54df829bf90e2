/-
  Helper texts, joined in build order; no statement is proved here.
-/
import Derived.StillTailTactics
import Derived.WalkSpells
import Derived.LaidEqlPtr
import Derived.Deep.QuietTactic
import Derived.BigQuiet
import Derived.Laws.CopyOwn
import Derived.Deep.RegionWith
import Derived.OwnWalk
import Derived.Deep.Cut
import Derived.Maps.AppendAt
import Derived.Lib.AppendZerosOnto
import Derived.Lib.Walk
import Derived.Lib.SliceRun
import Derived.Laws.BytesArg
import Derived.Test.YtgnnjinpcdemiaaWc1
/-
  Writing to a disk. Helper text; no statement is proved here.
-/
set_option linter.unusedVariables false
set_option maxRecDepth 20000
set_option linter.unusedSimpArgs false
namespace Go.Proofs.Ytgnnjinpcdemiaa.Disk
open Go.RowKit Go.Proofs.Ytgnnjinpcdemiaa.Base Go.Proofs.Ytgnnjinpcdemiaa.Laws Go.Proofs.Ytgnnjinpcdemiaa.Flat Go.Proofs.Ytgnnjinpcdemiaa.InvM
/-- cells that are written one by one from a place on, each by a step: how many; the power; the sectors -/
def wrs (i : Nat) : List Cel → Pow → List Sec → Nat × Pow × List Sec
  | [], p, s => (0, p, s)
  | c :: cs, p, s => if p.step.1 then ((wrs (i + 1) cs p.step.2 (s.set i ⟨c, true⟩)).1 + 1, (wrs (i + 1) cs p.step.2 (s.set i ⟨c, true⟩)).2) else (0, p.step.2, s)
theorem wrs_cons_yes {i : Nat} {c : Cel} {cs : List Cel} {p : Pow} {s : List Sec} (h : p.step.1 = true) : wrs i (c :: cs) p s = ((wrs (i + 1) cs p.step.2 (s.set i ⟨c, true⟩)).1 + 1, (wrs (i + 1) cs p.step.2 (s.set i ⟨c, true⟩)).2) := by rw [wrs, if_pos h]
theorem wrs_cons_no {i : Nat} {c : Cel} {cs : List Cel} {p : Pow} {s : List Sec} (h : p.step.1 = false) : wrs i (c :: cs) p s = (0, p.step.2, s) := by rw [wrs, if_neg (by rw [h]; decide)]
theorem wrs_le (cs : List Cel) : ∀ (i : Nat) (p : Pow) (s : List Sec), (wrs i cs p s).1 ≤ cs.length := by
  induction cs with
  | nil => intro i p s; exact Nat.le_refl _
  | cons c cs ih =>
    intro i p s
    unfold wrs
    split
    · have := ih (i + 1) p.step.2 (s.set i ⟨c, true⟩); simp only [List.length_cons]; omega
    · exact Nat.zero_le _
theorem step_ok {p : Pow} (h : p.Ok) (k : Nat) (hk : p.steps + k ≤ 4611686018427387904) (h1 : 1 ≤ k) : p.step.2.Ok ∧ p.step.2.steps + (k - 1) ≤ 4611686018427387904 := by
  obtain ⟨a, b⟩ := h
  unfold Pow.step Pow.Ok
  split
  · exact ⟨⟨a, b⟩, by simp only; omega⟩
  · split
    · exact ⟨⟨by simp only; omega, by simp only; omega⟩, by simp only; omega⟩
    · split
      · exact ⟨⟨by simp only; omega, by simp only; omega⟩, by simp only; omega⟩
      · exact ⟨⟨by simp only; omega, by simp only; omega⟩, by simp only; omega⟩
def Dsk.refuse (D : Dsk) (p : Pow) (ep : Nat) : Nat := if p.off then 4 else if D.dead then 5 else if ep < D.key then 6 else 0
theorem _root_.Go.Proofs.Ytgnnjinpcdemiaa.Flat.Sl.only {α : Type} {f : α → List Value} {m : Nat} {w w' : World} {a : Option Addr} {n cap : Nat} {l : List α} (h : Sl w f m a n cap l) {S : List Nat} (ho : Only S w w') (hn : ∀ b o, a = some ⟨b, o, none⟩ → n ≠ 0 → b ∉ S) : Sl w' f m a n cap l := by
  obtain ⟨h1, h2, h3, h5, h4⟩ := h
  refine ⟨h1, h2, h3, h5, ?_⟩
  by_cases hn0 : n = 0
  · exact .inl hn0
  rcases h4 with h4 | ⟨b, o, e, hc⟩
  · exact .inl h4
  · exact .inr ⟨b, o, e, fun j u hu => by
      have h0 := hc j u hu
      have hb : b < w.heap.size := block_lt_of_cell h0
      exact (World.cell?_of_block (w := w) (ho.block b hb (hn b o e hn0))).trans h0⟩
theorem _root_.Go.Proofs.Ytgnnjinpcdemiaa.Flat.Sl.lt {α : Type} {f : α → List Value} {m : Nat} {w : World} {a : Option Addr} {n cap : Nat} {l : List α} (h : Sl w f m a n cap l) (hm : 0 < m) {b o : Nat} (e : a = some ⟨b, o, none⟩) (hn : n ≠ 0) : b < w.heap.size := by
  obtain ⟨h1, h2, h3, h5, h4⟩ := h
  rcases h4 with h4 | ⟨b', o', e', hc⟩
  · exact absurd h4 hn
  · rw [e] at e'
    cases e'
    obtain ⟨u, hu⟩ : ∃ u, (flat f l)[0]? = some u := ⟨_, List.getElem?_eq_getElem (by rw [flat_len h5, h1]; exact Nat.mul_pos (by omega) hm)⟩
    exact block_lt_of_cell (hc 0 u hu)
section
variable {bd bm bs n : Nat} {D : Dsk} {w : World} {p : Pow}
set_option maxHeartbeats 400000 in
theorem write_no (h : DiskAt w bd bm bs n D) (hp : PowAt w bm p) (i : Nat) (a : Option Addr) (m c ep : Nat) (hi : i + m ≤ n) (hmc : m ≤ c) (hr : D.refuse p ep ≠ 0) : Calls Try.prog 34 #[.pointer (some ⟨bd, 0, none⟩), .int .i64 (i : Int), .slice a m c, .int .u32 (ep : Int)] w fun e w' => e = .returned (.tuple #[.int .i64 0, .int .i64 (D.refuse p ep : Nat)]) ∧ w = w' := by
  have hn := h.hi
  have ON := Lib.hid (on_any bm p w hp)
  have c0 := h.c0
  have c1 := h.c1
  have c2 := h.c2
  have c3 := h.c3
  have i0 : (0 : Int) ≤ (i : Int) := by omega
  have i1 : (i : Int) ≤ (n : Int) := by omega
  have i2 : (m : Int) ≤ (n : Int) - (i : Int) := by omega
  clear h hp
  obtain ⟨off, left, steps⟩ := p
  obtain ⟨key, dead, secs⟩ := D
  cases off with
  | true =>
    go_enter Try.func34, Try.ntmps34
    go_wp2_with (first | (go_at_call 49; refine ON.out.mono ?_; rintro e w' ⟨rfl, rfl⟩))
    go_ret2
    exact ⟨rfl, rfl⟩
  | false =>
    cases dead with
    | true =>
      go_enter Try.func34, Try.ntmps34
      go_wp2_with (first | (go_at_call 49; refine ON.out.mono ?_; rintro e w' ⟨rfl, rfl⟩))
      go_ret2
      exact ⟨rfl, rfl⟩
    | false =>
      have hlt : ep < key := Decidable.byContradiction fun hh => hr (by simp [Dsk.refuse, hh])
      have HE := Lib.hid (show Dsk.refuse ⟨key, false, secs⟩ ⟨false, left, steps⟩ ep = 6 by simp [Dsk.refuse, hlt])
      clear hr
      go_enter Try.func34, Try.ntmps34
      go_wp2_with (first | (go_at_call 49; refine ON.out.mono ?_; rintro e w' ⟨rfl, rfl⟩))
      go_ret2
      rw [HE.out]
      exact ⟨rfl, rfl⟩
/-- how a write ends that has written k cells of m -/
def wErr (k m : Nat) : Nat := if k = m then 0 else 4
theorem exec_built' {P : Program} {ρ : Operand → Value} {w : World} {o : Oper} {t : TypeId} {parts : Array (Nat × Operand)} {vs : List (Nat × Value)} {cells : Array Value} (ho : o.op = .build t parts) (hx : parts.toList.map (fun (i, x) => (i, ρ x)) = vs) (hb : P.built t vs = some cells) : (execOp ρ o).run P w = .ok (.value (.agg cells)) w := by
  unfold execOp
  simp only [ho]
  have hx' : parts.map (fun (i, x) => (i, ρ x)) = vs.toArray := by rw [← hx]; apply Array.ext'; simp
  rw [hx']
  simp only [Sem.run_bind, run_build w t vs.toArray cells hb, Result.andThen_ok, Sem.run_pure]
/-- what holds behind k cells -/
def WI (w : World) (bd bm bs n i key m : Nat) (cs : List Cel) (p0 : Pow) (s0 : List Sec) (k : Nat) (wr : World) : Prop :=
  ∃ pk sk, PowAt wr bm pk ∧ pk.Ok ∧ pk.steps + (m - k) ≤ 4611686018427387904 ∧ DiskAt wr bd bm bs n ⟨key, false, sk⟩ ∧ Only [bm, bs] w wr ∧ wrs i cs p0 s0 = (k + (wrs (i + k) (cs.drop k) pk sk).1, (wrs (i + k) (cs.drop k) pk sk).2)
theorem list16 {α : Type} : ∀ (l : List α), l.length = 16 → ∃ x0 x1 x2 x3 x4 x5 x6 x7 x8 x9 x10 x11 x12 x13 x14 x15 : α, l = [x0, x1, x2, x3, x4, x5, x6, x7, x8, x9, x10, x11, x12, x13, x14, x15]
  | [x0, x1, x2, x3, x4, x5, x6, x7, x8, x9, x10, x11, x12, x13, x14, x15], _ => ⟨x0, x1, x2, x3, x4, x5, x6, x7, x8, x9, x10, x11, x12, x13, x14, x15, rfl⟩
theorem built_sec (c : Cel) (h : c.d.length = 16) : Try.prog.built 135 [(0, .agg c.cells.toArray), (1, .bool true)] = some (Sec.cells ⟨c, true⟩).toArray := by
  obtain ⟨d, s⟩ := c
  obtain ⟨x0, x1, x2, x3, x4, x5, x6, x7, x8, x9, x10, x11, x12, x13, x14, x15, rfl⟩ := list16 d h
  kernel_rfl
set_option maxHeartbeats 1000000 in
theorem write_yes (h : DiskAt w bd bm bs n D) (hp : PowAt w bm p) (hpo : p.Ok) (i : Nat) (a : Option Addr) (m c ep : Nat) (cs : List Cel) (hs : Sl w Cel.cells 17 a m c cs) (hok : ∀ x ∈ cs, x.Ok) (hi : i + m ≤ n) (hst : p.steps + m ≤ 4611686018427387904) (hne : ∀ b o, a = some ⟨b, o, none⟩ → m ≠ 0 → b ∉ [bm, bs]) (hr : D.refuse p ep = 0) :
    Calls Try.prog 34 #[.pointer (some ⟨bd, 0, none⟩), .int .i64 (i : Int), .slice a m c, .int .u32 (ep : Int)] w fun e w' => e = .returned (.tuple #[.int .i64 ((wrs i cs p D.secs).1 : Nat), .int .i64 (wErr (wrs i cs p D.secs).1 m : Nat)]) ∧ PowAt w' bm (wrs i cs p D.secs).2.1 ∧ DiskAt w' bd bm bs n ⟨D.key, D.dead, (wrs i cs p D.secs).2.2⟩ ∧ Only [bm, bs] w w' := by
  have hn := h.hi
  have ON := Lib.hid (on_any bm p w hp)
  have c0 := h.c0
  have c1 := h.c1
  have c2 := h.c2
  have c3 := h.c3
  have i0 : (0 : Int) ≤ (i : Int) := by omega
  have i1 : (i : Int) ≤ (n : Int) := by omega
  have i2 : (m : Int) ≤ (n : Int) - (i : Int) := by omega
  have H0 := Lib.hid h
  have P0 := Lib.hid hp
  have O0 := Lib.hid hpo
  have S0 := Lib.hid hs
  have NE := Lib.hid hne
  have OK := Lib.hid hok
  have ST := Lib.hid hst
  have hml := hs.2.1
  have hcl := hs.1
  have CL := Lib.hid hcl
  clear h hp hpo hs hne hok hst hcl
  obtain ⟨off, left, steps⟩ := p
  obtain ⟨key, dead, secs⟩ := D
  cases off with
  | true => exact absurd hr (by simp [Dsk.refuse])
  | false =>
    cases dead with
    | true => exact absurd hr (by simp [Dsk.refuse])
    | false =>
      have hlt : ¬ ep < key := fun hh => by simp [Dsk.refuse, hh] at hr
      clear hr
      go_enter Try.func34, Try.ntmps34
      go_wp2_with (first | (go_at_call 49; refine ON.out.mono ?_; rintro e w' ⟨rfl, rfl⟩))
      go_loopw [61] (fun j wr => ∃ k : Nat, k ≤ m ∧ j = .int .i64 k ∧ WI w bd bm bs n i key m cs ⟨false, left, steps⟩ secs k wr) (fun j _ => m - (intOf j).toNat)
      case atStart => exact ⟨0, by omega, rfl, _, _, P0.out, O0.out, by have hh := ST.out; show steps + (m - 0) ≤ _; omega, H0.out, Only.refl _ _, by rw [Nat.zero_add]; rfl⟩
      case round =>
        obtain ⟨k, hk, rfl, pk, sk, hp, ho, hst, hd, hon, hw⟩ := hrel
        by_cases hkm : k < m
        · obtain ⟨x, hx⟩ : ∃ x, cs[k]? = some x := ⟨_, List.getElem?_eq_getElem (by rw [CL.out]; exact hkm)⟩
          have hdrop : cs.drop k = x :: cs.drop (k + 1) := by
            obtain ⟨hh, rfl⟩ := List.getElem?_eq_some_iff.1 hx
            exact List.drop_eq_getElem_cons hh
          have hxok := OK.out x (List.mem_of_getElem? hx)
          have hx17 := Lib.hid (Cel.len hxok)
          obtain ⟨b, o, rfl, hat⟩ := (S0.out.only hon NE.out).at hx
          have HAT := Lib.hid (show ∀ j v, x.cells[j]? = some v → wr.cell? ((⟨b, o + k * 17, none⟩ : Addr).add j) = some v from fun j v hv => by rw [Addr.add_lit]; exact hat j v hv)
          have HP := Lib.hid hp
          have HO := Lib.hid ho
          have HST := Lib.hid hst
          have HD := Lib.hid hd
          have HON := Lib.hid hon
          have HW := Lib.hid (hdrop ▸ hw)
          have HX := Lib.hid hxok
          have k0 : (0 : Int) ≤ (k : Int) := by omega
          have k1 : (k : Int) < (m : Int) := by omega
          clear hp ho hst hd hon hw hat hx hdrop hxok c0 c1 c2 c3
          go_wp2_with (first | (refine wpList_value_g rfl (.agg x.cells.toArray) (exec_load_from rfl rfl HAT.out Try.underlying92 rfl (by kernel_rfl) hx17.out) ?_) | (refine wpList_store_blk rfl 92 _ _ rfl wr.heap.size 0 17 rfl 92 Cel.zero.cells x.cells rfl (zblk wr) (by kernel_rfl) hx17.out (by decide) (Cel.one x) ?_; intro w2 z2 g2; rw [put_all _ _ (by rw [hx17.out]; rfl)] at z2; have B2 := below_grown ((Below.refl wr.heap.size wr).alloc (Nat.le_refl _) _) g2 (by simp only [size_alloc]; omega) (Nat.le_refl _); have D2 := HD.out.only (Only.of_below (S := []) B2) (by simp) (by simp); have P2 := HP.out.only (Only.of_below (S := []) B2) (by simp); have c0 := D2.c0; have c1 := D2.c1; have HD2 := Lib.hid D2; have HP2 := Lib.hid P2; have HB2 := Lib.hid B2; have HZ2 := Lib.hid z2; clear D2 P2 B2 z2 g2))
          have SP := Lib.hid (step_any bm pk w2 HP2.out HO.out)
          have hbd := HD2.out.head.lt
          have hbs := HD2.out.body.lt
          have hz2 := HZ2.out.lt
          have hwd := HD.out.head.lt
          have hws := HD.out.body.lt
          have hwm := HP.out.lt
          rcases hsb : pk.step.1 with _ | _
          · rw [hsb] at SP
            have HF := Lib.hid (wrs_cons_no (i := i + k) (c := x) (cs := cs.drop (k + 1)) (s := sk) hsb)
            clear hsb
            refine SP.out.mono ?_
            rintro e w3 ⟨rfl, p3, o3⟩
            have HP3 := Lib.hid p3
            have HD3 := Lib.hid (HD2.out.only o3 (by simpa using HD2.out.ne1) (by simpa using HD2.out.ne2))
            have HO3 := Lib.hid ((HON.out.trans (Only.of_below HB2.out)).trans (o3.mono (by simp)))
            have E := Lib.hid (show wrs i cs ⟨false, left, steps⟩ secs = (k, pk.step.2, sk) by rw [HW.out, HF.out]; rfl)
            clear p3 o3
            go_wp2_with fail
            go_ret2
            rw [E.out, show wErr k m = 4 from if_neg (by omega)]
            exact ⟨rfl, HP3.out, HD3.out, HO3.out⟩
          · rw [hsb] at SP
            have HF := Lib.hid (wrs_cons_yes (i := i + k) (c := x) (cs := cs.drop (k + 1)) (s := sk) hsb)
            clear hsb
            refine SP.out.mono ?_
            rintro e w3 ⟨rfl, p3, o3⟩
            have HP3 := Lib.hid p3
            have D3 := HD2.out.only o3 (by simpa using HD2.out.ne1) (by simpa using HD2.out.ne2)
            have HZ3 := Lib.hid (HZ2.out.only o3 (by simp; omega))
            have HO3 := Lib.hid ((HON.out.trans (Only.of_below HB2.out)).trans (o3.mono (by simp)))
            have e1 : w3.cell? ⟨bd, 1, none⟩ = some (.slice (some ⟨bs, 0, none⟩) n n) := D3.c1
            have HD3 := Lib.hid D3
            have q0 : (0 : Int) ≤ (i : Int) + (k : Int) := by omega
            have q1 : (i : Int) + (k : Int) < (n : Int) := by omega
            have q2 : ((i : Int) + (k : Int)).toNat = i + k := by omega
            have q3 : IntKind.i64.wrap ((i : Int) + (k : Int)) = (i : Int) + (k : Int) := Go.IntWalk.i64_in _ (by omega)
            clear p3 o3 D3 c0 c1
            go_wp2_with fail
            refine wp_region_still_tail 10 (by kernel_rfl) (by kernel_rfl) ?_
            simp only [List.take_succ_cons, List.take_zero, List.drop_succ_cons, List.drop_zero]
            repeat still_step
            refine wpStill_load_blk rfl 92 _ rfl wr.heap.size 0 17 rfl 92 x.cells _ HZ3.out.drew Try.underlying92 rfl (by kernel_rfl) (by rw [hx17.out]; omega) x.cells (by rw [List.drop_zero, List.take_of_length_le (by rw [hx17.out]; omega)]) ?_
            simp only [Act.put, List.setIfInBounds_toArray, List.set_cons_zero, List.set_cons_succ]
            refine wpStill_value rfl _ (exec_built' rfl rfl (built_sec x HX.out.1)) ?_
            simp only [Act.put, List.setIfInBounds_toArray, List.set_cons_zero, List.set_cons_succ]
            repeat still_step
            clear q3
            refine wpStill_nil ?_
            refine wpList_store_blk rfl 135 _ _ rfl bs ((i + k) * 18) 18 rfl 135 (flat Sec.cells sk) (Sec.cells ⟨x, true⟩) rfl HD3.out.body.drew (by kernel_rfl) (Sec.len HX.out) (by rw [flat_len HD3.out.len18, HD3.out.len]; omega) (Sec.one _) ?_
            intro w4 z4 g4
            rw [flat_put HD3.out.len18 (Sec.len HX.out) (show i + k < sk.length from by have hh : sk.length = n := HD3.out.len; omega)] at z4
            have O4 := Lib.hid (Only.of_grown g4)
            have HD4 := Lib.hid ((HD3.out.drewN 1).set HX.out z4 O4.out)
            have HP4 := Lib.hid ((HP3.out.drewN 1).only O4.out (by simpa using Ne.symm HD3.out.ne2))
            have HO4 := Lib.hid (HO3.out.drew.trans (O4.out.mono (by simp)))
            have SO := step_ok HO.out (m - k) HST.out (by omega)
            clear z4 g4
            have E := Lib.hid (show wrs i cs ⟨false, left, steps⟩ secs = (k + 1 + (wrs (i + (k + 1)) (cs.drop (k + 1)) pk.step.2 (sk.set (i + k) ⟨x, true⟩)).1, (wrs (i + (k + 1)) (cs.drop (k + 1)) pk.step.2 (sk.set (i + k) ⟨x, true⟩)).2) by
              rw [HW.out, HF.out]
              show (k + (_ + 1), _) = (k + 1 + _, _)
              rw [Nat.add_right_comm k 1, Nat.add_assoc k _ 1]
              rfl)
            go_wp2_with fail
            exact ⟨⟨k + 1, by omega, by go_num, _, _, HP4.out, SO.1, by have := SO.2; rw [show m - (k + 1) = m - k - 1 from by omega]; exact this, HD4.out, HO4.out, E.out⟩, by simp [intOf]; omega⟩
        · obtain rfl : k = m := by omega
          have HP := Lib.hid hp
          have HD := Lib.hid hd
          have HON := Lib.hid hon
          have E := Lib.hid (show wrs i cs ⟨false, left, steps⟩ secs = (k, pk, sk) by rw [hw, List.drop_of_length_le (by rw [CL.out]; omega)]; rfl)
          clear hp ho hst hd hon hw c0 c1 c2 c3
          go_wp2_with fail
          go_ret2
          rw [E.out, show wErr k k = 0 from if_pos rfl]
          exact ⟨rfl, HP.out, HD.out, HON.out⟩
end
end Go.Proofs.Ytgnnjinpcdemiaa.Disk
/-
  Fences, hurt and turned sectors. Helper text; no statement is proved here.
-/
set_option linter.unusedVariables false
set_option maxRecDepth 20000
set_option linter.unusedSimpArgs false
namespace Go.Proofs.Ytgnnjinpcdemiaa.Disk
open Go.RowKit Go.Proofs.Ytgnnjinpcdemiaa.Base Go.Proofs.Ytgnnjinpcdemiaa.Laws Go.Proofs.Ytgnnjinpcdemiaa.Flat Go.Proofs.Ytgnnjinpcdemiaa.InvM
theorem flat_set {α : Type} {f : α → List Value} {m : Nat} {l : List α} {i j : Nat} {x y : α} {v : Value} (h : ∀ x ∈ l, (f x).length = m) (hx : l[i]? = some x) (hj : j < m) (hy : f y = (f x).set j v) : (flat f l).set (i * m + j) v = flat f (l.set i y) := by
  obtain ⟨A, B, e, hA, e1, e2⟩ := flat_split h hx
  have hi := (List.getElem?_eq_some_iff.1 hx).1
  have hm := h x (List.mem_of_getElem? hx)
  have es : flat f (l.set i y) = A ++ ((f x).set j v ++ B) := by
    rw [List.set_eq_take_append_cons_drop, if_pos hi, flat_append, flat_cons, e1, e2, hy]
  rw [es, e, ← hA, List.set_append_right _ _ (by omega), show A.length + j - A.length = j from by omega, List.set_append_left _ _ (by omega)]
/-- the byte with just bit p set -/
def mask (p : Nat) : UInt8 := UInt8.ofNat (2 ^ (p % 8))
theorem mask_val (p : Nat) : (mask p).toNat = 2 ^ (p % 8) := by
  unfold mask
  rw [UInt8.toNat_ofNat']
  have h : (2 : Nat) ^ (p % 8) ≤ 2 ^ 7 := Nat.pow_le_pow_right (by decide) (by omega)
  have h2 : (2 : Nat) ^ 7 = 128 := by decide
  exact Nat.mod_eq_of_lt (by omega)
theorem xor8 (x y : UInt8) : bits BinOp.xor IntKind.u8 (x.toNat : Int) (y.toNat : Int) = ((x ^^^ y).toNat : Int) := by
  have := u8_xor_nat x.toNat y.toNat x.toNat_lt y.toNat_lt
  rw [this, UInt8.toNat_xor]
theorem mask_j (p : Nat) : (2 : Int) ^ (p % 8) % 256 = ((mask p).toNat : Int) := by
  rw [mask_val]
  have h : (2 : Nat) ^ (p % 8) ≤ 2 ^ 7 := Nat.pow_le_pow_right (by decide) (by omega)
  have h2 : (2 : Nat) ^ 7 = 128 := by decide
  have e : ((2 ^ (p % 8) : Nat) : Int) = (2 : Int) ^ (p % 8) := by simp
  rw [← e]
  generalize 2 ^ (p % 8) = q at *
  omega
/-- a cell with bit k turned -/
def Cel.turn (c : Cel) (k : Nat) : Cel := ⟨c.d.set (k / 8) (c.d.getD (k / 8) 0 ^^^ mask k), c.s⟩
theorem Cel.turn_ok {c : Cel} (h : c.Ok) (k : Nat) : (c.turn k).Ok := ⟨by simp [Cel.turn, h.1], h.2⟩
theorem Cel.turn_cells (c : Cel) {k : Nat} (h : k / 8 < c.d.length) : (c.turn k).cells = c.cells.set (k / 8) (u8 (c.d.getD (k / 8) 0 ^^^ mask k)) := by
  unfold Cel.cells Cel.turn
  rw [List.set_append_left _ _ (by rw [bv_len]; exact h)]
  simp [bv, List.map_set]
section
variable {bd bm bs n : Nat} {D : Dsk} {w : World} {p : Pow}
theorem DiskAt.setKey (h : DiskAt w bd bm bs n D) {k : Nat} (hk : k < 4294967296) : DiskAt (w.setCell ⟨bd, 2, none⟩ (.int .u32 (k : Int))) bd bm bs n ⟨k, D.dead, D.secs⟩ :=
  { h with
    head := h.head.setCell 2 _
    body := h.body.setCell_far h.ne3 _ _
    key := hk }
/-- a new variable that a cell is stored in -/
theorem store_cel {ops : Array Oper} {rest : List Oper} {o : Oper} {a : Act} {Q : Exit → Act → World → Prop} (hgd : o.guard = none) (x y : Operand) (ho : o.op = .store 92 x y) (c : Cel) (hc : c.Ok)
    (hx : a.eval x = .pointer (some ⟨w.heap.size, 0, none⟩)) (hy : a.eval y = .agg c.cells.toArray)
    (h : ∀ w', Blk w' w.heap.size c.cells 92 → Below w.heap.size w w' → wpList Try.prog ops Q rest (a.put o.dst undef) w') : wpList Try.prog ops Q (o :: rest) a (w.alloc (.cells #[.int .u8 0, .int .u8 0, .int .u8 0, .int .u8 0, .int .u8 0, .int .u8 0, .int .u8 0, .int .u8 0, .int .u8 0, .int .u8 0, .int .u8 0, .int .u8 0, .int .u8 0, .int .u8 0, .int .u8 0, .int .u8 0, .int .u32 0] 92)) := by
  refine wpList_store_blk hgd 92 x y ho w.heap.size 0 17 hx 92 Cel.zero.cells c.cells hy (zblk w) (by kernel_rfl) (Cel.len hc) (by decide) (Cel.one c) ?_
  intro w2 z2 g2
  rw [put_all _ c.cells (by rw [Cel.len hc]; rfl)] at z2
  exact h w2 z2 (below_grown ((Below.refl w.heap.size w).alloc (Nat.le_refl _) _) g2 (by simp only [size_alloc]; omega) (Nat.le_refl _))
theorem write_at (h : DiskAt w bd bm bs n D) (hp : PowAt w bm p) (hpo : p.Ok) (i : Nat) (iv : Int) (hiv : iv = (i : Int)) (a : Option Addr) (m c ep : Nat) (ev : Int) (hev : ev = (ep : Int)) (cs : List Cel) (hs : Sl w Cel.cells 17 a m c cs) (hok : ∀ x ∈ cs, x.Ok) (hi : i + m ≤ n) (hst : p.steps + m ≤ 4611686018427387904) (hne : ∀ b o, a = some ⟨b, o, none⟩ → m ≠ 0 → b ∉ [bm, bs]) (hr : D.refuse p ep = 0)
    (k : Nat) (p' : Pow) (ss : List Sec) (hw : wrs i cs p D.secs = (k, p', ss)) (kv fv : Int) (hk : kv = k) (hf : fv = (wErr k m : Nat)) :
    Calls Try.prog 34 #[.pointer (some ⟨bd, 0, none⟩), .int .i64 iv, .slice a m c, .int .u32 ev] w fun e w' => e = .returned (.tuple #[.int .i64 kv, .int .i64 fv]) ∧ PowAt w' bm p' ∧ DiskAt w' bd bm bs n ⟨D.key, D.dead, ss⟩ ∧ Only [bm, bs] w w' := by
  subst hiv
  subst hev
  subst hk
  subst hf
  have := write_yes h hp hpo i a m c ep cs hs hok hi hst hne hr
  rw [hw] at this
  exact this
theorem read_at (h : DiskAt w bd bm bs n D) (hp : PowAt w bm p) (i : Nat) (iv : Int) (hiv : iv = (i : Int)) (hi : i < n) (c : Cel) (f : Nat) (hr : D.read p i = (c, f)) (fv : Int) (hf : fv = f) : Calls Try.prog 56 #[.pointer (some ⟨bd, 0, none⟩), .int .i64 iv] w fun e w' => e = .returned (.tuple #[.agg c.cells.toArray, .int .i64 fv]) ∧ Below w.heap.size w w' := by
  subst hiv
  subst hf
  have := read_any h hp i hi
  rw [hr] at this
  exact this
end
end Go.Proofs.Ytgnnjinpcdemiaa.Disk
/-
  Sets of disks; stripe.Check by contract. Helper text; no statement is proved here.
-/
set_option linter.unusedVariables false
set_option maxRecDepth 20000
set_option linter.unusedSimpArgs false
namespace Go.Proofs.Ytgnnjinpcdemiaa.Str
open Go.RowKit Go.Proofs.Ytgnnjinpcdemiaa.Base Go.Proofs.Ytgnnjinpcdemiaa.Laws Go.Proofs.Ytgnnjinpcdemiaa.Disk Go.Proofs.Ytgnnjinpcdemiaa.Lay
/-- a disk of a set: its block, the block of its sectors, what it holds -/
abbrev Dk := Nat × Nat × Dsk
/-- a set of disks on one power: the block of the pointers, the disks -/
structure SetAt (w : World) (gd bm n : Nat) (ds : List Dk) : Prop where
  ptr : ∀ (i : Nat) (x : Dk), ds[i]? = some x → w.cell? ⟨gd, i, none⟩ = some (.pointer (some ⟨x.1, 0, none⟩))
  disk : ∀ (i : Nat) (x : Dk), ds[i]? = some x → DiskAt w x.1 bm x.2.1 n x.2.2
  far : ∀ (i j : Nat) (x y : Dk), i ≠ j → ds[i]? = some x → ds[j]? = some y → x.1 ≠ y.1 ∧ x.2.1 ≠ y.2.1 ∧ x.1 ≠ y.2.1
  gm : gd ≠ bm
  gs : ∀ x ∈ ds, gd ≠ x.2.1
theorem ptr_other {w : World} {b1 b2 : Nat} {D1 D2 : List Value} {t1 t2 : TypeId} (h1 : Blk w b1 D1 t1) (h2 : Blk w b2 D2 t2) (hne : b1 ≠ b2) : (binOp .eql 87 (.pointer (some ⟨b1, 0, none⟩)) (.pointer (some ⟨b2, 0, none⟩))).run Try.prog w = .ok (.bool false) w := by
  have hz : (Try.prog.info? 133).map (·.size) = some 4 := by kernel_rfl
  obtain ⟨j, hj, hjs⟩ := Option.map_eq_some_iff.1 hz
  exact run_eql_ptr_other w Try.underlying87 hj (by rw [hjs]; decide) (fun e => hne (by injection e)) h1 h2
/-- a set as a value -/
def setV (d c s : Int) (gd k cap : Nat) : List Value := [.int .i64 d, .int .i64 c, .int .i64 s, .slice (some ⟨gd, 0, none⟩) k cap]
theorem SetAt.below {w w' : World} {gd bm n : Nat} {ds : List Dk} (h : SetAt w gd bm n ds) {B : Nat} (hb : Below B w w') (hB : w.heap.size ≤ B) : SetAt w' gd bm n ds where
  ptr i x hx := by
    have := h.ptr i x hx
    rw [hb.cell (Nat.lt_of_lt_of_le (block_lt_of_cell this) hB)]
    exact this
  disk i x hx := by
    have hd := h.disk i x hx
    exact { hd with head := hd.head.below hb (Nat.lt_of_lt_of_le hd.head.lt hB), body := hd.body.below hb (Nat.lt_of_lt_of_le hd.body.lt hB) }
  far := h.far
  gm := h.gm
  gs := h.gs
set_option maxHeartbeats 2000000 in
theorem check_any {d c s : Int} (h : Sound d c s) {gd bm n cap : Nat} {ds : List Dk} {w : World} (S : SetAt w gd bm n ds) (hn : (n : Int) = c * s) (hd : (ds.length : Int) = d) (hcap : ds.length ≤ cap) :
    Calls Try.prog 37 #[.agg (setV d c s gd ds.length cap).toArray] w fun e w' => e = .returned (.int .i64 0) ∧ Below w.heap.size w w' := by
  have HZ := Lib.hid (size_yes h)
  rw [← hn] at HZ
  obtain ⟨k, hk⟩ : ∃ k, k = ds.length := ⟨_, rfl⟩
  rw [← hk] at hd hcap ⊢
  subst hd
  have k1 : k ≤ 32 := by have := h.1; omega
  have k0 : 4 ≤ k := by have := h.1; omega
  have HS := Lib.hid S
  have HK := Lib.hid hk
  clear S hk hn h
  unfold setV
  go_enter Try.func37, Try.ntmps37
  go_upto_region 2 with (first | (go_at_call 32; go_must (refine (HZ.out _).mono ?_; rintro e w1 ⟨rfl, hb1⟩; have B1 := Lib.hid hb1; clear hb1)))
  have b0 : Blk (w.alloc (.cells #[.int .i64 (k : Int), .int .i64 c, .int .i64 s, .slice (some ⟨gd, 0, none⟩) k cap] 60)) w.heap.size [.int .i64 (k : Int), .int .i64 c, .int .i64 s, .slice (some ⟨gd, 0, none⟩) k cap] 60 := blk_at rfl rfl
  have b1 := b0.below B1.out b0.lt
  have c0 := b1.cell 0
  have c3 := b1.cell 3
  have f3 := b1.frozen 3
  simp only [List.getElem?_cons_zero, List.getElem?_cons_succ] at c0 c3
  have L1 := Lib.hid ((((Below.refl w.heap.size w).alloc (Nat.le_refl _) _).trans (B1.out.mono (by simp))) : Below w.heap.size w w1)
  have S1 := Lib.hid (HS.out.below L1.out (Nat.le_refl _))
  clear b0 b1 B1
  go_wp2_with fail
  go_loopw [29] (fun i wr => ∃ q : Nat, q ≤ k ∧ i = .int .i64 q ∧ wr = w1) (fun i _ => k - (intOf i).toNat)
  case atStart => exact ⟨0, by omega, rfl, rfl⟩
  case round =>
    obtain ⟨q, hq, rfl, rfl⟩ := hrel
    by_cases hqk : q < k
    · obtain ⟨x, hx⟩ : ∃ x, ds[q]? = some x := ⟨_, List.getElem?_eq_getElem (by rw [← HK.out]; exact hqk)⟩
      have hp := S1.out.ptr q x hx
      have DZ := Lib.hid (size_any (S1.out.disk q x hx))
      have HD := Lib.hid (S1.out.disk q x hx).head
      have FAR := Lib.hid (fun (j : Nat) (y : Dk) (hj : j < q) (hy : ds[j]? = some y) => (S1.out.far j q y x (by omega) hy hx).1)
      obtain ⟨bd, bs, D⟩ := x
      clear hx
      go_wp2_with (first | (go_at_call 43; go_must (refine DZ.out.mono ?_; rintro e w2 ⟨rfl, rfl⟩)))
      go_loopw [47] (fun i wr' => ∃ j : Nat, j ≤ q ∧ i = .int .i64 j ∧ wr' = wr) (fun i _ => q - (intOf i).toNat)
      case atStart => exact ⟨0, by omega, rfl, rfl⟩
      case round =>
        obtain ⟨j, hj, rfl, rfl⟩ := hrel
        by_cases hjq : j < q
        · obtain ⟨y, hy⟩ : ∃ y, ds[j]? = some y := ⟨_, List.getElem?_eq_getElem (by rw [← HK.out]; omega)⟩
          have hpy := S1.out.ptr j y hy
          have hne := FAR.out j y hjq hy
          have EQ := Lib.hid (ptr_other (S1.out.disk j y hy).head HD.out hne)
          obtain ⟨bd2, bs2, D2⟩ := y
          clear hy hne
          go_wp2_with fail
          rw [EQ.out]
          go_wp2_with fail
          go_roundw
          case rel => exact ⟨j + 1, by omega, by go_num, trivial⟩
          case measure => simp [intOf]; omega
        · obtain rfl : j = q := by omega
          go_wp2_with fail
          go_roundw
          case rel => exact ⟨j + 1, by omega, by go_num, trivial⟩
          case measure => simp [intOf]; omega
    · obtain rfl : q = k := by omega
      go_wp2_with fail
      go_ret
      exact ⟨rfl, L1.out⟩
end Go.Proofs.Ytgnnjinpcdemiaa.Str
/-
  The sums' functions by contract: step, Crc, More of the program. Helper text; no statement is proved here.
-/
set_option linter.unusedVariables false
set_option maxRecDepth 20000
namespace Go.Proofs.Ytgnnjinpcdemiaa.SumW
open Go.RowKit Go.Proofs.Ytgnnjinpcdemiaa.Base
set_option maxHeartbeats 400000 in
theorem step_any (c : Nat) (hc : c < 4294967296) (w : World) : Calls Try.prog 71 #[.int .u32 (c : Int)] w fun e w' => e = .returned (.int .u32 (Crc.fN 8 c : Nat)) ∧ w = w' := by
  go_enter Try.func71, Try.ntmps71
  go_wp2
  go_loop [0, 3] (fun v i => ∃ k : Nat, k ≤ 8 ∧ i = .int .i64 k ∧ v = .int .u32 (Crc.fN k c : Nat)) (fun _ i => 8 - (intOf i).toNat)
  case atStart => exact ⟨0, by omega, rfl, rfl⟩
  case round =>
    obtain ⟨k, hk, rfl, rfl⟩ := hrel
    have hlt := Crc.fN_lt k c hc
    by_cases hk8 : k < 8
    · go_wp2
      all_goals
        go_round
        case rel => exact ⟨k + 1, by omega, by go_num, by rw [Crc.fN_succ']; first | rw [f_odd _ hlt (by assumption)] | rw [f_even _ hlt (by assumption)]⟩
        case measure => simp [intOf]; omega
    · go_wp2
      go_ret
      obtain rfl : k = 8 := by omega
      exact ⟨rfl, rfl⟩
set_option maxHeartbeats 400000 in
theorem more_any (c : Nat) (hc : c < 4294967296) (a : Option Addr) (len cap : Nat) (l : List UInt8) (w : World) (h : Bts w a len cap l) :
    Calls Try.prog 58 #[.int .u32 (c : Int), .slice a len cap] w fun e w' => e = .returned (.int .u32 (Crc.more c l : Nat)) ∧ w = w' := by
  obtain ⟨hl, hlc, hm, ha⟩ := h
  unfold maxLen at hm
  have hnot := not32 c hc
  have hs : ¬ IntKind.u32.signed = true := by decide
  have hr0 := Crc.xor_lt Crc.ones c (by decide) hc
  rcases ha with h0 | ⟨b, o, rfl, hcell⟩
  · subst h0
    obtain rfl : l = [] := List.eq_nil_of_length_eq_zero hl
    have hnot2 := not32 (Crc.ones ^^^ c) hr0
    go_enter Try.func58, Try.ntmps58
    go_wp2
    refine wp_loop_rounds 1 ?_
    rw [rounds_succ]
    go_wp2
    go_ret
    exact ⟨rfl, rfl⟩
  · go_enter Try.func58, Try.ntmps58
    go_wp2
    go_loop [5, 12] (fun v i => ∃ k : Nat, k ≤ len ∧ i = .int .i64 k ∧ v = .int .u32 (Crc.reg (Crc.ones ^^^ c) (l.take k) : Nat)) (fun _ i => len - (intOf i).toNat)
    case atStart => exact ⟨0, by omega, rfl, rfl⟩
    case round =>
      obtain ⟨k, hk, rfl, rfl⟩ := hrel
      have hlt := Crc.reg_lt (l.take k) _ hr0
      by_cases hkl : k < len
      · obtain ⟨u, hu⟩ : ∃ u, l[k]? = some u := ⟨l[k]'(by omega), List.getElem?_eq_getElem (by omega)⟩
        have hc1 := hcell k u hu
        unfold u8 at hc1
        have hub := u.toNat_lt
        have hx := xor32 _ u.toNat hlt (Crc.byte_lt u)
        have hstep := fun w => step_any _ (Crc.xor_lt _ _ hlt (Crc.byte_lt u)) w
        have HS := Lib.hid hstep
        have HT := Lib.hid (take_snoc l k u hu)
        clear hstep hu hcell
        go_wp2_with (go_at_call 71; refine (HS.out _).mono ?_; rintro e w' ⟨rfl, rfl⟩)
        go_round
        case rel => exact ⟨k + 1, by omega, by go_num, by rw [HT.out, Crc.reg_append]; rfl⟩
        case measure => simp [intOf]; omega
      · have hnot2 := not32 _ hlt
        go_wp2
        go_ret
        obtain rfl : k = len := by omega
        exact ⟨by rw [List.take_of_length_le (by omega)] ; rfl, rfl⟩
theorem crc_any (a : Option Addr) (len cap : Nat) (l : List UInt8) (w : World) (h : Bts w a len cap l) :
    Calls Try.prog 45 #[.slice a len cap] w fun e w' => e = .returned (.int .u32 (Crc.crc l : Nat)) ∧ w = w' := by
  have H := Lib.hid (more_any 0 (by decide) a len cap l w h)
  clear h
  go_enter Try.func45, Try.ntmps45
  go_wp2_with (go_at_call 58; refine H.out.mono ?_; rintro e w' ⟨rfl, rfl⟩)
  go_ret
  exact ⟨rfl, rfl⟩
end Go.Proofs.Ytgnnjinpcdemiaa.SumW
/-
  Seal and Good by contract. Helper text; no statement is proved here.
-/
set_option linter.unusedVariables false
set_option maxRecDepth 20000
namespace Go.Proofs.Ytgnnjinpcdemiaa.Seal
open Go.RowKit Go.Proofs.Ytgnnjinpcdemiaa.Base Go.Proofs.Ytgnnjinpcdemiaa.Laws
/-- the k-th byte of a place, the highest first -/
def placeB (at_ : Int) (k : Nat) : UInt8 := UInt8.ofNat ((at_ / 2 ^ (56 - 8 * k)) % 256).toNat
def place (at_ : Int) : List UInt8 := (List.range 8).map (placeB at_)
theorem placeB_val (a : Int) (k : Nat) : u8 (placeB a k) = .int .u8 (a / 2 ^ (56 - 8 * k) % 256) := by
  unfold u8 placeB
  rw [UInt8.toNat_ofNat']
  congr 1
  omega
theorem place_len (a : Int) : (place a).length = 8 := by simp [place]
theorem place_get (a : Int) (k : Nat) (hk : k < 8) : (place a)[k]? = some (placeB a k) := by simp [place, hk]
/-- the first k bytes laid, noughts behind -/
def laidTo (a : Int) (k : Nat) : List Value := bv ((place a).take k) ++ List.replicate (24 - k) (.int .u8 0)
theorem laid_set (a : Int) (k : Nat) (hk : k < 8) : (laidTo a k).set k (u8 (placeB a k)) = laidTo a (k + 1) := by
  unfold laidTo
  rw [take_snoc _ _ _ (place_get a k hk), bv_append, show 24 - k = (24 - (k + 1)) + 1 from by omega, List.replicate_succ,
    set_mid _ _ _ _ _ (by rw [bv_len, List.length_take, place_len]; omega)]
  simp [bv]
theorem laid_get (a : Int) (k : Nat) (hk : k < 8) : (laidTo a k)[k]? = some (.int .u8 0) := by
  unfold laidTo
  rw [List.getElem?_append_right (by rw [bv_len, List.length_take, place_len]; omega), bv_len, List.length_take, place_len, show k - min k 8 = 0 from by omega, show 24 - k = (24 - (k + 1)) + 1 from by omega]
  rfl
def zeros (n : Nat) : List Value := List.replicate n (.int .u8 0)
theorem laid_copy (a : Int) (l : List UInt8) (hl : l.length = 16) : put (laidTo a 8) 8 (bv l) = bv (place a ++ l) := by
  have h8 : (place a).take 8 = place a := List.take_of_length_le (by rw [place_len]; omega)
  unfold put laidTo
  rw [h8, bv_append, bv_len, hl, List.take_append, List.drop_append]
  simp [bv_len, place_len]
  rw [List.take_of_length_le (by rw [bv_len, place_len]; omega), List.drop_of_length_le (by rw [bv_len, place_len]; omega), List.append_nil]
theorem laid_len (a : Int) : (laidTo a 8).length = 24 := by
  unfold laidTo
  rw [List.length_append, bv_len, List.length_take, place_len, List.length_replicate]
  omega
theorem bv_one (l : List UInt8) : ∀ v ∈ bv l, v.oneCell' = true := fun v hv => by
  unfold bv at hv
  obtain ⟨x, _, rfl⟩ := List.mem_map.1 hv
  rfl
/-- a cell's cells -/
def cellV (l : List UInt8) (n : Nat) : List Value := bv l ++ [Value.int .u32 (n : Int)]
theorem cellV_len (l : List UInt8) (hl : l.length = 16) (n : Nat) : (cellV l n).length = 17 := by simp [cellV, bv_len, hl]
theorem cellV_one (l : List UInt8) (n : Nat) : ∀ v ∈ cellV l n, v.oneCell' = true := fun v hv => by
  unfold cellV at hv
  rcases List.mem_append.1 hv with h | h
  · exact bv_one l v h
  · simp at h; subst h; rfl
theorem zeros_cell : (Try.prog.info? 92).map (·.zero) = some (some (.agg (zeros 16 ++ [Value.int .u32 0]).toArray)) := by kernel_rfl
theorem built_cell (l : List UInt8) (hl : l.length = 16) (n : Int) : Try.prog.built 92 [(0, .agg (bv l).toArray), (1, .int .u32 n)] = some (bv l ++ [Value.int .u32 n]).toArray := by
  have hz : ∃ it, Try.prog.info? 92 = some it ∧ it.zero = some (.agg (zeros 16 ++ [Value.int .u32 0]).toArray) := by
    obtain ⟨it, h1, h2⟩ := Option.map_eq_some_iff.1 zeros_cell
    exact ⟨it, h1, h2⟩
  obtain ⟨it, h1, h2⟩ := hz
  unfold Program.built
  rw [h1, Try.underlying92]
  simp only [h2]
  have hp : ((#[{ name := "Data", type := 33, offset := 0, embedded := false, tag := "", pkgPath := "", byteOffset := 0 }, { name := "Sum", type := 49, offset := 16, embedded := false, tag := "", pkgPath := "", byteOffset := 16 }] : Array Field).toList.mapM (fun f => (Try.prog.info? f.type).map fun i => (f.offset, i.size))) = some [(0, 16), (16, 1)] := by kernel_rfl
  rw [hp]
  simp only [Value.cells]
  rw [fill_cons _ (zeros 16 ++ [Value.int .u32 0]) (bv l) 0 0 (.agg (bv l).toArray) _ (by rw [bv_len, hl]; rfl) rfl (by rw [bv_len, hl]; decide)]
  have e1 : put (zeros 16 ++ [Value.int .u32 0]) 0 (bv l) = bv l ++ [Value.int .u32 0] := by
    unfold put
    rw [bv_len, hl]
    rfl
  rw [e1, fill_cons _ _ [Value.int .u32 n] 1 16 (.int .u32 n) [] rfl rfl (by simp [bv_len, hl])]
  have e2 : put (bv l ++ [Value.int .u32 0]) 16 [Value.int .u32 n] = bv l ++ [Value.int .u32 n] := by
    unfold put
    rw [List.take_append, List.take_of_length_le (by rw [bv_len]; omega), List.drop_append, List.drop_of_length_le (by rw [bv_len]; simp; omega)]
    simp [bv_len, hl]
  rw [e2]
  rfl
set_option maxHeartbeats 1000000 in
theorem seal_any (at_ : Int) (h0 : -9223372036854775808 ≤ at_) (h1 : at_ ≤ 9223372036854775807) (l : List UInt8) (hl : l.length = 16) (w : World) :
    Calls Try.prog 35 #[.int .i64 at_, .agg (bv l).toArray] w fun e w' => e = .returned (.agg (cellV l (Crc.crc (place at_ ++ l))).toArray) ∧ Below w.heap.size w w' := by
  go_enter Try.func35, Try.ntmps35
  go_wp2
  go_loopw [7] (fun i wr => ∃ k : Nat, k ≤ 8 ∧ i = .int .i64 k ∧ Blk wr w.heap.size (bv l) 33 ∧ Blk wr (w.heap.size + 1) (zeros 16 ++ [Value.int .u32 0]) 92 ∧ Blk wr (w.heap.size + 1 + 1) (laidTo at_ k) 136 ∧ Below w.heap.size w wr) (fun i _ => 8 - (intOf i).toNat)
  case atStart =>
    exact ⟨0, by omega, rfl, ((blk_at rfl rfl).alloc _).alloc _, (blk_at (by simp only [size_alloc]) rfl).alloc _, blk_at (by simp only [size_alloc]) rfl,
      (((Below.refl _ _).alloc (Nat.le_refl _) _).alloc (by simp only [size_alloc]; omega) _).alloc (by simp only [size_alloc]; omega) _⟩
  case round =>
    obtain ⟨k, hk, rfl, B1, B2, B3, hb⟩ := hrel
    have HB1 := Lib.hid B1
    have HB2 := Lib.hid B2
    have HB3 := Lib.hid B3
    have HB := Lib.hid hb
    clear B1 B2 B3 hb
    by_cases hk8 : k < 8
    · have hc : wr.cell? ⟨w.heap.size + 1 + 1, k, none⟩ = some (.int .u8 0) := by rw [HB3.out.cell, laid_get at_ k hk8]
      have hf := HB3.out.frozen k
      have HP := Lib.hid (placeB_val at_ k)
      go_wp2
      go_roundw
      case rel =>
        rw [← HP.out]
        exact ⟨k + 1, by omega, by go_num, HB1.out.setCell_far (by omega) _ _, HB2.out.setCell_far (by omega) _ _, by rw [← laid_set at_ k hk8]; exact HB3.out.setCell k _, HB.out.setCell (by simp; omega) _⟩
      case measure => simp [intOf]; omega
    · obtain rfl : k = 8 := by omega
      go_wp2
      go_still_tail 2, (by kernel_rfl)
      refine wpList_copy_blk rfl _ _ 27 27 rfl 5 Try.underlying27 (by kernel_rfl) (w.heap.size + 1 + 1) 8 16 16 ⟨w.heap.size, 0, none⟩ 16 16 rfl rfl (laidTo at_ 8) 136 HB3.out.drew (bv l) ?n ?src ?fit ?one ?_
      case n => rw [bv_len, hl]; rfl
      case src =>
        intro j v hv
        rw [Addr.add_lit, Nat.zero_add]
        exact (HB1.out.drew.cell j).trans hv
      case fit => rw [bv_len, hl, laid_len]; omega
      case one => exact bv_one l
      intro w2 b3 hg2
      rw [laid_copy at_ l hl] at b3
      have hsz : w.heap.size + 1 + 1 < wr.drew.heap.size := HB3.out.lt
      have HB1' := Lib.hid (HB1.out.drew.grown hg2 (by omega))
      have HB2' := Lib.hid (HB2.out.drew.grown hg2 (by omega))
      have HB' := Lib.hid (below_grown HB.out.drew hg2 (by omega) (by omega))
      have HC := Lib.hid (SumW.crc_any _ 24 24 _ _ (b3.drew.bts (by rw [List.length_append, place_len, hl]) (by omega) (by decide)))
      clear b3 hg2 hsz
      go_wp2
      refine wp_region_still_tail 3 (by kernel_rfl) (by kernel_rfl) ?_
      simp only [List.take_succ_cons, List.take_zero, List.drop_succ_cons, List.drop_zero]
      refine wpStill_load_blk rfl 33 _ rfl w.heap.size 0 16 rfl 33 (bv l) _ HB1'.out.drew Try.underlying33 rfl (by kernel_rfl) (by rw [bv_len, hl]; omega) (bv l) (by rw [List.drop_zero, List.take_of_length_le (by rw [bv_len, hl]; omega)]) ?_
      still_step
      still_call (HC.out.mono fun e w' ⟨a, b⟩ => ⟨a, b.symm⟩)
      refine wpStill_nil ?_
      refine wpList_builds rfl 92 _ rfl [(0, .agg (bv l).toArray), (1, .int .u32 (Crc.crc (place at_ ++ l) : Nat))] rfl _ (built_cell l hl _) ?_
      refine wpList_store_blk rfl 92 _ _ rfl (w.heap.size + 1) 0 17 rfl 92 _ (cellV l (Crc.crc (place at_ ++ l))) rfl HB2'.out.drew (by kernel_rfl) (cellV_len l hl _) (by decide) (cellV_one l _) ?_
      intro w3 b4 hg3
      rw [put_all _ _ (by rw [cellV_len l hl]; rfl)] at b4
      have hsz : w.heap.size + 1 < w2.drew.heap.size := HB2'.out.lt
      have HB4 := Lib.hid b4
      have HB5 := Lib.hid (below_grown HB'.out.drew hg3 (by omega) (by omega))
      clear b4 hg3
      go_wp2
      exact bodyPost_ret (v := .agg (cellV l (Crc.crc (place at_ ++ l))).toArray) (results_cell_row rfl _ _ (w.heap.size + 1) 92 _ (0, 0) _ rfl HB4.out Try.underlying92 rfl (by rw [List.size_toArray, cellV_len l hl]; kernel_rfl)) rfl ⟨rfl, HB5.out⟩
end Go.Proofs.Ytgnnjinpcdemiaa.Seal
/-
  Good by contract. Helper text; no statement is proved here.
-/
set_option linter.unusedVariables false
set_option maxRecDepth 20000
set_option linter.unusedSimpArgs false
namespace Go.Proofs.Ytgnnjinpcdemiaa.Good
open Go.RowKit Go.Proofs.Ytgnnjinpcdemiaa.Base Go.Proofs.Ytgnnjinpcdemiaa.Laws Go.Proofs.Ytgnnjinpcdemiaa.Seal Go.Proofs.Ytgnnjinpcdemiaa.Inv
/-- a cell's numbers -/
def cellP (l : List UInt8) (n : Nat) : List (IntKind × Int) := l.map (fun b => (IntKind.u8, (b.toNat : Int))) ++ [(IntKind.u32, (n : Int))]
theorem cellP_val (l : List UInt8) (n : Nat) : (cellP l n).map Eq.val = cellV l n := by
  simp [cellP, cellV, bv, u8, Eq.val, Function.comp_def]
def cellK : List IntKind := List.replicate 16 .u8 ++ [.u32]
theorem cellK_is : Eq.kinds Try.prog 6 92 = some cellK := by kernel_rfl
theorem cellP_k (l : List UInt8) (hl : l.length = 16) (n : Nat) : (cellP l n).map (·.1) = cellK := by
  unfold cellP cellK
  rw [List.map_append, List.map_map, ← hl]
  simp [Function.comp_def, List.map_const']
theorem wf_byte (b : UInt8) : (Lit.int .u8 (b.toNat : Int)).wf = true := by
  have := b.toNat_lt
  simp only [Lit.wf, IntKind.min, IntKind.max, IntKind.signed, IntKind.bits, Bool.and_eq_true, decide_eq_true_eq]
  simp
  omega
theorem wf_u32 (n : Nat) (h : n < 4294967296) : (Lit.int .u32 (n : Int)).wf = true := by
  simp only [Lit.wf, IntKind.min, IntKind.max, IntKind.signed, IntKind.bits, Bool.and_eq_true, decide_eq_true_eq]
  simp
  omega
theorem cellP_wf (l : List UInt8) (n : Nat) (hn : n < 4294967296) : ∀ p ∈ cellP l n, (Eq.lit p).wf = true := by
  intro p hp
  unfold cellP at hp
  rcases List.mem_append.1 hp with h | h
  · obtain ⟨b, _, rfl⟩ := List.mem_map.1 h
    exact wf_byte b
  · simp at h; subst h; exact wf_u32 n hn
theorem cellP_inj {l l' : List UInt8} {n n' : Nat} (hl : l.length = l'.length) : cellP l n = cellP l' n' ↔ l = l' ∧ n = n' := by
  constructor
  · intro h
    unfold cellP at h
    obtain ⟨h1, h2⟩ := List.append_inj h (by simp [hl])
    refine ⟨?_, by simp at h2; omega⟩
    exact (List.map_inj_right (fun a b hab => by simp at hab; exact UInt8.toNat_inj.1 (by omega))).1 h1
  · rintro ⟨rfl, rfl⟩; rfl
theorem cell_eq (l l' : List UInt8) (n n' : Nat) (hl : l.length = 16) (hl' : l'.length = 16) (hn : n < 4294967296) (hn' : n' < 4294967296) (w : World) :
    (Op.equalIn 10000 92 (.agg (cellV l n).toArray) (.agg (cellV l' n').toArray)).run Try.prog w = .ok (decide (l = l' ∧ n = n')) w := by
  have h := Eq.run_eq_flat (P := Try.prog) (t := 92) 6 (by kernel_rfl) cellK_is (by kernel_rfl) (cellP_k l hl n) (cellP_k l' hl' n') (cellP_wf l n hn) (cellP_wf l' n' hn') w
  rw [cellP_val, cellP_val] at h
  rw [h]
  congr 1
  rw [Bool.eq_iff_iff, decide_eq_true_eq, decide_eq_true_eq]
  exact cellP_inj (hl.trans hl'.symm)
theorem cellV_data (l : List UInt8) (hl : l.length = 16) (n : Nat) : ((cellV l n).drop 0).take 16 = bv l := by
  unfold cellV
  rw [List.drop_zero, List.take_append, List.take_of_length_le (by rw [bv_len, hl]; omega), bv_len, hl]
  simp
theorem cellV_whole (l : List UInt8) (hl : l.length = 16) (n : Nat) : ((cellV l n).drop 0).take 17 = cellV l n := by
  rw [List.drop_zero, List.take_of_length_le (by rw [cellV_len l hl]; omega)]
set_option maxHeartbeats 1000000 in
theorem good_any (at_ : Int) (h0 : -9223372036854775808 ≤ at_) (h1 : at_ ≤ 9223372036854775807) (l : List UInt8) (hl : l.length = 16) (n : Nat) (hn : n < 4294967296) (w : World) :
    Calls Try.prog 57 #[.int .i64 at_, .agg (cellV l n).toArray] w fun e w' => e = .returned (.bool (decide (Crc.crc (place at_ ++ l) = n))) ∧ Below w.heap.size w w' := by
  have hlen := cellV_len l hl n
  have HL := Lib.hid hlen
  have heq := cell_eq l l (Crc.crc (place at_ ++ l)) n hl hl (Crc.crc_lt _) hn
  have hb0 : Blk (w.alloc (.cells (cellV l n).toArray 92)).drew w.heap.size (cellV l n) 92 := blk_at rfl rfl
  have HB0 := Lib.hid hb0
  clear hlen hb0
  have HE := Lib.hid heq
  clear heq
  go_enter Try.func57, Try.ntmps57
  go_wp2
  refine wp_region_inv_tail (fun w' => Blk w' w.heap.size (cellV l n) 92 ∧ Below w.heap.size w w') 6 (by kernel_rfl) (by kernel_rfl) ⟨HB0.out, ((Below.refl _ _).alloc (Nat.le_refl _) _).drew⟩ ?_
  simp only [List.take_succ_cons, List.take_zero, List.drop_succ_cons, List.drop_zero]
  refine inv_move _ rfl rfl ?_
  refine inv_value (.pointer (some ⟨w.heap.size, 0, none⟩)) rfl (fun w' _ => by go_simp) ?_
  refine inv_load_blk rfl 33 _ rfl w.heap.size 0 16 rfl 92 (cellV l n) _ (fun w' h => h.1) Try.underlying33 rfl (by kernel_rfl) (by rw [HL.out]; omega) (bv l) (cellV_data l hl n) ?_
  refine inv_call (.agg (cellV l (Crc.crc (place at_ ++ l))).toArray) rfl 35 #[.int .i64 at_, .agg (bv l).toArray] (fun w' _ => by go_simp) (fun w' h => (seal_any at_ h0 h1 l hl w').mono fun e w'' ⟨he, hb⟩ => ⟨he, h.1.below hb h.1.lt, h.2.trans (hb.mono h.2.size)⟩) ?_
  refine inv_load_blk rfl 92 _ rfl w.heap.size 0 17 rfl 92 (cellV l n) _ (fun w' h => h.1) Try.underlying92 rfl (by kernel_rfl) (by rw [HL.out]; omega) (cellV l n) (cellV_whole l hl n) ?_
  refine Eq.inv_eql rfl rfl rfl rfl (by kernel_rfl) (fun w' _ => HE.out w') ?_
  refine inv_nil fun w' hI => ?_
  go_wp2
  go_ret
  exact ⟨ret_bool (by simp), hI.2⟩
end Go.Proofs.Ytgnnjinpcdemiaa.Good
/-
  Disk.Read with the size of the memory behind it. Helper text; no statement is proved here.
-/
set_option linter.unusedVariables false
set_option maxRecDepth 20000
set_option linter.unusedSimpArgs false
namespace Go.Proofs.Ytgnnjinpcdemiaa.Disk
open Go.RowKit Go.Proofs.Ytgnnjinpcdemiaa.Base Go.Proofs.Ytgnnjinpcdemiaa.Laws Go.Proofs.Ytgnnjinpcdemiaa.Flat Go.Proofs.Ytgnnjinpcdemiaa.InvM
theorem wpList_store_sz {P : Program} {w : World} {ops : Array Oper} {rest : List Oper} {o : Oper} {a : Act} {Q : Exit → Act → World → Prop} (hgd : o.guard = none) (ty : TypeId) (x y : Operand) (ho : o.op = .store ty x y)
    (g off m : Nat) (hx : a.eval x = .pointer (some ⟨g, off, none⟩)) (t : TypeId) (cs vs : List Value) (hy : a.eval y = .agg vs.toArray) (hg : Blk w g cs t)
    (hi : (P.info? ty).map (·.size) = some m) (hl : vs.length = m) (hm : off + m ≤ cs.length) (h1 : ∀ v ∈ vs, v.oneCell' = true)
    (h : ∀ w', Blk w' g (put cs off vs) t → w.grownBy w' (some g) → w'.heap.size = w.heap.size → wpList P ops Q rest (a.put o.dst undef) w') : wpList P ops Q (o :: rest) a w := by
  refine wpList_plain hgd fun K hK => ?_
  unfold Oper.wp execOp
  simp only [ho, hx, hy, Instr.storeAt, Instr.sureAddr, Sem.run_bind, Sem.run_pure, Result.andThen_ok, run_store_blk hg hi hl hm h1]
  exact hK _ _ (h _ (hg.setRow _) (grown_setRow _ _ _) (by simp [World.setRow]))
section
variable {bd bm bs n : Nat} {D : Dsk} {w : World} {p : Pow}
set_option maxHeartbeats 1000000 in
theorem read_sz (h : DiskAt w bd bm bs n D) (hp : PowAt w bm p) (i : Nat) (hi : i < n) : Calls Try.prog 56 #[.pointer (some ⟨bd, 0, none⟩), .int .i64 (i : Int)] w fun e w' => e = .returned (.tuple #[.agg (D.read p i).1.cells.toArray, .int .i64 ((D.read p i).2 : Nat)]) ∧ Below w.heap.size w w' ∧ w'.heap.size = w.heap.size + 1 := by
  have Z := Lib.hid (zblk w)
  have hbd := h.head.lt
  have hbs := h.body.lt
  obtain ⟨s, hs⟩ : ∃ s, D.secs[i]? = some s := ⟨_, List.getElem?_eq_getElem (by rw [h.len]; exact hi)⟩
  have hsd : D.secs.getD i Sec.zero = s := by rw [List.getD_eq_getElem?_getD, hs]; rfl
  have hsok := h.ok s (List.mem_of_getElem? hs)
  have i0 : (0 : Int) ≤ (i : Int) := by omega
  have i1 : (i : Int) < (n : Int) := by omega
  have hn := h.hi
  have HR := Lib.hid (show D.read p i = if p.off then (Cel.zero, 4) else if D.dead then (Cel.zero, 5) else if s.good then (s.c, 0) else (Cel.zero, 7) by unfold Dsk.read; rw [hsd])
  have hl17 := Lib.hid (Cel.len hsok)
  have HI := Lib.hid hi
  have HS := Lib.hid hs
  clear hsd hs
  go_enter Try.func56, Try.ntmps56
  go_upto_region 1 with (fail)
  obtain ⟨w1, hw1⟩ : ∃ w1, w1 = w.alloc (.cells #[.int .u8 0, .int .u8 0, .int .u8 0, .int .u8 0, .int .u8 0, .int .u8 0, .int .u8 0, .int .u8 0, .int .u8 0, .int .u8 0, .int .u8 0, .int .u8 0, .int .u8 0, .int .u8 0, .int .u8 0, .int .u8 0, .int .u32 0] 92) := ⟨_, rfl⟩
  have L1 := Lib.hid (show Below w.heap.size w w1 from hw1 ▸ ((Below.refl w.heap.size w).alloc (Nat.le_refl _) _))
  have S1 := Lib.hid (show w1.heap.size = w.heap.size + 1 from by rw [hw1]; simp)
  rw [← hw1] at Z ⊢
  clear hw1
  have D1 := h.only (Only.of_below (S := []) L1.out) (by simp) (by simp)
  have P1 := hp.only (Only.of_below (S := []) L1.out) (by simp)
  have IN := Lib.hid (in_yes D1 i hi)
  have ON := Lib.hid (on_any bm p w1 P1)
  have c0 := D1.c0
  have c1 := D1.c1
  have c3 := D1.c3
  have cg := D1.good HS.out
  have CC := Lib.hid (D1.cell_cells HS.out)
  have B1 := Lib.hid D1.body
  have hfl := Lib.hid (flat_inb D1.len18 HS.out)
  clear h hp D1 P1 hi
  obtain ⟨off, left, steps⟩ := p
  obtain ⟨key, dead, secs⟩ := D
  obtain ⟨c, good⟩ := s
  cases off with
  | true =>
    go_wp2_with (first | (go_at_call 70; refine IN.out.mono ?_; rintro e w' ⟨rfl, rfl⟩) | (go_at_call 49; refine ON.out.mono ?_; rintro e w' ⟨rfl, rfl⟩) | (refine wpList_builds rfl 92 _ rfl [] rfl _ zcell ?_) | (refine wpList_store_sz rfl 92 _ _ rfl w.heap.size 0 17 rfl 92 _ Cel.zero.cells rfl Z.out (by kernel_rfl) rfl (by decide) (by decide) ?_; intro w2 z2 g2 q2; have Z2 := Lib.hid (show Blk w2 w.heap.size Cel.zero.cells 92 from z2); have L2 := Lib.hid (below_grown L1.out g2 L1.out.size (Nat.le_refl _)); have Q2 := Lib.hid (q2.trans S1.out); clear z2 g2 q2))
    rw [show Dsk.read _ _ i = (Cel.zero, 4) from HR.out]
    exact bodyPost_ret (v := .tuple #[.agg Cel.zero.cells.toArray, .int .i64 4]) (results_cell_two rfl _ _ w.heap.size 92 _ (0, 0) _ _ rfl rfl Z2.out Try.underlying92 rfl (by kernel_rfl)) rfl ⟨rfl, L2.out, Q2.out⟩
  | false =>
    cases dead with
    | true =>
      go_wp2_with (first | (go_at_call 70; refine IN.out.mono ?_; rintro e w' ⟨rfl, rfl⟩) | (go_at_call 49; refine ON.out.mono ?_; rintro e w' ⟨rfl, rfl⟩) | (refine wpList_builds rfl 92 _ rfl [] rfl _ zcell ?_) | (refine wpList_store_sz rfl 92 _ _ rfl w.heap.size 0 17 rfl 92 _ Cel.zero.cells rfl Z.out (by kernel_rfl) rfl (by decide) (by decide) ?_; intro w2 z2 g2 q2; have Z2 := Lib.hid (show Blk w2 w.heap.size Cel.zero.cells 92 from z2); have L2 := Lib.hid (below_grown L1.out g2 L1.out.size (Nat.le_refl _)); have Q2 := Lib.hid (q2.trans S1.out); clear z2 g2 q2))
      rw [show Dsk.read _ _ i = (Cel.zero, 5) from HR.out]
      exact bodyPost_ret (v := .tuple #[.agg Cel.zero.cells.toArray, .int .i64 5]) (results_cell_two rfl _ _ w.heap.size 92 _ (0, 0) _ _ rfl rfl Z2.out Try.underlying92 rfl (by kernel_rfl)) rfl ⟨rfl, L2.out, Q2.out⟩
    | false =>
      cases good with
      | false =>
        go_wp2_with (first | (go_at_call 70; refine IN.out.mono ?_; rintro e w' ⟨rfl, rfl⟩) | (go_at_call 49; refine ON.out.mono ?_; rintro e w' ⟨rfl, rfl⟩) | (refine wpList_builds rfl 92 _ rfl [] rfl _ zcell ?_) | (refine wpList_store_sz rfl 92 _ _ rfl w.heap.size 0 17 rfl 92 _ Cel.zero.cells rfl Z.out (by kernel_rfl) rfl (by decide) (by decide) ?_; intro w2 z2 g2 q2; have Z2 := Lib.hid (show Blk w2 w.heap.size Cel.zero.cells 92 from z2); have L2 := Lib.hid (below_grown L1.out g2 L1.out.size (Nat.le_refl _)); have Q2 := Lib.hid (q2.trans S1.out); clear z2 g2 q2))
        rw [show Dsk.read _ _ i = (Cel.zero, 7) from HR.out]
        exact bodyPost_ret (v := .tuple #[.agg Cel.zero.cells.toArray, .int .i64 7]) (results_cell_two rfl _ _ w.heap.size 92 _ (0, 0) _ _ rfl rfl Z2.out Try.underlying92 rfl (by kernel_rfl)) rfl ⟨rfl, L2.out, Q2.out⟩
      | true =>
        go_wp2_with (first | (go_at_call 70; refine IN.out.mono ?_; rintro e w' ⟨rfl, rfl⟩) | (go_at_call 49; refine ON.out.mono ?_; rintro e w' ⟨rfl, rfl⟩) | (refine wpList_load_blk rfl 92 _ rfl bs (i * 18) 17 rfl 135 _ _ B1.out Try.underlying92 rfl (by kernel_rfl) (Nat.le_trans (Nat.le_succ _) hfl.out) _ CC.out ?_) | (refine wpList_store_sz rfl 92 _ _ rfl w.heap.size 0 17 rfl 92 Cel.zero.cells c.cells rfl Z.out (by kernel_rfl) hl17.out (by decide) (Cel.one c) ?_; intro w2 z2 g2 q2; rw [put_all _ _ (by rw [hl17.out]; rfl)] at z2; have Z2 := Lib.hid z2; have L2 := Lib.hid (below_grown L1.out g2 L1.out.size (Nat.le_refl _)); have Q2 := Lib.hid (q2.trans S1.out); clear z2 g2 q2))
        rw [show Dsk.read _ _ i = (c, 0) from HR.out]
        exact bodyPost_ret (v := .tuple #[.agg c.cells.toArray, .int .i64 0]) (results_cell_two rfl _ _ w.heap.size 92 _ (0, 0) _ _ rfl rfl Z2.out Try.underlying92 rfl (by rw [List.size_toArray, hl17.out]; kernel_rfl)) rfl ⟨rfl, L2.out, Q2.out⟩
end
end Go.Proofs.Ytgnnjinpcdemiaa.Disk
/-
  A region whose order is open and in which two operations that make memory come up in either order: the orders fall into two classes, each walked by itself. Helper text; no statement is proved here.
-/
set_option linter.unusedVariables false
set_option maxRecDepth 20000
namespace Go.Proofs.Ytgnnjinpcdemiaa.InvC
open Go.RowKit Go.Proofs.Ytgnnjinpcdemiaa.Laws Go.Proofs.Ytgnnjinpcdemiaa.Inv Go.Proofs.Ytgnnjinpcdemiaa.InvL
section
variable {P : Program} {I : Array Bool → World → Prop} {G : Nat → Array Bool → Prop} {T : Nat → Option Value} {ops : Array Oper} {md : Region.Mode}
/-- operation i yields v, the one of the table if it has one, wherever its gate is open -/
def GivesC (P : Program) (I : Array Bool → World → Prop) (G : Nat → Array Bool → Prop) (T : Nat → Option Value) (ops : Array Oper) (i : Nat) (o : Oper) (a : Act) (v : Value) : Prop :=
  (∀ u, T i = some u → v = u) ∧
  ((Region.wanted o (yielded ops a.tmps) = true ∧ ∀ d w, d.getD i true = false → G i d → I d w → Meets P (I (d.setIfInBounds i true)) v ((execOp a.eval o).run P w)) ∨
  (Region.wanted o (yielded ops a.tmps) = false ∧ v = undef ∧ ∀ d w, d.getD i true = false → G i d → I d w → I (d.setIfInBounds i true) w))
def wpInvC (P : Program) (I : Array Bool → World → Prop) (G : Nat → Array Bool → Prop) (T : Nat → Option Value) (ops : Array Oper) (Q : Act → Prop) : Nat → List Oper → Act → Prop
  | _, [], a => Q a
  | i, o :: rest, a => ∃ v, GivesC P I G T ops i o a v ∧ wpInvC P I G T ops Q (i + 1) rest (a.put o.dst v)
theorem GivesC.moved {i : Nat} {o : Oper} {v : Value} {a b : Act} (h : GivesC P I G T ops i o a v) (he : execOp b.eval o = execOp a.eval o) (hw : Region.wanted o (yielded ops b.tmps) = Region.wanted o (yielded ops a.tmps)) : GivesC P I G T ops i o b v := by
  unfold GivesC at *
  rw [he, hw]
  exact h
def turn (P : Program) (I : Array Bool → World → Prop) (G : Nat → Array Bool → Prop) (T : Nat → Option Value) (ops : Array Oper) (i : Nat) (K : Act → Prop) (a : Act) : Prop :=
  match ops[i]? with
  | none => False
  | some o => ∃ v, GivesC P I G T ops i o a v ∧ K (a.put o.dst v)
theorem turn_some {i : Nat} {o : Oper} (ho : ops[i]? = some o) {K : Act → Prop} {a : Act} : turn P I G T ops i K a ↔ ∃ v, GivesC P I G T ops i o a v ∧ K (a.put o.dst v) := by
  unfold turn; rw [ho]
theorem turn_mono {i : Nat} {a : Act} {K K' : Act → Prop} (h : ∀ a, K a → K' a) (hh : turn P I G T ops i K a) : turn P I G T ops i K' a := by
  cases ho : ops[i]? with
  | none => simp only [turn, ho] at hh
  | some o =>
    obtain ⟨v, h1, h2⟩ := (turn_some ho).1 hh
    exact (turn_some ho).2 ⟨v, h1, h _ h2⟩
theorem turn_past {i j : Nat} {oi oj : Oper} {v : Value} (hj : ops[j]? = some oj) (hap : oi.apart ops oj = true) (hsi : ∀ cs b, oi.op ≠ .select cs b) (hsj : ∀ cs b, oj.op ≠ .select cs b) {K : Act → Prop} {a : Act}
    (hg : GivesC P I G T ops i oi a v) (h : turn P I G T ops j K (a.put oi.dst v)) : turn P I G T ops j (fun b => GivesC P I G T ops i oi b v ∧ K (b.put oi.dst v)) a := by
  obtain ⟨h1, h2, h3⟩ := Oper.apart_spec hap
  obtain ⟨u, hu, hk⟩ := (turn_some hj).1 h
  refine (turn_some hj).2 ⟨u, hu.moved (execOp_put oj hsj a oi.dst v h1).symm (wanted_put oj a oi.dst v h1).symm, hg.moved (execOp_put oi hsi a oj.dst u h3) (wanted_put oi a oj.dst u h3), ?_⟩
  rw [← Act.put_comm a v u h2]
  exact hk
def every (P : Program) (I : Array Bool → World → Prop) (G : Nat → Array Bool → Prop) (T : Nat → Option Value) (md : Region.Mode) (ops : Array Oper) (n : Nat) (L : Array Bool → Act → Prop) : Nat → Array Bool → Act → Prop
  | 0, listed, a => L listed a
  | f + 1, listed, a => Region.ready md ops listed ≠ [] ∧ ∀ i ∈ Region.ready md ops listed, i < n ∧ turn P I G T ops i (every P I G T md ops n L f (listed.setIfInBounds i true)) a
/-- what may come up now may be taken first -/
theorem every_first {J : Array Bool → Prop} {n i : Nat} {oi : Oper} {v : Value} {L : Array Bool → Act → Prop} (hi : ops[i]? = some oi) (hsel : ∀ (j : Nat) (o : Oper) cs b, ops[j]? = some o → o.op ≠ .select cs b)
    (hn : ∀ listed, J listed → listed.getD i true = false → ∀ j ∈ Region.ready md ops listed, j < n)
    (hset : ∀ (listed : Array Bool) (j : Nat), J listed → j ∈ Region.ready md ops listed → j < n → J (listed.setIfInBounds j true))
    (hdone : ∀ listed a, L listed a → ∀ j ∈ Region.ready md ops listed, n ≤ j) :
    ∀ (f : Nat) (listed : Array Bool) (a : Act), J listed →
      (∀ j oj, ops[j]? = some oj → j ≠ i → listed.getD j true = false → (∀ e ∈ oj.after, Region.binds md e = true → e.on ≠ i) → oi.apart ops oj = true) →
      i ∈ Region.ready md ops listed → GivesC P I G T ops i oi a v → every P I G T md ops n L f (listed.setIfInBounds i true) (a.put oi.dst v) → every P I G T md ops n L (f + 1) listed a := by
  intro f
  induction f with
  | zero =>
    intro listed a inv _ hr hg H
    refine ⟨fun h => (by rw [h] at hr; cases hr), fun j hj => ?_⟩
    have hjn := hn listed inv (mem_ready.1 hr).1 j hj
    refine ⟨hjn, ?_⟩
    by_cases e : j = i
    · subst e; exact (turn_some hi).2 ⟨v, hg, H⟩
    · have := hdone _ _ H j (ready_mono hj e)
      omega
  | succ f ih =>
    intro listed a inv hfree hr hg H
    refine ⟨fun h => (by rw [h] at hr; cases hr), fun j hj => ?_⟩
    have hjn := hn listed inv (mem_ready.1 hr).1 j hj
    refine ⟨hjn, ?_⟩
    by_cases e : j = i
    · subst e; exact (turn_some hi).2 ⟨v, hg, H⟩
    · have h1 := (H.2 j (ready_mono hj e)).2
      obtain ⟨hjun, oj, hoj, hall⟩ := mem_ready.1 hj
      have hnot : ∀ x ∈ oj.after, Region.binds md x = true → x.on ≠ i := fun x hx hb heq => by
        have h5 := hall x hx hb
        rw [heq, getD_both (mem_ready.1 hr).1] at h5
        cases h5
      have h2 := turn_past hoj (hfree j oj hoj e hjun hnot) (fun cs b => hsel i oi cs b hi) (fun cs b => hsel j oj cs b hoj) hg h1
      refine turn_mono (fun b h3 => ih (listed.setIfInBounds j true) b (hset _ _ inv hj hjn) (fun k ok hk hki hun hno => ?_) (ready_mono hr (Ne.symm e)) h3.1 ?_) h2
      · refine hfree k ok hk hki ?_ hno
        by_cases hjk : j = k
        · subst hjk; exact hjun
        · rwa [getD_set_ne true hjk] at hun
      · rw [Array.setIfInBounds_comm _ _ e]
        exact h3.2

theorem every_of_walk {J : Array Bool → Prop} {s n g : Nat} {Lq : Act → Prop} (hsel : Region.noSelect ops = true) (hn : ∀ (i : Nat) listed, i < n → J listed → listed.getD i true = false → ∀ j ∈ Region.ready md ops listed, j < n)
    (hset : ∀ (listed : Array Bool) (j : Nat), J listed → j ∈ Region.ready md ops listed → j < n → J (listed.setIfInBounds j true)) :
    ∀ (l : List Oper) (k : Nat) (listed : Array Bool) (a : Act), (∀ j, j < l.length → l[j]? = ops[k + j]?) → k + l.length = n → J listed → listed = doneTo s k →
    Region.lexHead md ops g l.length k listed = true → wpInvC P I G T ops Lq k l a → every P I G T md ops n (fun listed' a' => Region.seqB md ops g n listed' = true ∧ listed' = doneTo s n ∧ Lq a') l.length listed a
  | [], k, listed, a, _, hk, _, hd, hB, h => by
    obtain rfl : k = n := by simpa using hk
    exact ⟨by simpa [Region.lexHead] using hB, hd, h⟩
  | o :: l, k, listed, a, hl, hk, inv, hd, hB, h => by
    have h0 : ops[k]? = some o := by simpa using (hl 0 (by simp)).symm
    simp only [List.length_cons, Region.lexHead, Bool.and_eq_true] at hB
    obtain ⟨⟨hr, hf⟩, hB'⟩ := hB
    have hkn : k < n := by simp only [List.length_cons] at hk; omega
    have hr' : k ∈ Region.ready md ops listed := by simpa using hr
    obtain ⟨v, hg, hK⟩ := h
    exact every_first h0 (Region.noSelect_spec hsel) (fun listed => hn k listed hkn) hset (fun listed' a' hL => seqB_ready hL.1) l.length listed a inv (Region.free_spec h0 hf) hr' hg
      (every_of_walk hsel hn hset l (k + 1) _ _ (fun j hj => by have := hl (j + 1) (by simp; omega); simpa [Nat.add_assoc, Nat.add_comm 1 j] using this) (by simp only [List.length_cons] at hk; omega) (hset _ _ inv hr' hkn) (by rw [hd, done_succ]) hB' hK)

/-- the orders fall into classes: each class with its own condition, gates and values -/
theorem wpAny_of_classes {K : Type} {I : K → Array Bool → World → Prop} {G : K → Nat → Array Bool → Prop} {T : K → Nat → Option Value} {n g : Nat} {L : K → Array Bool → Act → Prop} {Q : Exit → Act → World → Prop} {Good : (K → Prop) → Array Bool → Prop}
    (hopen : ∀ S d i, Good S d → i ∈ Region.ready md ops d → i < n → (∃ κ, S κ ∧ G κ i d) ∧ Good (fun κ => S κ ∧ G κ i d) (d.setIfInBounds i true))
    (hI : ∀ S d w κ κ', Good S d → S κ → S κ' → I κ d w → I κ' d w)
    (hT : ∀ S d i κ κ', Good S d → i ∈ Region.ready md ops d → i < n → S κ → S κ' → G κ i d → G κ' i d → κ = κ' ∨ ∃ u, T κ i = some u ∧ T κ' i = some u)
    (hL : ∀ κ listed a w, I κ listed w → L κ listed a → wpAny P md ops Q g listed a w) :
    ∀ (f : Nat) (S : K → Prop) (listed : Array Bool) (a : Act) (w : World), (∃ κ, S κ) → Good S listed → (∀ κ, S κ → I κ listed w ∧ every P (I κ) (G κ) (T κ) md ops n (L κ) f listed a) → wpAny P md ops Q (f + g) listed a w
  | 0, S, listed, a, w, ⟨κ, hS⟩, hg, h => by rw [Nat.zero_add]; exact hL κ _ _ _ (h κ hS).1 (h κ hS).2
  | f + 1, S, listed, a, w, ⟨κ0, hS0⟩, hg, h => by
    rw [show f + 1 + g = (f + g) + 1 from by omega]
    refine ⟨fun h0 => absurd h0 (h κ0 hS0).2.1, fun i hi => ?_⟩
    have hin := ((h κ0 hS0).2.2 i hi).1
    obtain ⟨⟨κ, hSκ, hGκ⟩, hg2⟩ := hopen S listed i hg hi hin
    obtain ⟨hIκ, hEκ⟩ := h κ hSκ
    have ht := (hEκ.2 i hi).2
    obtain ⟨hdi, o, ho, _⟩ := mem_ready.1 hi
    obtain ⟨v, hv, hk⟩ := (turn_some ho).1 ht
    have key : ∀ w', I κ (listed.setIfInBounds i true) w' → wpAny P md ops Q (f + g) (listed.setIfInBounds i true) (a.put o.dst v) w' := fun w' hw' => by
      refine wpAny_of_classes hopen hI hT hL f (fun κ => S κ ∧ G κ i listed) _ _ _ ⟨κ, hSκ, hGκ⟩ hg2 fun κ' ⟨hS', hG'⟩ => ⟨hI _ _ _ κ κ' hg2 ⟨hSκ, hGκ⟩ ⟨hS', hG'⟩ hw', ?_⟩
      rcases hT S listed i κ κ' hg hi hin hSκ hS' hGκ hG' with e | ⟨u, e1, e2⟩
      · subst e
        exact hk
      · obtain ⟨v', hv', hk'⟩ := (turn_some ho).1 (((h κ' hS').2.2 i hi).2)
        rw [show v = v' from by rw [hv.1 u e1, hv'.1 u e2]]
        exact hk'
    unfold wpOp
    simp only [ho]
    rcases hv.2 with ⟨h1, h2⟩ | ⟨h1, rfl, h2⟩
    · simp only [h1, if_true]
      exact .inl (wp_of_meets (h2 listed w hdi hGκ hIκ) key)
    · simp only [h1]
      exact key w (h2 listed w hdi hGκ hIκ)
/-- of two operations p and c: true: p comes ahead of c; false: behind it -/
def Two (p c : Nat) (κ : Bool) (i : Nat) (d : Array Bool) : Prop := match κ with | true => i = c → d.getD p false = true | false => i = p → d.getD c false = true
def GoodTwo (p c : Nat) (S : Bool → Prop) (d : Array Bool) : Prop := (d.getD p false = false ∧ d.getD c false = false ∧ S true ∧ S false) ∨ (S true ∧ ¬ S false ∧ d.getD p false = true) ∨ (S false ∧ ¬ S true ∧ d.getD c false = true)
/-- all but p and c have values that both classes share, or wait for p or c -/
def sharedB (T : Nat → Option Value) (ops : Array Oper) (n p c : Nat) : Bool :=
  (List.range n).all fun i => i == p || i == c || (T i).isSome || (match ops[i]? with | some o => o.after.any fun e => Region.binds .any e && (e.on == p || e.on == c) | none => true)
theorem getD_true_of {d : Array Bool} {i : Nat} (h : d.getD i true = false) : d.getD i false = false := by
  simp only [Array.getD_eq_getD_getElem?] at *
  cases hx : d[i]? with
  | none => rfl
  | some x => rw [hx] at h; exact h
theorem wp_region_two_tail {id : Nat} {Q : Exit → Act → World → Prop} {a : Act} {w : World} {l : List Oper} (I : Bool → Array Bool → World → Prop) (T : Nat → Option Value) (n p c : Nat) (hm : P.follows .mixedOrders = true) (hB : Region.lexTailB .any l.toArray n = true) (hpc : p ≠ c) (hpl : p < l.length) (hcl : c < l.length) (hsh : sharedB T l.toArray n p c = true)
    (hI : ∀ d w, d.getD p false = false → d.getD c false = false → (I true d w ↔ I false d w)) (hI0 : ∀ κ, I κ (doneTo l.length 0) w.drew)
    (h : ∀ κ, wpInvC P (I κ) (Two p c κ) T l.toArray (fun a' => ∀ w', I κ (doneTo l.length n) w' → wpList P l.toArray Q (l.drop n) a' w') 0 (l.take n) a) : (Code.region id l.toArray true).wp P Q a w := by
  simp only [Region.lexTailB, Bool.and_eq_true, decide_eq_true_eq] at hB
  obtain ⟨⟨⟨⟨hsel, hn⟩, hs⟩, hc⟩, hlex⟩ := hB
  have hn' : n < l.length := by simpa using hn
  have htl : (l.take n).length = n := by simp; omega
  have hdl : (l.drop n).length = l.toArray.size - n := by simp
  have inv0 : HeadInv .any l.toArray n (Array.replicate l.toArray.size false) :=
    ⟨by simp, fun j oj _ hl => (by rw [getD_replicate_false] at hl; cases hl), fun t _ ht => getD_in (by simpa using ht) (getD_replicate_false _ _)⟩
  have hlt : ∀ (i : Nat) listed, i < n → HeadInv .any l.toArray n listed → listed.getD i true = false → ∀ j ∈ Region.ready .any l.toArray listed, j < n := fun i listed hi inv hun j hj => by
    rcases Nat.lt_or_ge j n with h | h
    · exact h
    · exact absurd hj (tail_waits hs hc hn inv _ i rfl hi hun j h)
  have H := fun κ => every_of_walk (md := .any) (s := l.length) (g := l.toArray.size - n) (J := HeadInv .any l.toArray n) hsel hlt (fun listed j hJ hj hjn => hJ.set hj hjn) (l.take n) 0 _ a (fun j hj => by
    have hj' : j < n := by rw [htl] at hj; exact hj
    simp [hj']) (by simpa using htl) inv0 (by simp [doneTo]) (by rw [htl]; exact hlex) (h κ)
  refine wp_region_any hm ?_
  have hset : ∀ (d : Array Bool) (i j : Nat), i ≠ j → (d.setIfInBounds i true).getD j false = d.getD j false := fun d i j hij => getD_set_ne false hij
  have hsetS : ∀ (d : Array Bool) (i : Nat), d.getD i true = false → (d.setIfInBounds i true).getD i false = true := fun d i hd => by
    have hp : i < d.size := by
      rcases Nat.lt_or_ge i d.size with h' | h'
      · exact h'
      · simp [Array.getElem?_eq_none h'] at hd
    simp [hp]
  have hopen : ∀ (S : Bool → Prop) (d : Array Bool) (i : Nat), GoodTwo p c S d → i ∈ Region.ready .any l.toArray d → i < n → (∃ κ, S κ ∧ Two p c κ i d) ∧ GoodTwo p c (fun κ => S κ ∧ Two p c κ i d) (d.setIfInBounds i true) := by
    intro S d i hg hi hin
    have hdi := (mem_ready.1 hi).1
    have hdi' := getD_true_of hdi
    rcases hg with ⟨g1, g2, g3, g4⟩ | ⟨g1, g2, g3⟩ | ⟨g1, g2, g3⟩
    · by_cases e1 : i = p
      · subst e1
        refine ⟨⟨true, g3, fun e => absurd e hpc⟩, .inr (.inl ⟨⟨g3, fun e => absurd e hpc⟩, fun x => ?_, hsetS d i hdi⟩)⟩
        have := x.2 rfl
        rw [g2] at this
        cases this
      · by_cases e2 : i = c
        · subst e2
          refine ⟨⟨false, g4, fun e => absurd e e1⟩, .inr (.inr ⟨⟨g4, fun e => absurd e e1⟩, fun x => ?_, hsetS d i hdi⟩)⟩
          have := x.2 rfl
          rw [g1] at this
          cases this
        · refine ⟨⟨true, g3, fun e => absurd e e2⟩, .inl ⟨by rw [hset _ _ _ e1]; exact g1, by rw [hset _ _ _ e2]; exact g2, ⟨g3, fun e => absurd e e2⟩, ⟨g4, fun e => absurd e e1⟩⟩⟩
    · refine ⟨⟨true, g1, fun _ => g3⟩, .inr (.inl ⟨⟨g1, fun _ => g3⟩, fun x => g2 x.1, ?_⟩)⟩
      by_cases e : i = p
      · subst e; rw [hdi'] at g3; cases g3
      · rw [hset _ _ _ e]; exact g3
    · refine ⟨⟨false, g1, fun _ => g3⟩, .inr (.inr ⟨⟨g1, fun _ => g3⟩, fun x => g2 x.1, ?_⟩)⟩
      by_cases e : i = c
      · subst e; rw [hdi'] at g3; cases g3
      · rw [hset _ _ _ e]; exact g3
  have hII : ∀ (S : Bool → Prop) (d : Array Bool) (w : World) (κ κ' : Bool), GoodTwo p c S d → S κ → S κ' → I κ d w → I κ' d w := by
    intro S d w κ κ' hg h1 h2 hi
    rcases hg with ⟨g1, g2, _, _⟩ | ⟨_, g2, _⟩ | ⟨_, g2, _⟩
    · cases κ <;> cases κ' <;> first | exact hi | exact (hI d w g1 g2).1 hi | exact (hI d w g1 g2).2 hi
    · cases κ <;> cases κ' <;> first | exact hi | exact absurd h1 g2 | exact absurd h2 g2
    · cases κ <;> cases κ' <;> first | exact hi | exact absurd h1 g2 | exact absurd h2 g2
  have hTT : ∀ (S : Bool → Prop) (d : Array Bool) (i : Nat) (κ κ' : Bool), GoodTwo p c S d → i ∈ Region.ready .any l.toArray d → i < n → S κ → S κ' → Two p c κ i d → Two p c κ' i d → κ = κ' ∨ ∃ u, T i = some u ∧ T i = some u := by
    intro S d i κ κ' hg hi hin h1 h2 k1 k2
    rcases hg with ⟨g1, g2, _, _⟩ | ⟨_, g2, _⟩ | ⟨_, g2, _⟩
    · by_cases e0 : κ = κ'
      · exact .inl e0
      have hne1 : i ≠ p := fun e => by
        have : Two p c false i d := by cases κ <;> cases κ' <;> first | exact absurd rfl e0 | assumption
        have := this e
        rw [g2] at this; cases this
      have hne2 : i ≠ c := fun e => by
        have : Two p c true i d := by cases κ <;> cases κ' <;> first | exact absurd rfl e0 | assumption
        have := this e
        rw [g1] at this; cases this
      have hb := List.all_eq_true.1 hsh i (by simpa using hin)
      simp only [Bool.or_eq_true, beq_iff_eq] at hb
      rcases hb with ((hb | hb) | hb) | hb
      · exact absurd hb hne1
      · exact absurd hb hne2
      · obtain ⟨u, hu⟩ := Option.isSome_iff_exists.1 hb
        exact .inr ⟨u, hu, hu⟩
      · obtain ⟨_, o, ho, hall⟩ := mem_ready.1 hi
        rw [ho] at hb
        obtain ⟨e, he, hbe⟩ := Array.any_eq_true'.1 hb
        simp only [Bool.and_eq_true, Bool.or_eq_true, beq_iff_eq] at hbe
        have := hall e he hbe.1
        rcases hbe.2 with e3 | e3
        · rw [e3, g1] at this; cases this
        · rw [e3, g2] at this; cases this
    · cases κ <;> cases κ' <;> first | exact .inl rfl | exact absurd h1 g2 | exact absurd h2 g2
    · cases κ <;> cases κ' <;> first | exact .inl rfl | exact absurd h1 g2 | exact absurd h2 g2
  have := wpAny_of_classes (Q := Q) (I := I) (G := Two p c) (T := fun _ => T) (n := n) (g := l.toArray.size - n) (Good := GoodTwo p c) hopen hII hTT (fun κ listed a' w' hw' hL => by
    have := wpAny_of_seq (md := .any) (Q' := Q) (l.drop n) n listed a' w' (fun j => by simp [List.getElem?_drop]) (by rw [hdl]; exact hL.1) (hL.2.2 w' (hL.2.1 ▸ hw'))
    rwa [hdl] at this) _ (fun _ => True) _ _ _ ⟨true, trivial⟩ (.inl ⟨getD_replicate_false _ _, getD_replicate_false _ _, trivial, trivial⟩) (fun κ _ => ⟨by simpa [doneTo] using hI0 κ, H κ⟩)
  rw [htl, show n + (l.toArray.size - n) = l.toArray.size from by omega] at this
  exact this
theorem invc_nil {Q : Act → Prop} {i : Nat} {a : Act} (h : Q a) : wpInvC P I G T ops Q i [] a := h
theorem invc_value {Q : Act → Prop} {i : Nat} {a : Act} {o : Oper} {rest : List Oper} (v : Value) (hT : ∀ u, T i = some u → v = u) (hw : Region.wanted o (yielded ops a.tmps) = true) (hr : ∀ d w, d.getD i true = false → G i d → I d w → (execOp a.eval o).run P w = .ok (.value v) w) (hk : ∀ d w, d.getD i true = false → G i d → I d w → I (d.setIfInBounds i true) w)
    (h : wpInvC P I G T ops Q (i + 1) rest (a.put o.dst v)) : wpInvC P I G T ops Q i (o :: rest) a :=
  ⟨v, ⟨hT, .inl ⟨hw, fun d w hd hG hI => by rw [hr d w hd hG hI]; exact ⟨rfl, hk d w hd hG hI⟩⟩⟩, h⟩
theorem invc_world {Q : Act → Prop} {i : Nat} {a : Act} {o : Oper} {rest : List Oper} (v : Value) (hT : ∀ u, T i = some u → v = u) (hw : Region.wanted o (yielded ops a.tmps) = true) (hr : ∀ d w, d.getD i true = false → G i d → I d w → ∃ w', (execOp a.eval o).run P w = .ok (.value v) w' ∧ I (d.setIfInBounds i true) w')
    (h : wpInvC P I G T ops Q (i + 1) rest (a.put o.dst v)) : wpInvC P I G T ops Q i (o :: rest) a :=
  ⟨v, ⟨hT, .inl ⟨hw, fun d w hd hG hI => by obtain ⟨w', h1, h2⟩ := hr d w hd hG hI; rw [h1]; exact ⟨rfl, h2⟩⟩⟩, h⟩
theorem invc_call {Q : Act → Prop} {i : Nat} {a : Act} {o : Oper} {rest : List Oper} (v : Value) (hT : ∀ u, T i = some u → v = u) (hw : Region.wanted o (yielded ops a.tmps) = true) (f : FuncId) (args : Array Value) (hr : ∀ d w, I d w → (execOp a.eval o).run P w = .ok (.enter f args) w)
    (hc : ∀ d w, d.getD i true = false → G i d → I d w → Calls P f args w fun e w' => e = .returned v ∧ I (d.setIfInBounds i true) w') (h : wpInvC P I G T ops Q (i + 1) rest (a.put o.dst v)) : wpInvC P I G T ops Q i (o :: rest) a :=
  ⟨v, ⟨hT, .inl ⟨hw, fun d w hd hG hI => by rw [hr d w hI]; exact hc d w hd hG hI⟩⟩, h⟩
end
end Go.Proofs.Ytgnnjinpcdemiaa.InvC
/-
  A region whose order is open, in which an operation may lean on what it waits for: gates by what must be done ahead of it. Helper text; no statement is proved here.
-/
set_option linter.unusedVariables false
set_option maxRecDepth 20000
namespace Go.Proofs.Ytgnnjinpcdemiaa.InvG
open Go.RowKit Go.Proofs.Ytgnnjinpcdemiaa.Laws Go.Proofs.Ytgnnjinpcdemiaa.Inv Go.Proofs.Ytgnnjinpcdemiaa.InvL Go.Proofs.Ytgnnjinpcdemiaa.InvC
section
variable {P : Program}
/-- what operation i waits for is done -/
def Closed (ops : Array Oper) (d : Array Bool) : Prop := ∀ j o, ops[j]? = some o → d.getD j false = true → ∀ e ∈ o.after, Region.binds .any e = true → d.getD e.on false = true
def Gate (ops : Array Oper) (i : Nat) (d : Array Bool) : Prop := (∀ o, ops[i]? = some o → ∀ e ∈ o.after, Region.binds .any e = true → d.getD e.on false = true) ∧ Closed ops d
def waitsB (ops : Array Oper) (i p : Nat) : Bool := match ops[i]? with | some o => o.after.any fun e => Region.binds .any e && e.on == p | none => false
theorem Gate.of {ops : Array Oper} {i p : Nat} {d : Array Bool} (hG : Gate ops i d) (h : waitsB ops i p = true) : d.getD p false = true := by
  unfold waitsB at h
  cases ho : ops[i]? with
  | none => rw [ho] at h; cases h
  | some o =>
    rw [ho] at h
    obtain ⟨e, he, hbe⟩ := Array.any_eq_true'.1 h
    simp only [Bool.and_eq_true, beq_iff_eq] at hbe
    have := hG.1 o ho e he hbe.1
    rwa [hbe.2] at this
theorem Gate.of2 {ops : Array Oper} {i j p : Nat} {d : Array Bool} (hG : Gate ops i d) (h : waitsB ops i j = true) (h2 : waitsB ops j p = true) : d.getD p false = true := by
  have hj := hG.of h
  unfold waitsB at h2
  cases ho : ops[j]? with
  | none => rw [ho] at h2; cases h2
  | some o =>
    rw [ho] at h2
    obtain ⟨e, he, hbe⟩ := Array.any_eq_true'.1 h2
    simp only [Bool.and_eq_true, beq_iff_eq] at hbe
    have := hG.2 j o ho hj e he hbe.1
    rwa [hbe.2] at this
theorem wp_region_gate_tail {id : Nat} {Q : Exit → Act → World → Prop} {a : Act} {w : World} {l : List Oper} (I : Array Bool → World → Prop) (n : Nat) (hm : P.follows .mixedOrders = true) (hB : Region.lexTailB .any l.toArray n = true)
    (hI0 : I (doneTo l.length 0) w.drew)
    (h : wpInvC P I (Gate l.toArray) (fun _ => none) l.toArray (fun a' => ∀ w', I (doneTo l.length n) w' → wpList P l.toArray Q (l.drop n) a' w') 0 (l.take n) a) : (Code.region id l.toArray true).wp P Q a w := by
  simp only [Region.lexTailB, Bool.and_eq_true, decide_eq_true_eq] at hB
  obtain ⟨⟨⟨⟨hsel, hn⟩, hs⟩, hc⟩, hlex⟩ := hB
  have hn' : n < l.length := by simpa using hn
  have htl : (l.take n).length = n := by simp; omega
  have hdl : (l.drop n).length = l.toArray.size - n := by simp
  have inv0 : HeadInv .any l.toArray n (Array.replicate l.toArray.size false) :=
    ⟨by simp, fun j oj _ hl => (by rw [getD_replicate_false] at hl; cases hl), fun t _ ht => getD_in (by simpa using ht) (getD_replicate_false _ _)⟩
  have hlt : ∀ (i : Nat) listed, i < n → HeadInv .any l.toArray n listed → listed.getD i true = false → ∀ j ∈ Region.ready .any l.toArray listed, j < n := fun i listed hi inv hun j hj => by
    rcases Nat.lt_or_ge j n with h | h
    · exact h
    · exact absurd hj (tail_waits hs hc hn inv _ i rfl hi hun j h)
  have H := InvC.every_of_walk (md := .any) (s := l.length) (g := l.toArray.size - n) (J := HeadInv .any l.toArray n) hsel hlt (fun listed j hJ hj hjn => hJ.set hj hjn) (l.take n) 0 _ a (fun j hj => by
    have hj' : j < n := by rw [htl] at hj; exact hj
    simp [hj']) (by simpa using htl) inv0 (by simp [doneTo]) (by rw [htl]; exact hlex) h
  refine wp_region_any hm ?_
  have hset : ∀ (d : Array Bool) (i x : Nat), d.getD x false = true → (d.setIfInBounds i true).getD x false = true := fun d i x hx => by
    by_cases e : i = x
    · subst e
      have hp : i < d.size := by
        rcases Nat.lt_or_ge i d.size with h' | h'
        · exact h'
        · simp [Array.getElem?_eq_none h'] at hx
      simp [hp]
    · rw [getD_set_ne false e]; exact hx
  have hopen : ∀ (S : Unit → Prop) (d : Array Bool) (i : Nat), (S () ∧ Closed l.toArray d) → i ∈ Region.ready .any l.toArray d → i < n → (∃ κ, S κ ∧ Gate l.toArray i d) ∧ ((S () ∧ Gate l.toArray i d) ∧ Closed l.toArray (d.setIfInBounds i true)) := by
    intro S d i hg hi hin
    have hG1 : ∀ o, l.toArray[i]? = some o → ∀ e ∈ o.after, Region.binds .any e = true → d.getD e.on false = true := fun o ho e he hb => by
      obtain ⟨_, o', ho', hall⟩ := mem_ready.1 hi
      rw [ho] at ho'
      cases ho'
      exact hall e he hb
    have hG : Gate l.toArray i d := ⟨hG1, hg.2⟩
    refine ⟨⟨(), hg.1, hG⟩, ⟨hg.1, hG⟩, fun j o ho hj e he hb => ?_⟩
    by_cases eij : i = j
    · subst eij
      exact hset _ _ _ (hG1 o ho e he hb)
    · rw [getD_set_ne false eij] at hj
      exact hset _ _ _ (hg.2 j o ho hj e he hb)
  have := wpAny_of_classes (K := Unit) (Q := Q) (I := fun _ => I) (G := fun _ => Gate l.toArray) (T := fun _ _ => none) (n := n) (g := l.toArray.size - n) (Good := fun S d => S () ∧ Closed l.toArray d) hopen (fun _ _ _ _ _ _ _ _ h => h) (fun _ _ _ _ _ _ _ _ _ _ _ _ => .inl rfl) (fun κ listed a' w' hw' hL => by
    have := wpAny_of_seq (md := .any) (Q' := Q) (l.drop n) n listed a' w' (fun j => by simp [List.getElem?_drop]) (by rw [hdl]; exact hL.1) (hL.2.2 w' (hL.2.1 ▸ hw'))
    rwa [hdl] at this) _ (fun _ => True) _ _ _ ⟨(), trivial⟩ ⟨trivial, fun j o _ hj => (by rw [getD_replicate_false] at hj; cases hj)⟩ (fun κ _ => ⟨by simpa [doneTo] using hI0, H⟩)
  rw [htl, show n + (l.toArray.size - n) = l.toArray.size from by omega] at this
  exact this
end
/-- A, then B behind operation p, then C behind operation q, which waits for p -/
def At2 (p q : Nat) (A B C : World → Prop) (d : Array Bool) (w : World) : Prop := if d.getD q false = true then d.getD p false = true ∧ C w else if d.getD p false = true then B w else A w
section
variable {p q i : Nat} {A B C : World → Prop} {d : Array Bool} {w w' : World}
theorem At2.keep (h1 : i ≠ p) (h2 : i ≠ q) (h : At2 p q A B C d w) : At2 p q A B C (d.setIfInBounds i true) w := by
  unfold At2 at *
  rwa [getD_set_ne false h1, getD_set_ne false h2]
theorem At2.start (h1 : d.getD p false = false) (h2 : d.getD q false = false) (h : A w) : At2 p q A B C d w := by
  unfold At2
  rw [h1, h2]
  simpa using h
theorem At2.at_p (hd : d.getD p true = false) (h : At2 p q A B C d w) : A w ∧ d.getD q false = false := by
  have hd' := getD_true_of hd
  unfold At2 at h
  rw [hd'] at h
  split at h
  · simp at h
  · rename_i e
    exact ⟨by simpa using h, by simpa using e⟩
theorem now {i : Nat} (h : d.getD i true = false) : (d.setIfInBounds i true).getD i false = true := by
  have hp : i < d.size := by
    rcases Nat.lt_or_ge i d.size with h' | h'
    · exact h'
    · simp [Array.getElem?_eq_none h'] at h
  simp [hp]
theorem At2.did_p (hpq : p ≠ q) (hd : d.getD p true = false) (h : At2 p q A B C d w) (h' : B w') : At2 p q A B C (d.setIfInBounds p true) w' := by
  have h2 := (h.at_p hd).2
  unfold At2
  rw [now hd, getD_set_ne false hpq, h2]
  simpa using h'
theorem At2.at_q (hd : d.getD q true = false) (hp : d.getD p false = true) (h : At2 p q A B C d w) : B w := by
  have hd' := getD_true_of hd
  unfold At2 at h
  rw [hd', hp] at h
  simpa using h
theorem At2.did_q (hpq : p ≠ q) (hd : d.getD q true = false) (hp : d.getD p false = true) (h' : C w') : At2 p q A B C (d.setIfInBounds q true) w' := by
  unfold At2
  rw [now hd, getD_set_ne false (Ne.symm hpq), hp]
  simpa using h'
theorem At2.done (hd : d.getD q false = true) (h : At2 p q A B C d w) : C w := by
  unfold At2 at h
  rw [if_pos hd] at h
  exact h.2
theorem At2.any (h : At2 p q A B C d w) : A w ∨ B w ∨ C w := by
  unfold At2 at h
  split at h
  · exact .inr (.inr h.2)
  · split at h
    · exact .inr (.inl h)
    · exact .inl h
end
end Go.Proofs.Ytgnnjinpcdemiaa.InvG
/-
  A region whose order is open: two operations that change the world come up in either order, and others wait for them. Helper text; no statement is proved here.
-/
set_option linter.unusedVariables false
set_option maxRecDepth 20000
namespace Go.Proofs.Ytgnnjinpcdemiaa.InvE
open Go.RowKit Go.Proofs.Ytgnnjinpcdemiaa.Laws Go.Proofs.Ytgnnjinpcdemiaa.Inv Go.Proofs.Ytgnnjinpcdemiaa.InvL Go.Proofs.Ytgnnjinpcdemiaa.InvC Go.Proofs.Ytgnnjinpcdemiaa.InvG
section
variable {P : Program}
/-- the class of the order, and what operation i waits for is done -/
def Both (p c : Nat) (ops : Array Oper) (κ : Bool) (i : Nat) (d : Array Bool) : Prop := Two p c κ i d ∧ Gate ops i d
theorem wp_region_two_gate {id : Nat} {Q : Exit → Act → World → Prop} {a : Act} {w : World} {l : List Oper} (I : Bool → Array Bool → World → Prop) (T : Nat → Option Value) (n p c : Nat) (hm : P.follows .mixedOrders = true) (hB : Region.lexTailB .any l.toArray n = true) (hpc : p ≠ c) (hpl : p < l.length) (hcl : c < l.length) (hsh : sharedB T l.toArray n p c = true)
    (hI : ∀ d w, d.getD p false = false → d.getD c false = false → (I true d w ↔ I false d w)) (hI0 : ∀ κ, I κ (doneTo l.length 0) w.drew)
    (h : ∀ κ, wpInvC P (I κ) (Both p c l.toArray κ) T l.toArray (fun a' => ∀ w', I κ (doneTo l.length n) w' → wpList P l.toArray Q (l.drop n) a' w') 0 (l.take n) a) : (Code.region id l.toArray true).wp P Q a w := by
  simp only [Region.lexTailB, Bool.and_eq_true, decide_eq_true_eq] at hB
  obtain ⟨⟨⟨⟨hsel, hn⟩, hs⟩, hc⟩, hlex⟩ := hB
  have hn' : n < l.length := by simpa using hn
  have htl : (l.take n).length = n := by simp; omega
  have hdl : (l.drop n).length = l.toArray.size - n := by simp
  have inv0 : HeadInv .any l.toArray n (Array.replicate l.toArray.size false) :=
    ⟨by simp, fun j oj _ hl => (by rw [getD_replicate_false] at hl; cases hl), fun t _ ht => getD_in (by simpa using ht) (getD_replicate_false _ _)⟩
  have hlt : ∀ (i : Nat) listed, i < n → HeadInv .any l.toArray n listed → listed.getD i true = false → ∀ j ∈ Region.ready .any l.toArray listed, j < n := fun i listed hi inv hun j hj => by
    rcases Nat.lt_or_ge j n with h | h
    · exact h
    · exact absurd hj (tail_waits hs hc hn inv _ i rfl hi hun j h)
  have H := fun κ => every_of_walk (md := .any) (s := l.length) (g := l.toArray.size - n) (J := HeadInv .any l.toArray n) hsel hlt (fun listed j hJ hj hjn => hJ.set hj hjn) (l.take n) 0 _ a (fun j hj => by
    have hj' : j < n := by rw [htl] at hj; exact hj
    simp [hj']) (by simpa using htl) inv0 (by simp [doneTo]) (by rw [htl]; exact hlex) (h κ)
  refine wp_region_any hm ?_
  have hset : ∀ (d : Array Bool) (i j : Nat), i ≠ j → (d.setIfInBounds i true).getD j false = d.getD j false := fun d i j hij => getD_set_ne false hij
  have hsetS : ∀ (d : Array Bool) (i : Nat), d.getD i true = false → (d.setIfInBounds i true).getD i false = true := fun d i hd => by
    have hp : i < d.size := by
      rcases Nat.lt_or_ge i d.size with h' | h'
      · exact h'
      · simp [Array.getElem?_eq_none h'] at hd
    simp [hp]
  have hopen : ∀ (S : Bool → Prop) (d : Array Bool) (i : Nat), GoodTwo p c S d → i ∈ Region.ready .any l.toArray d → i < n → (∃ κ, S κ ∧ Two p c κ i d) ∧ GoodTwo p c (fun κ => S κ ∧ Two p c κ i d) (d.setIfInBounds i true) := by
    intro S d i hg hi hin
    have hdi := (mem_ready.1 hi).1
    have hdi' := getD_true_of hdi
    rcases hg with ⟨g1, g2, g3, g4⟩ | ⟨g1, g2, g3⟩ | ⟨g1, g2, g3⟩
    · by_cases e1 : i = p
      · subst e1
        refine ⟨⟨true, g3, fun e => absurd e hpc⟩, .inr (.inl ⟨⟨g3, fun e => absurd e hpc⟩, fun x => ?_, hsetS d i hdi⟩)⟩
        have := x.2 rfl
        rw [g2] at this
        cases this
      · by_cases e2 : i = c
        · subst e2
          refine ⟨⟨false, g4, fun e => absurd e e1⟩, .inr (.inr ⟨⟨g4, fun e => absurd e e1⟩, fun x => ?_, hsetS d i hdi⟩)⟩
          have := x.2 rfl
          rw [g1] at this
          cases this
        · refine ⟨⟨true, g3, fun e => absurd e e2⟩, .inl ⟨by rw [hset _ _ _ e1]; exact g1, by rw [hset _ _ _ e2]; exact g2, ⟨g3, fun e => absurd e e2⟩, ⟨g4, fun e => absurd e e1⟩⟩⟩
    · refine ⟨⟨true, g1, fun _ => g3⟩, .inr (.inl ⟨⟨g1, fun _ => g3⟩, fun x => g2 x.1, ?_⟩)⟩
      by_cases e : i = p
      · subst e; rw [hdi'] at g3; cases g3
      · rw [hset _ _ _ e]; exact g3
    · refine ⟨⟨false, g1, fun _ => g3⟩, .inr (.inr ⟨⟨g1, fun _ => g3⟩, fun x => g2 x.1, ?_⟩)⟩
      by_cases e : i = c
      · subst e; rw [hdi'] at g3; cases g3
      · rw [hset _ _ _ e]; exact g3
  have hII : ∀ (S : Bool → Prop) (d : Array Bool) (w : World) (κ κ' : Bool), GoodTwo p c S d → S κ → S κ' → I κ d w → I κ' d w := by
    intro S d w κ κ' hg h1 h2 hi
    rcases hg with ⟨g1, g2, _, _⟩ | ⟨_, g2, _⟩ | ⟨_, g2, _⟩
    · cases κ <;> cases κ' <;> first | exact hi | exact (hI d w g1 g2).1 hi | exact (hI d w g1 g2).2 hi
    · cases κ <;> cases κ' <;> first | exact hi | exact absurd h1 g2 | exact absurd h2 g2
    · cases κ <;> cases κ' <;> first | exact hi | exact absurd h1 g2 | exact absurd h2 g2
  have hTT : ∀ (S : Bool → Prop) (d : Array Bool) (i : Nat) (κ κ' : Bool), GoodTwo p c S d → i ∈ Region.ready .any l.toArray d → i < n → S κ → S κ' → Two p c κ i d → Two p c κ' i d → κ = κ' ∨ ∃ u, T i = some u ∧ T i = some u := by
    intro S d i κ κ' hg hi hin h1 h2 k1 k2
    rcases hg with ⟨g1, g2, _, _⟩ | ⟨_, g2, _⟩ | ⟨_, g2, _⟩
    · by_cases e0 : κ = κ'
      · exact .inl e0
      have hne1 : i ≠ p := fun e => by
        have : Two p c false i d := by cases κ <;> cases κ' <;> first | exact absurd rfl e0 | assumption
        have := this e
        rw [g2] at this; cases this
      have hne2 : i ≠ c := fun e => by
        have : Two p c true i d := by cases κ <;> cases κ' <;> first | exact absurd rfl e0 | assumption
        have := this e
        rw [g1] at this; cases this
      have hb := List.all_eq_true.1 hsh i (by simpa using hin)
      simp only [Bool.or_eq_true, beq_iff_eq] at hb
      rcases hb with ((hb | hb) | hb) | hb
      · exact absurd hb hne1
      · exact absurd hb hne2
      · obtain ⟨u, hu⟩ := Option.isSome_iff_exists.1 hb
        exact .inr ⟨u, hu, hu⟩
      · obtain ⟨_, o, ho, hall⟩ := mem_ready.1 hi
        rw [ho] at hb
        obtain ⟨e, he, hbe⟩ := Array.any_eq_true'.1 hb
        simp only [Bool.and_eq_true, Bool.or_eq_true, beq_iff_eq] at hbe
        have := hall e he hbe.1
        rcases hbe.2 with e3 | e3
        · rw [e3, g1] at this; cases this
        · rw [e3, g2] at this; cases this
    · cases κ <;> cases κ' <;> first | exact .inl rfl | exact absurd h1 g2 | exact absurd h2 g2
    · cases κ <;> cases κ' <;> first | exact .inl rfl | exact absurd h1 g2 | exact absurd h2 g2
  have hup : ∀ (d : Array Bool) (i x : Nat), d.getD x false = true → (d.setIfInBounds i true).getD x false = true := fun d i x hx => by
    by_cases e : i = x
    · subst e
      have hp : i < d.size := by
        rcases Nat.lt_or_ge i d.size with h' | h'
        · exact h'
        · simp [Array.getElem?_eq_none h'] at hx
      simp [hp]
    · rw [getD_set_ne false e]; exact hx
  have hopen2 : ∀ (S : Bool → Prop) (d : Array Bool) (i : Nat), (GoodTwo p c S d ∧ Closed l.toArray d) → i ∈ Region.ready .any l.toArray d → i < n → (∃ κ, S κ ∧ Both p c l.toArray κ i d) ∧ (GoodTwo p c (fun κ => S κ ∧ Both p c l.toArray κ i d) (d.setIfInBounds i true) ∧ Closed l.toArray (d.setIfInBounds i true)) := by
    intro S d i hg hi hin
    have hG1 : ∀ o, l.toArray[i]? = some o → ∀ e ∈ o.after, Region.binds .any e = true → d.getD e.on false = true := fun o ho e he hb => by
      obtain ⟨_, o', ho', hall⟩ := mem_ready.1 hi
      rw [ho] at ho'
      cases ho'
      exact hall e he hb
    have hG : Gate l.toArray i d := ⟨hG1, hg.2⟩
    have hS : (fun κ => S κ ∧ Both p c l.toArray κ i d) = (fun κ => S κ ∧ Two p c κ i d) := by
      funext κ
      exact propext ⟨fun h => ⟨h.1, h.2.1⟩, fun h => ⟨h.1, h.2, hG⟩⟩
    obtain ⟨⟨κ, h1, h2⟩, h3⟩ := hopen S d i hg.1 hi hin
    refine ⟨⟨κ, h1, h2, hG⟩, by rw [hS]; exact h3, fun j o ho hj e he hb => ?_⟩
    by_cases eij : i = j
    · subst eij
      exact hup _ _ _ (hG1 o ho e he hb)
    · rw [getD_set_ne false eij] at hj
      exact hup _ _ _ (hg.2 j o ho hj e he hb)
  have := wpAny_of_classes (Q := Q) (I := I) (G := Both p c l.toArray) (T := fun _ => T) (n := n) (g := l.toArray.size - n) (Good := fun S d => GoodTwo p c S d ∧ Closed l.toArray d) hopen2 (fun S d w κ κ' hg => hII S d w κ κ' hg.1) (fun S d i κ κ' hg hi hin h1 h2 k1 k2 => hTT S d i κ κ' hg.1 hi hin h1 h2 k1.1 k2.1) (fun κ listed a' w' hw' hL => by
    have := wpAny_of_seq (md := .any) (Q' := Q) (l.drop n) n listed a' w' (fun j => by simp [List.getElem?_drop]) (by rw [hdl]; exact hL.1) (hL.2.2 w' (hL.2.1 ▸ hw'))
    rwa [hdl] at this) _ (fun _ => True) _ _ _ ⟨true, trivial⟩ ⟨.inl ⟨getD_replicate_false _ _, getD_replicate_false _ _, trivial, trivial⟩, fun j o _ hj => (by rw [getD_replicate_false] at hj; cases hj)⟩ (fun κ _ => ⟨by simpa [doneTo] using hI0 κ, H κ⟩)
  rw [htl, show n + (l.toArray.size - n) = l.toArray.size from by omega] at this
  exact this
end
section
variable {P : Program} {I : Array Bool → World → Prop} {G : Nat → Array Bool → Prop} {T : Nat → Option Value} {ops : Array Oper}
theorem invc_meets {Q : Act → Prop} {i : Nat} {a : Act} {o : Oper} {rest : List Oper} (v : Value) (hT : ∀ u, T i = some u → v = u) (hw : Region.wanted o (yielded ops a.tmps) = true) (hr : ∀ d w, d.getD i true = false → G i d → I d w → Meets P (I (d.setIfInBounds i true)) v ((execOp a.eval o).run P w))
    (h : wpInvC P I G T ops Q (i + 1) rest (a.put o.dst v)) : wpInvC P I G T ops Q i (o :: rest) a :=
  ⟨v, ⟨hT, .inl ⟨hw, hr⟩⟩, h⟩
theorem _root_.Go.Proofs.Ytgnnjinpcdemiaa.InvG.Closed.of {ops : Array Oper} {j p : Nat} {d : Array Bool} (hC : Closed ops d) (h : waitsB ops j p = true) (hj : d.getD j false = true) : d.getD p false = true := by
  unfold waitsB at h
  cases ho : ops[j]? with
  | none => rw [ho] at h; cases h
  | some o =>
    rw [ho] at h
    obtain ⟨e, he, hbe⟩ := Array.any_eq_true'.1 h
    simp only [Bool.and_eq_true, beq_iff_eq] at hbe
    have := hC j o ho hj e he hbe.1
    rwa [hbe.2] at this
end
end Go.Proofs.Ytgnnjinpcdemiaa.InvE
/-
  stripe.cell by contract. Helper text; no statement is proved here.
-/
set_option linter.unusedVariables false
set_option maxRecDepth 20000
set_option linter.unusedSimpArgs false
namespace Go.Proofs.Ytgnnjinpcdemiaa.Str
open Go.RowKit Go.Proofs.Ytgnnjinpcdemiaa.Base Go.Proofs.Ytgnnjinpcdemiaa.Laws Go.Proofs.Ytgnnjinpcdemiaa.Disk Go.Proofs.Ytgnnjinpcdemiaa.Lay Go.Proofs.Ytgnnjinpcdemiaa.Seal Go.Proofs.Ytgnnjinpcdemiaa.Good Go.Proofs.Ytgnnjinpcdemiaa.InvC Go.Proofs.Ytgnnjinpcdemiaa.InvG Go.Proofs.Ytgnnjinpcdemiaa.InvE Go.Proofs.Ytgnnjinpcdemiaa.InvM
/-- the cell of a sector at a place -/
def cellOf (A : Nat) (X : List UInt8) : Cel := ⟨X, Crc.crc (place (A : Int) ++ X)⟩
def cA (N : Nat) (κ : Bool) : Nat := match κ with | true => N + 1 | false => N
/-- a call that makes one block, and a new variable, in either order; then a store -/
def CSt (N : Nat) (w0 : World) (z nw : List Value) (t : TypeId) (p c s : Nat) (κ : Bool) (d : Array Bool) (w : World) : Prop :=
  Below N w0 w ∧ w.heap.size = N + (d.getD p false).toNat + (d.getD c false).toNat ∧ (d.getD p false = true → d.getD c false = false → κ = true) ∧ (d.getD c false = true → d.getD p false = false → κ = false) ∧ (d.getD c false = true → Blk w (cA N κ) (if d.getD s false = true then nw else z) t)
section
variable {N p c s i : Nat} {w0 w w' : World} {z nw : List Value} {t : TypeId} {κ : Bool} {d : Array Bool}
theorem CSt.keep (h1 : i ≠ p) (h2 : i ≠ c) (h3 : i ≠ s) (h : CSt N w0 z nw t p c s κ d w) : CSt N w0 z nw t p c s κ (d.setIfInBounds i true) w := by
  unfold CSt at *
  rwa [getD_set_ne false h1, getD_set_ne false h2, getD_set_ne false h3]
theorem CSt.same (h1 : d.getD p false = false) (h2 : d.getD c false = false) : CSt N w0 z nw t p c s true d w ↔ CSt N w0 z nw t p c s false d w := by
  unfold CSt
  rw [h1, h2]
  simp
theorem CSt.start (h1 : d.getD p false = false) (h2 : d.getD c false = false) (hb : Below N w0 w) (hs : w.heap.size = N) : CSt N w0 z nw t p c s κ d w := by
  refine ⟨hb, by rw [h1, h2, hs]; rfl, ?_, ?_, ?_⟩
  · rw [h1]; intro e; cases e
  · rw [h2]; intro e; cases e
  · rw [h2]; intro e; cases e
theorem CSt.at_c (hpc : p ≠ c) (hsc : s ≠ c) (hd : d.getD c true = false) (hG : Two p c κ c d) (hs : d.getD s false = false) (h : CSt N w0 z nw t p c s κ d w) {arr : Array Value} (ha : z.toArray = arr) : w.heap.size = cA N κ ∧ CSt N w0 z nw t p c s κ (d.setIfInBounds c true) (w.alloc (.cells arr t)) := by
  have hd' := getD_true_of hd
  obtain ⟨h1, h2, h3, h4, h5⟩ := h
  rw [hd'] at h2 h3
  have hsz : w.heap.size = cA N κ := by
    cases κ with
    | true => have := hG rfl; rw [this] at h2; rw [h2]; rfl
    | false =>
      cases hp : d.getD p false with
      | true => have := h3 hp rfl; cases this
      | false => rw [hp] at h2; rw [h2]; rfl
  refine ⟨hsz, h1.alloc (by rw [hsz]; unfold cA; split <;> omega) _, ?_, ?_, ?_, ?_⟩
  · rw [InvG.now hd, getD_set_ne false (Ne.symm hpc), size_alloc, h2]; simp
  · rw [InvG.now hd]; intro _ e; cases e
  · rw [getD_set_ne false (Ne.symm hpc)]
    intro _ e
    cases κ with
    | true => have := hG rfl; rw [this] at e; cases e
    | false => rfl
  · rw [getD_set_ne false (Ne.symm hsc), hs]
    intro _
    exact blk_at hsz ha
theorem CSt.at_p (hpc : p ≠ c) (hps : p ≠ s) (hd : d.getD p true = false) (hG : Two p c κ p d) (h : CSt N w0 z nw t p c s κ d w) (hb : Below w.heap.size w w') (hsz : w'.heap.size = w.heap.size + 1) : CSt N w0 z nw t p c s κ (d.setIfInBounds p true) w' := by
  have hd' := getD_true_of hd
  obtain ⟨h1, h2, h3, h4, h5⟩ := h
  rw [hd'] at h2 h4
  refine ⟨h1.trans (hb.mono (by omega)), ?_, ?_, ?_, ?_⟩
  · rw [InvG.now hd, getD_set_ne false hpc, hsz, h2]; simp; omega
  · rw [getD_set_ne false hpc]
    intro _ e
    cases κ with
    | true => rfl
    | false => have := hG rfl; rw [this] at e; cases e
  · rw [InvG.now hd]; intro _ e; cases e
  · rw [getD_set_ne false hpc, getD_set_ne false hps]
    intro e
    exact (h5 e).below hb (h5 e).lt
theorem CSt.at_s (hsp : s ≠ p) (hsc : s ≠ c) (hd : d.getD s true = false) (hc : d.getD c false = true) (h : CSt N w0 z nw t p c s κ d w) : Blk w (cA N κ) z t ∧ CSt N w0 z nw t p c s κ (d.setIfInBounds s true) (w.setRow (cA N κ) nw.toArray) := by
  have hd' := getD_true_of hd
  obtain ⟨h1, h2, h3, h4, h5⟩ := h
  have hz := h5 hc
  rw [hd'] at hz
  simp only [Bool.false_eq_true, if_false] at hz
  refine ⟨hz, below_setRow h1 (by unfold cA; split <;> omega) _, ?_, ?_, ?_, ?_⟩
  · rw [getD_set_ne false hsp, getD_set_ne false hsc]; simpa [World.setRow] using h2
  · rw [getD_set_ne false hsp, getD_set_ne false hsc]; exact h3
  · rw [getD_set_ne false hsp, getD_set_ne false hsc]; exact h4
  · intro _
    rw [InvG.now hd]
    exact hz.setRow _
theorem CSt.done (hc : d.getD c false = true) (hs : d.getD s false = true) (h : CSt N w0 z nw t p c s κ d w) : Blk w (cA N κ) nw t ∧ Below N w0 w := by
  have := h.2.2.2.2 hc
  rw [hs] at this
  exact ⟨this, h.1⟩
end
theorem zsec : Try.prog.built 33 [] = some (zeros 16).toArray := by kernel_rfl
theorem results_cell_three {P : Program} {fn : Func} {p q r : Tmp} {ty : TypeId} (h : fn.results = #[.cell p ty, .tmp q, .tmp r]) (tmps : Array Value) (w : World) (g : Nat) (t : TypeId) (cs : Array Value) (fr : Nat × Nat) (d : TypeDesc) (v u : Value)
    (hp : tmps.getD p undef = .pointer (some ⟨g, 0, none⟩)) (hq : tmps.getD q undef = v) (hr : tmps.getD r undef = u) (hg : w.heap[g]? = some (.cells cs t fr))
    (hu : P.underlying ty = some d) (hd : (match d with | .struct _ | .array _ _ => true | _ => false) = true) (hi : (P.info? ty).map (·.size) = some cs.size) :
    (results fn tmps).run P w = .ok (.tuple #[.agg cs, v, u]) w := by
  have hp' : tmps[p]?.getD undef = .pointer (some ⟨g, 0, none⟩) := by simpa using hp
  have hq' : tmps[q]?.getD undef = v := by simpa using hq
  have hr' : tmps[r]?.getD undef = u := by simpa using hr
  simp [results, h, hp', hq', hr', asAddr, run_loadVar_row w g t ty cs fr d hg hu hd hi]
/-- what 'cell' answers -/
def cellOut (A : Nat) (c : Cel) (f : Nat) : List UInt8 × Bool × Nat := if f = 4 then (List.replicate 16 0, false, 4) else if f = 0 ∧ Crc.crc (place (A : Int) ++ c.d) = c.s then (c.d, true, 0) else (List.replicate 16 0, false, 0)
set_option maxHeartbeats 4000000 in
theorem cell_any {d c s : Int} {gd bm n cap k : Nat} {ds : List Dk} {w : World} {p : Pow} (S : SetAt w gd bm n ds) (hp : PowAt w bm p) (hk : ds.length = k) (hcap : k ≤ cap) {K A : Nat} {x : Dk} (hx : ds[K]? = some x) (hA : A < n) (hn : n ≤ 1024) {C : Cel} {f : Nat} (hr : x.2.2.read p A = (C, f)) (hC : C.Ok) (hf : f ≤ 7) :
    Calls Try.prog 44 #[.agg (setV d c s gd k cap).toArray, .agg #[.int .i64 (K : Int), .int .i64 (A : Int)]] w fun e w' => e = .returned (.tuple #[.agg (bv (cellOut A C f).1).toArray, .bool (cellOut A C f).2.1, .int .i64 ((cellOut A C f).2.2 : Nat)]) ∧ Below w.heap.size w w' := by
  have hKk : K < k := by rw [← hk]; exact (List.getElem?_eq_some_iff.1 hx).1
  have hptr := S.ptr K x hx
  have RD := Lib.hid (fun (w' : World) (hb : Below w.heap.size w w') => show Calls Try.prog 56 #[.pointer (some ⟨x.1, 0, none⟩), .int .i64 (A : Int)] w' fun e w'' => e = .returned (.tuple #[.agg C.cells.toArray, .int .i64 (f : Nat)]) ∧ Below w'.heap.size w' w'' ∧ w''.heap.size = w'.heap.size + 1 from by
    have h := read_sz ((S.below hb (Nat.le_refl _)).disk K x hx) (hp.below hb hp.lt) A hA
    rw [hr] at h
    exact h)
  have GD := Lib.hid (fun w' => good_any (A : Int) (by omega) (by omega) C.d hC.1 C.s hC.2 w')
  obtain ⟨bd, bs, D⟩ := x
  simp only at hptr RD
  have HC := Lib.hid hC
  have hCl := Cel.len hC
  have HCL := Lib.hid hCl
  clear hr hx hk S hp hC hCl
  unfold setV
  go_enter Try.func44, Try.ntmps44
  go_upto_region 1 with (fail)
  obtain ⟨w1, hw1⟩ : ∃ w1, w1 = ((w.alloc (.cells #[.int .i64 d, .int .i64 c, .int .i64 s, .slice (some ⟨gd, 0, none⟩) k cap] 60)).alloc (.cells #[.int .i64 (K : Int), .int .i64 (A : Int)] 109)).alloc (.cells #[.int .u8 0, .int .u8 0, .int .u8 0, .int .u8 0, .int .u8 0, .int .u8 0, .int .u8 0, .int .u8 0, .int .u8 0, .int .u8 0, .int .u8 0, .int .u8 0, .int .u8 0, .int .u8 0, .int .u8 0, .int .u8 0] 33) := ⟨_, rfl⟩
  have b0 : Blk w1 w.heap.size [.int .i64 d, .int .i64 c, .int .i64 s, .slice (some ⟨gd, 0, none⟩) k cap] 60 := by rw [hw1]; exact ((blk_at rfl rfl).alloc _).alloc _
  have b1 : Blk w1 (w.heap.size + 1) [.int .i64 (K : Int), .int .i64 (A : Int)] 109 := by rw [hw1]; exact (blk_at (by simp) rfl).alloc _
  have b2 : Blk w1 (w.heap.size + 1 + 1) (zeros 16) 33 := by rw [hw1]; exact blk_at (by simp) rfl
  have hb : Below w.heap.size w w1 := by rw [hw1]; exact (((Below.refl _ _).alloc (Nat.le_refl _) _).alloc (by simp) _).alloc (by simp; omega) _
  have hs1 : w1.heap.size = w.heap.size + 1 + 1 + 1 := by rw [hw1]; simp
  rw [← hw1]
  clear hw1
  have hgl : gd < w.heap.size := block_lt_of_cell hptr
  have hptr1 : w1.cell? ⟨gd, K, none⟩ = some (.pointer (some ⟨bd, 0, none⟩)) := by rw [hb.cell (p := ⟨gd, K, none⟩) hgl]; exact hptr
  have B0 := Lib.hid b0
  have B1 := Lib.hid b1
  have B2 := Lib.hid b2
  have HB := Lib.hid hb
  have hgd : gd < w1.heap.size := by omega
  obtain ⟨N, hN⟩ : ∃ N, N = w1.heap.size := ⟨_, rfl⟩
  rw [← hN] at hgd hs1
  have F0 := Lib.hid (fun (w' : World) (h : Below N w1 w') => show w'.cell? ⟨w.heap.size, 3, none⟩ = some (.slice (some ⟨gd, 0, none⟩) k cap) from by rw [h.cell (p := ⟨w.heap.size, 3, none⟩) (by show w.heap.size < N; omega), B0.out.cell]; rfl)
  have F1 := Lib.hid (fun (w' : World) (h : Below N w1 w') => show w'.cell? ⟨w.heap.size + 1, 0, none⟩ = some (.int .i64 (K : Int)) from by rw [h.cell (p := ⟨w.heap.size + 1, 0, none⟩) (by show w.heap.size + 1 < N; omega), B1.out.cell]; rfl)
  have F2 := Lib.hid (fun (w' : World) (h : Below N w1 w') => show w'.cell? ⟨w.heap.size + 1, 1, none⟩ = some (.int .i64 (A : Int)) from by rw [h.cell (p := ⟨w.heap.size + 1, 1, none⟩) (by show w.heap.size + 1 < N; omega), B1.out.cell]; rfl)
  have F3 := Lib.hid (fun (w' : World) (h : Below N w1 w') => show w'.cell? ⟨gd, K, none⟩ = some (.pointer (some ⟨bd, 0, none⟩)) from by rw [h.cell (p := ⟨gd, K, none⟩) hgd]; exact hptr1)
  clear b0 b1 b2 hb hptr hptr1
  refine wp_region_two_gate (fun κ d w' => CSt N w1 Cel.zero.cells C.cells 92 8 12 13 κ d w') (fun i => [some (.pointer (some ⟨w.heap.size, 3, none⟩)), some (.slice (some ⟨gd, 0, none⟩) k cap), some (.pointer (some ⟨w.heap.size + 1, 0, none⟩)), some (.int .i64 (K : Int)), some (.pointer (some ⟨gd, K, none⟩)), some (.pointer (some ⟨bd, 0, none⟩)), some (.pointer (some ⟨w.heap.size + 1, 1, none⟩)), some (.int .i64 (A : Int)), none, some (.tuple #[.agg C.cells.toArray, .int .i64 (f : Nat)]), some (.agg C.cells.toArray), some (.int .i64 (f : Nat)), none, none].getD i none) 14 8 12 (by kernel_rfl) (by kernel_rfl) (by decide) (by decide) (by decide) (by kernel_rfl) (fun d w h1 h2 => CSt.same h1 h2) (fun κ => CSt.start (by kernel_rfl) (by kernel_rfl) (by rw [hN]; exact (Below.refl _ _).drew) (by rw [World.size_drew, hN])) ?_
  intro κ
  simp only [List.take_succ_cons, List.take_zero, List.drop_succ_cons, List.drop_zero]
  refine invc_value (.pointer (some ⟨w.heap.size, 3, none⟩)) (fun u hu => Option.some.inj hu) rfl (fun d w' _ _ h => by have f0 := F0.out w' h.1; have f1 := F1.out w' h.1; have f2 := F2.out w' h.1; have f3 := F3.out w' h.1; clear h; go_simp; all_goals (first | rfl | omega)) (fun d w' _ _ h => h.keep (by decide) (by decide) (by decide)) ?_
  simp only [Act.put, List.setIfInBounds_toArray, List.set_cons_zero, List.set_cons_succ]
  refine invc_value (.slice (some ⟨gd, 0, none⟩) k cap) (fun u hu => Option.some.inj hu) rfl (fun d w' _ _ h => by have f0 := F0.out w' h.1; have f1 := F1.out w' h.1; have f2 := F2.out w' h.1; have f3 := F3.out w' h.1; clear h; go_simp; all_goals (first | rfl | omega)) (fun d w' _ _ h => h.keep (by decide) (by decide) (by decide)) ?_
  simp only [Act.put, List.setIfInBounds_toArray, List.set_cons_zero, List.set_cons_succ]
  refine invc_value (.pointer (some ⟨w.heap.size + 1, 0, none⟩)) (fun u hu => Option.some.inj hu) rfl (fun d w' _ _ h => by have f0 := F0.out w' h.1; have f1 := F1.out w' h.1; have f2 := F2.out w' h.1; have f3 := F3.out w' h.1; clear h; go_simp; all_goals (first | rfl | omega)) (fun d w' _ _ h => h.keep (by decide) (by decide) (by decide)) ?_
  simp only [Act.put, List.setIfInBounds_toArray, List.set_cons_zero, List.set_cons_succ]
  refine invc_value (.int .i64 (K : Int)) (fun u hu => Option.some.inj hu) rfl (fun d w' _ _ h => by have f0 := F0.out w' h.1; have f1 := F1.out w' h.1; have f2 := F2.out w' h.1; have f3 := F3.out w' h.1; clear h; go_simp; all_goals (first | rfl | omega)) (fun d w' _ _ h => h.keep (by decide) (by decide) (by decide)) ?_
  simp only [Act.put, List.setIfInBounds_toArray, List.set_cons_zero, List.set_cons_succ]
  refine invc_value (.pointer (some ⟨gd, K, none⟩)) (fun u hu => Option.some.inj hu) rfl (fun d w' _ _ h => by have f0 := F0.out w' h.1; have f1 := F1.out w' h.1; have f2 := F2.out w' h.1; have f3 := F3.out w' h.1; clear h; go_simp; all_goals (first | rfl | omega)) (fun d w' _ _ h => h.keep (by decide) (by decide) (by decide)) ?_
  simp only [Act.put, List.setIfInBounds_toArray, List.set_cons_zero, List.set_cons_succ]
  refine invc_value (.pointer (some ⟨bd, 0, none⟩)) (fun u hu => Option.some.inj hu) rfl (fun d w' _ _ h => by have f0 := F0.out w' h.1; have f1 := F1.out w' h.1; have f2 := F2.out w' h.1; have f3 := F3.out w' h.1; clear h; go_simp; all_goals (first | rfl | omega)) (fun d w' _ _ h => h.keep (by decide) (by decide) (by decide)) ?_
  simp only [Act.put, List.setIfInBounds_toArray, List.set_cons_zero, List.set_cons_succ]
  refine invc_value (.pointer (some ⟨w.heap.size + 1, 1, none⟩)) (fun u hu => Option.some.inj hu) rfl (fun d w' _ _ h => by have f0 := F0.out w' h.1; have f1 := F1.out w' h.1; have f2 := F2.out w' h.1; have f3 := F3.out w' h.1; clear h; go_simp; all_goals (first | rfl | omega)) (fun d w' _ _ h => h.keep (by decide) (by decide) (by decide)) ?_
  simp only [Act.put, List.setIfInBounds_toArray, List.set_cons_zero, List.set_cons_succ]
  refine invc_value (.int .i64 (A : Int)) (fun u hu => Option.some.inj hu) rfl (fun d w' _ _ h => by have f0 := F0.out w' h.1; have f1 := F1.out w' h.1; have f2 := F2.out w' h.1; have f3 := F3.out w' h.1; clear h; go_simp; all_goals (first | rfl | omega)) (fun d w' _ _ h => h.keep (by decide) (by decide) (by decide)) ?_
  simp only [Act.put, List.setIfInBounds_toArray, List.set_cons_zero, List.set_cons_succ]
  refine invc_call (.tuple #[.agg C.cells.toArray, .int .i64 (f : Nat)]) (fun u hu => by cases hu) rfl 56 #[.pointer (some ⟨bd, 0, none⟩), .int .i64 (A : Int)] (fun d w' h => by go_simp) (fun d w' hd hG h => (RD.out w' (HB.out.trans (h.1.mono (by omega)))).mono fun e w'' he => ⟨he.1, h.at_p (by decide) (by decide) hd hG.1 he.2.1 he.2.2⟩) ?_
  simp only [Act.put, List.setIfInBounds_toArray, List.set_cons_zero, List.set_cons_succ]
  refine invc_value (.tuple #[.agg C.cells.toArray, .int .i64 (f : Nat)]) (fun u hu => Option.some.inj hu) rfl (fun d w' _ _ h => by clear h; go_simp) (fun d w' _ _ h => h.keep (by decide) (by decide) (by decide)) ?_
  simp only [Act.put, List.setIfInBounds_toArray, List.set_cons_zero, List.set_cons_succ]
  refine invc_value (.agg C.cells.toArray) (fun u hu => Option.some.inj hu) rfl (fun d w' _ _ h => by clear h; go_simp) (fun d w' _ _ h => h.keep (by decide) (by decide) (by decide)) ?_
  simp only [Act.put, List.setIfInBounds_toArray, List.set_cons_zero, List.set_cons_succ]
  refine invc_value (.int .i64 (f : Nat)) (fun u hu => Option.some.inj hu) rfl (fun d w' _ _ h => by clear h; go_simp) (fun d w' _ _ h => h.keep (by decide) (by decide) (by decide)) ?_
  simp only [Act.put, List.setIfInBounds_toArray, List.set_cons_zero, List.set_cons_succ]
  refine invc_world (.pointer (some ⟨cA N κ, 0, none⟩)) (fun u hu => by cases hu) rfl (fun d w' hd hG h => by
    have hs : d.getD 13 false = false := by
      cases hh : d.getD 13 false with
      | false => rfl
      | true =>
        have := hG.2.2.of (j := 13) (p := 12) (by kernel_rfl) hh
        rw [getD_true_of hd] at this
        cases this
    have hc := h.at_c (by decide) (by decide) hd hG.1 hs (arr := #[.int .u8 0, .int .u8 0, .int .u8 0, .int .u8 0, .int .u8 0, .int .u8 0, .int .u8 0, .int .u8 0, .int .u8 0, .int .u8 0, .int .u8 0, .int .u8 0, .int .u8 0, .int .u8 0, .int .u8 0, .int .u8 0, .int .u32 0]) rfl
    have hz := hc.1
    exact ⟨_, by go_simp, hc.2⟩) ?_
  simp only [Act.put, List.setIfInBounds_toArray, List.set_cons_zero, List.set_cons_succ]
  refine invc_meets undef (fun u hu => by cases hu) rfl (fun d w' hd hG h => by
    have hc := hG.2.of (p := 12) (by kernel_rfl)
    have hz := h.at_s (by decide) (by decide) hd hc
    exact Lay.meets_store (m := 17) rfl rfl rfl hz.1 (by kernel_rfl) HCL.out rfl (Cel.one C) hz.2) ?_
  simp only [Act.put, List.setIfInBounds_toArray, List.set_cons_zero, List.set_cons_succ]
  refine invc_nil fun w2 hI => ?_
  have hD := hI.done (by kernel_rfl) (by kernel_rfl)
  obtain ⟨g, hg⟩ : ∃ g, g = cA N κ := ⟨_, rfl⟩
  rw [← hg] at hD ⊢
  have hgN : N ≤ g := by rw [hg]; unfold cA; split <;> omega
  have BC := Lib.hid hD.1
  have HB2 := Lib.hid hD.2
  clear hI hD hg
  have L1 := Lib.hid ((HB.out.trans (HB2.out.mono (by omega))) : Below w.heap.size w w2)
  have s2 := HB2.out.size
  have R2 := Lib.hid (B2.out.below HB2.out (by omega))
  have P2 := F2.out w2 HB2.out
  have BL := Lib.hid (show ((C.cells.drop 0).take 16) = bv C.d from by unfold Cel.cells; rw [List.drop_zero, List.take_append_of_le_length (by rw [bv_len, HC.out.1]; omega), List.take_of_length_le (by rw [bv_len, HC.out.1]; omega)])
  have BW := Lib.hid (show ((C.cells.drop 0).take 17) = C.cells from by rw [List.drop_zero, List.take_of_length_le (by rw [HCL.out]; omega)])
  have HD16 := Lib.hid HC.out.1
  clear F0 F1 F2 F3 B0 B1 RD
  by_cases h4 : f = 4
  · subst h4
    go_wp2_with (first | (refine wpList_builds rfl 33 _ rfl [] rfl _ zsec ?_) | (refine wpList_store_blk rfl 33 _ _ rfl (w.heap.size + 1 + 1) 0 16 rfl 33 (zeros 16) (zeros 16) rfl R2.out (by kernel_rfl) rfl (by decide) (by decide) ?_; intro w3 z3 g3; have Z3 := Lib.hid (show Blk w3 (w.heap.size + 1 + 1) (zeros 16) 33 from z3); have L3 := Lib.hid (below_grown L1.out g3 L1.out.size (by omega)); clear z3 g3))
    exact bodyPost_ret (v := .tuple #[.agg (zeros 16).toArray, .bool false, .int .i64 4]) (results_cell_three rfl _ _ (w.heap.size + 1 + 1) 33 _ (0, 0) _ _ _ rfl rfl rfl Z3.out Try.underlying33 rfl (by kernel_rfl)) rfl ⟨rfl, L3.out⟩
  · by_cases h0 : f = 0
    · subst h0
      by_cases hc : Crc.crc (place (A : Int) ++ C.d) = C.s
      · have GD := Lib.hid (fun w' => by have h := GD.out w'; rw [decide_eq_true hc] at h; exact h)
        have HO := Lib.hid (show cellOut A C 0 = (C.d, true, 0) from by unfold cellOut; rw [if_neg (by decide), if_pos ⟨rfl, hc⟩])
        clear hc h4
        go_wp2_with (first | (go_at_call 57; go_must (refine (GD.out w2).mono ?_; rintro e w3 ⟨rfl, hb3⟩; have L3 := Lib.hid (L1.out.trans (hb3.mono (by omega))); have R3 := Lib.hid (R2.out.below hb3 R2.out.lt); have BC3 := Lib.hid (BC.out.below hb3 BC.out.lt); have s3 := hb3.size; clear hb3)) | (refine wpList_load_g rfl 92 _ rfl g 17 rfl 92 _ _ BC.out Try.underlying92 rfl (by kernel_rfl) HCL.out ?_) | (refine wpList_load_blk rfl 33 _ rfl g 0 16 rfl 92 _ _ BC3.out Try.underlying33 rfl (by kernel_rfl) (by rw [HCL.out]; omega) _ BL.out ?_) | (refine wpList_store_blk rfl 33 _ _ rfl (w.heap.size + 1 + 1) 0 16 rfl 33 (zeros 16) (bv C.d) rfl R3.out (by kernel_rfl) (by rw [bv_len]; exact HD16.out) (by decide) (bv_one _) ?_; intro w4 z4 g4; rw [put_all _ _ (by rw [bv_len, HD16.out]; rfl)] at z4; have Z4 := Lib.hid z4; have L4 := Lib.hid (below_grown L3.out g4 L3.out.size (by omega)); clear z4 g4))
        exact bodyPost_ret (v := .tuple #[.agg (bv C.d).toArray, .bool true, .int .i64 0]) (results_cell_three rfl _ _ (w.heap.size + 1 + 1) 33 _ (0, 0) _ _ _ rfl rfl rfl Z4.out Try.underlying33 rfl (by rw [List.size_toArray, bv_len, HD16.out]; kernel_rfl)) rfl (by rw [HO.out]; exact ⟨rfl, L4.out⟩)
      · have GD := Lib.hid (fun w' => by have h := GD.out w'; rw [decide_eq_false hc] at h; exact h)
        have HO := Lib.hid (show cellOut A C 0 = (List.replicate 16 0, false, 0) from by unfold cellOut; rw [if_neg (by decide), if_neg (fun h => hc h.2)])
        clear hc h4
        go_wp2_with (first | (go_at_call 57; go_must (refine (GD.out w2).mono ?_; rintro e w3 ⟨rfl, hb3⟩; have L3 := Lib.hid (L1.out.trans (hb3.mono (by omega))); have R3 := Lib.hid (R2.out.below hb3 R2.out.lt); have BC3 := Lib.hid (BC.out.below hb3 BC.out.lt); have s3 := hb3.size; clear hb3)) | (refine wpList_load_g rfl 92 _ rfl g 17 rfl 92 _ _ BC.out Try.underlying92 rfl (by kernel_rfl) HCL.out ?_) | (refine wpList_builds rfl 33 _ rfl [] rfl _ zsec ?_) | (refine wpList_store_blk rfl 33 _ _ rfl (w.heap.size + 1 + 1) 0 16 rfl 33 (zeros 16) (zeros 16) rfl R3.out (by kernel_rfl) rfl (by decide) (by decide) ?_; intro w4 z4 g4; have Z4 := Lib.hid (show Blk w4 (w.heap.size + 1 + 1) (zeros 16) 33 from z4); have L4 := Lib.hid (below_grown L3.out g4 L3.out.size (by omega)); clear z4 g4))
        exact bodyPost_ret (v := .tuple #[.agg (zeros 16).toArray, .bool false, .int .i64 0]) (results_cell_three rfl _ _ (w.heap.size + 1 + 1) 33 _ (0, 0) _ _ _ rfl rfl rfl Z4.out Try.underlying33 rfl (by kernel_rfl)) rfl (by rw [HO.out]; exact ⟨rfl, L4.out⟩)
    · have HO := Lib.hid (show cellOut A C f = (List.replicate 16 0, false, 0) from by unfold cellOut; rw [if_neg h4, if_neg (fun h => h0 h.1)])
      have e0 : (((f : Nat) : Int) == 0) = false := by rw [beq_eq_false_iff_ne]; omega
      have e4 : (((f : Nat) : Int) == 4) = false := by rw [beq_eq_false_iff_ne]; omega
      have n0 : ¬ ((f : Nat) : Int) = 0 := by omega
      have n4 : ¬ ((f : Nat) : Int) = 4 := by omega
      clear h0 h4
      go_wp2_with (first | (refine wpList_builds rfl 33 _ rfl [] rfl _ zsec ?_) | (refine wpList_store_blk rfl 33 _ _ rfl (w.heap.size + 1 + 1) 0 16 rfl 33 (zeros 16) (zeros 16) rfl R2.out (by kernel_rfl) rfl (by decide) (by decide) ?_; intro w4 z4 g4; have Z4 := Lib.hid (show Blk w4 (w.heap.size + 1 + 1) (zeros 16) 33 from z4); have L4 := Lib.hid (below_grown L1.out g4 L1.out.size (by omega)); clear z4 g4))
      exact bodyPost_ret (v := .tuple #[.agg (zeros 16).toArray, .bool false, .int .i64 0]) (results_cell_three rfl _ _ (w.heap.size + 1 + 1) 33 _ (0, 0) _ _ _ rfl rfl rfl Z4.out Try.underlying33 rfl (by kernel_rfl)) rfl (by rw [HO.out]; exact ⟨rfl, L4.out⟩)
end Go.Proofs.Ytgnnjinpcdemiaa.Str
/-
  Bytes that are owned, bytes that are read. Helper text; no statement is proved here.
-/
set_option linter.unusedVariables false
set_option maxRecDepth 20000
namespace Go.Proofs.Ytgnnjinpcdemiaa.OwnB
open Go.RowKit Go.Proofs.Ytgnnjinpcdemiaa.Base Go.Proofs.Ytgnnjinpcdemiaa.Laws
theorem infou8 : (Try.prog.info? 5).map (fun i => (i.zero, i.size, i.bytes)) = some (some (.int .u8 0), 1, 1) := by kernel_rfl
theorem src_bts {w : World} {a : Option Addr} {len cap : Nat} {l : List UInt8} (h : Bts w a len cap l) : SrcOf w a len 1 (bv l) := by
  obtain ⟨h1, _, _, h4⟩ := h
  refine ⟨by simp [h1, bv_len], fun u hu => by unfold bv at hu; obtain ⟨x, _, rfl⟩ := List.mem_map.1 hu; rfl, ?_⟩
  rcases h4 with h4 | ⟨b, o, e, hc⟩
  · exact .inl h4
  · refine .inr ⟨_, e, fun j u hu => ?_⟩
    rw [bv_get, Option.map_eq_some_iff] at hu
    obtain ⟨x, hx, rfl⟩ := hu
    have := hc j x hx
    simp only [Addr.add_lit]
    exact this
theorem bts_own {w : World} {base : Nat} {e : TypeId} {v : Value} {n : Nat} {l : List UInt8} (hl : l.length = n) (h : w.ownsRow base e 1 v n (bv l)) : ∃ a cap, v = .slice a n cap ∧ Bts w a n cap l := by
  obtain ⟨a, cap, rfl, h1, h2, h3⟩ := own_slice h (by decide)
  refine ⟨a, cap, rfl, hl, h1, h2, ?_⟩
  rcases h3 with h3 | ⟨g, rfl, _, hc⟩
  · exact .inl h3
  · exact .inr ⟨g, 0, rfl, fun i u hu => hc i _ (by simp [bv_get, hu])⟩
end Go.Proofs.Ytgnnjinpcdemiaa.OwnB
/-
  A row of bytes that is made with room. Helper text; no statement is proved here.
-/
set_option linter.unusedVariables false
set_option maxRecDepth 20000
namespace Go.Proofs.Ytgnnjinpcdemiaa.OwnB
open Go.RowKit Go.Proofs.Ytgnnjinpcdemiaa.Base Go.Proofs.Ytgnnjinpcdemiaa.Laws
/-- noughts -/
def zs (k : Nat) : List UInt8 := List.replicate k 0
theorem zs_bv (k : Nat) : List.replicate k (Value.int .u8 0) = bv (zs k) := by
  unfold bv zs u8
  rw [List.map_replicate]
  rfl
theorem made_bytes (c : Nat) : madeCells (Value.int .u8 0).cells (c * 1) = (bv (zs c)).toArray := by
  apply Array.toList_inj.1
  rw [Nat.mul_one, ← zs_bv]
  exact toList_madeCells_one _ _
/-- 'make([]byte, n, c)' -/
theorem wpList_make_bytes {w : World} {ops : Array Oper} {rest : List Oper} {o : Oper} {a : Act} {Q : Exit → Act → World → Prop}
    (hg : o.guard = none) (l c : Operand) (hop : o.op = Op.makeSlice 27 l c) (kl kc : IntKind) (L C : Int) (n m : Nat) (hl : a.eval l = .int kl L) (hc : a.eval c = .int kc C) (hL : L = (n : Int)) (hC : C = (m : Int)) (hnm : n ≤ m) (hm : m ≤ 1000000)
    (h : wpList Try.prog ops Q rest (a.put o.dst (.slice (some ⟨w.heap.size, 0, none⟩) n m)) (w.alloc (.cells (bv (zs m)).toArray 5))) : wpList Try.prog ops Q (o :: rest) a w := by
  obtain ⟨i, hi, hz, hs, hb⟩ := info_parts infou8
  refine wpList_plain hg fun K hK => ?_
  subst hL
  subst hC
  have hr := run_make (P := Try.prog) w 27 5 i (.int .u8 0) Try.underlying27 hi hz kl kc n m (by omega) (by omega) (by rw [hb]; omega) (by omega)
  rw [hs] at hr
  simp only [Int.toNat_natCast, made_bytes] at hr
  unfold Oper.wp
  simp [execOp, hop, hl, hc, hr, Result.andThen]
  exact hK _ _ h
end Go.Proofs.Ytgnnjinpcdemiaa.OwnB
/-
  A region whose order is open and in which two rows of noughts are made. Helper text; no statement is proved here.
-/
set_option linter.unusedVariables false
set_option maxRecDepth 20000
set_option linter.unusedSimpArgs false
namespace Go.Proofs.Ytgnnjinpcdemiaa.Two
open Go.RowKit Go.Proofs.Ytgnnjinpcdemiaa.Base Go.Proofs.Ytgnnjinpcdemiaa.Laws Go.Proofs.Ytgnnjinpcdemiaa.InvC Go.Proofs.Ytgnnjinpcdemiaa.OwnB
theorem exec_make {ρ : Operand → Value} {w : World} {o : Oper} {l c : Operand} {n : Nat} (hop : o.op = Op.makeSlice 27 l c) (hl : ρ l = .int .i64 (n : Int)) (hc : ρ c = .int .i64 (n : Int)) (hn : n ≤ 4096) :
    (execOp ρ o).run Try.prog w = .ok (.value (.slice (some ⟨w.heap.size, 0, none⟩) n n)) (w.alloc (.cells (bv (zs n)).toArray 5)) := by
  obtain ⟨i, hi, hz, hs, hb⟩ := info_parts infou8
  have hr := run_make (P := Try.prog) w 27 5 i (.int .u8 0) Try.underlying27 hi hz .i64 .i64 n n (by omega) (by omega) (by rw [hb]; omega) (by omega)
  rw [hs] at hr
  simp only [Int.toNat_natCast, made_bytes] at hr
  simp [execOp, hop, hl, hc, hr, Result.andThen]
/-- how far the two are -/
def St (w0 : World) (Z : Obj) (p c : Nat) (κ : Bool) (d : Array Bool) (w : World) : Prop :=
  match d.getD p false, d.getD c false with
  | false, false => w = w0
  | true, false => κ = true ∧ w = w0.alloc Z
  | false, true => κ = false ∧ w = w0.alloc Z
  | true, true => w = (w0.alloc Z).alloc Z
def pN (N : Nat) (κ : Bool) : Nat := match κ with | true => N | false => N + 1
def cN (N : Nat) (κ : Bool) : Nat := match κ with | true => N + 1 | false => N
section
variable {w0 : World} {Z : Obj} {p c : Nat} {κ : Bool} {d : Array Bool} {w w' : World}
theorem St.keep {i : Nat} (h1 : i ≠ p) (h2 : i ≠ c) (h : St w0 Z p c κ d w) : St w0 Z p c κ (d.setIfInBounds i true) w := by
  unfold St at *
  rwa [getD_set_ne false h1, getD_set_ne false h2]
theorem getD_now2 {i : Nat} (h : d.getD i true = false) : (d.setIfInBounds i true).getD i false = true := by
  have hp : i < d.size := by
    rcases Nat.lt_or_ge i d.size with h' | h'
    · exact h'
    · simp [Array.getElem?_eq_none h'] at h
  simp [hp]
theorem St.at_p (hpc : p ≠ c) (hd : d.getD p true = false) (hG : Two p c κ p d) (h : St w0 Z p c κ d w) : w.heap.size = pN w0.heap.size κ ∧ St w0 Z p c κ (d.setIfInBounds p true) (w.alloc Z) := by
  have hd' := getD_true_of hd
  unfold St at h ⊢
  rw [getD_now2 hd, getD_set_ne false hpc]
  rw [hd'] at h
  cases κ with
  | true =>
    cases hc : d.getD c false with
    | false => rw [hc] at h; simp only at h ⊢; subst h; exact ⟨rfl, by trivial, rfl⟩
    | true => rw [hc] at h; simp only at h; exact absurd h.1 (by decide)
  | false =>
    have := hG rfl
    rw [this] at h ⊢; simp only at h ⊢
    obtain ⟨_, rfl⟩ := h
    exact ⟨by simp [pN], rfl⟩
theorem St.at_c (hpc : p ≠ c) (hd : d.getD c true = false) (hG : Two p c κ c d) (h : St w0 Z p c κ d w) : w.heap.size = cN w0.heap.size κ ∧ St w0 Z p c κ (d.setIfInBounds c true) (w.alloc Z) := by
  have hd' := getD_true_of hd
  unfold St at h ⊢
  rw [getD_now2 hd, getD_set_ne false (Ne.symm hpc)]
  rw [hd'] at h
  cases κ with
  | false =>
    cases hc : d.getD p false with
    | false => rw [hc] at h; simp only at h ⊢; subst h; exact ⟨rfl, by trivial, rfl⟩
    | true => rw [hc] at h; simp only at h; exact absurd h.1 (by decide)
  | true =>
    have := hG rfl
    rw [this] at h ⊢; simp only at h ⊢
    obtain ⟨_, rfl⟩ := h
    exact ⟨by simp [cN], rfl⟩
theorem St.both (h1 : d.getD p false = true) (h2 : d.getD c false = true) (h : St w0 Z p c κ d w) : w = (w0.alloc Z).alloc Z := by
  unfold St at h; rw [h1, h2] at h; exact h
theorem St.same {d : Array Bool} (h1 : d.getD p false = false) (h2 : d.getD c false = false) : St w0 Z p c true d w ↔ St w0 Z p c false d w := by
  unfold St; rw [h1, h2]
end
end Go.Proofs.Ytgnnjinpcdemiaa.Two
/-
  Mul, power, Exp, Inv, Solve of the field by contract. Helper text; no statement is proved here.
-/
set_option linter.unusedVariables false
set_option maxRecDepth 20000
set_option linter.unusedSimpArgs false
namespace Go.Proofs.Ytgnnjinpcdemiaa.Gf
open Go.RowKit Go.Proofs.Ytgnnjinpcdemiaa.Base
/-- sum and shifted factor behind k rounds -/
def st (a b : Nat) : Nat → Nat × Nat
  | 0 => (0, a)
  | k + 1 => (if (b >>> k) % 2 = 1 then (st a b k).1 ^^^ (st a b k).2 else (st a b k).1, if 255 < 2 * (st a b k).2 then (2 * (st a b k).2) ^^^ 285 else 2 * (st a b k).2)
def mul (a b : Nat) : Nat := (st a b 8).1
theorem x285 : ∀ x : Nat, x < 256 → 255 < 2 * x → (2 * x) ^^^ 285 < 256 := by decide
theorem st_lt {a b : Nat} (ha : a < 256) (k : Nat) : (st a b k).1 < 256 ∧ (st a b k).2 < 256 := by
  induction k with
  | zero => exact ⟨by simp [st], ha⟩
  | succ k ih =>
    obtain ⟨h1, h2⟩ := ih
    constructor
    · simp only [st]; split
      · exact Nat.xor_lt_two_pow (n := 8) h1 h2
      · exact h1
    · simp only [st]; split
      · exact x285 _ h2 (by assumption)
      · omega
theorem mul_lt {a b : Nat} (ha : a < 256) : mul a b < 256 := (st_lt ha 8).1
theorem st_end {a b k : Nat} (h : b >>> k = 0) (j : Nat) : (st a b (k + j)).1 = (st a b k).1 := by
  induction j with
  | zero => rfl
  | succ j ih =>
    have : b >>> (k + j) = 0 := by rw [Nat.shiftRight_add, h]; simp
    rw [← ih, ← Nat.add_assoc, st, this]; simp
theorem xor_i64 (a b : Nat) (ha : a < 65536) (hb : b < 65536) : bits .xor .i64 (a : Int) (b : Int) = ((a ^^^ b : Nat) : Int) := by
  have hx : a ^^^ b < 2 ^ 16 := Nat.xor_lt_two_pow (by omega) (by omega)
  show IntKind.i64.wrap ((BitVec.ofInt 64 (a : Int) ^^^ BitVec.ofInt 64 (b : Int)).toNat : Int) = _
  rw [BitVec.toNat_xor, ofInt_u64 a (by omega), ofInt_u64 b (by omega), IntKind.wrap_i64]
  omega
theorem and_u8 (c : Nat) (h : c < 256) : bits .and .u8 (c : Int) 1 = ((c % 2 : Nat) : Int) := by
  have := u8_and_nat c 1 h (by decide)
  rw [Nat.and_one_is_mod] at this
  exact this
theorem and_i64 (c : Nat) (h : c < 65536) : bits .and .i64 (c : Int) 1 = ((c % 2 : Nat) : Int) := by
  show IntKind.i64.wrap ((BitVec.ofInt 64 (c : Int) &&& BitVec.ofInt 64 ((1 : Nat) : Int)).toNat : Int) = _
  rw [BitVec.toNat_and, ofInt_u64 c (by omega), ofInt_u64 1 (by omega), IntKind.wrap_i64, Nat.and_one_is_mod]
  omega
set_option maxHeartbeats 1000000 in
theorem mul_any (a b : Nat) (ha : a < 256) (hb : b < 256) (w : World) : Calls Try.prog 78 #[.int .u8 (a : Int), .int .u8 (b : Int)] w fun e w' => e = .returned (.int .u8 (mul a b : Nat)) ∧ w = w' := by
  go_enter Try.func78, Try.ntmps78
  go_wp2_with fail
  go_loop [5, 6, 1] (fun p x b' => ∃ k : Nat, k ≤ 8 ∧ p = .int .i64 ((st a b k).1 : Nat) ∧ x = .int .i64 ((st a b k).2 : Nat) ∧ b' = .int .u8 (b >>> k : Nat)) (fun _ _ b' => (intOf b').toNat)
  case atStart => exact ⟨0, by omega, rfl, rfl, rfl⟩
  case round =>
    obtain ⟨k, hk, rfl, rfl, rfl⟩ := hrel
    obtain ⟨p, hp⟩ : ∃ p, p = (st a b k).1 := ⟨_, rfl⟩
    obtain ⟨x, hx⟩ : ∃ x, x = (st a b k).2 := ⟨_, rfl⟩
    obtain ⟨c, hc⟩ : ∃ c, c = b >>> k := ⟨_, rfl⟩
    have hs := st_lt (b := b) ha k
    rw [← hp, ← hx] at hs
    rw [← hp, ← hx, ← hc]
    obtain ⟨hs1, hs2⟩ := hs
    have hcb : c < 256 := by rw [hc]; exact Nat.lt_of_le_of_lt (Nat.shiftRight_le _ _) hb
    have HP := Lib.hid hp
    have HX := Lib.hid hx
    have HC := Lib.hid hc
    clear hp hx hc
    by_cases hc0 : c = 0
    · subst hc0
      go_wp2_with fail
      go_ret
      refine ⟨?_, rfl⟩
      have e : (st a b (k + (8 - k))).1 = (st a b k).1 := st_end HC.out.symm _
      rw [show k + (8 - k) = 8 by omega] at e
      unfold mul
      rw [e, ← HP.out]
      rfl
    · go_wp2_with fail
      all_goals
        rename_i hodd hbig
        rw [and_u8 c hcb] at hodd
        have hk8 : k < 8 := by
          rcases Nat.lt_or_ge k 8 with h | h
          · exact h
          · refine absurd ?_ hc0
            rw [HC.out, Nat.shiftRight_eq_div_pow]
            exact Nat.div_eq_of_lt (Nat.lt_of_lt_of_le hb (Nat.pow_le_pow_right (n := 2) (by decide) h))
        refine ⟨⟨k + 1, by omega, ?_, ?_, ?_⟩, by simp only [intOf]; omega⟩
        · simp only [st]
          rw [← HP.out, ← HX.out, ← HC.out]
          first
            | (rw [if_pos (by simp at hodd; omega), xor_i64 p x (by omega) (by omega)])
            | (rw [if_neg (by simp at hodd; omega)])
        · simp only [st]
          rw [← HX.out]
          first
            | (rw [if_pos (by omega), show ((x : Int) * 2) = ((2 * x : Nat) : Int) by omega, xor_i64 (2 * x) 285 (by omega) (by omega)]; done)
            | (rw [if_pos (by omega), show ((x : Int) * 2) = ((2 * x : Nat) : Int) by omega]; exact congrArg _ (xor_i64 (2 * x) 285 (by omega) (by omega)))
            | (rw [if_neg (by omega), show ((x : Int) * 2) = ((2 * x : Nat) : Int) by omega])
        · rw [Nat.shiftRight_succ, ← HC.out]; congr 1
def pw : Nat → Nat → Nat → Nat → Nat
  | 0, p, _, _ => p
  | f + 1, p, a, n => if n = 0 then p else pw f (if n % 2 = 1 then mul p a else p) (mul a a) (n / 2)
theorem pw_lt : ∀ (f p a n : Nat), p < 256 → pw f p a n < 256
  | 0, p, a, n, h => h
  | f + 1, p, a, n, h => by
    rw [pw]; split
    · exact h
    · exact pw_lt f _ _ _ (by split <;> first | exact mul_lt h | exact h)
theorem pw_nil (f p a : Nat) : pw f p a 0 = p := by cases f <;> simp [pw]
def power (a n : Nat) : Nat := pw 16 1 a n
set_option maxHeartbeats 1000000 in
theorem power_any (a n : Nat) (ha : a < 256) (hn : n < 65536) (w : World) : Calls Try.prog 79 #[.int .u8 (a : Int), .int .i64 (n : Int)] w fun e w' => e = .returned (.int .u8 (power a n : Nat)) ∧ w = w' := by
  have HM := Lib.hid mul_any
  go_enter Try.func79, Try.ntmps79
  go_wp2_with fail
  go_loop [5, 0, 1] (fun p' a' n' => ∃ f p x c : Nat, p' = .int .u8 (p : Int) ∧ a' = .int .u8 (x : Int) ∧ n' = .int .i64 (c : Int) ∧ p < 256 ∧ x < 256 ∧ c < 2 ^ f ∧ f ≤ 16 ∧ pw f p x c = power a n) (fun _ _ n' => (intOf n').toNat)
  case atStart => exact ⟨16, 1, a, n, rfl, rfl, rfl, by omega, ha, by omega, by omega, rfl⟩
  case round =>
    obtain ⟨f, p, x, c, rfl, rfl, rfl, hp, hx, hc, hf, he⟩ := hrel
    have HE := Lib.hid he
    have HF := Lib.hid hc
    have hc16 : c < 65536 := Nat.lt_of_lt_of_le hc (Nat.le_trans (Nat.pow_le_pow_right (n := 2) (by decide) hf) (by decide))
    clear he hc
    by_cases hc0 : c = 0
    · subst hc0
      go_wp2_with fail
      go_ret
      refine ⟨?_, rfl⟩
      rw [← HE.out, pw_nil]
      rfl
    · obtain ⟨g, rfl⟩ : ∃ g, f = g + 1 := by
        cases f with
        | zero => have := HF.out; simp at this; omega
        | succ g => exact ⟨g, rfl⟩
      have h2 := HF.out
      have hg : c / 2 < 2 ^ g := by rw [Nat.pow_succ] at h2; omega
      have h3 := HE.out
      rw [pw, if_neg hc0] at h3
      have HG := Lib.hid hg
      have H3 := Lib.hid h3
      clear h2 h3 hg
      by_cases hodd : c % 2 = 1
      all_goals
        have hb := and_i64 c hc16
        first | (rw [hodd] at hb) | (rw [show c % 2 = 0 by omega] at hb)
        have HO := Lib.hid hodd
        clear hodd
        go_wp2_with (first | (go_at_call 78; refine (HM.out _ _ (by first | assumption | exact mul_lt (by assumption)) (by first | assumption | exact mul_lt (by assumption)) _).mono ?_; rintro e w' ⟨rfl, rfl⟩))
        have h3 := H3.out
        first | (rw [if_pos HO.out] at h3) | (rw [if_neg HO.out] at h3)
        exact ⟨⟨g, _, _, c / 2, rfl, rfl, by congr 1, by first | assumption | exact mul_lt hp, mul_lt hx, HG.out, by omega, h3⟩, by simp only [intOf]; omega⟩
theorem exp_any (n : Nat) (hn : n < 255) (w : World) : Calls Try.prog 67 #[.int .i64 (n : Int)] w fun e w' => e = .returned (.int .u8 (power 2 n : Nat)) ∧ w = w' := by
  have HP := Lib.hid (power_any 2 n (by omega) (by omega))
  have HA := Lib.hid (fun w => by
    go_enter Try.func80, Try.ntmps80
    go_wp2_with fail
    go_ret
    exact ⟨by
      have e1 : Int.tmod (n : Int) 255 = (n : Int) := by rw [Int.tmod_eq_emod_of_nonneg (by omega)]; omega
      have e2 : Int.tmod ((n : Int) + 255) 255 = (n : Int) := by rw [Int.tmod_eq_emod_of_nonneg (by omega)]; omega
      simp [e1, e2]; omega, rfl⟩ : ∀ w, Calls Try.prog 80 #[.int .i64 (n : Int)] w fun e w' => e = .returned (.int .i64 (n : Int)) ∧ w = w')
  go_enter Try.func67, Try.ntmps67
  go_wp2_with (first | (go_at_call 80; refine (HA.out _).mono ?_; rintro e w' ⟨rfl, rfl⟩) | (go_at_call 79; refine (HP.out _).mono ?_; rintro e w' ⟨rfl, rfl⟩))
  go_ret
  exact ⟨rfl, rfl⟩
end Go.Proofs.Ytgnnjinpcdemiaa.Gf
/-
  add, sums, width of parity by contract. Helper text; no statement is proved here.
-/
set_option linter.unusedVariables false
set_option maxRecDepth 20000
set_option linter.unusedSimpArgs false
namespace Go.Proofs.Ytgnnjinpcdemiaa.Par
open Go.RowKit Go.Proofs.Ytgnnjinpcdemiaa.Inv Go.Proofs.Ytgnnjinpcdemiaa.Base Go.Proofs.Ytgnnjinpcdemiaa.Laws Go.Proofs.Ytgnnjinpcdemiaa.Disk Go.Proofs.Ytgnnjinpcdemiaa.Gf
theorem cell_only {w w' : World} {S : List Nat} (ho : Only S w w') {b : Nat} (hb : b < w.heap.size) (hn : b ∉ S) (o : Nat) : w'.cell? ⟨b, o, none⟩ = w.cell? ⟨b, o, none⟩ := by
  have := ho.block b hb hn
  simp [World.cell?, this]
/-- the sums behind k steps of add -/
def addN (g : Nat) (p c : List UInt8) : Nat → List UInt8
  | 0 => p
  | k + 1 => (addN g p c k).set k ((addN g p c k).getD k 0 ^^^ UInt8.ofNat (mul g (c.getD k 0).toNat))
theorem addN_len (g : Nat) (p c : List UInt8) (k : Nat) : (addN g p c k).length = p.length := by induction k with
  | zero => rfl
  | succ k ih => simp [addN, ih]
def addTo (g : Nat) (p c : List UInt8) : List UInt8 := addN g p c c.length
theorem addTo_len (g : Nat) (p c : List UInt8) : (addTo g p c).length = p.length := addN_len g p c _
theorem bv_set (l : List UInt8) (k : Nat) (x : UInt8) : (bv l).set k (u8 x) = bv (l.set k x) := by simp [bv, List.map_set]
set_option maxHeartbeats 1000000 in
theorem add_any (g : Nat) (hg : g < 256) (bp n cp : Nat) (p : List UInt8) (a : Option Addr) (m cc : Nat) (c : List UInt8) (w : World) (hp : Blk w bp (bv p) 5) (hn : p.length = n) (hnc : n ≤ cp) (hc : Bts w a m cc c) (hm : m ≤ n) (hna : m ≠ 0 → ∀ b o, a = some ⟨b, o, none⟩ → b ≠ bp) :
    Calls Try.prog 65 #[.slice (some ⟨bp, 0, none⟩) n cp, .slice a m cc, .int .u8 (g : Int)] w fun e w' => e = .returned (.tuple #[]) ∧ Blk w' bp (bv (addTo g p c)) 5 ∧ Only [bp] w w' := by
  have HM := Lib.hid mul_any
  have hcl := hc.1
  have HC := Lib.hid hc
  have HP := Lib.hid hp
  have HN := Lib.hid hna
  clear hc hp hna
  go_enter Try.func65, Try.ntmps65
  go_wp2_with fail
  go_loopw [10] (fun i wr => ∃ k : Nat, k ≤ m ∧ i = .int .i64 k ∧ Blk wr bp (bv (addN g p c k)) 5 ∧ Only [bp] w wr) (fun i _ => m - (intOf i).toNat)
  case atStart => exact ⟨0, by omega, rfl, HP.out, Only.refl _ _⟩
  case round =>
    obtain ⟨k, hk, rfl, hb, ho⟩ := hrel
    by_cases hkm : k < m
    · obtain ⟨x, hx⟩ : ∃ x, c[k]? = some x := ⟨_, List.getElem?_eq_getElem (by omega)⟩
      obtain ⟨y, hy⟩ : ∃ y, (addN g p c k)[k]? = some y := ⟨_, List.getElem?_eq_getElem (by rw [addN_len]; omega)⟩
      obtain ⟨b, o, rfl, hat⟩ : ∃ b o, a = some ⟨b, o, none⟩ ∧ wr.cell? ⟨b, o + k, none⟩ = some (u8 x) := by
        obtain ⟨_, _, _, h | ⟨b, o, e, h⟩⟩ := HC.out
        · omega
        · exact ⟨b, o, e, by rw [cell_only ho (block_lt_of_cell (h k x hx)) (by simpa using HN.out (by omega) b o e)]; exact h k x hx⟩
      have hyc : wr.cell? ⟨bp, k, none⟩ = some (u8 y) := by rw [hb.cell, bv_get, hy]; rfl
      have hfr : wr.frozen? ⟨bp, k, none⟩ = false := hb.frozen k
      have hxl := x.toNat_lt
      have hyl := y.toNat_lt
      unfold u8 at hat hyc
      have hxor := u8_xor_nat y.toNat (mul g x.toNat) hyl (mul_lt hg)
      have hset : (addN g p c k).set k (y ^^^ UInt8.ofNat (mul g x.toNat)) = addN g p c (k + 1) := by rw [addN, List.getD_eq_getElem?_getD, List.getD_eq_getElem?_getD, hy, hx]; rfl
      have HS := Lib.hid hset
      have hu8 : u8 (y ^^^ UInt8.ofNat (mul g x.toNat)) = .int .u8 ((y.toNat ^^^ mul g x.toNat : Nat) : Int) := by
        have hml := mul_lt (b := x.toNat) hg
        unfold u8; rw [UInt8.toNat_xor, UInt8.toNat_ofNat']; congr 3; omega
      have HU := Lib.hid hu8
      have hmx : m ≤ maxLen := by have := HC.out; exact Nat.le_trans this.2.1 this.2.2.1
      unfold maxLen at hmx
      clear hset hu8
      have HB := Lib.hid hb
      have HO := Lib.hid ho
      clear hx hy hb ho
      go_wp2_with fail
      refine wp_region_inv_tail (fun w' => w' = wr.drew) 9 (by kernel_rfl) (by kernel_rfl) rfl ?_
      simp only [List.take_succ_cons, List.take_zero, List.drop_succ_cons, List.drop_zero]
      refine inv_move _ rfl rfl ?_
      refine inv_move _ rfl rfl ?_
      refine inv_value (.pointer (some ⟨bp, k, none⟩)) rfl (fun w' e => by go_simp; intro hh; omega) ?_
      refine inv_value (.int .u8 (y.toNat : Int)) rfl (fun w' e => by rw [e]; go_simp) ?_
      refine inv_move _ rfl rfl ?_
      refine inv_move _ rfl rfl ?_
      refine inv_call (.int .u8 (mul g x.toNat : Nat)) rfl 78 #[.int .u8 (g : Int), .int .u8 (x.toNat : Int)] (fun w' _ => by go_simp) (fun w' h => (HM.out _ _ hg hxl w').mono fun e w'' he => ⟨he.1, he.2 ▸ h⟩) ?_
      refine inv_value (.int .u8 ((y.toNat ^^^ mul g x.toNat : Nat) : Int)) rfl (fun w' e => by go_simp) ?_
      refine inv_value (.pointer (some ⟨bp, k, none⟩)) rfl (fun w' e => by go_simp; intro hh; omega) ?_
      refine inv_nil fun w' hI => ?_
      subst hI
      go_wp2
      go_round
      case rel =>
        refine ⟨k + 1, by omega, by go_num, ?_, (HO.out.setCell (List.mem_singleton.2 rfl) k _).drew⟩
        have := HB.out.setCell k (u8 (y ^^^ UInt8.ofNat (mul g x.toNat)))
        rw [bv_set, HS.out, HU.out] at this
        exact this
      case measure => simp [intOf]; omega
    · go_wp2_with fail
      go_end0
      obtain rfl : k = m := by omega
      exact ⟨rfl, by unfold addTo; rw [hcl]; exact hb, ho⟩
end Go.Proofs.Ytgnnjinpcdemiaa.Par
/-
  sums of parity by contract: only lengths are told. Helper text; no statement is proved here.
-/
set_option linter.unusedVariables false
set_option maxRecDepth 20000
set_option linter.unusedSimpArgs false
namespace Go.Proofs.Ytgnnjinpcdemiaa.Par
open Go.RowKit Go.Proofs.Ytgnnjinpcdemiaa.Base Go.Proofs.Ytgnnjinpcdemiaa.Laws Go.Proofs.Ytgnnjinpcdemiaa.Disk Go.Proofs.Ytgnnjinpcdemiaa.Gf Go.Proofs.Ytgnnjinpcdemiaa.InvC Go.Proofs.Ytgnnjinpcdemiaa.Two Go.Proofs.Ytgnnjinpcdemiaa.OwnB
/-- columns: a readable [][]byte -/
def Cols (w : World) (v : Value) (l : List (List UInt8)) : Prop := ∃ a c, v = .slice a l.length c ∧ l.length ≤ maxLen ∧ ∀ i B, l[i]? = some B → ∃ g o a' c', a = some ⟨g, o, none⟩ ∧ w.cell? ⟨g, o + i, none⟩ = some (.slice a' B.length c') ∧ Bts w a' B.length c' B
/-- P and Q of the first k columns -/
def sumP (n : Nat) (cols : List (List UInt8)) : Nat → List UInt8
  | 0 => zs n
  | k + 1 => addTo 1 (sumP n cols k) (cols.getD k [])
def sumQ (n : Nat) (cols : List (List UInt8)) : Nat → List UInt8
  | 0 => zs n
  | k + 1 => addTo (Gf.power 2 k) (sumQ n cols k) (cols.getD k [])
theorem sumP_len (n : Nat) (cols : List (List UInt8)) (k : Nat) : (sumP n cols k).length = n := by
  induction k with
  | zero => simp [sumP, zs]
  | succ k ih => rw [sumP, addTo_len, ih]
theorem sumQ_len (n : Nat) (cols : List (List UInt8)) (k : Nat) : (sumQ n cols k).length = n := by
  induction k with
  | zero => simp [sumQ, zs]
  | succ k ih => rw [sumQ, addTo_len, ih]
set_option maxHeartbeats 1000000 in
theorem sums_any (v : Value) (cols : List (List UInt8)) (n : Nat) (hn : n ≤ 4096) (w : World) (hc : Cols w v cols) (hl : ∀ B ∈ cols, B.length ≤ n) (hk : cols.length ≤ 200) :
    Calls Try.prog 55 #[v, .int .i64 (n : Int)] w fun e w' => ∃ bp bq, e = .returned (.tuple #[.slice (some ⟨bp, 0, none⟩) n n, .slice (some ⟨bq, 0, none⟩) n n]) ∧ w.heap.size ≤ bp ∧ w.heap.size ≤ bq ∧ bp ≠ bq ∧ Blk w' bp (bv (sumP n cols cols.length)) 5 ∧ Blk w' bq (bv (sumQ n cols cols.length)) 5 ∧ Below w.heap.size w w' := by
  obtain ⟨a, c, rfl, hml, hat⟩ := hc
  have HA := Lib.hid hat
  have HLn := Lib.hid hl
  clear hat hl
  go_enter Try.func55, Try.ntmps55
  go_upto_region 1 with (fail)
  refine wp_region_two_tail (fun κ d w' => St w.drew (.cells (bv (zs n)).toArray 5) 1 3 κ d w') (fun i => [some (.int .i64 (n : Int)), none, some (.int .i64 (n : Int)), none, none].getD i none) 5 1 3 (by kernel_rfl) (by kernel_rfl) (by decide) (by decide) (by decide) (by kernel_rfl) (fun d w h1 h2 => St.same h1 h2) (fun κ => rfl) ?_
  intro κ
  simp only [List.take_succ_cons, List.take_zero, List.drop_succ_cons, List.drop_zero]
  refine invc_value (.int .i64 (n : Int)) (fun u hu => Option.some.inj hu) rfl (fun d w' _ _ h => by go_simp) (fun d w' _ _ h => h.keep (by decide) (by decide)) ?_
  simp only [Act.put, List.setIfInBounds_toArray, List.set_cons_zero, List.set_cons_succ]
  refine invc_world (.slice (some ⟨pN w.heap.size κ, 0, none⟩) n n) (fun u hu => by cases hu) rfl (fun d w' hd hG h => ⟨_, by rw [exec_make rfl rfl rfl hn, (h.at_p (by decide) hd hG).1]; rfl, (h.at_p (by decide) hd hG).2⟩) ?_
  simp only [Act.put, List.setIfInBounds_toArray, List.set_cons_zero, List.set_cons_succ]
  refine invc_value (.int .i64 (n : Int)) (fun u hu => Option.some.inj hu) rfl (fun d w' _ _ h => by go_simp) (fun d w' _ _ h => h.keep (by decide) (by decide)) ?_
  simp only [Act.put, List.setIfInBounds_toArray, List.set_cons_zero, List.set_cons_succ]
  refine invc_world (.slice (some ⟨cN w.heap.size κ, 0, none⟩) n n) (fun u hu => by cases hu) rfl (fun d w' hd hG h => ⟨_, by rw [exec_make rfl rfl rfl hn, (h.at_c (by decide) hd hG).1]; rfl, (h.at_c (by decide) hd hG).2⟩) ?_
  simp only [Act.put, List.setIfInBounds_toArray, List.set_cons_zero, List.set_cons_succ]
  refine invc_value (.slice (some ⟨pN w.heap.size κ, 0, none⟩) n n) (fun u hu => by cases hu) rfl (fun d w' _ _ h => by go_simp) (fun d w' _ _ h => h.keep (by decide) (by decide)) ?_
  simp only [Act.put, List.setIfInBounds_toArray, List.set_cons_zero, List.set_cons_succ]
  refine invc_nil fun w2 hI => ?_
  have hw2 := hI.both (by kernel_rfl) (by kernel_rfl)
  clear hI
  have hpc : pN w.heap.size κ ≠ cN w.heap.size κ ∧ w.heap.size ≤ pN w.heap.size κ ∧ w.heap.size ≤ cN w.heap.size κ ∧ Blk w2 (pN w.heap.size κ) (bv (zs n)) 5 ∧ Blk w2 (cN w.heap.size κ) (bv (zs n)) 5 := by
    have h1 : Blk w2 w.heap.size (bv (zs n)) 5 := by rw [hw2]; exact (blk_at (w := w.drew) (by rfl) rfl).alloc _
    have h2 : Blk w2 (w.heap.size + 1) (bv (zs n)) 5 := by rw [hw2]; exact blk_at (by simp) rfl
    cases κ with
    | true => exact ⟨by simp [pN, cN], by simp [pN], by simp [cN], h1, h2⟩
    | false => exact ⟨by simp [pN, cN], by simp [pN], by simp [cN], h2, h1⟩
  obtain ⟨bp, hbp⟩ : ∃ bp, bp = pN w.heap.size κ := ⟨_, rfl⟩
  obtain ⟨bq, hbq⟩ : ∃ bq, bq = cN w.heap.size κ := ⟨_, rfl⟩
  rw [← hbp, ← hbq] at hpc ⊢
  have hbl : Below w.heap.size w w2 := by rw [hw2]; exact (((Below.refl _ _).drew).alloc (Nat.le_refl _) _).alloc (by simp) _
  obtain ⟨hne, hp0, hq0, hP, hQ⟩ := hpc
  have HP := Lib.hid hP
  have HQ := Lib.hid hQ
  have HB := Lib.hid hbl
  clear hP hQ hbl hw2 hbp hbq
  go_wp2_with fail
  go_loopw [14] (fun i wr => ∃ k : Nat, k ≤ cols.length ∧ i = .int .i64 k ∧ Blk wr bp (bv (sumP n cols k)) 5 ∧ Blk wr bq (bv (sumQ n cols k)) 5 ∧ Below w.heap.size w wr) (fun i _ => cols.length - (intOf i).toNat)
  case atStart => exact ⟨0, by omega, rfl, HP.out, HQ.out, HB.out⟩
  case round =>
    obtain ⟨k, hk', rfl, hP, hQ, hB⟩ := hrel
    have hPl := sumP_len n cols k
    have hQl := sumQ_len n cols k
    obtain ⟨P, hPe⟩ : ∃ P, P = sumP n cols k := ⟨_, rfl⟩
    obtain ⟨Q, hQe⟩ : ∃ Q, Q = sumQ n cols k := ⟨_, rfl⟩
    rw [← hPe] at hP hPl
    rw [← hQe] at hQ hQl
    have HPE := Lib.hid hPe
    have HQE := Lib.hid hQe
    clear hPe hQe
    have HP := Lib.hid hP
    have HQ := Lib.hid hQ
    have HB := Lib.hid hB
    clear hP hQ hB
    by_cases hkn : k < cols.length
    · obtain ⟨B, hB⟩ : ∃ B, cols[k]? = some B := ⟨_, List.getElem?_eq_getElem hkn⟩
      obtain ⟨g, o, a', c', rfl, hcell, hbt⟩ := HA.out k B hB
      have hBn : B.length ≤ n := HLn.out B (List.mem_of_getElem? hB)
      have hcell2 : wr.cell? ⟨g, o + k, none⟩ = some (.slice a' B.length c') := by rw [HB.out.cell (p := ⟨g, o + k, none⟩) (block_lt_of_cell hcell)]; exact hcell
      have hbt2 := hbt.below HB.out (Nat.le_refl _)
      have hfar : ∀ (x : Nat), w.heap.size ≤ x → B.length ≠ 0 → ∀ b o, a' = some ⟨b, o, none⟩ → b ≠ x := by
        intro x hx h0 b o e
        obtain ⟨_, _, _, h | ⟨b', o', e', h⟩⟩ := hbt
        · exact absurd h h0
        · rw [e] at e'
          simp only [Option.some.injEq, Addr.mk.injEq, and_true] at e'
          have : b' < w.heap.size := block_lt_of_cell (h 0 B[0] (List.getElem?_eq_getElem (by omega)))
          omega
      have HBD := Lib.hid (show cols.getD k [] = B by rw [List.getD_eq_getElem?_getD, hB]; rfl)
      have HBT := Lib.hid hbt2
      have HBT0 := Lib.hid hbt
      have HF := Lib.hid hfar
      clear hbt hbt2 hfar hB hcell
      have A1 := Lib.hid (show Calls Try.prog 65 #[.slice (some ⟨bp, 0, none⟩) n n, .slice a' B.length c', .int .u8 1] wr fun e w' => e = .returned (.tuple #[]) ∧ Blk w' bp (bv (addTo 1 P B)) 5 ∧ Only [bp] wr w' from by
        have h := add_any 1 (by decide) bp n n P a' B.length c' B wr HP.out hPl (Nat.le_refl _) HBT.out hBn (HF.out bp hp0)
        exact h)
      go_upto_region 6 with (go_at_call 65; refine A1.out.mono ?_; rintro e w3 ⟨rfl, hp3, ho3⟩; have HP3 := Lib.hid hp3; have HO3 := Lib.hid ho3; clear hp3 ho3)
      clear A1
      have EX := Lib.hid (exp_any k (by omega))
      obtain ⟨x, hx⟩ : ∃ x, x = Gf.power 2 k := ⟨_, rfl⟩
      have hx8 : x < 256 := by rw [hx]; exact pw_lt _ _ _ _ (by decide)
      have HXE := Lib.hid hx
      rw [← hx] at EX
      have HQ3 := Lib.hid (HQ.out.only HO3.out (by simpa using hne.symm))
      have HB3 := Lib.hid (HB.out.trans (HO3.out.below HB.out.size (by simpa using hp0)))
      have HBT3 := Lib.hid (HBT0.out.below HB3.out (Nat.le_refl _) : Bts w3 a' B.length c' B)
      clear hx
      have A2 := Lib.hid (fun w5 (e : w5 = w3) => by
        subst e
        exact add_any x hx8 bq n n Q a' B.length c' B w5 HQ3.out hQl (Nat.le_refl _) HBT3.out hBn (HF.out bq hq0))
      go_wp2_with (first
        | (go_at_call 67; refine (EX.out _).mono ?_; rintro e w4 ⟨rfl, rfl⟩)
        | (go_at_call 65; refine (A2.out _ rfl).mono ?_; rintro e w6 ⟨rfl, hq6, ho6⟩))
      exact ⟨⟨k + 1, by omega, by simp, by rw [sumP, HBD.out, ← HPE.out]; exact HP3.out.only ho6 (by simpa using hne), by rw [sumQ, HBD.out, ← HQE.out, ← HXE.out]; exact hq6, HB3.out.trans (ho6.below HB3.out.size (by simpa using hq0))⟩, by simp [intOf]; omega⟩
    · obtain rfl : k = cols.length := by omega
      go_wp2_with fail
      go_ret2
      exact ⟨bp, bq, rfl, hp0, hq0, hne, by rw [← HPE.out]; exact HP.out, by rw [← HQE.out]; exact HQ.out, HB.out⟩
end Go.Proofs.Ytgnnjinpcdemiaa.Par
/-
  Rows of the call's own behind a field: append, told exactly; regions of open order that append. Helper text; no statement is proved here.
-/
set_option linter.unusedVariables false
set_option maxRecDepth 20000
set_option linter.unusedSimpArgs false
namespace Go.Proofs.Ytgnnjinpcdemiaa.Row
open Go.RowKit Go.Proofs.Ytgnnjinpcdemiaa.Base Go.Proofs.Ytgnnjinpcdemiaa.Laws Go.Proofs.Ytgnnjinpcdemiaa.Disk Go.Proofs.Ytgnnjinpcdemiaa.InvL
/-- the block of a row; d where it has none -/
def blkOf (v : Value) (d : Nat) : Nat := v.ownBlock.getD d
section
variable {P : Program} (w : World)
theorem run_append_any_at (base : Nat) (t ty e : TypeId) (z : Value) (size bytes : Nat) (ht : P.underlying t = some (.slice e)) (hi : (P.info? e).map (fun i => (i.zero, i.size, i.bytes)) = some (some z, size, bytes))
    (hzs : z.cells.size = size) (hsz : 0 < size)
    (v : Value) (n : Nat) (xs : List Value) (hown : w.ownsRow base e size v n xs)
    (a : Option Addr) (m c : Nat) (news : List Value) (hy : SrcOf w a m size news)
    (hbytes : (n + m) * bytes ≤ 140737488355328) (h63 : n + m ≤ maxLen) (hbase : base ≤ w.heap.size) :
    ∃ v' w', (Builtin.append_ #[t, t] ty #[v, .slice a m c]).run P w = .ok v' w' ∧ w'.ownsRow base e size v' (n + m) (xs ++ news) ∧ w.grownBy w' v.ownBlock ∧ (v'.ownBlock = v.ownBlock ∨ v'.ownBlock = some w.heap.size) := by
  obtain ⟨i, hi', hz, hsize, hby⟩ := info_parts hi
  obtain ⟨hl, h1, h2⟩ := hy
  by_cases hm : m = 0
  · subst hm
    obtain rfl : news = [] := List.eq_nil_of_length_eq_zero (by simpa using hl)
    subst hsize
    exact ⟨v, w, run_append_nothing w t ty e i ht hi' base v n xs hown a c, by simpa using hown, ⟨rfl, rfl, rfl, Nat.le_refl _, fun _ _ _ => rfl⟩, .inl rfl⟩
  · rcases h2 with h2 | ⟨ad, rfl, hc⟩
    · exact absurd h2 hm
    · obtain ⟨v', w', hr, h3, h4, _, h5⟩ := run_append_own_at (P := P) w base t ty e i z size bytes ht hi' hz hsize hby hzs hsz v n xs hown ad m c news hl hc h1 h63 hbytes hbase
      exact ⟨v', w', hr, h3, h4, h5⟩
end
theorem exec_append {P : Program} {ρ : Operand → Value} {w w' : World} {o : Oper} {t : TypeId} (s x : Operand) (ho : o.op = .call { callee := .builtin .append, args := #[s, x], argTypes := #[t, t] }) {v v' : Value} {a : Option Addr} {m c : Nat} (hs : ρ s = v) (hx : ρ x = .slice a m c)
    (hr : (Builtin.append_ #[t, t] o.type #[v, .slice a m c]).run P w = .ok v' w') : (execOp ρ o).run P w = .ok (.value v') w' := by
  unfold execOp
  simp only [ho, resolve, invoke, builtin, Sem.run_bind, Sem.run_pure, Result.andThen_ok, List.map_toArray, List.map_cons, List.map_nil, hs, hx, hr]
theorem at_or {p : Nat} {A B : World → Prop} {d : Array Bool} {w : World} (h : At p A B d w) : A w ∨ B w := by
  unfold At at h
  split at h
  · exact .inr h
  · exact .inl h
/-- a row stands where other blocks are written -/
theorem own_only {w w' : World} {base : Nat} {e : TypeId} {size : Nat} {v : Value} {n : Nat} {xs : List Value} {S : List Nat} (h : w.ownsRow base e size v n xs) (ho : Only S w w') (hn : ∀ g, v.ownBlock = some g → g ∉ S) : w'.ownsRow base e size v n xs := by
  obtain ⟨h1, h2⟩ := h
  refine ⟨h1, ?_⟩
  rcases h2 with h2 | ⟨g, cap, cur, rfl, hb, hg, h3⟩
  · exact .inl h2
  · exact .inr ⟨g, cap, cur, rfl, hb, (ho.block g (Array.getElem?_eq_some_iff.1 hg).1 (hn g rfl)).trans hg, h3⟩
theorem own_lt {w : World} {base : Nat} {e : TypeId} {size : Nat} {v : Value} {n : Nat} {xs : List Value} (h : w.ownsRow base e size v n xs) {g : Nat} (hg : v.ownBlock = some g) : base ≤ g ∧ g < w.heap.size := by
  rcases h.2 with ⟨rfl, _⟩ | ⟨g', cap, cur, rfl, hb, hg', h3⟩
  · cases hg
  · cases hg
    exact ⟨hb, (Array.getElem?_eq_some_iff.1 hg').1⟩
theorem own_base {w : World} {b b' : Nat} {e : TypeId} {size : Nat} {v : Value} {n : Nat} {xs : List Value} (h : w.ownsRow b e size v n xs) (hb : ∀ g, v.ownBlock = some g → b' ≤ g) : w.ownsRow b' e size v n xs := by
  rcases h.2 with h2 | ⟨g, cap, cur, rfl, hb', hg, h3⟩
  · exact ⟨h.1, .inl h2⟩
  · exact ⟨h.1, .inr ⟨g, cap, cur, rfl, hb g rfl, hg, h3⟩⟩
theorem own_drew {w : World} {b : Nat} {e : TypeId} {size : Nat} {v : Value} {n : Nat} {xs : List Value} (h : w.ownsRow b e size v n xs) : w.drew.ownsRow b e size v n xs := h
/-- the row cut short -/
theorem own_take {w : World} {b : Nat} {e : TypeId} {size : Nat} {a : Option Addr} {n c : Nat} {xs : List Value} (h : w.ownsRow b e size (.slice a n c) n xs) (k : Nat) (hk : k ≤ n) : w.ownsRow b e size (.slice a k c) k (xs.take (k * size)) := by
  have hks : k * size ≤ n * size := Nat.mul_le_mul_right _ hk
  rcases h.2 with ⟨e1, h2⟩ | ⟨g, cap, cur, e1, hb', hg, h3, h4, h5, h6⟩
  · cases e1
    obtain rfl : k = 0 := by omega
    exact ⟨by simp, .inl ⟨rfl, rfl⟩⟩
  · cases e1
    refine ⟨by rw [List.length_take, h.1]; omega, .inr ⟨g, _, cur, rfl, hb', hg, by omega, h4, h5, ?_⟩⟩
    rw [← h6, List.take_take, Nat.min_eq_left hks]
theorem only_grown {w w' : World} {v : Value} {d : Nat} (h : w.grownBy w' v.ownBlock) : Only [blkOf v d] w w' :=
  ⟨h.os, h.tape, h.output, h.size, fun k hk hn => h.block k hk (by
    intro e
    apply hn
    unfold blkOf
    rw [← e]
    simp)⟩
end Go.Proofs.Ytgnnjinpcdemiaa.Row
/-
  Grow and Concat of [][]byte by contract. Helper text; no statement is proved here.
-/
set_option linter.unusedVariables false
set_option maxRecDepth 20000
set_option linter.unusedSimpArgs false
namespace Go.Proofs.Ytgnnjinpcdemiaa.Par
open Go.RowKit Go.Proofs.Ytgnnjinpcdemiaa.Base Go.Proofs.Ytgnnjinpcdemiaa.Laws Go.Proofs.Ytgnnjinpcdemiaa.Disk Go.Proofs.Ytgnnjinpcdemiaa.Row
theorem info_b : (Try.prog.info? 27).map (fun i => (i.zero, i.size, i.bytes)) = some (some (.slice none 0 0), 1, 24) := by kernel_rfl
set_option maxHeartbeats 1000000 in
theorem grow_nil (n : Nat) (h1 : 1 ≤ n) (h2 : n ≤ 1000) (w : World) : Calls Try.prog 81 #[.slice none 0 0, .int .i64 (n : Int)] w fun e w' => ∃ v, e = .returned v ∧ w'.ownsRow w.heap.size 27 1 v 0 [] ∧ Below w.heap.size w w' := by
  obtain ⟨i, hi, hz, hsz, hby⟩ := info_parts info_b
  have hr := Lib.run_append_grow_zeros (P := Try.prog) w 42 3 42 27 i _ .i64 .i64 Try.underlying42 Try.underlying3 hi hz none 0 0 [] (run_firstCells_none w.drew i.size 0 0 0) n (by omega) (by omega) (by omega) (by omega) (by rw [hby]; omega) (by rw [Nat.zero_add, hby]; exact growslice_fits (by omega) (by omega))
  have hc := grownCap_le_maxLen w n 0 27 (by unfold maxLen; omega)
  have hge := grownCap_ge w n 0 27
  rw [Nat.zero_add] at hr
  obtain ⟨G, hG⟩ : ∃ G, G = grownCap w n 0 27 := ⟨_, rfl⟩
  rw [← hG] at hr hc hge
  obtain ⟨Z, hZ⟩ : ∃ Z, Z = (([] : List Value).toArray ++ Builtin.zeroCells (Value.slice none 0 0).cells n ++ Builtin.zeroCells (Value.slice none 0 0).cells (G - n)) := ⟨_, rfl⟩
  have hZs : Z.size = G * 1 := by rw [hZ]; simp [Builtin.zeroCells, Value.cells]; omega
  rw [← hZ] at hr
  have M := Lib.hid (World.ownsRow_made (e := 27) (size := 1) (base := w.heap.size) w.drew Z G (Nat.le_refl _) hc hZs)
  have B := Lib.hid (((Below.refl w.heap.size w).drew).alloc (Nat.le_refl _) (.cells Z 27))
  have HR := Lib.hid hr
  have hc63 : (G : Int) ≤ 9223372036854775807 := by unfold maxLen at hc; omega
  clear hr hc hG hZ hZs hi hz hsz hby
  go_enter Try.func81, Try.ntmps81
  go_wp2_with (first | (at_builtin; refine Lib.wpList_append_run _ rfl _ _ _ _ rfl _ _ rfl rfl _ _ (HR.out) ?_))
  go_ret
  exact ⟨_, rfl, M.out, B.out⟩
set_option maxHeartbeats 2000000 in
theorem concat_two (g : Nat) (a b : Option Addr) (n m c1 c2 : Nat) (xs ys : List Value) (w : World) (hg : Blk w g [.slice a n c1, .slice b m c2] 42) (hx : SrcOf w a n 1 xs) (hy : SrcOf w b m 1 ys) (h1 : 1 ≤ n) (h2 : n ≤ 100) (h3 : m ≤ 100) :
    Calls Try.prog 69 #[.slice (some ⟨g, 0, none⟩) 2 2] w fun e w' => ∃ v, e = .returned v ∧ w'.ownsRow w.heap.size 27 1 v (n + m) (xs ++ ys) ∧ Below w.heap.size w w' := by
  have c0 := hg.cell 0
  have c1' := hg.cell 1
  have HG := Lib.hid hg
  have HX := Lib.hid hx
  have HY := Lib.hid hy
  have GN := Lib.hid (grow_nil (n + m) (by omega) (by omega) w)
  clear hg hx hy
  go_enter Try.func69, Try.ntmps69
  go_wp2_with fail
  refine wp_loop_rounds 3 ?_
  rw [rounds_succ]
  go_wp2_with fail
  rw [rounds_succ]
  go_wp2_with fail
  rw [rounds_succ]
  go_wp2_with (first | (go_at_call 81; refine GN.out.mono ?_; rintro e w1 ⟨v1, rfl, ho1, hb1⟩))
  have G1 := Lib.hid (HG.out.below hb1 HG.out.lt)
  have d0 := G1.out.cell 0
  have d1 := G1.out.cell 1
  have X1 := Lib.hid (HX.out.same (w' := w1) (fun ad h => hb1.cell h))
  have Y1 := Lib.hid (HY.out.same (w' := w1) (fun ad h => hb1.cell h))
  have O1 := Lib.hid ho1
  have B1 := Lib.hid hb1
  clear ho1 hb1 c0 c1'
  refine wp_loop_rounds 3 ?_
  rw [rounds_succ]
  go_wp2_with (first | (at_builtin; refine wpList_append_any _ rfl _ _ 42 rfl w.heap.size 27 (.slice none 0 0) 1 24 Try.underlying42 info_b rfl (by decide) v1 0 [] rfl O1.out a n c1 xs rfl X1.out ?a1 ?a2 ?a3 ?_))
  case a1 => omega
  case a2 => unfold maxLen; omega
  case a3 => exact B1.out.size
  intro v2 w2 o2 g2
  have B2 := Lib.hid (B1.out.grown g2 B1.out.size (fun k hk => (O1.out.lt k hk).1))
  have G2 := Lib.hid (HG.out.below B2.out HG.out.lt)
  have e0 := G2.out.cell 0
  have e1 := G2.out.cell 1
  have Y2 := Lib.hid (HY.out.same (w' := w2) (fun ad h => B2.out.cell h))
  have O2 := Lib.hid o2
  clear o2 g2 d0 d1
  go_wp2_with fail
  rw [rounds_succ]
  go_wp2_with (first | (at_builtin; refine wpList_append_any _ rfl _ _ 42 rfl w.heap.size 27 (.slice none 0 0) 1 24 Try.underlying42 info_b rfl (by decide) v2 n xs rfl O2.out b m c2 ys rfl Y2.out ?b1 ?b2 ?b3 ?_))
  case b1 => omega
  case b2 => unfold maxLen; omega
  case b3 => exact B2.out.size
  intro v3 w3 o3 g3
  have B3 := Lib.hid (B2.out.grown g3 B2.out.size (fun k hk => (O2.out.lt k hk).1))
  have O3 := Lib.hid o3
  clear o3 g3 e0 e1
  go_wp2_with fail
  rw [rounds_succ]
  go_wp2_with fail
  go_ret
  exact ⟨_, rfl, O3.out, B3.out⟩
end Go.Proofs.Ytgnnjinpcdemiaa.Par
/-
  width of parity by contract. Helper text; no statement is proved here.
-/
set_option linter.unusedVariables false
set_option maxRecDepth 20000
set_option linter.unusedSimpArgs false
namespace Go.Proofs.Ytgnnjinpcdemiaa.Par
open Go.RowKit Go.Proofs.Ytgnnjinpcdemiaa.Base Go.Proofs.Ytgnnjinpcdemiaa.Laws Go.Proofs.Ytgnnjinpcdemiaa.Disk Go.Proofs.Ytgnnjinpcdemiaa.Row
/-- a slice: where it lies, its length, how much it can hold -/
abbrev Sv := Option Addr × Nat × Nat
def sv (l : List Sv) : List Value := l.map fun p => .slice p.1 p.2.1 p.2.2
theorem sv_len (l : List Sv) : (sv l).length = l.length := by simp [sv]
theorem sv_get (l : List Sv) (k : Nat) : (sv l)[k]? = l[k]?.map fun p => .slice p.1 p.2.1 p.2.2 := by simp [sv]
/-- how many are lost -/
def gone (l : List Sv) : Nat := l.countP fun p => p.2.1 = 0
/-- the length of those that are not lost -/
def wide (W : Nat) (l : List Sv) : Nat := if gone l = l.length then 0 else W
theorem gone_le (l : List Sv) : gone l ≤ l.length := List.countP_le_length
theorem gone_succ {l : List Sv} {k : Nat} {p : Sv} (h : l[k]? = some p) : gone (l.take (k + 1)) = gone (l.take k) + if p.2.1 = 0 then 1 else 0 := by
  unfold gone
  rw [take_snoc _ _ _ h, List.countP_append]
  simp [List.countP_cons]
theorem wide_zero {W : Nat} {l : List Sv} {k : Nat} {p : Sv} (h : l[k]? = some p) (hp : p.2.1 = 0) : wide W (l.take (k + 1)) = wide W (l.take k) := by
  have hk : k < l.length := (List.getElem?_eq_some_iff.1 h).1
  unfold wide
  rw [gone_succ h, if_pos hp, List.length_take, List.length_take, Nat.min_eq_left (by omega), Nat.min_eq_left (by omega)]
  by_cases h1 : gone (l.take k) = k
  · rw [if_pos (by omega), if_pos h1]
  · rw [if_neg (by omega), if_neg h1]
theorem wide_full {W : Nat} {l : List Sv} {k : Nat} {p : Sv} (h : l[k]? = some p) (hp : p.2.1 ≠ 0) : wide W (l.take (k + 1)) = W := by
  have hk : k < l.length := (List.getElem?_eq_some_iff.1 h).1
  unfold wide
  have := gone_le (l.take k)
  rw [List.length_take, Nat.min_eq_left (by omega)] at this
  rw [gone_succ h, if_neg hp, List.length_take, Nat.min_eq_left (by omega), if_neg (by omega)]
set_option maxHeartbeats 2000000 in
theorem width_any (W : Nat) (hW : 1 ≤ W) (hW2 : W ≤ 4096) (a b : Option Addr) (c1 c2 : Nat) (ps qs : List Sv) (w : World) (hx : SrcOf w a ps.length 1 (sv ps)) (hy : SrcOf w b qs.length 1 (sv qs)) (h1 : 1 ≤ ps.length) (h2 : ps.length ≤ 30) (h3 : qs.length ≤ 60) (hl : ∀ p ∈ ps ++ qs, p.2.1 = 0 ∨ p.2.1 = W) :
    Calls Try.prog 54 #[.slice a ps.length c1, .slice b qs.length c2] w fun e w' => e = .returned (.tuple #[.int .i64 (wide W (ps ++ qs) : Nat), .int .i64 (gone (ps ++ qs) : Nat)]) ∧ Below w.heap.size w w' := by
  obtain ⟨n, hn⟩ : ∃ n, n = ps.length := ⟨_, rfl⟩
  obtain ⟨m, hm⟩ : ∃ m, m = qs.length := ⟨_, rfl⟩
  rw [← hn] at hx h1 h2
  rw [← hm] at hy h3
  rw [← hn, ← hm]
  have hN : (ps ++ qs).length = n + m := by rw [List.length_append, hn, hm]
  have hsv : sv ps ++ sv qs = sv (ps ++ qs) := by simp [sv]
  have HX := Lib.hid hx
  have HY := Lib.hid hy
  obtain ⟨l, hl'⟩ : ∃ l, l = ps ++ qs := ⟨_, rfl⟩
  rw [← hl'] at hl hN hsv ⊢
  have HL := Lib.hid hl
  have HN := Lib.hid hN
  have HS := Lib.hid hsv
  have i1 : (1 : Int) ≤ (n : Int) := by omega
  have i2 : (n : Int) ≤ 30 := by omega
  clear hx hy hl hN hsv hl' hn hm
  go_enter Try.func54, Try.ntmps54
  go_wp2_with (first | (go_at_call 69; go_must (refine (concat_two w.heap.size a b n m c1 c2 (sv ps) (sv qs) _ (blk_at rfl rfl) (HX.out.same fun ad h => ((Below.refl w.heap.size w).alloc (Nat.le_refl _) _).cell h) (HY.out.same fun ad h => ((Below.refl w.heap.size w).alloc (Nat.le_refl _) _).cell h) h1 (by omega) (by omega)).mono ?_; rintro e w1 ⟨v1, rfl, ho1, hb1⟩; obtain ⟨ar, cap, rfl, hnc, hcm, hz⟩ := own_slice ho1 (by decide); have B1 := Lib.hid hb1; have Z1 := Lib.hid hz; clear ho1 hb1 hz)))
  obtain ⟨g, rfl, hg, hat⟩ := Z1.out.resolve_left (by omega)
  have HA := Lib.hid hat
  have B1 := Lib.hid ((((Below.refl w.heap.size w).alloc (Nat.le_refl _) (.cells #[.slice a n c1, .slice b m c2] 42)).trans (B1.out.mono (by simp))) : Below w.heap.size w w1)
  clear hat Z1
  go_loopw [4, 5, 21] (fun x y i wr => ∃ k : Nat, k ≤ n + m ∧ i = .int .i64 k ∧ x = .int .i64 (wide W (l.take k) : Nat) ∧ y = .int .i64 (gone (l.take k) : Nat) ∧ wr = w1) (fun _ _ i _ => n + m - (intOf i).toNat)
  case atStart => exact ⟨0, by omega, rfl, by simp [wide, gone], by simp [gone], rfl⟩
  case round =>
    obtain ⟨k, hk, rfl, rfl, rfl, rfl⟩ := hrel
    by_cases hkn : k < n + m
    · obtain ⟨p, hp⟩ : ∃ p, l[k]? = some p := ⟨_, List.getElem?_eq_getElem (by rw [HN.out]; omega)⟩
      obtain ⟨pa, pn, pc⟩ := p
      have hc := HA.out k (.slice pa pn pc) (by rw [HS.out, sv_get, hp]; rfl)
      rw [Nat.zero_add] at hc
      have hpl := HL.out _ (List.mem_of_getElem? hp)
      have hgl := gone_le (l.take k)
      rw [List.length_take, Nat.min_eq_left (by rw [HN.out]; omega)] at hgl
      have hgs := gone_succ hp
      by_cases h0 : pn = 0
      · subst h0
        have hwz := wide_zero (W := W) hp rfl
        rw [if_pos rfl] at hgs
        have HG := Lib.hid hgs
        have HWZ := Lib.hid hwz
        clear hgs hwz hp hpl
        go_wp2_with fail
        go_roundw
        case rel => exact ⟨k + 1, by omega, by go_num, by rw [HWZ.out], by rw [HG.out]; go_num, trivial⟩
        case measure => simp [intOf]; omega
      · obtain rfl : pn = W := hpl.resolve_left h0
        have hwz := wide_full (W := pn) hp h0
        rw [if_neg h0] at hgs
        have HG := Lib.hid hgs
        have HWZ := Lib.hid hwz
        have e0 : (((pn : Nat) : Int) == 0) = false := by rw [beq_eq_false_iff_ne]; omega
        by_cases h1 : gone (l.take k) = k
        · have hw : wide pn (l.take k) = 0 := by unfold wide; rw [List.length_take, Nat.min_eq_left (by rw [HN.out]; omega), if_pos h1]
          rw [hw]
          clear hgs hwz hp hpl hw
          go_wp2_with fail
          go_roundw
          case rel => exact ⟨k + 1, by omega, by go_num, by rw [HWZ.out], by rw [HG.out]; rfl, trivial⟩
          case measure => simp [intOf]; omega
        · have hw : wide pn (l.take k) = pn := by unfold wide; rw [List.length_take, Nat.min_eq_left (by rw [HN.out]; omega), if_neg h1]
          rw [hw]
          clear hgs hwz hp hpl hw
          go_wp2_with fail
          go_roundw
          case rel => exact ⟨k + 1, by omega, by go_num, by rw [HWZ.out], by rw [HG.out]; rfl, trivial⟩
          case measure => simp [intOf]; omega
    · obtain rfl : k = n + m := by omega
      have hw : wide W (l.take (n + m)) ≤ 4096 := by unfold wide; split <;> omega
      rw [List.take_of_length_le (by rw [HN.out]; omega)] at hw ⊢
      obtain ⟨V, hV⟩ : ∃ V, V = wide W l := ⟨_, rfl⟩
      rw [← hV] at hw ⊢
      have HV := Lib.hid hV
      clear hV
      go_wp2_with fail
      go_ret2
      refine ⟨?_, B1.out⟩
      rw [← HV.out]
      rfl
end Go.Proofs.Ytgnnjinpcdemiaa.Par
/-
  Numbers as bytes, the highest first: plain. Helper text; no statement is proved here.
-/
set_option linter.unusedVariables false
set_option maxRecDepth 20000
set_option linter.unusedSimpArgs false
namespace Go.Proofs.Ytgnnjinpcdemiaa.Codec
open Go.RowKit Go.Proofs.Ytgnnjinpcdemiaa.Base Go.Proofs.Ytgnnjinpcdemiaa.Laws
/-- the k-th byte of n from the lowest -/
def byteOf (n k : Nat) : UInt8 := UInt8.ofNat (n / 2 ^ (8 * k))
/-- n in so many bytes, the highest first -/
def be : Nat → Nat → List UInt8
  | 0, _ => []
  | s + 1, n => byteOf n s :: be s n
theorem be_len (s n : Nat) : (be s n).length = s := by
  induction s with
  | zero => rfl
  | succ s ih => simp [be, ih]
theorem be_get (s n k : Nat) (h : k < s) : (be s n)[k]? = some (byteOf n (s - 1 - k)) := by
  induction s generalizing k with
  | zero => omega
  | succ s ih =>
    cases k with
    | zero => rfl
    | succ k => rw [be, List.getElem?_cons_succ, ih k (by omega)]; congr 2; omega
theorem byteOf_val (n k : Nat) : u8 (byteOf n k) = .int .u8 ((n : Int) / 2 ^ (8 * k) % 256) := by
  have e : ((n : Int) / 2 ^ (8 * k)) = ((n / 2 ^ (8 * k) : Nat) : Int) := by rw [Int.natCast_ediv]; simp
  rw [e]
  unfold u8 byteOf
  rw [UInt8.toNat_ofNat']
  rfl
/-- the number that bytes are -/
def val (l : List UInt8) : Nat := l.foldl (fun n b => n * 256 + b.toNat) 0
theorem val_snoc (l : List UInt8) (b : UInt8) : val (l ++ [b]) = val l * 256 + b.toNat := by simp [val, List.foldl_append]
theorem val_aux (l : List UInt8) : ∀ a, l.foldl (fun n b => n * 256 + b.toNat) a < (a + 1) * 2 ^ (8 * l.length) := by
  induction l with
  | nil => intro a; simp
  | cons b l ih =>
    intro a
    have h := ih (a * 256 + b.toNat)
    have hb := b.toNat_lt
    rw [List.foldl_cons, List.length_cons, Nat.mul_add, Nat.pow_add]
    refine Nat.lt_of_lt_of_le h ?_
    rw [Nat.mul_comm (2 ^ (8 * l.length)), ← Nat.mul_assoc]
    exact Nat.mul_le_mul_right _ (by omega)
theorem val_lt (l : List UInt8) : val l < 2 ^ (8 * l.length) := by
  have := val_aux l 0
  simpa [val] using this
/-- the last k bytes of a number laid into a piece of cs -/
def laid (cs : List UInt8) (off len n k : Nat) : List UInt8 := put cs (off + (len - k)) ((be len n).drop (len - k))
theorem laid_zero (cs : List UInt8) (off len n : Nat) : laid cs off len n 0 = cs := by
  unfold laid put
  rw [Nat.sub_zero, List.drop_of_length_le (by rw [be_len]; omega)]
  simp
theorem laid_all (cs : List UInt8) (off len n : Nat) : laid cs off len n len = put cs off (be len n) := by
  unfold laid
  rw [Nat.sub_self]
  simp
theorem laid_len (cs : List UInt8) (off len n k : Nat) (h : off + len ≤ cs.length) (hk : k ≤ len) : (laid cs off len n k).length = cs.length := by
  unfold laid
  exact put_len _ _ _ (by rw [List.length_drop, be_len]; omega)
theorem laid_set (cs : List UInt8) (off len n k : Nat) (h : off + len ≤ cs.length) (hk : k < len) : (laid cs off len n k).set (off + (len - 1 - k)) (byteOf n k) = laid cs off len n (k + 1) := by
  have hl := laid_len cs off len n k h (by omega)
  refine List.ext_getElem? fun i => ?_
  have hb := be_len len n
  have get : ∀ k ≤ len, ∀ i, (laid cs off len n k)[i]? = if i < off + (len - k) then cs[i]? else if i < off + len then (be len n)[i - off]? else cs[i]? := by
    intro k hk i
    unfold laid put
    have hd : ((be len n).drop (len - k)).length = k := by rw [List.length_drop, hb]; omega
    by_cases h1 : i < off + (len - k)
    · rw [if_pos h1, List.getElem?_append_left (by rw [List.length_take]; omega), List.getElem?_take, if_pos h1]
    · rw [if_neg h1, List.getElem?_append_right (by rw [List.length_take]; omega), List.length_take, show min (off + (len - k)) cs.length = off + (len - k) from by omega]
      by_cases h2 : i < off + len
      · rw [if_pos h2, List.getElem?_append_left (by rw [hd]; omega), List.getElem?_drop]
        congr 1
        omega
      · rw [if_neg h2, List.getElem?_append_right (by rw [hd]; omega), hd, List.getElem?_drop]
        congr 1
        omega
  rw [List.getElem?_set, get (k + 1) (by omega), get k (by omega), hl]
  by_cases e : off + (len - 1 - k) = i
  · subst e
    rw [if_pos rfl, if_pos (by omega), if_neg (by omega), if_pos (by omega), show off + (len - 1 - k) - off = len - 1 - k from by omega, be_get len n (len - 1 - k) (by omega)]
    congr 2
    omega
  · rw [if_neg e]
    by_cases h1 : i < off + (len - (k + 1))
    · rw [if_pos (by omega), if_pos h1]
    · rw [if_neg (by omega), if_neg h1]
end Go.Proofs.Ytgnnjinpcdemiaa.Codec
/-
  number, read of the codec by contract. Helper text; no statement is proved here.
-/
set_option linter.unusedVariables false
set_option maxRecDepth 20000
set_option linter.unusedSimpArgs false
namespace Go.Proofs.Ytgnnjinpcdemiaa.Codec
open Go.RowKit Go.Proofs.Ytgnnjinpcdemiaa.Base Go.Proofs.Ytgnnjinpcdemiaa.Laws Go.Proofs.Ytgnnjinpcdemiaa.Inv
theorem bv_set (l : List UInt8) (i : Nat) (b : UInt8) : (bv l).set i (u8 b) = bv (l.set i b) := by unfold bv; rw [List.map_set]
theorem grown_setCell (w : World) (g i : Nat) (v : Value) : w.grownBy (w.setCell ⟨g, i, none⟩ v) (some g) :=
  ⟨rfl, rfl, rfl, by simp, fun k hk hne => heap_setCell_other w ⟨g, i, none⟩ k v (fun e => hne (by rw [e]))⟩
set_option maxHeartbeats 1000000 in
theorem number_any (g off len cap n : Nat) (cs : List UInt8) (t : TypeId) (hn : n < 18446744073709551616) (hl : off + len ≤ cs.length) (hm : cs.length ≤ 1000000) (hl8 : len ≤ 8) (hcap : len ≤ cap) (hcm : cap ≤ 1000000) (w : World) (h : Blk w g (bv cs) t) :
    Calls Try.prog 22 #[.slice (some ⟨g, off, none⟩) len cap, .int .u64 (n : Int)] w fun e w' => e = .returned (.tuple #[]) ∧ Blk w' g (bv (put cs off (be len n))) t ∧ w.grownBy w' (some g) := by
  have H := Lib.hid h
  clear h
  go_enter Try.func22, Try.ntmps22
  go_wp2
  go_loopw [4, 7] (fun x i wr => ∃ k : Nat, k ≤ len ∧ i = .int .i64 k ∧ Blk wr g (bv (laid cs off len n k)) t ∧ w.grownBy wr (some g)) (fun _ i _ => len - (intOf i).toNat)
  case atStart => exact ⟨0, by omega, rfl, by rw [laid_zero]; exact H.out, ⟨rfl, rfl, rfl, Nat.le_refl _, fun _ _ _ => rfl⟩⟩
  case round =>
    obtain ⟨k, hk, rfl, b, hg⟩ := hrel
    have B := Lib.hid b
    have G := Lib.hid hg
    clear b hg
    by_cases hkl : k < len
    · have hidx : (laid cs off len n k).length = cs.length := laid_len cs off len n k hl (by omega)
      obtain ⟨u, hu⟩ : ∃ u, (laid cs off len n k)[off + (len - 1 - k)]? = some u := ⟨_, List.getElem?_eq_getElem (by omega)⟩
      have hc : wr.cell? ⟨g, off + (len - 1 - k), none⟩ = some (Base.u8 u) := by rw [B.out.cell, bv_get, hu]; rfl
      have hf := B.out.frozen (off + (len - 1 - k))
      have HV := Lib.hid (byteOf_val n k)
      have HS := Lib.hid (laid_set cs off len n k hl hkl)
      unfold Base.u8 at hc
      clear hu
      go_wp2
      go_roundw
      case rel =>
        rw [← HV.out]
        refine ⟨k + 1, by omega, by go_num, ?_, grown_trans G.out (grown_setCell wr g _ _)⟩
        have := B.out.setCell (off + (len - 1 - k)) (Base.u8 (byteOf n k))
        rw [bv_set, HS.out] at this
        exact this
      case measure => simp [intOf]; omega
    · obtain rfl : k = len := by omega
      rw [laid_all] at B
      go_wp2
      go_end0
      exact ⟨rfl, B.out, G.out⟩
theorem or256 (a : Nat) (x : UInt8) (ha : a < 72057594037927936) : bits BinOp.or IntKind.u64 ((a : Int) * 256) (IntKind.u64.wrap (x.toNat : Int)) = ((a * 256 + x.toNat : Nat) : Int) := by
  have hx := x.toNat_lt
  have e1 : ((a : Int) * 256) = ((a * 256 : Nat) : Int) := by omega
  have e2 : IntKind.u64.wrap (x.toNat : Int) = ((x.toNat : Nat) : Int) := by rw [IntKind.wrap_u64]; omega
  rw [e1, e2, u64_or_nat _ _ (by omega) (by omega)]
  have := Nat.two_pow_add_eq_or_of_lt (i := 8) hx a
  rw [show (2 : Nat) ^ 8 = 256 from by decide, Nat.mul_comm] at this
  rw [this]
set_option maxHeartbeats 1000000 in
theorem read_any (a : Option Addr) (len cap : Nat) (l : List UInt8) (hl8 : len ≤ 8) (w : World) (h : Bts w a len cap l) :
    Calls Try.prog 30 #[.slice a len cap] w fun e w' => e = .returned (.int .u64 (val l : Nat)) ∧ w = w' := by
  obtain ⟨hl, hlc, hm, ha⟩ := h
  unfold maxLen at hm
  rcases ha with h0 | ⟨b, o, rfl, hcell⟩
  · subst h0
    obtain rfl : l = [] := List.eq_nil_of_length_eq_zero hl
    go_enter Try.func30, Try.ntmps30
    go_wp2
    refine wp_loop_rounds 1 ?_
    rw [rounds_succ]
    go_wp2
    go_ret
    exact ⟨rfl, rfl⟩
  · have HC := Lib.hid hcell
    clear hcell
    go_enter Try.func30, Try.ntmps30
    go_wp2
    go_loop [3, 8] (fun v i => ∃ k : Nat, k ≤ len ∧ i = .int .i64 k ∧ v = .int .u64 (val (l.take k) : Nat)) (fun _ i => len - (intOf i).toNat)
    case atStart => exact ⟨0, by omega, rfl, rfl⟩
    case round =>
      obtain ⟨k, hk, rfl, rfl⟩ := hrel
      by_cases hkl : k < len
      · obtain ⟨x, hx⟩ : ∃ u, l[k]? = some u := ⟨l[k]'(by omega), List.getElem?_eq_getElem (by omega)⟩
        have hc1 := HC.out k x hx
        unfold Base.u8 at hc1
        have HT := Lib.hid (take_snoc l k x hx)
        have hv := val_lt (l.take k)
        rw [List.length_take, show min k l.length = k from by omega] at hv
        have hv2 : val (l.take k) < 72057594037927936 := by
          have : (2 : Nat) ^ (8 * k) ≤ 2 ^ 56 := Nat.pow_le_pow_right (by decide) (by omega)
          have e : (2 : Nat) ^ 56 = 72057594037927936 := by decide
          omega
        have HO := Lib.hid (or256 (val (l.take k)) x hv2)
        clear hx hv
        go_wp2
        go_round
        case rel => exact ⟨k + 1, by omega, by go_num, by rw [HO.out, HT.out, val_snoc]⟩
        case measure => simp [intOf]; omega
      · go_wp2
        go_ret
        obtain rfl : k = len := by omega
        exact ⟨by rw [List.take_of_length_le (by omega)]; rfl, rfl⟩
end Go.Proofs.Ytgnnjinpcdemiaa.Codec
/-
  seal of the codec by contract. Helper text; no statement is proved here.
-/
set_option linter.unusedVariables false
set_option maxRecDepth 20000
set_option linter.unusedSimpArgs false
namespace Go.Proofs.Ytgnnjinpcdemiaa.Codec
open Go.RowKit Go.Proofs.Ytgnnjinpcdemiaa.Base Go.Proofs.Ytgnnjinpcdemiaa.Laws Go.Proofs.Ytgnnjinpcdemiaa.Inv
set_option maxHeartbeats 1000000 in
theorem seal_any (base : Nat) (v : Value) (n : Nat) (l : List UInt8) (hln : l.length = n) (hn : n ≤ 1000) (w : World) (hb : base ≤ w.heap.size) (h : w.ownsRow base 5 1 v n (bv l)) :
    Calls Try.prog 23 #[v] w fun e w' => ∃ v', e = .returned v' ∧ w'.ownsRow base 5 1 v' (n + 4) (bv (l ++ be 4 (Crc.crc l))) ∧ Below base w w' := by
  obtain ⟨a, cap, rfl, hbt⟩ := OwnB.bts_own hln h
  have HO := Lib.hid h
  have hcr := Crc.crc_lt l
  obtain ⟨k, hk⟩ : ∃ k, k = Crc.crc l := ⟨_, rfl⟩
  have HC := Lib.hid (fun w' h => hk ▸ SumW.crc_any a n cap l w' h : ∀ w', Bts w' a n cap l → Calls Try.prog 45 #[.slice a n cap] w' fun e w'' => e = .returned (.int .u32 (k : Nat)) ∧ w' = w'')
  rw [← hk] at hcr ⊢
  have HT := Lib.hid (show Bts (w.alloc (.cells #[.int .u8 0, .int .u8 0, .int .u8 0, .int .u8 0] 125)).drew a n cap l from hbt.below (w' := w.alloc (.cells #[.int .u8 0, .int .u8 0, .int .u8 0, .int .u8 0] 125)) ((Below.refl _ _).alloc (Nat.le_refl _) _) (Nat.le_refl _))
  clear h hbt hk
  go_enter Try.func23, Try.ntmps23
  go_wp2
  refine wp_region_still_tail 4 (by kernel_rfl) (by kernel_rfl) ?_
  simp only [List.take_succ_cons, List.take_zero, List.drop_succ_cons, List.drop_zero]
  still_step
  still_step
  still_call ((HC.out (w.alloc (.cells #[.int .u8 0, .int .u8 0, .int .u8 0, .int .u8 0] 125)).drew HT.out).mono fun e w' ⟨a, b⟩ => ⟨a, b.symm⟩)
  still_step
  refine wpStill_nil ?_
  obtain ⟨wd, hwd⟩ : ∃ wd, wd = (w.alloc (.cells #[.int .u8 0, .int .u8 0, .int .u8 0, .int .u8 0] 125)).drew := ⟨_, rfl⟩
  change wpList _ _ _ _ _ (w.alloc (.cells #[.int .u8 0, .int .u8 0, .int .u8 0, .int .u8 0] 125)).drew
  have B := Lib.hid (show Blk wd w.heap.size (bv [0, 0, 0, 0]) 125 from hwd ▸ (blk_at rfl rfl : Blk (w.alloc (.cells #[.int .u8 0, .int .u8 0, .int .u8 0, .int .u8 0] 125)) w.heap.size (bv [0, 0, 0, 0]) 125))
  have HOd := Lib.hid (show wd.ownsRow base 5 1 (.slice a n cap) n (bv l) from hwd ▸ HO.out.alloc _)
  have HBd := Lib.hid (show Below base w wd from hwd ▸ ((Below.refl _ _).alloc hb _).drew)
  have hsz : wd.heap.size = w.heap.size + 1 := by rw [hwd]; simp
  rw [← hwd]
  clear hwd HT
  have HNm := Lib.hid (number_any w.heap.size 0 4 4 k [0, 0, 0, 0] 125 (by omega) (by decide) (by decide) (by decide) (by decide) (by decide) wd B.out)
  go_wp2_with fail
  refine HNm.out.mono ?_
  rintro e w3 ⟨rfl, b3, g3⟩
  rw [show put ([0, 0, 0, 0] : List UInt8) 0 (be 4 k) = be 4 k from put_all _ _ (by rw [be_len]; rfl)] at b3
  have B3 := Lib.hid b3
  have HO3 := Lib.hid (HOd.out.kept g3 (by
    by_cases e : (Value.slice a n cap).ownBlock = none
    · exact .inl e
    · refine .inr fun e2 => ?_
      have := (HO.out.lt w.heap.size e2).2
      omega))
  have HB3 := Lib.hid (below_grown HBd.out g3 (by omega) hb)
  have HS := Lib.hid (OwnB.src_bts (b3.bts (n := 4) (cap := 4) (be_len 4 k) (by decide) (by decide)))
  have hs3 := b3.lt
  clear b3 g3
  go_wp2_with (first | (at_builtin; refine wpList_append_any _ rfl _ _ 27 rfl base 5 (.int .u8 0) 1 1 Try.underlying27 OwnB.infou8 rfl (by decide) _ n (bv l) rfl HO3.out (some ⟨w.heap.size, 0, none⟩) 4 4 (bv (be 4 k)) rfl HS.out ?c1 ?c2 ?c3 ?_))
  case c1 => omega
  case c2 => unfold maxLen; omega
  case c3 => omega
  intro v' w4 hown hgrow
  rw [← bv_append] at hown
  have HF := Lib.hid hown
  have HB4 := Lib.hid (HB3.out.grown hgrow (by omega) (fun q hq => (HO3.out.lt q hq).1))
  clear hown hgrow
  go_wp2
  go_ret
  exact ⟨v', rfl, HF.out, HB4.out⟩
end Go.Proofs.Ytgnnjinpcdemiaa.Codec
/-
  Pieces laid one behind the other: plain. Helper text; no statement is proved here.
-/
set_option linter.unusedVariables false
set_option maxRecDepth 20000
namespace Go.Proofs.Ytgnnjinpcdemiaa.Codec
open Go.RowKit Go.Proofs.Ytgnnjinpcdemiaa.Base Go.Proofs.Ytgnnjinpcdemiaa.Laws
/-- a piece laid behind what is laid already -/
theorem put_next {α : Type} (p q r x : List α) (hq : q.length = x.length) : put (p ++ (q ++ r)) p.length x = (p ++ x) ++ r := by
  unfold put
  rw [List.take_left, ← hq, ← List.length_append, show p ++ (q ++ r) = (p ++ q) ++ r from (List.append_assoc p q r).symm, List.drop_left, List.append_assoc]
theorem zs_add (a b : Nat) : OwnB.zs (a + b) = OwnB.zs a ++ OwnB.zs b := by unfold OwnB.zs; rw [List.replicate_append_replicate]
theorem zs_len (a : Nat) : (OwnB.zs a).length = a := by simp [OwnB.zs]
theorem rec_laid (x : UInt8) (A B L : List UInt8) (hA : A.length = 8) (hB : B.length = 8) (hL : L.length = 16) : put (put (put ((OwnB.zs 37).set 0 x) 1 A) 9 B) 17 L = (([x] ++ A) ++ B ++ L) ++ OwnB.zs 4 := by
  have e0 : (OwnB.zs 37).set 0 x = [x] ++ (OwnB.zs 8 ++ OwnB.zs 28) := by
    rw [show (37 : Nat) = 1 + (8 + 28) from rfl, zs_add, zs_add]
    rfl
  rw [e0]
  have h1 := put_next [x] (OwnB.zs 8) (OwnB.zs 28) A (by rw [zs_len, hA])
  rw [show ([x] : List UInt8).length = 1 from rfl] at h1
  rw [h1, show (28 : Nat) = 8 + 20 from rfl, zs_add]
  have h2 := put_next ([x] ++ A) (OwnB.zs 8) (OwnB.zs 20) B (by rw [zs_len, hB])
  rw [show ([x] ++ A).length = 9 from by simp [hA]] at h2
  rw [h2, show (20 : Nat) = 16 + 4 from rfl, zs_add]
  have h3 := put_next ([x] ++ A ++ B) (OwnB.zs 16) (OwnB.zs 4) L (by rw [zs_len, hL])
  rw [show ([x] ++ A ++ B).length = 17 from by simp [hA, hB]] at h3
  exact h3
end Go.Proofs.Ytgnnjinpcdemiaa.Codec
/-
  Pack of the codec by contract. Helper text; no statement is proved here.
-/
set_option linter.unusedVariables false
set_option maxRecDepth 20000
set_option linter.unusedSimpArgs false
namespace Go.Proofs.Ytgnnjinpcdemiaa.Codec
open Go.RowKit Go.Proofs.Ytgnnjinpcdemiaa.Base Go.Proofs.Ytgnnjinpcdemiaa.Laws Go.Proofs.Ytgnnjinpcdemiaa.Inv
/-- a record's cells -/
def recV (k : Int) (v : Nat) (a : Int) (l : List UInt8) : List Value := [.int .i64 k, .int .u64 (v : Int), .int .i64 a] ++ bv l
def Ok (k a : Int) : Prop := (1 ≤ k ∧ k ≤ 6) ∧ (0 ≤ a ∧ a ≤ 2147483647)
theorem recV_len (k : Int) (v : Nat) (a : Int) (l : List UInt8) (hl : l.length = 16) : (recV k v a l).length = 19 := by simp [recV, bv_len, hl]
set_option maxHeartbeats 1000000 in
theorem pack_no {k a : Int} {v : Nat} {l : List UInt8} (hl : l.length = 16) (h : ¬ Ok k a) (w : World) : Calls Try.prog 6 #[.agg (recV k v a l).toArray] w fun e w' => e = .returned (.tuple #[.slice none 0 0, .int .i64 2]) ∧ Below w.heap.size w w' := by
  have HB0 := Lib.hid (blk_at (w := w) (cs := recV k v a l) (t := 35) rfl rfl)
  have c0 := HB0.out.cell 0
  have c2 := HB0.out.cell 2
  change _ = some (Value.int .i64 k) at c0
  change _ = some (Value.int .i64 a) at c2
  obtain ⟨cs, hcs⟩ : ∃ cs, cs = recV k v a l := ⟨_, rfl⟩
  rw [← hcs] at HB0 c0 c2 ⊢
  clear hcs
  unfold Ok at h
  have hh : k < 1 ∨ (1 ≤ k ∧ 6 < k) ∨ (1 ≤ k ∧ k ≤ 6 ∧ a < 0) ∨ (1 ≤ k ∧ k ≤ 6 ∧ 0 ≤ a ∧ 2147483647 < a) := by omega
  clear h
  rcases hh with h1 | ⟨h1, h2⟩ | ⟨h1, h2, h3⟩ | ⟨h1, h2, h3, h4⟩
  all_goals
    go_enter Try.func6, Try.ntmps6
    go_wp2
    go_ret2
    exact ⟨rfl, (Below.refl _ _).alloc (Nat.le_refl _) _⟩
/-- a record's bytes ahead of the sum -/
def rec33 (k : Int) (v a : Nat) (l : List UInt8) : List UInt8 := [UInt8.ofNat k.toNat] ++ be 8 v ++ be 8 a ++ l
theorem rec33_len (k : Int) (v a : Nat) (l : List UInt8) (hl : l.length = 16) : (rec33 k v a l).length = 33 := by simp [rec33, be_len, hl]
def z37 : List UInt8 := List.replicate 37 0
theorem put_bv (a b : List UInt8) (off : Nat) : put (bv a) off (bv b) = bv (put a off b) := by
  unfold put bv
  simp [List.map_take, List.map_drop]
theorem own_blk {w : World} {base g n cap : Nat} {l r : List UInt8} (h : Blk w g (bv (l ++ r)) 5) (hb : base ≤ g) (hn : l.length = n) (hc : n + r.length = cap) (hm : cap ≤ maxLen) : w.ownsRow base 5 1 (.slice (some ⟨g, 0, none⟩) n cap) n (bv l) := by
  refine ⟨by simp [bv_len, hn], .inr ⟨g, cap, (bv (l ++ r)).toArray, rfl, hb, h, by omega, hm, ?_, ?_⟩⟩
  · simp [bv_len]; omega
  · simp [bv_append, List.take_append, bv_len, hn]
set_option maxHeartbeats 2000000 in
theorem pack_yes {k : Int} {v a : Nat} {l : List UInt8} (hl : l.length = 16) (hv : v < 18446744073709551616) (h : Ok k a) (base : Nat) (w : World) (hbase : base ≤ w.heap.size) : Calls Try.prog 6 #[.agg (recV k v a l).toArray] w fun e w' => ∃ p, e = .returned (.tuple #[p, .int .i64 0]) ∧ w'.ownsRow base 5 1 p 37 (bv (rec33 k v a l ++ be 4 (Crc.crc (rec33 k v a l)))) ∧ Below base w w' := by
  have HB0 := Lib.hid (blk_at (w := w) (cs := recV k v a l) (t := 35) rfl rfl)
  have c0 := HB0.out.cell 0
  have c2 := HB0.out.cell 2
  change _ = some (Value.int .i64 k) at c0
  change _ = some (Value.int .i64 a) at c2
  obtain ⟨cs, hcs⟩ : ∃ cs, cs = recV k v a l := ⟨_, rfl⟩
  have HCS := Lib.hid hcs
  rw [← hcs] at HB0 c0 c2 ⊢
  clear hcs
  obtain ⟨⟨h1, h2⟩, ⟨h3, h4⟩⟩ := h
  go_enter Try.func6, Try.ntmps6
  have hz : (Value.int IntKind.u8 0) = Base.u8 0 := rfl
  have B1 := Lib.hid (HB0.out.alloc (.cells (bv (OwnB.zs 37)).toArray 5))
  have Z1 := Lib.hid (blk_at (w := w.alloc (.cells cs.toArray 35)) (g := w.heap.size + 1) (cs := bv (OwnB.zs 37)) (t := 5) (by simp only [size_alloc]) rfl)
  have zc := Z1.out.cell 0
  change _ = some (Value.int .u8 0) at zc
  have zf := Z1.out.frozen 0
  have d0 := (B1.out.cell 0).trans (show cs[0]? = some (Value.int .i64 k) from by rw [HCS.out]; rfl)
  go_wp2_with (first | (at_make; refine OwnB.wpList_make_bytes rfl _ _ rfl .i64 .i64 _ _ 33 37 rfl rfl rfl rfl (by decide) (by decide) ?_))
  obtain ⟨w1, hw1⟩ : ∃ w1, w1 = (w.alloc (.cells cs.toArray 35)).alloc (.cells ((bv (OwnB.zs 37)).set 0 (.int .u8 k)).toArray 5) := ⟨_, rfl⟩
  have hk8 : Value.int .u8 k = Base.u8 (UInt8.ofNat k.toNat) := by
    unfold Base.u8
    rw [UInt8.toNat_ofNat']
    congr 1
    omega
  have B2 := Lib.hid (show Blk w1 w.heap.size cs 35 from hw1 ▸ HB0.out.alloc _)
  have Z2 := Lib.hid (show Blk w1 (w.heap.size + 1) (bv ((OwnB.zs 37).set 0 (UInt8.ofNat k.toNat))) 5 from by
    rw [hw1, ← bv_set, ← hk8]
    exact blk_at (by simp only [size_alloc]) rfl)
  have L2 := Lib.hid (show Below base w w1 from hw1 ▸ ((Below.refl _ _).alloc hbase _).alloc (by simp only [size_alloc]; omega) _)
  rw [← hw1]
  clear hw1 B1 Z1 zc zf d0 c0 c2 HB0
  have d1 := (B2.out.cell 1).trans (show cs[1]? = some (Value.int .u64 v) from by rw [HCS.out]; rfl)
  refine wp_region_still_tail 4 (by kernel_rfl) (by kernel_rfl) ?_
  simp only [List.take_succ_cons, List.take_zero, List.drop_succ_cons, List.drop_zero]
  repeat still_step
  refine wpStill_nil ?_
  change wpList _ _ _ _ _ w1.drew
  go_wp2_with fail
  refine (number_any (w.heap.size + 1) 1 8 36 v _ 5 hv (by simp [OwnB.zs]) (by simp [OwnB.zs]) (by decide) (by decide) (by decide) w1.drew Z2.out.drew).mono ?_
  rintro e w2 ⟨rfl, z3, g3⟩
  have B3 := Lib.hid (B2.out.drew.grown g3 (by omega))
  have Z3 := Lib.hid z3
  have L3 := Lib.hid (below_grown L2.out.drew g3 (by have := L2.out.size; have := B2.out.lt; simp; omega) (by omega))
  clear z3 g3 d1
  have d2 := (B3.out.cell 2).trans (show cs[2]? = some (Value.int .i64 a) from by rw [HCS.out]; rfl)
  go_wp2
  refine wp_region_still_tail 5 (by kernel_rfl) (by kernel_rfl) ?_
  simp only [List.take_succ_cons, List.take_zero, List.drop_succ_cons, List.drop_zero]
  repeat still_step
  refine wpStill_nil ?_
  change wpList _ _ _ _ _ w2.drew
  go_wp2_with fail
  refine (number_any (w.heap.size + 1) 9 8 28 a _ 5 (by omega) (by rw [put_len _ _ _ (by simp [OwnB.zs, be_len])]; simp [OwnB.zs]) (by rw [put_len _ _ _ (by simp [OwnB.zs, be_len])]; simp [OwnB.zs]) (by decide) (by decide) (by decide) w2.drew Z3.out.drew).mono ?_
  rintro e w3 ⟨rfl, z4, g4⟩
  have B4 := Lib.hid (B3.out.drew.grown g4 (by omega))
  have Z4 := Lib.hid z4
  have L4 := Lib.hid (below_grown L3.out.drew g4 (by have := L3.out.size; have := B3.out.lt; simp; omega) (by omega))
  clear z4 g4 d2
  go_wp2
  refine wp_region_still_tail 4 (by kernel_rfl) (by kernel_rfl) ?_
  simp only [List.take_succ_cons, List.take_zero, List.drop_succ_cons, List.drop_zero]
  repeat still_step
  refine wpStill_nil ?_
  change wpList _ _ _ _ _ w3.drew
  refine wpList_copy_blk rfl _ _ 27 27 rfl 5 Try.underlying27 (by kernel_rfl) (w.heap.size + 1) 17 16 20 ⟨w.heap.size, 3, none⟩ 16 16 rfl rfl _ 5 Z4.out.drew (bv l) ?kn ?ks ?kf ?kone ?_
  case kn => rw [bv_len, hl]; rfl
  case ks =>
    intro j u hu
    rw [Addr.add_lit]
    refine (B4.out.drew.cell (3 + j)).trans ?_
    rw [HCS.out]
    unfold recV
    rw [List.getElem?_append_right (by simp)]
    simpa [show 3 + j - 3 = j from by omega] using hu
  case kf => rw [bv_len, bv_len, hl, put_len _ _ _ (by rw [put_len _ _ _ (by simp [OwnB.zs, be_len])]; simp [OwnB.zs, be_len]), put_len _ _ _ (by simp [OwnB.zs, be_len])]; simp [OwnB.zs]
  case kone => intro u hu; unfold bv at hu; obtain ⟨x, _, rfl⟩ := List.mem_map.1 hu; rfl
  intro w4 z5 g5
  rw [put_bv, rec_laid _ _ _ _ (be_len _ _) (be_len _ _) hl] at z5
  have L5 := Lib.hid (below_grown L4.out.drew g5 (by have := L4.out.size; have := B4.out.lt; simp; omega) (by omega))
  have HO := Lib.hid (own_blk (n := 33) (cap := 37) (l := rec33 k v a l) (r := OwnB.zs 4) z5 (by omega) (rec33_len k v a l hl) (by rw [zs_len]) (by decide) : w4.ownsRow base 5 1 (.slice (some ⟨w.heap.size + 1, 0, none⟩) 33 37) 33 (bv (rec33 k v a l)))
  have hs5 : base ≤ w4.heap.size := by have := L5.out.size; omega
  have HS := Lib.hid (seal_any base _ 33 (rec33 k v a l) (rec33_len k v a l hl) (by decide) w4 hs5 HO.out)
  clear z5 g5 B4 Z4
  go_wp2_with (go_at_call 23; refine HS.out.mono ?_; rintro e w5 ⟨p, rfl, ho, hb⟩)
  go_ret2
  exact ⟨p, rfl, ho, L5.out.trans hb⟩
end Go.Proofs.Ytgnnjinpcdemiaa.Codec
/-
  What bytes read as a record: plain. Helper text; no statement is proved here.
-/
set_option linter.unusedVariables false
set_option maxRecDepth 20000
set_option linter.unusedSimpArgs false
namespace Go.Proofs.Ytgnnjinpcdemiaa.Codec
open Go.RowKit Go.Proofs.Ytgnnjinpcdemiaa.Base Go.Proofs.Ytgnnjinpcdemiaa.Laws
theorem byteOf_toNat (n k : Nat) : (byteOf n k).toNat = n / 2 ^ (8 * k) % 256 := by
  unfold byteOf
  rw [UInt8.toNat_ofNat']
theorem val_cons_aux (l : List UInt8) : ∀ a, l.foldl (fun n b => n * 256 + b.toNat) a = a * 2 ^ (8 * l.length) + val l := by
  induction l with
  | nil => intro a; simp [val]
  | cons b l ih =>
    intro a
    have h1 := ih (a * 256 + b.toNat)
    have h2 := ih (0 * 256 + b.toNat)
    have e : val (b :: l) = (0 * 256 + b.toNat) * 2 ^ (8 * l.length) + val l := h2
    rw [List.foldl_cons, h1, e, List.length_cons, Nat.mul_add, Nat.pow_add]
    simp only [Nat.zero_mul, Nat.zero_add, Nat.add_mul]
    rw [show 2 ^ (8 * 1) = 256 from by decide, Nat.mul_comm (2 ^ (8 * l.length)) 256, ← Nat.mul_assoc]
    omega
theorem val_cons (b : UInt8) (l : List UInt8) : val (b :: l) = b.toNat * 2 ^ (8 * l.length) + val l := by
  have := val_cons_aux l (0 * 256 + b.toNat)
  simpa [val] using this
theorem be_val (l : List UInt8) : ∀ h : Nat, be l.length (h * 2 ^ (8 * l.length) + val l) = l := by
  induction l with
  | nil => intro h; rfl
  | cons b l ih =>
    intro h
    have hv := val_lt l
    have hb := b.toNat_lt
    have e : h * 2 ^ (8 * (l.length + 1)) + (b.toNat * 2 ^ (8 * l.length) + val l) = (h * 256 + b.toNat) * 2 ^ (8 * l.length) + val l := by
      rw [Nat.mul_add, Nat.pow_add, show 2 ^ (8 * 1) = 256 from by decide, Nat.add_mul, Nat.mul_comm (2 ^ (8 * l.length)) 256, ← Nat.mul_assoc]
      omega
    rw [List.length_cons, val_cons, be, e, ih]
    congr 1
    apply UInt8.toNat_inj.1
    rw [byteOf_toNat, Nat.add_comm, Nat.add_mul_div_right _ _ (Nat.two_pow_pos _), Nat.div_eq_of_lt hv]
    omega
theorem be_val' (l : List UInt8) {n : Nat} (hn : l.length = n) : be n (val l) = l := by
  subst hn
  have := be_val l 0
  simpa using this
theorem val_be (s n : Nat) (h : n < 2 ^ (8 * s)) : val (be s n) = n := by
  induction s generalizing n with
  | zero => have : n = 0 := by simpa using h
            subst this; rfl
  | succ s ih =>
    have hp := Nat.two_pow_pos (8 * s)
    have hm := Nat.mod_lt n hp
    have key : be s (n % 2 ^ (8 * s)) = be s n := by
      refine List.ext_getElem? fun i => ?_
      rcases Nat.lt_or_ge i s with hi | hi
      · rw [be_get s _ i hi, be_get s _ i hi]
        congr 1
        apply UInt8.toNat_inj.1
        rw [byteOf_toNat, byteOf_toNat]
        have e : 2 ^ (8 * s) = 2 ^ (8 * (s - 1 - i)) * 2 ^ (8 * (i + 1)) := by rw [← Nat.pow_add]; congr 1; omega
        rw [e, Nat.mod_mul_right_div_self]
        have e2 : 2 ^ (8 * (i + 1)) = 256 * 2 ^ (8 * i) := by rw [Nat.mul_add, Nat.pow_add, Nat.mul_comm]
        rw [e2]
        exact Nat.mod_mul_right_mod _ _ _
      · rw [List.getElem?_eq_none (by rw [be_len]; omega), List.getElem?_eq_none (by rw [be_len]; omega)]
    rw [be, val_cons, be_len, byteOf_toNat, ← key, ih _ hm]
    have hd : n / 2 ^ (8 * s) < 256 := by
      rw [Nat.div_lt_iff_lt_mul hp]
      rw [show 8 * (s + 1) = 8 + 8 * s from by omega, Nat.pow_add] at h
      exact h
    rw [Nat.mod_eq_of_lt hd]
    have := Nat.div_add_mod n (2 ^ (8 * s))
    rw [Nat.mul_comm] at this
    exact this
/-- the parts of a record that bytes begin with -/
def kindOf (l : List UInt8) : Int := ((l.headD 0).toNat : Int)
def verOf (l : List UInt8) : Nat := val ((l.drop 1).take 8)
def lbaOf (l : List UInt8) : Int := IntKind.i64.wrap (val ((l.drop 9).take 8) : Nat)
def dataOf (l : List UInt8) : List UInt8 := (l.drop 17).take 16
/-- do bytes begin with a record? -/
def IsRec (l : List UInt8) : Prop := 37 ≤ l.length ∧ Ok (kindOf l) (lbaOf l) ∧ (l.drop 33).take 4 = be 4 (Crc.crc (l.take 33))
theorem verOf_lt (l : List UInt8) : verOf l < 18446744073709551616 := by
  have h := val_lt ((l.drop 1).take 8)
  have h2 : (2 : Nat) ^ (8 * ((l.drop 1).take 8).length) ≤ 2 ^ 64 := Nat.pow_le_pow_right (by decide) (by rw [List.length_take]; omega)
  have h3 : (2 : Nat) ^ 64 = 18446744073709551616 := by decide
  unfold verOf
  omega
theorem lba_val_lt (l : List UInt8) : val ((l.drop 9).take 8) < 18446744073709551616 := by
  have h := val_lt ((l.drop 9).take 8)
  have h2 : (2 : Nat) ^ (8 * ((l.drop 9).take 8).length) ≤ 2 ^ 64 := Nat.pow_le_pow_right (by decide) (by rw [List.length_take]; omega)
  have h3 : (2 : Nat) ^ 64 = 18446744073709551616 := by decide
  omega
theorem lba_nat {l : List UInt8} (h0 : 0 ≤ lbaOf l) : lbaOf l = (val ((l.drop 9).take 8) : Nat) := by
  have h := lba_val_lt l
  unfold lbaOf at *
  rw [IntKind.wrap_i64] at *
  omega
theorem take33 {l : List UInt8} (h : 37 ≤ l.length) {a : Nat} (ha : lbaOf l = a) : l.take 33 = rec33 (kindOf l) (verOf l) a (dataOf l) := by
  have e := lba_nat (l := l) (by omega)
  have ea : a = val ((l.drop 9).take 8) := by omega
  unfold rec33 kindOf verOf dataOf
  rw [ea, be_val' _ (by rw [List.length_take, List.length_drop]; omega), be_val' _ (by rw [List.length_take, List.length_drop]; omega), Int.toNat_natCast]
  have e1 : [UInt8.ofNat (l.headD 0).toNat] = l.take 1 := by
    cases l with
    | nil => simp at h
    | cons x l => simp
  rw [e1]
  have t (n k : Nat) : l.take n ++ (l.drop n).take k = l.take (n + k) := by rw [← List.take_add]
  rw [t, t, t]
theorem take37 {l : List UInt8} (h : 37 ≤ l.length) : l.take 37 = l.take 33 ++ (l.drop 33).take 4 := by rw [← List.take_add]
end Go.Proofs.Ytgnnjinpcdemiaa.Codec
/-
  Records that are built. Helper text; no statement is proved here.
-/
set_option linter.unusedVariables false
set_option maxRecDepth 20000
set_option linter.unusedSimpArgs false
namespace Go.Proofs.Ytgnnjinpcdemiaa.Codec
open Go.RowKit Go.Proofs.Ytgnnjinpcdemiaa.Base Go.Proofs.Ytgnnjinpcdemiaa.Laws
theorem list16 {α : Type} : ∀ (l : List α), l.length = 16 → ∃ x0 x1 x2 x3 x4 x5 x6 x7 x8 x9 x10 x11 x12 x13 x14 x15 : α, l = [x0, x1, x2, x3, x4, x5, x6, x7, x8, x9, x10, x11, x12, x13, x14, x15]
  | [x0, x1, x2, x3, x4, x5, x6, x7, x8, x9, x10, x11, x12, x13, x14, x15], _ => ⟨x0, x1, x2, x3, x4, x5, x6, x7, x8, x9, x10, x11, x12, x13, x14, x15, rfl⟩
theorem built_rec16' (k v a : Int) (x0 x1 x2 x3 x4 x5 x6 x7 x8 x9 x10 x11 x12 x13 x14 x15 : Value) : Try.prog.built 35 [(0, .int .i64 k), (1, .int .u64 v), (2, .int .i64 a), (3, .agg #[x0, x1, x2, x3, x4, x5, x6, x7, x8, x9, x10, x11, x12, x13, x14, x15])] = some #[.int .i64 k, .int .u64 v, .int .i64 a, x0, x1, x2, x3, x4, x5, x6, x7, x8, x9, x10, x11, x12, x13, x14, x15] := by kernel_rfl
theorem built_rec (k : Int) (v : Nat) (a : Int) (l : List UInt8) (hl : l.length = 16) : Try.prog.built 35 [(0, .int .i64 k), (1, .int .u64 (v : Int)), (2, .int .i64 a), (3, .agg (bv l).toArray)] = some (recV k v a l).toArray := by
  obtain ⟨x0, x1, x2, x3, x4, x5, x6, x7, x8, x9, x10, x11, x12, x13, x14, x15, rfl⟩ := list16 l hl
  exact built_rec16' k v a _ _ _ _ _ _ _ _ _ _ _ _ _ _ _ _
/-- the record of noughts -/
def zrec : List Value := recV 0 0 0 (OwnB.zs 16)
theorem zrec_len : zrec.length = 19 := rfl
theorem built_zrec : Try.prog.built 35 [] = some zrec.toArray := by kernel_rfl
theorem built_three (k : Int) (v : Nat) (a : Int) : Try.prog.built 35 [(0, .int .i64 k), (1, .int .u64 (v : Int)), (2, .int .i64 a)] = some (recV k v a (OwnB.zs 16)).toArray := by kernel_rfl
theorem recV_one (k : Int) (v : Nat) (a : Int) (l : List UInt8) : ∀ u ∈ recV k v a l, u.oneCell' = true := by
  intro u hu
  unfold recV at hu
  rcases List.mem_append.1 hu with h | h
  · simp at h
    rcases h with rfl | rfl | rfl <;> rfl
  · unfold bv at h
    obtain ⟨x, _, rfl⟩ := List.mem_map.1 h
    rfl
end Go.Proofs.Ytgnnjinpcdemiaa.Codec
/-
  SameBytes of the reference and Equal of the library by contract. Helper text; no statement is proved here.
-/
set_option linter.unusedVariables false
set_option maxRecDepth 20000
set_option linter.unusedSimpArgs false
namespace Go.Proofs.Ytgnnjinpcdemiaa.Same
open Go.RowKit Go.Proofs.Ytgnnjinpcdemiaa.Base Go.Proofs.Ytgnnjinpcdemiaa.Laws
theorem zero_len (w : World) (p : Option Addr) (c : Nat) : (convert 27 9 (.slice p 0 c)).run Try.prog w = .ok (.string ⟨#[]⟩) w := by
  rw [run_convert_bytes_string w 27 9 5 _ 0 c Try.underlying27 Try.underlying5 Try.underlying9]
  cases p <;> simp [Conv.bytesToString, loadCells]
  all_goals rfl
theorem str_any {w : World} {a : Option Addr} {n c : Nat} {l : List UInt8} (h : Bts w a n c l) : (convert 27 9 (.slice a n c)).run Try.prog w = .ok (.string ⟨l.toArray⟩) w := by
  obtain ⟨hl, _, _, h4⟩ := h
  rcases h4 with rfl | ⟨b, o, rfl, hc⟩
  · obtain rfl : l = [] := List.eq_nil_of_length_eq_zero hl
    exact zero_len w a c
  · have := run_convert_bytes_arg (P := Try.prog) w 27 5 Try.underlying27 Try.underlying5 b o n c (l.map fun x => (x.toNat : Int)) (by simpa using hl) (fun i hi => by
      have hg : l[i]? = some l[i] := List.getElem?_eq_getElem (by omega)
      rw [hc i _ hg, List.getD_eq_getElem?_getD, List.getElem?_map, hg]
      rfl) 9 Try.underlying9
    rw [this]
    congr 2
    unfold strOfNums
    congr 2
    rw [List.map_map]
    conv => rhs; rw [← List.map_id l]
    apply List.map_congr_left
    intro b _
    simp
set_option maxHeartbeats 1000000 in
theorem equal_any (a : Option Addr) (n c : Nat) (la : List UInt8) (b : Option Addr) (m d : Nat) (lb : List UInt8) (w : World) (ha : Bts w a n c la) (hb : Bts w b m d lb) :
    Calls Try.prog 31 #[.slice a n c, .slice b m d] w fun e w' => e = .returned (.bool (decide (la = lb))) ∧ w = w' := by
  have h1 := str_any ha
  have h2 := str_any hb
  clear ha hb
  go_enter Try.func31, Try.ntmps31
  go_wp2
  go_ret
  exact ⟨ret_bool (by by_cases e : la = lb <;> simp [e]), rfl⟩
theorem take_eq_of {α : Type} {la lb : List α} (h : la.length = lb.length) {k : Nat} (hk : k = la.length) (ht : la.take k = lb.take k) : la = lb := by
  subst hk
  rwa [List.take_of_length_le (Nat.le_refl _), List.take_of_length_le (by omega)] at ht
end Go.Proofs.Ytgnnjinpcdemiaa.Same
/-
  Unpack of the codec by contract. Helper text; no statement is proved here.
-/
set_option linter.unusedVariables false
set_option maxRecDepth 20000
set_option linter.unusedSimpArgs false
namespace Go.Proofs.Ytgnnjinpcdemiaa.Codec
open Go.RowKit Go.Proofs.Ytgnnjinpcdemiaa.Base Go.Proofs.Ytgnnjinpcdemiaa.Laws Go.Proofs.Ytgnnjinpcdemiaa.Inv Go.Proofs.Ytgnnjinpcdemiaa.InvL Go.Proofs.Ytgnnjinpcdemiaa.InvM
theorem bts_sub {w : World} {b o len cap : Nat} {l : List UInt8} (h : Bts w (some ⟨b, o, none⟩) len cap l) (i n c : Nat) (hi : i + n ≤ len) (hc : n ≤ c) (hm : c ≤ maxLen) : Bts w (some ⟨b, o + i, none⟩) n c ((l.drop i).take n) := by
  obtain ⟨h1, h2, h3, h4⟩ := h
  refine ⟨by rw [List.length_take, List.length_drop]; omega, hc, hm, ?_⟩
  rcases h4 with h4 | ⟨b', o', e, hc⟩
  · exact .inl (by omega)
  · simp only [Option.some.injEq, Addr.mk.injEq, and_true] at e
    obtain ⟨rfl, rfl⟩ := e
    refine .inr ⟨_, _, rfl, fun j u hu => ?_⟩
    rw [List.getElem?_take] at hu
    split at hu
    · rw [List.getElem?_drop] at hu
      rw [Nat.add_assoc]
      exact hc _ u hu
    · cases hu
theorem bts_alloc {w : World} {a : Option Addr} {len cap : Nat} {l : List UInt8} (h : Bts w a len cap l) (o : Obj) : Bts (w.alloc o) a len cap l :=
  h.below (B := w.heap.size) ((Below.refl _ _).alloc (Nat.le_refl _) _) (Nat.le_refl _)
theorem bts_row {w : World} {g : Nat} {a : Option Addr} {len cap : Nat} {l : List UInt8} (h : Bts w a len cap l) (hb : Below w.heap.size w w) : True := trivial
theorem exec_build {P : Program} {ρ : Operand → Value} {w : World} {o : Oper} {t : TypeId} {parts : Array (Nat × Operand)} {vs : List (Nat × Value)} {cells : Array Value} (ho : o.op = .build t parts) (hx : parts.toList.map (fun (i, x) => (i, ρ x)) = vs) (hb : P.built t vs = some cells) : (execOp ρ o).run P w = .ok (.value (.agg cells)) w := by
  unfold execOp
  simp only [ho]
  have hx' : parts.map (fun (i, x) => (i, ρ x)) = vs.toArray := by rw [← hx]; apply Array.ext'; simp
  rw [hx']
  simp only [Sem.run_bind, run_build w t vs.toArray cells hb, Result.andThen_ok, Sem.run_pure]
instance (k a : Int) : Decidable (Ok k a) := by unfold Ok; infer_instance
instance (l : List UInt8) : Decidable (IsRec l) := by unfold IsRec; infer_instance
/-- what Unpack answers -/
def recOut (l : List UInt8) : List Value := if IsRec l then recV (kindOf l) (verOf l) (lbaOf l) (dataOf l) else zrec
def recErr (l : List UInt8) : Int := if l.length < 37 then 1 else if IsRec l then 0 else 7
theorem out_short {l : List UInt8} (h : l.length < 37) : recOut l = zrec ∧ recErr l = 1 := by
  unfold recOut recErr
  rw [if_neg (fun e => by have := e.1; omega), if_pos h]
  exact ⟨rfl, rfl⟩
theorem out_no {l : List UInt8} (h : 37 ≤ l.length) (hn : ¬ IsRec l) : recOut l = zrec ∧ recErr l = 7 := by
  unfold recOut recErr
  rw [if_neg hn, if_neg (by omega), if_neg hn]
  exact ⟨rfl, rfl⟩
theorem out_yes {l : List UInt8} (h : IsRec l) : recOut l = recV (kindOf l) (verOf l) (lbaOf l) (dataOf l) ∧ recErr l = 0 := by
  unfold recOut recErr
  rw [if_pos h, if_neg (by have := h.1; omega), if_pos h]
  exact ⟨rfl, rfl⟩
theorem bts_under {w w' : World} {b o len cap B : Nat} {l : List UInt8} (h : Bts w (some ⟨b, o, none⟩) len cap l) (hb : Below B w w') (hB : b < B) : Bts w' (some ⟨b, o, none⟩) len cap l := by
  obtain ⟨h1, h2, h3, h4⟩ := h
  refine ⟨h1, h2, h3, ?_⟩
  rcases h4 with h4 | ⟨b', o', e, hc⟩
  · exact .inl h4
  · simp only [Option.some.injEq, Addr.mk.injEq, and_true] at e
    obtain ⟨rfl, rfl⟩ := e
    exact .inr ⟨_, _, rfl, fun i u hu => (hb.cell (p := ⟨b, o + i, none⟩) hB).trans (hc i u hu)⟩
set_option maxHeartbeats 1000000 in
theorem unpack_short (a : Option Addr) (len cap : Nat) (l : List UInt8) (w : World) (h : Bts w a len cap l) (hs : len < 37) :
    Calls Try.prog 14 #[.slice a len cap] w fun e w' => e = .returned (.tuple #[.agg zrec.toArray, .int .i64 1]) ∧ Below w.heap.size w w' := by
  obtain ⟨hl, hlc, hm, ha⟩ := h
  unfold maxLen at hm
  clear ha
  have Z := Lib.hid (blk_at (w := w) (g := w.heap.size) (cs := zrec) (t := 35) (arr := #[.int .i64 0, .int .u64 0, .int .i64 0, .int .u8 0, .int .u8 0, .int .u8 0, .int .u8 0, .int .u8 0, .int .u8 0, .int .u8 0, .int .u8 0, .int .u8 0, .int .u8 0, .int .u8 0, .int .u8 0, .int .u8 0, .int .u8 0, .int .u8 0, .int .u8 0]) rfl rfl)
  go_enter Try.func14, Try.ntmps14
  go_upto_region 2 with (fail)
  obtain ⟨w1, hw1⟩ : ∃ w1, w1 = w.alloc (.cells #[.int .i64 0, .int .u64 0, .int .i64 0, .int .u8 0, .int .u8 0, .int .u8 0, .int .u8 0, .int .u8 0, .int .u8 0, .int .u8 0, .int .u8 0, .int .u8 0, .int .u8 0, .int .u8 0, .int .u8 0, .int .u8 0, .int .u8 0, .int .u8 0, .int .u8 0] 35) := ⟨_, rfl⟩
  have L1 := Lib.hid (show Below w.heap.size w w1 from hw1 ▸ ((Below.refl w.heap.size w).alloc (Nat.le_refl _) _))
  rw [← hw1] at Z ⊢
  clear hw1
  go_wp2_with (first | (refine wpList_store_blk rfl 35 _ _ rfl w.heap.size 0 19 rfl 35 zrec zrec rfl Z.out (by kernel_rfl) rfl (by decide) (recV_one _ _ _ _) ?_; intro w2 z2 g2; have Z2 := Lib.hid (show Blk w2 w.heap.size zrec 35 from z2); have L2 := Lib.hid (below_grown L1.out g2 L1.out.size (Nat.le_refl _)); clear z2 g2))
  exact bodyPost_ret (v := .tuple #[.agg zrec.toArray, .int .i64 1]) (results_cell_two rfl _ _ w.heap.size 35 _ (0, 0) _ _ rfl rfl Z2.out Try.underlying35 rfl (by kernel_rfl)) rfl ⟨rfl, L2.out⟩
set_option maxRecDepth 4000 in
set_option maxHeartbeats 4000000 in
theorem unpack_long (a : Option Addr) (len cap : Nat) (l : List UInt8) (w : World) (h : Bts w a len cap l) (hs : 37 ≤ len) :
    Calls Try.prog 14 #[.slice a len cap] w fun e w' => e = .returned (.tuple #[.agg (recOut l).toArray, .int .i64 (recErr l)]) ∧ Below w.heap.size w w' := by
  have h0 := h
  obtain ⟨hl, hlc, hm, ha⟩ := h
  rcases ha with ha | ⟨b, o, rfl, hc⟩
  · omega
  have hb : b < w.heap.size := by
    obtain ⟨x, hx⟩ : ∃ x, l[0]? = some x := ⟨_, List.getElem?_eq_getElem (by omega)⟩
    exact block_lt_of_cell (hc 0 x hx)
  have T0 := Lib.hid h0
  clear h0 hc
  obtain ⟨x0, hx0⟩ : ∃ x, l[0]? = some x := ⟨_, List.getElem?_eq_getElem (by omega)⟩
  have hk : kindOf l = (x0.toNat : Int) := by
    unfold kindOf
    cases l with
    | nil => simp at hx0
    | cons y l => simp at hx0; subst hx0; rfl
  have C0 := Lib.hid (show ∀ w', Bts w' (some ⟨b, o, none⟩) len cap l → w'.cell? ⟨b, o, none⟩ = some (.int .u8 (x0.toNat : Int)) from fun w' h => by
    obtain ⟨_, _, _, h4⟩ := h
    rcases h4 with h4 | ⟨b', o', e, hc⟩
    · omega
    · simp only [Option.some.injEq, Addr.mk.injEq, and_true] at e
      obtain ⟨rfl, rfl⟩ := e
      exact hc 0 x0 hx0)
  have T1 := Lib.hid (fun w' (h : Bts w' (some ⟨b, o, none⟩) len cap l) => bts_sub h 1 8 (cap - 1) (by omega) (by omega) (by omega))
  have T9 := Lib.hid (fun w' (h : Bts w' (some ⟨b, o, none⟩) len cap l) => bts_sub h 9 8 (cap - 9) (by omega) (by omega) (by omega))
  have TD := Lib.hid (fun w' (h : Bts w' (some ⟨b, o, none⟩) len cap l) (j : Nat) (v : Value) (hv : (bv (dataOf l))[j]? = some v) => (show w'.cell? (({ block := b, off := o + 17 } : Addr).add j) = some v from by
    rw [Addr.add_lit]
    have := bts_sub h 17 16 (cap - 17) (by omega) (by omega) (by omega)
    obtain ⟨_, _, _, h4⟩ := this
    rcases h4 with h4 | ⟨b', o', e, hc⟩
    · omega
    · simp only [Option.some.injEq, Addr.mk.injEq, and_true] at e
      obtain ⟨rfl, rfl⟩ := e
      rw [bv_get, Option.map_eq_some_iff] at hv
      obtain ⟨u, hu, rfl⟩ := hv
      exact hc j u hu))
  have hd16 : (dataOf l).length = 16 := by unfold dataOf; rw [List.length_take, List.length_drop]; omega
  have BR := Lib.hid (built_rec (kindOf l) (verOf l) (lbaOf l) (dataOf l) hd16)
  rw [hk] at BR
  obtain ⟨rc, hrc⟩ : ∃ rc, rc = recV (x0.toNat : Int) (verOf l) (lbaOf l) (dataOf l) := ⟨_, rfl⟩
  have hr19 : rc.length = 19 := by rw [hrc]; exact recV_len _ _ _ _ hd16
  have hr1 : ∀ u ∈ rc, u.oneCell' = true := by rw [hrc]; exact recV_one _ _ _ _
  rw [← hrc] at BR
  have RC := Lib.hid hrc
  clear hrc
  unfold maxLen at hm
  have hw0 : IntKind.i64.wrap (x0.toNat : Int) = (x0.toNat : Int) := by have := x0.toNat_lt; rw [IntKind.wrap_i64]; omega
  obtain ⟨w1, hw1⟩ : ∃ w1, w1 = w.alloc (.cells #[.int .i64 0, .int .u64 0, .int .i64 0, .int .u8 0, .int .u8 0, .int .u8 0, .int .u8 0, .int .u8 0, .int .u8 0, .int .u8 0, .int .u8 0, .int .u8 0, .int .u8 0, .int .u8 0, .int .u8 0, .int .u8 0, .int .u8 0, .int .u8 0, .int .u8 0] 35) := ⟨_, rfl⟩
  have Z := Lib.hid (show Blk w1 w.heap.size zrec 35 from hw1 ▸ (blk_at (w := w) (g := w.heap.size) (cs := zrec) (t := 35) (arr := #[.int .i64 0, .int .u64 0, .int .i64 0, .int .u8 0, .int .u8 0, .int .u8 0, .int .u8 0, .int .u8 0, .int .u8 0, .int .u8 0, .int .u8 0, .int .u8 0, .int .u8 0, .int .u8 0, .int .u8 0, .int .u8 0, .int .u8 0, .int .u8 0, .int .u8 0]) rfl rfl))
  have L1 := Lib.hid (show Below w.heap.size w w1 from hw1 ▸ ((Below.refl w.heap.size w).alloc (Nat.le_refl _) _))
  have TT := Lib.hid (show Bts w1 (some ⟨b, o, none⟩) len cap l from hw1 ▸ bts_alloc T0.out _)
  have hN1 : w1.heap.size = w.heap.size + 1 := by rw [hw1]; simp only [size_alloc]
  have hne : ¬ len = 0 := by omega
  have n1 : ¬ cap = 1 := by omega
  have n9 : ¬ cap = 9 := by omega
  have n17 : ¬ cap = 17 := by omega
  have h9 : (9 : Int) ≤ cap := by omega
  have h17 : (17 : Int) ≤ cap := by omega
  have h33 : (33 : Int) ≤ cap := by omega
  clear hx0
  go_enter Try.func14, Try.ntmps14
  go_wp2
  rw [← hw1]
  clear hw1 T0
  obtain ⟨N, hN⟩ : ∃ N, N = w1.heap.size := ⟨_, rfl⟩
  have KV := Lib.hid (fun (i : Nat) (d : Array Bool) (w' : World) (hi : i ≠ 16) (h : (Bts w' (some ⟨b, o, none⟩) len cap l ∧ Blk w' w.heap.size zrec 35 ∧ Below w.heap.size w w') ∧ At 16 (fun w' => w'.heap.size = N) (fun w' => Blk w' N zrec 35) d w') => (⟨h.1, At.keep hi id id h.2⟩ : (Bts w' (some ⟨b, o, none⟩) len cap l ∧ Blk w' w.heap.size zrec 35 ∧ Below w.heap.size w w') ∧ At 16 (fun w' => w'.heap.size = N) (fun w' => Blk w' N zrec 35) (d.setIfInBounds i true) w'))
  refine InvL.wp_region_inv_tail (fun d w' => (Bts w' (some ⟨b, o, none⟩) len cap l ∧ Blk w' w.heap.size zrec 35 ∧ Below w.heap.size w w') ∧ At 16 (fun w' => w'.heap.size = N) (fun w' => Blk w' N zrec 35) d w') 17 (by kernel_rfl) (by kernel_rfl) ⟨⟨TT.out, Z.out.drew, L1.out.drew⟩, At.start (by rfl) hN.symm⟩ ?_
  simp only [List.take_succ_cons, List.take_zero, List.drop_succ_cons, List.drop_zero]
  refine invl_value (.slice (some ⟨b, o, none⟩) len cap) rfl (fun d w' h => by go_simp) (fun d w' _ h => KV.out _ d w' (by decide) h) ?_
  simp only [Act.put, List.setIfInBounds_toArray, List.set_cons_zero, List.set_cons_succ]
  refine invl_value (.pointer (some ⟨b, o, none⟩)) rfl (fun d w' h => by go_simp) (fun d w' _ h => KV.out _ d w' (by decide) h) ?_
  simp only [Act.put, List.setIfInBounds_toArray, List.set_cons_zero, List.set_cons_succ]
  refine invl_value (.int .u8 (x0.toNat : Int)) rfl (fun d w' h => by have c0 := C0.out w' h.1.1; go_simp) (fun d w' _ h => KV.out _ d w' (by decide) h) ?_
  simp only [Act.put, List.setIfInBounds_toArray, List.set_cons_zero, List.set_cons_succ]
  refine invl_value (.int .i64 (x0.toNat : Int)) rfl (fun d w' h => by go_simp) (fun d w' _ h => KV.out _ d w' (by decide) h) ?_
  simp only [Act.put, List.setIfInBounds_toArray, List.set_cons_zero, List.set_cons_succ]
  refine invl_value (.slice (some ⟨b, o, none⟩) len cap) rfl (fun d w' h => by go_simp) (fun d w' _ h => KV.out _ d w' (by decide) h) ?_
  simp only [Act.put, List.setIfInBounds_toArray, List.set_cons_zero, List.set_cons_succ]
  refine invl_value (.slice (some ⟨b, o + 1, none⟩) 8 (cap - 1)) rfl (fun d w' h => by go_simp) (fun d w' _ h => KV.out _ d w' (by decide) h) ?_
  simp only [Act.put, List.setIfInBounds_toArray, List.set_cons_zero, List.set_cons_succ]
  refine invl_call (.int .u64 (verOf l : Int)) rfl 30 #[.slice (some ⟨b, o + 1, none⟩) 8 (cap - 1)] (fun d w' _ => by go_simp) (fun d w' _ h => (read_any _ _ _ ((l.drop 1).take 8) (by decide) w' (T1.out w' h.1.1)).mono fun e w'' ⟨he, hw⟩ => ⟨he, hw ▸ KV.out _ d w' (by decide) h⟩) ?_
  simp only [Act.put, List.setIfInBounds_toArray, List.set_cons_zero, List.set_cons_succ]
  refine invl_value (.slice (some ⟨b, o, none⟩) len cap) rfl (fun d w' h => by go_simp) (fun d w' _ h => KV.out _ d w' (by decide) h) ?_
  simp only [Act.put, List.setIfInBounds_toArray, List.set_cons_zero, List.set_cons_succ]
  refine invl_value (.slice (some ⟨b, o + 9, none⟩) 8 (cap - 9)) rfl (fun d w' h => by go_simp) (fun d w' _ h => KV.out _ d w' (by decide) h) ?_
  simp only [Act.put, List.setIfInBounds_toArray, List.set_cons_zero, List.set_cons_succ]
  refine invl_call (.int .u64 (val ((l.drop 9).take 8) : Nat)) rfl 30 #[.slice (some ⟨b, o + 9, none⟩) 8 (cap - 9)] (fun d w' _ => by go_simp) (fun d w' _ h => (read_any _ _ _ ((l.drop 9).take 8) (by decide) w' (T9.out w' h.1.1)).mono fun e w'' ⟨he, hw⟩ => ⟨he, hw ▸ KV.out _ d w' (by decide) h⟩) ?_
  simp only [Act.put, List.setIfInBounds_toArray, List.set_cons_zero, List.set_cons_succ]
  refine invl_value (.int .i64 (lbaOf l)) rfl (fun d w' h => by go_simp; all_goals rfl) (fun d w' _ h => KV.out _ d w' (by decide) h) ?_
  simp only [Act.put, List.setIfInBounds_toArray, List.set_cons_zero, List.set_cons_succ]
  refine invl_value (.slice (some ⟨b, o, none⟩) len cap) rfl (fun d w' h => by go_simp) (fun d w' _ h => KV.out _ d w' (by decide) h) ?_
  simp only [Act.put, List.setIfInBounds_toArray, List.set_cons_zero, List.set_cons_succ]
  refine invl_value (.slice (some ⟨b, o + 17, none⟩) 16 (cap - 17)) rfl (fun d w' h => by go_simp) (fun d w' _ h => KV.out _ d w' (by decide) h) ?_
  simp only [Act.put, List.setIfInBounds_toArray, List.set_cons_zero, List.set_cons_succ]
  refine invl_value (.pointer (some ⟨b, o + 17, none⟩)) rfl (fun d w' h => by exact exec_array_at rfl rfl Try.underlying33 (Nat.le_refl _)) (fun d w' _ h => KV.out _ d w' (by decide) h) ?_
  simp only [Act.put, List.setIfInBounds_toArray, List.set_cons_zero, List.set_cons_succ]
  refine invl_value (.agg (bv (dataOf l)).toArray) rfl (fun d w' h => by exact exec_load_from (m := 16) rfl rfl (TD.out w' h.1.1) Try.underlying33 rfl (by kernel_rfl) (by rw [bv_len]; exact hd16)) (fun d w' _ h => KV.out _ d w' (by decide) h) ?_
  simp only [Act.put, List.setIfInBounds_toArray, List.set_cons_zero, List.set_cons_succ]
  refine invl_value (.agg rc.toArray) rfl (fun d w' h => by exact exec_build (vs := [(0, .int .i64 (x0.toNat : Int)), (1, .int .u64 (verOf l : Int)), (2, .int .i64 (lbaOf l)), (3, .agg (bv (dataOf l)).toArray)]) rfl rfl BR.out) (fun d w' _ h => KV.out _ d w' (by decide) h) ?_
  simp only [Act.put, List.setIfInBounds_toArray, List.set_cons_zero, List.set_cons_succ]
  refine invl_world (.pointer (some ⟨N, 0, none⟩)) rfl (fun d w' hd h => ⟨w'.alloc (.cells #[.int .i64 0, .int .u64 0, .int .i64 0, .int .u8 0, .int .u8 0, .int .u8 0, .int .u8 0, .int .u8 0, .int .u8 0, .int .u8 0, .int .u8 0, .int .u8 0, .int .u8 0, .int .u8 0, .int .u8 0, .int .u8 0, .int .u8 0, .int .u8 0, .int .u8 0] 35), by have hh := h.2.before hd; go_simp, ⟨bts_alloc h.1.1 _, h.1.2.1.alloc _, h.1.2.2.alloc h.1.2.2.size _⟩, At.now hd (blk_at (h.2.before hd) rfl)⟩) ?_
  simp only [Act.put, List.setIfInBounds_toArray, List.set_cons_zero, List.set_cons_succ]
  refine invl_nil fun w2 hI => ?_
  obtain ⟨⟨bt, bz, bl⟩, hn⟩ := hI
  have hn := hn.done (by rfl)
  have hN2 := hn.lt
  refine wpList_store_blk rfl 35 _ _ rfl N 0 19 rfl 35 zrec rc rfl hn (by kernel_rfl) hr19 (by decide) hr1 ?_
  intro w3 n3 g3
  rw [put_all _ _ (by rw [hr19]; rfl)] at n3
  have T3 := Lib.hid (bts_under bt (below_grown (Below.refl w.heap.size w2) g3 (by omega) (by have := bl.size; omega)) hb)
  have Z3 := Lib.hid (bz.grown g3 (by omega))
  have R3 := Lib.hid n3
  have L3 := Lib.hid (below_grown bl g3 (by omega) (by omega))
  have hs3 := n3.lt
  have hs3' := L3.out.size
  have hz3 := bz.lt
  have hwN : w.heap.size < w3.heap.size := by omega
  clear bt bz bl hn g3 n3 Z L1 TT KV T1 T9 TD BR C0 hN hN1 hN2
  by_cases hok : Ok (kindOf l) (lbaOf l)
  · obtain ⟨an, han⟩ : ∃ an : Nat, lbaOf l = an := ⟨(lbaOf l).toNat, by have := hok.2.1; omega⟩
    have P := Lib.hid (fun w' => pack_yes (k := kindOf l) (v := verOf l) (a := an) (l := dataOf l) hd16 (verOf_lt l) (han ▸ hok) w'.heap.size w' (Nat.le_refl _))
    have h33 := take33 (l := l) (by omega) han
    rw [← h33, ← han, hk, ← RC.out] at P
    go_wp2_with (first | (refine wpList_load_blk rfl 35 _ rfl N 0 19 rfl 35 rc _ R3.out Try.underlying35 rfl (by kernel_rfl) (by rw [hr19]; omega) rc (by rw [List.drop_zero, List.take_of_length_le (by rw [hr19]; omega)]) ?_))
    refine (P.out _).mono ?_
    rintro e w4 ⟨p, rfl, ho, hb4⟩
    obtain ⟨pa, pcap, rfl, hbt⟩ := OwnB.bts_own (by simp [be_len]; omega) ho
    have T4 := bts_under T3.out hb4 (by omega)
    have Z4 := Lib.hid (Z3.out.below hb4 (by omega))
    have R4 := Lib.hid (R3.out.below hb4 hs3)
    have L4 := Lib.hid (L3.out.trans (hb4.mono hs3'))
    have E := Lib.hid (Same.equal_any pa 37 pcap _ (some ⟨b, o, none⟩) 37 cap (l.take 37) w4 hbt (T4.take hs))
    have hs4 := R4.out.lt
    have hs4' := L4.out.size
    clear ho hbt T4 T3 Z3 R3 L3 hb4 P
    have hc37 : (37 : Int) ≤ cap := by omega
    by_cases heq : (l.drop 33).take 4 = be 4 (Crc.crc (l.take 33))
    · have hrec : IsRec l := ⟨by omega, hok, heq⟩
      rw [decide_eq_true (by rw [take37 (by omega), heq])] at E
      go_wp2_with fail
      refine E.out.mono ?_
      rintro e w5 ⟨rfl, rfl⟩
      go_wp2_with (first | (refine wpList_load_blk rfl 35 _ rfl N 0 19 rfl 35 rc _ R4.out Try.underlying35 rfl (by kernel_rfl) (by rw [hr19]; omega) rc (by rw [List.drop_zero, List.take_of_length_le (by rw [hr19]; omega)]) ?_) | (refine wpList_store_blk rfl 35 _ _ rfl w.heap.size 0 19 rfl 35 zrec rc rfl Z4.out (by kernel_rfl) hr19 (by decide) hr1 ?_; intro w6 z6 g6; rw [put_all _ _ (by rw [hr19]; rfl)] at z6; have Z6 := Lib.hid z6; have L6 := Lib.hid (below_grown L4.out g6 (by omega) (Nat.le_refl _)); clear z6 g6))
      exact bodyPost_ret (v := .tuple #[.agg rc.toArray, .int .i64 0]) (results_cell_two rfl _ _ w.heap.size 35 _ (0, 0) _ _ rfl rfl Z6.out Try.underlying35 rfl (by rw [List.size_toArray, hr19]; kernel_rfl)) rfl ⟨by rw [(out_yes hrec).1, (out_yes hrec).2, RC.out, hk], L6.out⟩
    · have hrec : ¬ IsRec l := fun h => heq h.2.2
      rw [decide_eq_false (by rw [take37 (by omega)]; intro e; exact heq (List.append_cancel_left e).symm)] at E
      go_wp2_with fail
      refine E.out.mono ?_
      rintro e w5 ⟨rfl, rfl⟩
      go_wp2_with (first | (refine wpList_store_blk rfl 35 _ _ rfl w.heap.size 0 19 rfl 35 zrec zrec rfl Z4.out (by kernel_rfl) rfl (by decide) (recV_one _ _ _ _) ?_; intro w6 z6 g6; have Z6 := Lib.hid (show Blk w6 w.heap.size zrec 35 from z6); have L6 := Lib.hid (below_grown L4.out g6 (by omega) (Nat.le_refl _)); clear z6 g6))
      exact bodyPost_ret (v := .tuple #[.agg zrec.toArray, .int .i64 7]) (results_cell_two rfl _ _ w.heap.size 35 _ (0, 0) _ _ rfl rfl Z6.out Try.underlying35 rfl (by kernel_rfl)) rfl ⟨by rw [(out_no (by omega) hrec).1, (out_no (by omega) hrec).2], L6.out⟩
  · have hrec : ¬ IsRec l := fun h => hok h.2.1
    have P := Lib.hid (fun w' => pack_no (k := kindOf l) (v := verOf l) (a := lbaOf l) (l := dataOf l) hd16 hok w')
    rw [hk, ← RC.out] at P
    go_wp2_with (first | (refine wpList_load_blk rfl 35 _ rfl N 0 19 rfl 35 rc _ R3.out Try.underlying35 rfl (by kernel_rfl) (by rw [hr19]; omega) rc (by rw [List.drop_zero, List.take_of_length_le (by rw [hr19]; omega)]) ?_))
    refine (P.out _).mono ?_
    rintro e w4 ⟨rfl, hb4⟩
    have Z4 := Lib.hid (Z3.out.below hb4 (by omega))
    have L4 := Lib.hid (L3.out.trans (hb4.mono hs3'))
    have hs4 := Z4.out.lt
    clear T3 Z3 R3 L3 hb4 P
    go_wp2_with (first | (refine wpList_store_blk rfl 35 _ _ rfl w.heap.size 0 19 rfl 35 zrec zrec rfl Z4.out (by kernel_rfl) rfl (by decide) (recV_one _ _ _ _) ?_; intro w6 z6 g6; have Z6 := Lib.hid (show Blk w6 w.heap.size zrec 35 from z6); have L6 := Lib.hid (below_grown L4.out g6 (by omega) (Nat.le_refl _)); clear z6 g6))
    exact bodyPost_ret (v := .tuple #[.agg zrec.toArray, .int .i64 7]) (results_cell_two rfl _ _ w.heap.size 35 _ (0, 0) _ _ rfl rfl Z6.out Try.underlying35 rfl (by kernel_rfl)) rfl ⟨by rw [(out_no (by omega) hrec).1, (out_no (by omega) hrec).2], L6.out⟩
theorem unpack_any (a : Option Addr) (len cap : Nat) (l : List UInt8) (w : World) (h : Bts w a len cap l) :
    Calls Try.prog 14 #[.slice a len cap] w fun e w' => e = .returned (.tuple #[.agg (recOut l).toArray, .int .i64 (recErr l)]) ∧ Below w.heap.size w w' := by
  by_cases hs : len < 37
  · rw [(out_short (h.1 ▸ hs)).1, (out_short (h.1 ▸ hs)).2]
    exact unpack_short a len cap l w h hs
  · exact unpack_long a len cap l w h (by omega)
end Go.Proofs.Ytgnnjinpcdemiaa.Codec
/-
  What Pack lays down, Unpack reads: plain. Helper text; no statement is proved here.
-/
set_option linter.unusedVariables false
set_option maxRecDepth 20000
set_option linter.unusedSimpArgs false
namespace Go.Proofs.Ytgnnjinpcdemiaa.Codec
open Go.RowKit Go.Proofs.Ytgnnjinpcdemiaa.Base Go.Proofs.Ytgnnjinpcdemiaa.Laws
/-- a record's bytes, the sum behind them -/
def rec37 (k : Int) (v a : Nat) (l : List UInt8) : List UInt8 := rec33 k v a l ++ be 4 (Crc.crc (rec33 k v a l))
theorem rec37_len (k : Int) (v a : Nat) (l : List UInt8) (hl : l.length = 16) : (rec37 k v a l).length = 37 := by unfold rec37; rw [List.length_append, rec33_len _ _ _ _ hl, be_len]
theorem drop_take_mid {α : Type} (p q r : List α) {i n : Nat} (hi : p.length = i) (hn : q.length = n) : ((p ++ (q ++ r)).drop i).take n = q := by
  subst hi; subst hn
  rw [List.drop_left, List.take_left]
theorem rec_parts {k : Int} {v a : Nat} {l r : List UInt8} (hl : l.length = 16) (hv : v < 18446744073709551616) (h : Ok k a) :
    kindOf (rec37 k v a l ++ r) = k ∧ verOf (rec37 k v a l ++ r) = v ∧ lbaOf (rec37 k v a l ++ r) = a ∧ dataOf (rec37 k v a l ++ r) = l ∧ (rec37 k v a l ++ r).take 33 = rec33 k v a l ∧ ((rec37 k v a l ++ r).drop 33).take 4 = be 4 (Crc.crc (rec33 k v a l)) := by
  obtain ⟨⟨h1, h2⟩, ⟨h3, h4⟩⟩ := h
  have h33 := rec33_len k v a l hl
  have hx : (UInt8.ofNat k.toNat).toNat = k.toNat := by rw [UInt8.toNat_ofNat']; omega
  have hva : a < 18446744073709551616 := by omega
  refine ⟨?_, ?_, ?_, ?_, ?_, ?_⟩
  · unfold kindOf rec37 rec33
    simp only [List.cons_append, List.headD_cons, hx]
    omega
  · unfold verOf rec37
    have e : rec33 k v a l ++ be 4 (Crc.crc (rec33 k v a l)) ++ r = [UInt8.ofNat k.toNat] ++ (be 8 v ++ (be 8 a ++ l ++ be 4 (Crc.crc (rec33 k v a l)) ++ r)) := by
      unfold rec33; simp [List.append_assoc]
    rw [e, drop_take_mid (i := 1) _ _ _ rfl (be_len 8 v), val_be 8 v (by simpa using hv)]
  · unfold lbaOf rec37
    have e : rec33 k v a l ++ be 4 (Crc.crc (rec33 k v a l)) ++ r = ([UInt8.ofNat k.toNat] ++ be 8 v) ++ (be 8 a ++ (l ++ be 4 (Crc.crc (rec33 k v a l)) ++ r)) := by
      unfold rec33; simp [List.append_assoc]
    rw [e, drop_take_mid _ _ _ (by simp [be_len]) (be_len 8 a), val_be 8 a (by simpa using hva), IntKind.wrap_i64]
    omega
  · unfold dataOf rec37
    have e : rec33 k v a l ++ be 4 (Crc.crc (rec33 k v a l)) ++ r = ([UInt8.ofNat k.toNat] ++ be 8 v ++ be 8 a) ++ (l ++ (be 4 (Crc.crc (rec33 k v a l)) ++ r)) := by
      unfold rec33; simp [List.append_assoc]
    rw [e, drop_take_mid _ _ _ (by simp [be_len]) hl]
  · unfold rec37
    rw [List.append_assoc, List.take_append_of_le_length (by omega), List.take_of_length_le (by omega)]
  · unfold rec37
    rw [List.append_assoc, drop_take_mid _ _ _ h33 (be_len 4 _)]
theorem rec_back {k : Int} {v a : Nat} {l : List UInt8} (r : List UInt8) (hl : l.length = 16) (hv : v < 18446744073709551616) (h : Ok k a) :
    IsRec (rec37 k v a l ++ r) ∧ recOut (rec37 k v a l ++ r) = recV k v a l ∧ recErr (rec37 k v a l ++ r) = 0 := by
  obtain ⟨e1, e2, e3, e4, e5, e6⟩ := rec_parts (r := r) hl hv h
  have hi : IsRec (rec37 k v a l ++ r) := by
    refine ⟨?_, ?_, ?_⟩
    · rw [List.length_append, rec37_len _ _ _ _ hl]; omega
    · rw [e1, e3]; exact h
    · rw [e5, e6]
  obtain ⟨o1, o2⟩ := out_yes hi
  rw [e1, e2, e3, e4] at o1
  exact ⟨hi, o1, o2⟩
theorem rec_back' {k : Int} {v a : Nat} {l : List UInt8} (hl : l.length = 16) (hv : v < 18446744073709551616) (h : Ok k a) :
    IsRec (rec37 k v a l) ∧ recOut (rec37 k v a l) = recV k v a l ∧ recErr (rec37 k v a l) = 0 := by
  have := rec_back [] hl hv h
  rwa [List.append_nil] at this
end Go.Proofs.Ytgnnjinpcdemiaa.Codec
