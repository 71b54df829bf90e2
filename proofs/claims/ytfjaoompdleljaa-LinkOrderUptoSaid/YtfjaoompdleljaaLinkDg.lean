/-
  slices.DeleteFunc of messages by contract. Helper text; no statement is proved here.
-/
import Derived.Test.YtfjaoompdleljaaLinkDf
set_option linter.unusedVariables false
set_option maxRecDepth 20000
set_option linter.unusedSimpArgs false
namespace Go.Proofs.Ytfjaoompdleljaa.Link
open Go.RowKit Go.Proofs.Ytfjaoompdleljaa.Base Go.Proofs.Ytfjaoompdleljaa.Laws Go.Proofs.Ytfjaoompdleljaa.Disk Go.Proofs.Ytfjaoompdleljaa.Row Go.Proofs.Ytfjaoompdleljaa.Flat Go.Proofs.Ytfjaoompdleljaa.InvM
theorem below_grownBy {w w' : World} {r : Option Nat} (h : Below w.heap.size w w') : w.grownBy w' r := ⟨h.os, h.tape, h.output, h.size, fun k hk _ => h.block k hk⟩
theorem put_app {α : Type} (A B vs : List α) (o : Nat) (h : o + vs.length ≤ A.length) : put (A ++ B) o vs = put A o vs ++ B := by
  unfold put
  rw [List.take_append_of_le_length (by omega), List.drop_append_of_le_length (by omega)]
  simp [List.append_assoc]
theorem set_take_same {α : Type} (l : List α) (i : Nat) (x : α) : (l.set i x).take i = l.take i := by
  rw [List.take_set_of_le (Nat.le_refl _)]
theorem deletefunc_any (w : World) (base pb : Nat) (p : Pk) (y : Value) (hp : Blk w pb (pc (p, y)) 74) (ps : List (Mk × Value)) (v : Value) (ho : w.ownsRow base 71 4 v ps.length (flat mc ps)) (h1 : ∀ q ∈ ps, q.2.oneCell' = true) (hpv : ∀ g, v.ownBlock = some g → g ≠ pb) :
    Calls Try.prog 36 #[v, Cl pb] w fun e w' => ∃ v', e = .returned v' ∧ w'.ownsRow base 71 4 v' (ps.filter (kept p.m.k)).length (flat mc (ps.filter (kept p.m.k))) ∧ w.grownBy w' v.ownBlock ∧ v'.ownBlock = v.ownBlock := by
  obtain ⟨a, n, c, hv, hn, hnm, hcs⟩ : ∃ a n c, v = .slice a n c ∧ n = ps.length ∧ n ≤ maxLen ∧ ∀ i q, ps[i]? = some q → ∃ g, a = some ⟨g, 0, none⟩ ∧ g < w.heap.size ∧ ∀ j u, (mc q)[j]? = some u → w.cell? ⟨g, i * 4 + j, none⟩ = some u := by
    obtain ⟨hl, h2⟩ := ho
    rcases h2 with ⟨rfl, e2⟩ | ⟨g, cap, cur, rfl, hb, hg, hnc, hcm, hsz, htk⟩
    · exact ⟨none, 0, 0, rfl, e2.symm, by unfold maxLen; omega, fun i q hq => by simp [List.eq_nil_of_length_eq_zero e2] at hq⟩
    · refine ⟨_, _, _, rfl, rfl, by omega, fun i q hq => ⟨g, rfl, (Array.getElem?_eq_some_iff.1 hg).1, fun j u hu => ?_⟩⟩
      have hi : i < ps.length := (List.getElem?_eq_some_iff.1 hq).1
      have hj : j < 4 := (List.getElem?_eq_some_iff.1 hu).1
      have := flat_get (m := 4) (f := mc) (fun x _ => rfl) hq hu
      rw [← htk, List.getElem?_take_of_lt (by omega)] at this
      rw [cell_of_row w g _ _ _ (0, 0) hg]
      simpa using this
  have IX := Lib.hid (index_any w pb p y hp ps a n c hn hcs h1 hnm)
  unfold maxLen at hnm
  have HO := Lib.hid ho
  have HP := Lib.hid hp
  have H1 := Lib.hid h1
  have HV := Lib.hid hv
  have HN := Lib.hid hn
  have HPV := Lib.hid hpv
  rw [hv]
  clear hcs hp ho h1 hv hn hpv
  unfold Cl at *
  go_enter Try.func36, Try.ntmps36
  go_wp2_with fail
  refine IX.out.mono ?_
  rintro e w1 ⟨hres, hb1⟩
  have HB1 := Lib.hid hb1
  clear IX hb1
  rcases hres with ⟨rfl, hall⟩ | ⟨ki0, q0, rfl, hq0, hk0, ht0⟩
  · have HA := Lib.hid hall
    clear hall
    go_wp2_with fail
    go_ret
    have e : ps.filter (kept p.m.k) = ps := List.filter_eq_self.2 (List.all_eq_true.1 HA.out)
    rw [e]
    exact ⟨v, by rw [HV.out]; rfl, own_only HO.out (Only.of_below (S := []) HB1.out) (by simp), below_grownBy HB1.out, by rw [HV.out]⟩
  · obtain ⟨g, rfl, hcm, spare, hsp, hblk, hnc, hbg⟩ : ∃ g, a = some ⟨g, 0, none⟩ ∧ c ≤ maxLen ∧ ∃ spare : List Value, spare.length = (c - n) * 4 ∧ Blk w g (flat mc ps ++ spare) 71 ∧ n ≤ c ∧ base ≤ g := by
      obtain ⟨hl, h2⟩ := HO.out
      have hn := HN.out
      rcases h2 with ⟨e1, e2⟩ | ⟨g, cap, cur, e1, hb, hg, hnc, hcm, hsz, htk⟩
      · simp [List.eq_nil_of_length_eq_zero e2] at hq0
      · rw [HV.out] at e1
        cases e1
        refine ⟨g, rfl, hcm, cur.toList.drop (ps.length * 4), ?_, ?_, hnc, hb⟩
        · simp [hsz]; omega
        · unfold Blk
          rw [← htk, List.take_append_drop]
          simpa using hg
    have hgp : g ≠ pb := HPV.out g (by rw [HV.out]; rfl)
    have GP := Lib.hid hgp
    have hki0 : ki0 < n := by have := (List.getElem?_eq_some_iff.1 hq0).1; have := HN.out; omega
    have SP := Lib.hid hsp
    have BL1 := Lib.hid (hblk.below HB1.out hblk.lt)
    have BP1 := Lib.hid (HP.out.below HB1.out HP.out.lt)
    have INI := Lib.hid (show ps.take ki0 = (ps.take (ki0 + 1)).filter (kept p.m.k) by
      rw [take_snoc ps ki0 q0 hq0, List.filter_append, List.filter_eq_self.2 (List.all_eq_true.1 ht0)]
      simp [hk0])
    have G1 := Lib.hid (below_grownBy (r := some g) HB1.out)
    unfold maxLen at hcm
    have HBG := Lib.hid hbg
    have HGL := Lib.hid hblk.lt
    clear hsp hblk hq0 hk0 ht0 hgp hbg
    go_wp2_with fail
    go_loopw [5, 6] (fun i j wr => ∃ ki kj : Nat, ∃ rows : List (Mk × Value), ki < kj ∧ kj ≤ n ∧ i = .int .i64 ki ∧ j = .int .i64 kj ∧ rows.length = n ∧ rows.take ki = (ps.take kj).filter (kept p.m.k) ∧ rows.drop kj = ps.drop kj ∧ Blk wr g (flat mc rows ++ spare) 71 ∧ w.grownBy wr (some g)) (fun i j _ => n - (intOf j).toNat)
    case atStart => exact ⟨ki0, ki0 + 1, ps, by omega, by omega, rfl, by go_num, HN.out.symm, INI.out, rfl, BL1.out, G1.out⟩
    case round =>
      obtain ⟨ki, kj, rows, hlt, hkj, rfl, rfl, hrl, hrt, hrd, hrb, hrg⟩ := hrel
      have RL := Lib.hid hrl
      have RT := Lib.hid hrt
      have RD := Lib.hid hrd
      have RB := Lib.hid hrb
      have RG := Lib.hid hrg
      clear hrl hrt hrd hrb hrg
      by_cases hjn : kj < n
      · obtain ⟨q, hq⟩ : ∃ q, ps[kj]? = some q := ⟨_, List.getElem?_eq_getElem (by have := HN.out; omega)⟩
        have hqr : rows[kj]? = some q := by
          have := congrArg (fun l => l[0]?) RD.out
          simp only [List.getElem?_drop, Nat.add_zero] at this
          rw [this]; exact hq
        have HQ := Lib.hid hq
        obtain ⟨mv, hmv⟩ : ∃ mv, mv = mc q := ⟨_, rfl⟩
        have HMV := Lib.hid hmv
        have LD := Lib.hid (show ∀ j v, mv[j]? = some v → wr.cell? ((⟨g, kj * 4, none⟩ : Addr).add j) = some v from fun j v hj => by
          rw [Addr.add_lit, RB.out.cell]
          rw [List.getElem?_append_left (by
            have := flat_get (m := 4) (f := mc) (fun x _ => rfl) hqr (by rw [← hmv]; exact hj)
            exact (List.getElem?_eq_some_iff.1 this).1)]
          exact flat_get (m := 4) (f := mc) (fun x _ => rfl) hqr (by rw [← hmv]; exact hj))
        have M4 := Lib.hid (show mv.length = 4 by rw [hmv]; rfl)
        have M1 := Lib.hid (show ∀ u ∈ mv, u.oneCell' = true by rw [hmv]; exact mc_one (H1.out q (List.mem_of_getElem? hq)))
        have Z2 := Lib.hid (blk_at (w := wr) (g := wr.heap.size) (cs := zmk) (t := 71) (arr := #[.int .u32 0, .int .u32 0, .int .u32 0, .slice none 0 0]) rfl rfl)
        clear hq hqr hmv
        have jc : kj < c := by omega
        go_upto_region 8 with (first | (refine wpList_value_g rfl (.agg mv.toArray) (exec_load_from rfl rfl LD.out Try.underlying71 rfl (by kernel_rfl) M4.out) ?_) | (refine wpList_store_blk rfl 71 _ _ rfl wr.heap.size 0 4 rfl 71 zmk mv rfl Z2.out (by kernel_rfl) M4.out (by decide) M1.out ?_; intro w3 z3 g3; have Z3 := Lib.hid z3; have G3 := Lib.hid g3; clear z3 g3))
        have B3 := Lib.hid (below_grown ((Below.refl wr.heap.size wr).alloc (Nat.le_refl _) _) G3.out (by simp) (Nat.le_refl _))
        have P6 := Lib.hid (show Blk w3 wr.heap.size mv 71 from by have := Z3.out; rwa [put_all _ _ (by rw [M4.out]; rfl)] at this)
        have hs3 : wr.heap.size < w3.heap.size := P6.out.lt
        have gw : g < wr.heap.size := RB.out.lt
        have RB3 := Lib.hid (RB.out.below B3.out gw)
        have BPr := HP.out.grown RG.out (Ne.symm GP.out)
        have BP3 := BPr.below B3.out BPr.lt
        have pl : pb < w3.heap.size := BP3.lt
        have AK := acked_any w3.drew q.1 q.2 (H1.out q (List.mem_of_getElem? HQ.out)) pb p y BP3
        rw [show mc (q.1, q.2) = mv from HMV.out.symm] at AK
        have AK0 := acked_any w3 q.1 q.2 (H1.out q (List.mem_of_getElem? HQ.out)) pb p y BP3
        rw [show mc (q.1, q.2) = mv from HMV.out.symm] at AK0
        have AK := Lib.hid AK
        have AK0 := Lib.hid AK0
        have RG3 := Lib.hid (grown_trans RG.out (below_grownBy (r := some g) B3.out))
        clear G3 Z3 LD Z2 BPr BP3
        simp only [Act.put]
        go_wp2_with (first | (refine wpList_value_g rfl (.agg mv.toArray) (exec_load (cs := mv) (t := 71) rfl rfl P6.out Try.underlying71 rfl (by kernel_rfl) M4.out) ?_))
        refine AK0.out.mono ?_
        rintro e w4 ⟨rfl, hb4⟩
        have RB4 := Lib.hid (RB3.out.below hb4 (by omega))
        have P64 := Lib.hid (P6.out.below hb4 hs3)
        have RG4 := Lib.hid (grown_trans RG3.out (below_grownBy (r := some g) hb4))
        clear hb4 AK AK0 RB3 P6 RG3 B3 RB RG
        have RDs := Lib.hid (show rows.drop (kj + 1) = ps.drop (kj + 1) by
          have := congrArg (List.drop 1) RD.out
          rwa [List.drop_drop, List.drop_drop] at this)
        by_cases hle : q.1.s ≤ p.m.k
        · go_wp2_with fail
          refine ⟨?_, ?measure⟩
          (repeat apply Exists.intro)
          refine ⟨?rel, rfl⟩
          case rel => exact ⟨ki, kj + 1, rows, by omega, by omega, rfl, by go_num, RL.out, by rw [RT.out, take_snoc ps kj q HQ.out, List.filter_append]; simp [kept]; omega, RDs.out, RB4.out, RG4.out⟩
          case measure => simp [intOf]; omega
        · have hst : put (flat mc rows ++ spare) (ki * 4) mv = flat mc (rows.set ki q) ++ spare := by
            have hlr : (flat mc rows).length = n * 4 := by rw [flat_len (m := 4) (fun x _ => rfl), RL.out]
            rw [put_app _ _ _ _ (by rw [M4.out, hlr]; omega), HMV.out, flat_put (m := 4) (fun x _ => rfl) rfl (by rw [RL.out]; omega)]
          have ST := Lib.hid hst
          have hfit : ki * 4 + 4 ≤ (flat mc rows ++ spare).length := by
            rw [List.length_append, flat_len (m := 4) (fun x _ => rfl), RL.out]; omega
          have ic : ki < n := by omega
          clear hst
          go_wp2_with (first | (refine wpList_value_g rfl (.agg mv.toArray) (exec_load (cs := mv) (t := 71) rfl rfl P64.out Try.underlying71 rfl (by kernel_rfl) M4.out) ?_) | (refine wpList_store_blk rfl 71 _ _ rfl g (ki * 4) 4 rfl 71 _ mv rfl RB4.out (by kernel_rfl) M4.out hfit M1.out ?_; intro w5 z5 g5; rw [ST.out] at z5; have Z5 := Lib.hid z5; have G5 := Lib.hid (grown_trans RG4.out g5); clear z5 g5))
          refine ⟨?_, ?measure⟩
          (repeat apply Exists.intro)
          refine ⟨?rel, rfl⟩
          case rel => exact ⟨ki + 1, kj + 1, rows.set ki q, by omega, by omega, by go_num, by go_num, by rw [List.length_set, RL.out], by
            rw [take_snoc ps kj q HQ.out, List.filter_append, ← RT.out, take_snoc (rows.set ki q) ki q (by rw [List.getElem?_set_self (by rw [RL.out]; omega)]), set_take_same]
            rw [show List.filter (kept p.m.k) [q] = [q] from by rw [List.filter_cons_of_pos (by unfold kept; exact decide_eq_true (by omega))]; rfl], by rw [List.drop_set]; rw [if_pos (by omega)]; exact RDs.out, Z5.out, G5.out⟩
          case measure => simp [intOf]; omega
      · obtain rfl : kj = n := by omega
        obtain ⟨fp, hfp⟩ : ∃ fp, fp = ps.filter (kept p.m.k) := ⟨_, rfl⟩
        have HF := Lib.hid hfp
        have FT := Lib.hid (show rows.take ki = fp by
          have := RT.out
          rwa [List.take_of_length_le (l := ps) (by have := HN.out; omega), ← hfp] at this)
        have FL := Lib.hid (show fp.length = ki by rw [← FT.out, List.length_take, RL.out]; omega)
        have m1 : ki < c := by omega
        have m2 : ki ≤ kj := by omega
        have m3 : ¬ c = ki := by omega
        obtain ⟨i0, hi0, hz0, hz1, hz2⟩ := info_parts info_mk
        obtain ⟨cur1, hcur1⟩ : ∃ cur1, cur1 = (flat mc rows ++ spare).toArray := ⟨_, rfl⟩
        have hlr : (flat mc rows).length = kj * 4 := by rw [flat_len (m := 4) (fun x _ => rfl), RL.out]
        have hc1 : cur1.size = c * 4 := by rw [hcur1]; simp [SP.out, hlr]; omega
        have hg1 : wr.heap[g]? = some (.cells cur1 71 (0, 0)) := by rw [hcur1]; exact RB.out
        obtain ⟨nz, hnz, hcl⟩ := run_clear_row (P := Try.prog) wr 48 71 0 (.agg #[.int .u32 0, .int .u32 0, .int .u32 0, .slice none 0 0]) 4 Try.underlying48 (fun w => by simp [zeroValue, typeInfo, hi0, hz0]) rfl (by decide) g (ki * 4) (kj - ki) (c - ki) (by omega) cur1 hg1 (by rw [hc1]; omega)
        obtain ⟨W2, hW2⟩ : ∃ W2, W2 = wr.setRow g (cur1.toList.take (ki * 4) ++ nz ++ cur1.toList.drop (ki * 4 + nz.length)).toArray := ⟨_, rfl⟩
        rw [← hW2] at hcl
        have GR := Lib.hid (show w.grownBy W2 (some g) from by rw [hW2]; exact grown_trans RG.out (grown_setRow _ _ _))
        have OW := Lib.hid (show W2.ownsRow base 71 4 (.slice (some ⟨g, 0, none⟩) ki c) ki (flat mc fp) from by
          refine ⟨by rw [flat_len (m := 4) (fun x _ => rfl), FL.out], .inr ⟨g, c, _, rfl, HBG.out, (by rw [hW2]; exact setRow_heap wr g _ _ _ _ hg1), by omega, by unfold maxLen; omega, ?_, ?_⟩⟩
          · simp [hnz, hc1]; omega
          · have hlk : (flat mc (rows.take ki)).length = ki * 4 := by rw [flat_len (m := 4) (fun x _ => rfl), List.length_take, RL.out]; omega
            have hsp : flat mc rows = flat mc (rows.take ki) ++ flat mc (rows.drop ki) := by rw [← flat_append, List.take_append_drop]
            have ht1 : cur1.toList.take (ki * 4) = flat mc (rows.take ki) := by
              rw [hcur1]
              rw [List.take_append_of_le_length (by omega), hsp, ← hlk, List.take_left]
            rw [List.append_assoc, List.take_append_of_le_length (by simp; omega), List.take_of_length_le (by rw [List.length_take]; omega), ht1, FT.out])
        have HCL := Lib.hid hcl
        clear hcl hW2 hg1 hc1 hlr hcur1 hnz RB RG RD RT SP hfp hi0 hz0 hz1 hz2
        have hcl' := HCL.out
        go_wp2_with fail
        go_ret
        refine ⟨_, rfl, ?_, by exact GR.out, rfl⟩
        rw [← HF.out, FL.out]
        exact OW.out
end Go.Proofs.Ytfjaoompdleljaa.Link
