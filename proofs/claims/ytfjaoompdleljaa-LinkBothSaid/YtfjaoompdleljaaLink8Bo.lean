/-
  The walk of the statement on both ways. Helper text; no statement is proved here.
-/
import Derived.Test.YtfjaoompdleljaaBo
import Derived.Deep.RegionHeld3
import Derived.Deep.DeepCutAuto
set_option linter.unusedVariables false
set_option maxRecDepth 20000
set_option linter.unusedSimpArgs false
namespace Go.Proofs.Ytfjaoompdleljaa.Link
open Go.RowKit Go.Proofs.Ytfjaoompdleljaa.Base Go.Proofs.Ytfjaoompdleljaa.Laws Go.Proofs.Ytfjaoompdleljaa.Disk Go.Proofs.Ytfjaoompdleljaa.Row Go.Proofs.Ytfjaoompdleljaa.Flat Go.Proofs.Ytfjaoompdleljaa.InvM Go.Proofs.Ytfjaoompdleljaa.Inv Go.Proofs.Ytfjaoompdleljaa.InvL Go.Proofs.Ytfjaoompdleljaa.InvC Go.Proofs.Ytfjaoompdleljaa.InvG
theorem op_nil_got {k : Lk} {S : Nat → List (List UInt8)} (h : Ok k S) (n : Nat) (hn : n < 2) (ho : (k.en n).op = []) : (k.en (1 - n)).got = S n := by
  obtain ⟨a, h1, h2⟩ := h.op n hn
  have h3 := h.come n hn
  have h4 : ((S n).drop a).length = 0 := by
    have := congrArg List.length h2
    rw [ho, opens_len] at this
    exact this.symm
  rw [List.length_drop] at h4
  rw [h.got n hn, List.take_of_length_le (by omega)]
set_option maxHeartbeats 16000000 in
theorem both_walk (a : Option Addr) (n ca : Nat) (ps : List (List UInt8)) (w : World) (h : Pcs w a n ca ps) (b : Option Addr) (m cb : Nat) (qs : List (List UInt8)) (hq : Pcs w b m cb qs) (c : Option Addr) (l cc : Nat) (pk : List UInt8) (hp : Bts w c l cc pk) :
    Calls Try.prog 4 #[.slice a n ca, .slice b m cb, .slice c l cc] w fun e w' => e = .returned (.bool true) ∧ Below w.heap.size w w' := by
  obtain ⟨h1, h2, h3, h4, h5⟩ := h
  obtain ⟨g1, g2, g3, g4, g5⟩ := hq
  unfold maxLen at h3 g3
  have HPC := Lib.hid h5
  have HN := Lib.hid h1
  have GPC := Lib.hid g5
  have GN := Lib.hid g1
  have HP := Lib.hid hp
  have hl63 : l ≤ 9223372036854775807 := by have := hp.2.1; have := hp.2.2.1; unfold maxLen at this; omega
  have NW := Lib.hid (lf_new (Below.refl w.heap.size w))
  clear h5 h1 g5 g1 hp
  go_enter Try.func4, Try.ntmps4
  go_upto_region 4 with (first | (go_at_call 10; refine NW.out.mono ?_; rintro e w1 ⟨rfl, hl⟩; have L1 := Lib.hid hl; clear hl NW) | (go_at_call 9; refine (awake_any w1).mono ?_; rintro e w2 ⟨rfl, hb2⟩; have HB2 := Lib.hid hb2; clear hb2))
  go_upto_region 5 with (fail)
  obtain ⟨w3, hw3⟩ : ∃ w3, w3 = w2.alloc (.cells #[.slice none 0 0, .slice none 0 0] 38) := ⟨_, rfl⟩
  have b3 : Below w2.heap.size w2 w3 := hw3 ▸ (Below.refl w2.heap.size w2).alloc (Nat.le_refl _) _
  have z3 : Blk w3 w2.heap.size [.slice none 0 0, .slice none 0 0] 38 := by rw [hw3]; exact blk_at rfl rfl
  have hs1 := L1.out.below.size
  have hs2 := HB2.out.size
  obtain ⟨sb, hsb⟩ : ∃ sb, sb = w2.heap.size := ⟨_, rfl⟩
  have BO0 := Lib.hid (show Bo w w.heap.size sb k0 (fun _ => []) (.slice none 0 0) (.slice none 0 0) w3 from by
    refine ⟨L1.out.news (HB2.out.trans (b3.mono hs2)) (fun x hx => ?_) (fun x hx => ?_), hsb ▸ z3, Rws.nil .., Rws.nil .., fun g hg => by cases hg⟩
    · obtain rfl : x = sb := by simpa [A01, Value.ownBlock] using hx
      exact ⟨.inr (by omega), by have := z3.lt; omega⟩
    · obtain rfl : x = sb := by simpa [A01, Value.ownBlock] using hx
      exact ⟨.inr (by omega), hx⟩)
  rw [← hw3, ← hsb]
  obtain ⟨bl, hbl⟩ : ∃ bl, bl = w.heap.size := ⟨_, rfl⟩
  rw [← hbl]
  rw [← hbl] at BO0
  clear hw3 b3 z3 hs1 hs2 hsb L1 HB2 hbl
  go_wp2_with fail
  go_loopw [9] (fun i wr => ∃ kk : Nat, ∃ k S v0 v1, kk ≤ 20 ∧ i = .int .i64 kk ∧ Bo w bl sb k S v0 v1 wr ∧ Ok k S ∧ (S 0).length ≤ kk ∧ (S 1).length ≤ kk ∧ k.fl.length ≤ 2 * kk) (fun i _ => 20 - (intOf i).toNat)
  case atStart => exact ⟨0, k0, fun _ => [], _, _, by omega, rfl, BO0.out, ok_k0, Nat.le_refl _, Nat.le_refl _, Nat.le_refl _⟩
  case round =>
    obtain ⟨kk, k, S, v0, v1, hk, rfl, hbo, hok, hl0, hl1, hlf⟩ := hrel
    have BO := Lib.hid hbo
    have OK := Lib.hid hok
    have SL0 := Lib.hid hl0
    have SL1 := Lib.hid hl1
    have SF := Lib.hid hlf
    clear hbo hok hl0 hl1 hlf BO0
    by_cases hk20 : kk < 20
    · go_upto_region 8 with (fail)
      go_cut [37] (fun v wx => (v = .bool false ∧ Bo w bl sb k S v0 v1 wx) ∨ (v = .bool true ∧ kk < n ∧ ∃ B, ps[kk]? = some B ∧ Bo w bl sb (k.sends 0 B) S v0 v1 wx ∧ Ok (k.sends 0 B) (put2 S 0 B) ∧ (k.sends 0 B).fl.length = k.fl.length + 1))
      case first =>
        by_cases hkn : kk < n
        · obtain ⟨B, hB⟩ : ∃ B, ps[kk]? = some B := ⟨_, List.getElem?_eq_getElem (by have := HN.out; omega)⟩
          have hB2 := Lib.hid hB
          obtain ⟨g, off, rfl, hc⟩ := HPC.out.resolve_left (by omega)
          obtain ⟨a', l', c', hcell, hbt, hl'⟩ := hc kk B hB
          have q1 : wr.cell? ⟨g, off + kk, none⟩ = some (.slice a' l' c') := (Below.cell BO.out.lf.below (p := ⟨g, off + kk, none⟩) (block_lt_of_cell hcell)).trans hcell
          have SD := Lib.hid (lf_send BO.out.lf 0 a' l' c' B (hbt.below BO.out.lf.below (Nat.le_refl _)) (fun hl g o e => .inl (by subst e; exact bts_block hbt hl)))
          have hBl : B.length = l' := hbt.1
          obtain ⟨E, hE⟩ : ∃ E, E = k.sendE 0 l' := ⟨_, rfl⟩
          have HE := Lib.hid hE
          have HBL := Lib.hid hBl
          rw [← hE] at SD
          clear hc hcell hbt hB hBl hE
          by_cases hE0 : E = 0
          · subst hE0
            go_wp2_with (go_at_call 11; refine SD.out.mono ?_; rintro e w5 ⟨rfl, hl5, hs5⟩; have L5 := Lib.hid hl5; have S5 := Lib.hid hs5; clear hl5 hs5 SD)
            go_meet
            case rel =>
              have := OK.out.sends1 0 (by decide) B (by rw [HBL.out]; exact HE.out.symm) (by have := SL0.out; omega)
              exact .inr ⟨rfl, hkn, B, hB2.out, BO.out.stay L5.out S5.out, this.1, this.2⟩
          · have hE1 : (E == 0) = false := by simp [hE0]
            go_wp2_with (go_at_call 11; refine SD.out.mono ?_; rintro e w5 ⟨rfl, hl5, hs5⟩; have L5 := Lib.hid hl5; have S5 := Lib.hid hs5; clear hl5 hs5 SD)
            go_meet
            case rel =>
              have L6 := L5.out
              rw [sends_no (by rw [HBL.out, ← HE.out]; exact hE0)] at L6
              exact .inl ⟨rfl, BO.out.stay L6 S5.out⟩
        · go_wp2_with fail
          go_meet
          case rel => exact .inl ⟨rfl, BO.out⟩
      case rest =>
        have HCUT := Lib.hid hcut
        clear hcut
        go_upto_if 37 with (fail)
        go_cut [] (fun wx => ∃ k S v0 v1, Bo w bl sb k S v0 v1 wx ∧ Ok k S ∧ (S 0).length ≤ kk + 1 ∧ (S 1).length ≤ kk + 0 ∧ k.fl.length ≤ 2 * kk + 1)
        case first =>
          rcases HCUT.out with ⟨hv, hbo⟩ | ⟨hv, hkn, B, hB, hbo, hok, hfl⟩
          · subst hv
            have HBO := Lib.hid hbo
            clear hbo HCUT
            go_wp2_with fail
            go_meet
            case rel => exact ⟨k, S, v0, v1, HBO.out, OK.out, by have := SL0.out; omega, by have := SL1.out; omega, by have := SF.out; omega⟩
          · subst hv
            have HOK2 := Lib.hid hok
            have HFL2 := Lib.hid hfl
            obtain ⟨k1, hk1⟩ : ∃ k1, k1 = k.sends 0 B := ⟨_, rfl⟩
            rw [← hk1] at hbo HOK2 HFL2
            obtain ⟨g, off, rfl, hc⟩ := HPC.out.resolve_left (by omega)
            obtain ⟨a', l', c', hcell, hbt, hl'⟩ := hc kk B hB
            obtain rfl : B.length = l' := hbt.1
            obtain ⟨v', wD, hrun, ⟨va, vc, hvs⟩, hbD, hblkD, hboD⟩ := hbo.grow 0 (by decide) a' c' B hbt (by have := SL0.out; omega)
            obtain ⟨sl, hsl⟩ : ∃ sl, sl = (S 0).length + 1 := ⟨_, rfl⟩
            rw [← hsl] at hvs
            subst hvs
            obtain ⟨bn, hbn⟩ : ∃ bn, bn = B.length := ⟨_, rfl⟩
            rw [← hbn] at hcell hrun
            obtain ⟨wC, hwC⟩ : ∃ wC, wC = wc.drew.alloc (.cells #[.slice a' bn c'] 23) := ⟨_, rfl⟩
            have bC : Below wc.heap.size wc wC := hwC ▸ ((Below.refl wc.heap.size wc).drew.alloc (Nat.le_refl _) _)
            have hg : g < w.heap.size := block_lt_of_cell hcell
            have hBB := hbo.lf.below
            have p1 : wc.drew.cell? ⟨g, off + kk, none⟩ = some (.slice a' bn c') := (Below.cell hBB (p := ⟨g, off + kk, none⟩) hg).trans hcell
            have p2 : wC.cell? ⟨g, off + kk, none⟩ = some (.slice a' bn c') := (Below.cell (hBB.trans (bC.mono hBB.size)) (p := ⟨g, off + kk, none⟩) hg).trans hcell
            have p3 : wD.cell? ⟨g, off + kk, none⟩ = some (.slice a' bn c') := (Below.cell hbD (p := ⟨g, off + kk, none⟩) hg).trans hcell
            have r1 : wc.drew.cell? ⟨sb, 0, none⟩ = some v0 := hbo.blk.cell 0
            have r2 : wC.cell? ⟨sb, 0, none⟩ = some v0 := (hbo.blk.below bC hbo.blk.lt).cell 0
            have r3 : wD.cell? ⟨sb, 0, none⟩ = some v0 := hblkD.cell 0
            have r4 : wD.frozen? ⟨sb, 0, none⟩ = false := hblkD.frozen 0
            rw [← hwC] at hrun
            have Q := Lib.hid (show ∀ d w', At2 6 7 (fun w' => w' = wc.drew) (fun w' => w' = wC) (fun w' => w' = wD) d w' → w'.cell? ⟨sb, 0, none⟩ = some v0 ∧ w'.cell? ⟨g, off + kk, none⟩ = some (.slice a' bn c') from fun d w' h => by
              rcases h.any with rfl | rfl | rfl
              · exact ⟨r1, p1⟩
              · exact ⟨r2, p2⟩
              · exact ⟨r3, p3⟩)
            have HRUN := Lib.hid hrun
            have HBOD := Lib.hid hboD
            have HWC := Lib.hid hwC
            have QD := Lib.hid r3
            have FD := Lib.hid r4
            have hkn2 : (kk : Int) < n := by omega
            clear hrun hboD hwC r1 r2 r3 r4 p1 p2 p3 hbD hblkD hbn hsl hc hcell hbt hB hbo hok hfl hg hBB bC hk1 HCUT
            go_upto_region 9 with (fail)
            refine wp_region_gate_tail (fun d w' => At2 6 7 (fun w' => w' = wc.drew) (fun w' => w' = wC) (fun w' => w' = wD) d w') 8 (by kernel_rfl) (by kernel_rfl) ?hI ?_
            case hI => exact At2.start (by rfl) (by rfl) rfl
            simp only [List.take_succ_cons, List.take_zero, List.drop_succ_cons, List.drop_zero]
            refine InvC.invc_value (.pointer (some ⟨sb, 0, none⟩)) (fun u hu => by cases hu) rfl (fun d w' _ _ h => by go_simp; all_goals rfl) (fun d w' _ _ h => At2.keep (by decide) (by decide) h) ?_
            simp only [Act.put, List.setIfInBounds_toArray, List.set_cons_zero, List.set_cons_succ]
            refine InvC.invc_value (v0) (fun u hu => by cases hu) rfl (fun d w' _ _ h => by have q := (Q.out d w' h).1; go_simp) (fun d w' _ _ h => At2.keep (by decide) (by decide) h) ?_
            simp only [Act.put, List.setIfInBounds_toArray, List.set_cons_zero, List.set_cons_succ]
            refine InvC.invc_value (.slice (some ⟨g, off, none⟩) n ca) (fun u hu => by cases hu) rfl (fun d w' _ _ h => by go_simp; all_goals rfl) (fun d w' _ _ h => At2.keep (by decide) (by decide) h) ?_
            simp only [Act.put, List.setIfInBounds_toArray, List.set_cons_zero, List.set_cons_succ]
            refine InvC.invc_value (.int .i64 (kk : Int)) (fun u hu => by cases hu) rfl (fun d w' _ _ h => by go_simp; all_goals rfl) (fun d w' _ _ h => At2.keep (by decide) (by decide) h) ?_
            simp only [Act.put, List.setIfInBounds_toArray, List.set_cons_zero, List.set_cons_succ]
            refine InvC.invc_value (.pointer (some ⟨g, off + kk, none⟩)) (fun u hu => by cases hu) rfl (fun d w' _ _ h => by go_simp; all_goals rfl) (fun d w' _ _ h => At2.keep (by decide) (by decide) h) ?_
            simp only [Act.put, List.setIfInBounds_toArray, List.set_cons_zero, List.set_cons_succ]
            refine InvC.invc_value (.slice a' bn c') (fun u hu => by cases hu) rfl (fun d w' _ _ h => by have q := (Q.out d w' h).2; go_simp) (fun d w' _ _ h => At2.keep (by decide) (by decide) h) ?_
            simp only [Act.put, List.setIfInBounds_toArray, List.set_cons_zero, List.set_cons_succ]
            refine InvC.invc_world (.slice (some ⟨wc.heap.size, 0, none⟩) 1 1) (fun u hu => by cases hu) rfl (fun d w' hd hG h => ⟨wC, by
              have e := (h.at_p hd).1
              subst e
              rw [HWC.out]
              go_simp, At2.did_p (by decide) hd h rfl⟩) ?_
            simp only [Act.put, List.setIfInBounds_toArray, List.set_cons_zero, List.set_cons_succ]
            refine InvC.invc_world (.slice va sl vc) (fun u hu => by cases hu) rfl (fun d w' hd hG h => ⟨wD, by
              have e := h.at_q hd (hG.of (by kernel_rfl))
              subst e
              exact exec_append _ _ rfl rfl rfl HRUN.out, At2.did_q (by decide) hd (hG.of (by kernel_rfl)) rfl⟩) ?_
            simp only [Act.put, List.setIfInBounds_toArray, List.set_cons_zero, List.set_cons_succ]
            refine InvC.invc_nil fun w8 hI => ?_
            have e6 := hI.done (by rfl)
            subst e6
            have q4 := QD.out
            have f4 := FD.out
            clear Q QD FD HRUN HWC
            go_wp2_with fail
            go_meet
            case rel => exact ⟨k1, put2 S 0 B, _, _, HBOD.out, HOK2.out, by show (if (0 : Nat) = 0 then S 0 ++ [B] else S 0).length ≤ _; have := SL0.out; simp; try omega, by show (if (1 : Nat) = 0 then S 1 ++ [B] else S 1).length ≤ _; have := SL1.out; simp; try omega, by have := HFL2.out; have := SF.out; omega⟩
        case rest =>
          clear HCUT BO OK SL0 SL1 SF
          obtain ⟨k, S, v0, v1, hbo, hok, hl0, hl1, hlf⟩ := hcut
          have BO := Lib.hid hbo
          have OK := Lib.hid hok
          have SL0 := Lib.hid hl0
          have SL1 := Lib.hid hl1
          have SF := Lib.hid hlf
          clear hbo hok hl0 hl1 hlf
          go_upto_region 10 with (fail)
          go_cut [59] (fun v wx => (v = .bool false ∧ Bo w bl sb k S v0 v1 wx) ∨ (v = .bool true ∧ kk < m ∧ ∃ B, qs[kk]? = some B ∧ Bo w bl sb (k.sends 1 B) S v0 v1 wx ∧ Ok (k.sends 1 B) (put2 S 1 B) ∧ (k.sends 1 B).fl.length = k.fl.length + 1))
          case first =>
            by_cases hkn : kk < m
            · obtain ⟨B, hB⟩ : ∃ B, qs[kk]? = some B := ⟨_, List.getElem?_eq_getElem (by have := GN.out; omega)⟩
              have hB2 := Lib.hid hB
              obtain ⟨g, off, rfl, hc⟩ := GPC.out.resolve_left (by omega)
              obtain ⟨a', l', c', hcell, hbt, hl'⟩ := hc kk B hB
              have q1 : wc.cell? ⟨g, off + kk, none⟩ = some (.slice a' l' c') := (Below.cell BO.out.lf.below (p := ⟨g, off + kk, none⟩) (block_lt_of_cell hcell)).trans hcell
              have SD := Lib.hid (lf_send BO.out.lf 1 a' l' c' B (hbt.below BO.out.lf.below (Nat.le_refl _)) (fun hl g o e => .inl (by subst e; exact bts_block hbt hl)))
              have hBl : B.length = l' := hbt.1
              obtain ⟨E, hE⟩ : ∃ E, E = k.sendE 1 l' := ⟨_, rfl⟩
              have HE := Lib.hid hE
              have HBL := Lib.hid hBl
              rw [← hE] at SD
              clear hc hcell hbt hB hBl hE
              by_cases hE0 : E = 0
              · subst hE0
                go_wp2_with (go_at_call 11; refine SD.out.mono ?_; rintro e w5 ⟨rfl, hl5, hs5⟩; have L5 := Lib.hid hl5; have S5 := Lib.hid hs5; clear hl5 hs5 SD)
                go_meet
                case rel =>
                  have := OK.out.sends1 1 (by decide) B (by rw [HBL.out]; exact HE.out.symm) (by have := SL1.out; omega)
                  exact .inr ⟨rfl, hkn, B, hB2.out, BO.out.stay L5.out S5.out, this.1, this.2⟩
              · have hE1 : (E == 0) = false := by simp [hE0]
                go_wp2_with (go_at_call 11; refine SD.out.mono ?_; rintro e w5 ⟨rfl, hl5, hs5⟩; have L5 := Lib.hid hl5; have S5 := Lib.hid hs5; clear hl5 hs5 SD)
                go_meet
                case rel =>
                  have L6 := L5.out
                  rw [sends_no (by rw [HBL.out, ← HE.out]; exact hE0)] at L6
                  exact .inl ⟨rfl, BO.out.stay L6 S5.out⟩
            · go_wp2_with fail
              go_meet
              case rel => exact .inl ⟨rfl, BO.out⟩
          case rest =>
            have HCUT := Lib.hid hcut
            clear hcut
            go_upto_if 59 with (fail)
            go_cut [] (fun wx => ∃ k S v0 v1, Bo w bl sb k S v0 v1 wx ∧ Ok k S ∧ (S 0).length ≤ kk + 1 ∧ (S 1).length ≤ kk + 1 ∧ k.fl.length ≤ 2 * kk + 2)
            case first =>
              rcases HCUT.out with ⟨hv, hbo⟩ | ⟨hv, hkn, B, hB, hbo, hok, hfl⟩
              · subst hv
                have HBO := Lib.hid hbo
                clear hbo HCUT
                go_wp2_with fail
                go_meet
                case rel => exact ⟨k, S, v0, v1, HBO.out, OK.out, by have := SL0.out; omega, by have := SL1.out; omega, by have := SF.out; omega⟩
              · subst hv
                have HOK2 := Lib.hid hok
                have HFL2 := Lib.hid hfl
                obtain ⟨k1, hk1⟩ : ∃ k1, k1 = k.sends 1 B := ⟨_, rfl⟩
                rw [← hk1] at hbo HOK2 HFL2
                obtain ⟨g, off, rfl, hc⟩ := GPC.out.resolve_left (by omega)
                obtain ⟨a', l', c', hcell, hbt, hl'⟩ := hc kk B hB
                obtain rfl : B.length = l' := hbt.1
                obtain ⟨v', wD, hrun, ⟨va, vc, hvs⟩, hbD, hblkD, hboD⟩ := hbo.grow 1 (by decide) a' c' B hbt (by have := SL1.out; omega)
                obtain ⟨sl, hsl⟩ : ∃ sl, sl = (S 1).length + 1 := ⟨_, rfl⟩
                rw [← hsl] at hvs
                subst hvs
                obtain ⟨bn, hbn⟩ : ∃ bn, bn = B.length := ⟨_, rfl⟩
                rw [← hbn] at hcell hrun
                obtain ⟨wC, hwC⟩ : ∃ wC, wC = wc.drew.alloc (.cells #[.slice a' bn c'] 23) := ⟨_, rfl⟩
                have bC : Below wc.heap.size wc wC := hwC ▸ ((Below.refl wc.heap.size wc).drew.alloc (Nat.le_refl _) _)
                have hg : g < w.heap.size := block_lt_of_cell hcell
                have hBB := hbo.lf.below
                have p1 : wc.drew.cell? ⟨g, off + kk, none⟩ = some (.slice a' bn c') := (Below.cell hBB (p := ⟨g, off + kk, none⟩) hg).trans hcell
                have p2 : wC.cell? ⟨g, off + kk, none⟩ = some (.slice a' bn c') := (Below.cell (hBB.trans (bC.mono hBB.size)) (p := ⟨g, off + kk, none⟩) hg).trans hcell
                have p3 : wD.cell? ⟨g, off + kk, none⟩ = some (.slice a' bn c') := (Below.cell hbD (p := ⟨g, off + kk, none⟩) hg).trans hcell
                have r1 : wc.drew.cell? ⟨sb, 1, none⟩ = some v1 := hbo.blk.cell 1
                have r2 : wC.cell? ⟨sb, 1, none⟩ = some v1 := (hbo.blk.below bC hbo.blk.lt).cell 1
                have r3 : wD.cell? ⟨sb, 1, none⟩ = some v1 := hblkD.cell 1
                have r4 : wD.frozen? ⟨sb, 1, none⟩ = false := hblkD.frozen 1
                rw [← hwC] at hrun
                have Q := Lib.hid (show ∀ d w', At2 6 7 (fun w' => w' = wc.drew) (fun w' => w' = wC) (fun w' => w' = wD) d w' → w'.cell? ⟨sb, 1, none⟩ = some v1 ∧ w'.cell? ⟨g, off + kk, none⟩ = some (.slice a' bn c') from fun d w' h => by
                  rcases h.any with rfl | rfl | rfl
                  · exact ⟨r1, p1⟩
                  · exact ⟨r2, p2⟩
                  · exact ⟨r3, p3⟩)
                have HRUN := Lib.hid hrun
                have HBOD := Lib.hid hboD
                have HWC := Lib.hid hwC
                have QD := Lib.hid r3
                have FD := Lib.hid r4
                have hkn2 : (kk : Int) < m := by omega
                clear hrun hboD hwC r1 r2 r3 r4 p1 p2 p3 hbD hblkD hbn hsl hc hcell hbt hB hbo hok hfl hg hBB bC hk1 HCUT
                go_upto_region 11 with (fail)
                refine wp_region_gate_tail (fun d w' => At2 6 7 (fun w' => w' = wc.drew) (fun w' => w' = wC) (fun w' => w' = wD) d w') 8 (by kernel_rfl) (by kernel_rfl) ?hI ?_
                case hI => exact At2.start (by rfl) (by rfl) rfl
                simp only [List.take_succ_cons, List.take_zero, List.drop_succ_cons, List.drop_zero]
                refine InvC.invc_value (.pointer (some ⟨sb, 1, none⟩)) (fun u hu => by cases hu) rfl (fun d w' _ _ h => by go_simp; all_goals rfl) (fun d w' _ _ h => At2.keep (by decide) (by decide) h) ?_
                simp only [Act.put, List.setIfInBounds_toArray, List.set_cons_zero, List.set_cons_succ]
                refine InvC.invc_value (v1) (fun u hu => by cases hu) rfl (fun d w' _ _ h => by have q := (Q.out d w' h).1; go_simp) (fun d w' _ _ h => At2.keep (by decide) (by decide) h) ?_
                simp only [Act.put, List.setIfInBounds_toArray, List.set_cons_zero, List.set_cons_succ]
                refine InvC.invc_value (.slice (some ⟨g, off, none⟩) m cb) (fun u hu => by cases hu) rfl (fun d w' _ _ h => by go_simp; all_goals rfl) (fun d w' _ _ h => At2.keep (by decide) (by decide) h) ?_
                simp only [Act.put, List.setIfInBounds_toArray, List.set_cons_zero, List.set_cons_succ]
                refine InvC.invc_value (.int .i64 (kk : Int)) (fun u hu => by cases hu) rfl (fun d w' _ _ h => by go_simp; all_goals rfl) (fun d w' _ _ h => At2.keep (by decide) (by decide) h) ?_
                simp only [Act.put, List.setIfInBounds_toArray, List.set_cons_zero, List.set_cons_succ]
                refine InvC.invc_value (.pointer (some ⟨g, off + kk, none⟩)) (fun u hu => by cases hu) rfl (fun d w' _ _ h => by go_simp; all_goals rfl) (fun d w' _ _ h => At2.keep (by decide) (by decide) h) ?_
                simp only [Act.put, List.setIfInBounds_toArray, List.set_cons_zero, List.set_cons_succ]
                refine InvC.invc_value (.slice a' bn c') (fun u hu => by cases hu) rfl (fun d w' _ _ h => by have q := (Q.out d w' h).2; go_simp) (fun d w' _ _ h => At2.keep (by decide) (by decide) h) ?_
                simp only [Act.put, List.setIfInBounds_toArray, List.set_cons_zero, List.set_cons_succ]
                refine InvC.invc_world (.slice (some ⟨wc.heap.size, 0, none⟩) 1 1) (fun u hu => by cases hu) rfl (fun d w' hd hG h => ⟨wC, by
                  have e := (h.at_p hd).1
                  subst e
                  rw [HWC.out]
                  go_simp, At2.did_p (by decide) hd h rfl⟩) ?_
                simp only [Act.put, List.setIfInBounds_toArray, List.set_cons_zero, List.set_cons_succ]
                refine InvC.invc_world (.slice va sl vc) (fun u hu => by cases hu) rfl (fun d w' hd hG h => ⟨wD, by
                  have e := h.at_q hd (hG.of (by kernel_rfl))
                  subst e
                  exact exec_append _ _ rfl rfl rfl HRUN.out, At2.did_q (by decide) hd (hG.of (by kernel_rfl)) rfl⟩) ?_
                simp only [Act.put, List.setIfInBounds_toArray, List.set_cons_zero, List.set_cons_succ]
                refine InvC.invc_nil fun w8 hI => ?_
                have e6 := hI.done (by rfl)
                subst e6
                have q4 := QD.out
                have f4 := FD.out
                clear Q QD FD HRUN HWC
                go_wp2_with fail
                go_meet
                case rel => exact ⟨k1, put2 S 1 B, _, _, HBOD.out, HOK2.out, by show (if (0 : Nat) = 1 then S 0 ++ [B] else S 0).length ≤ _; have := SL0.out; simp; try omega, by show (if (1 : Nat) = 1 then S 1 ++ [B] else S 1).length ≤ _; have := SL1.out; simp; try omega, by have := HFL2.out; have := SF.out; omega⟩
            case rest =>
              clear HCUT BO OK SL0 SL1 SF
              obtain ⟨k, S, v0, v1, hbo, hok, hl0, hl1, hlf⟩ := hcut
              have BO := Lib.hid hbo
              have OK := Lib.hid hok
              have SL0 := Lib.hid hl0
              have SL1 := Lib.hid hl1
              have SF := Lib.hid hlf
              clear hbo hok hl0 hl1 hlf
              have FL := Lib.hid (lf_flight BO.out.lf OK.out.room)
              obtain ⟨fn, hfn⟩ : ∃ fn, fn = k.fl.length := ⟨_, rfl⟩
              rw [← hfn] at FL
              have HFN := Lib.hid hfn
              have hf42 : fn ≤ 42 := by rw [hfn]; have := SF.out; omega
              clear hfn
              go_upto_region 13 with (go_at_call 12; refine FL.out.mono ?_; rintro e w4 ⟨fa, fc, rfl, hl4, hb4⟩; have B4 := Lib.hid (BO.out.below hb4); clear hl4 hb4 FL)
              by_cases hkl : kk < l
              · by_cases hf0 : 0 < fn
                · have hf0' : (0 : Int) < fn := by omega
                  obtain ⟨x, hx⟩ : ∃ x, pk[kk]? = some x := ⟨_, List.getElem?_eq_getElem (by have := HP.out.1; omega)⟩
                  obtain ⟨g, off, rfl, hcell⟩ := HP.out.2.2.2.resolve_left (by omega)
                  have q1 : w4.cell? ⟨g, off + kk, none⟩ = some (.int .u8 (x.toNat : Int)) := (Below.cell B4.out.lf.below (p := ⟨g, off + kk, none⟩) (block_lt_of_cell (hcell kk x hx))).trans (hcell kk x hx)
                  have hfn0 : (fn : Int) ≠ 0 := by omega
                  have hrm : ((x.toNat : Int)).tmod (fn : Int) = ((x.toNat % fn : Nat) : Int) := by rw [Int.tmod_eq_emod_of_nonneg (by omega)]; rfl
                  obtain ⟨r, hr⟩ : ∃ r, r = x.toNat % fn := ⟨_, rfl⟩
                  rw [← hr] at hrm
                  have hrl : r < k.fl.length := by have := HFN.out; have := Nat.mod_lt x.toNat hf0; omega
                  have hx8 := x.toNat_lt
                  have DV := Lib.hid (lf_deliver B4.out.lf r hrl (fun p hp => (OK.out.fl p hp).1) (fun j hj => by
                    have := OK.out.gotLe j hj
                    have e0 := SL0.out
                    have e1 := SL1.out
                    have : (S (1 - j)).length ≤ 30 := by
                      rcases two hj with rfl | rfl
                      · show (S 1).length ≤ 30; omega
                      · show (S 0).length ≤ 30; omega
                    omega))
                  have O2 := Lib.hid (OK.out.dels r)
                  have F2 := Lib.hid (show (k.dels r).fl.length ≤ 2 * kk + 2 from Nat.le_trans (dels_len hrl) SF.out)
                  clear hcell hx hr hrl
                  go_wp2_with (go_at_call 15; refine DV.out.mono ?_; rintro e w5 ⟨rfl, hl5, hs5⟩; have B5 := Lib.hid (B4.out.stay hl5 hs5); clear hl5 hs5 DV)
                  refine ⟨?rel, ?measure⟩
                  case rel => exact ⟨kk + 1, k.dels r, S, v0, v1, by omega, by go_num, B5.out, O2.out, by have := SL0.out; omega, by have := SL1.out; omega, by have := F2.out; omega⟩
                  case measure => simp [intOf]; omega
                · have hfz : fn = 0 := by omega
                  subst hfz
                  go_wp2_with fail
                  refine ⟨?rel, ?measure⟩
                  case rel => exact ⟨kk + 1, k, S, v0, v1, by omega, by go_num, B4.out, OK.out, by have := SL0.out; omega, by have := SL1.out; omega, by have := SF.out; omega⟩
                  case measure => simp [intOf]; omega
              · go_wp2_with fail
                refine ⟨?rel, ?measure⟩
                case rel => exact ⟨kk + 1, k, S, v0, v1, by omega, by go_num, B4.out, OK.out, by have := SL0.out; omega, by have := SL1.out; omega, by have := SF.out; omega⟩
                case measure => simp [intOf]; omega
    · obtain rfl : kk = 20 := by omega
      have g20 : ∀ k' : Lk, Ok k' S → ∀ j, j < 2 → ((k'.en j).got.length + 1) * 24 ≤ 140737488355328 := fun k' hok j hj => by
        have := hok.gotLe j hj
        have e0 := SL0.out
        have e1 := SL1.out
        have : (S (1 - j)).length ≤ 30 := by
          rcases two hj with rfl | rfl
          · show (S 1).length ≤ 30; omega
          · show (S 0).length ≤ 30; omega
        omega
      have o20 : ∀ k' : Lk, Ok k' S → ∀ j, j < 2 → (k'.en j).op.length ≤ 20 := fun k' hok j hj => by
        have := hok.opLe j hj
        have e0 := SL0.out
        have e1 := SL1.out
        rcases two hj with rfl | rfl <;> omega
      have GG := Lib.hid g20
      have OO := Lib.hid o20
      clear g20 o20
      go_upto_region 15 with (fail)
      go_wp2_with fail
      go_loopw [11] (fun i wr => ∃ r : Nat, ∃ k, r ≤ 1 ∧ i = .int .i64 r ∧ Bo w bl sb k S v0 v1 wr ∧ Ok k S ∧ k.fl.length ≤ 42 ∧ (r = 1 → (k.en 0).op = [] ∧ (k.en 1).op = [])) (fun i _ => 45 - (intOf i).toNat)
      case atStart => exact ⟨0, k, by omega, rfl, BO.out, OK.out, by have := SF.out; omega, fun e => by cases e⟩
      case round =>
        clear BO OK SF
        obtain ⟨r, k, hr1, rfl, hbo, hok, hlf, hdone⟩ := hrel
        have BO := Lib.hid hbo
        have OK := Lib.hid hok
        have SF := Lib.hid hlf
        have DN := Lib.hid hdone
        obtain ⟨o0, ho0⟩ : ∃ o0, o0 = (k.en 0).op.length := ⟨_, rfl⟩
        obtain ⟨o1, ho1⟩ : ∃ o1, o1 = (k.en 1).op.length := ⟨_, rfl⟩
        have P0 := Lib.hid (lf_open hbo.lf 0 (by decide))
        have P1 := Lib.hid (lf_open hbo.lf 1 (by decide))
        rw [← ho0] at P0
        rw [← ho1] at P1
        have HO0 := Lib.hid ho0
        have HO1 := Lib.hid ho1
        have b0 : o0 ≤ 20 := by rw [ho0]; exact OO.out k hok 0 (by decide)
        have b1 : o1 ≤ 20 := by rw [ho1]; exact OO.out k hok 1 (by decide)
        have hr45 : (r : Int) < 45 := by omega
        clear hbo hok hlf hdone ho0 ho1
        by_cases hsum : 0 < o0 + o1
        · have hs : (0 : Int) < (o0 : Int) + o1 := by omega
          obtain rfl : r = 0 := by
            rcases Nat.lt_or_ge r 1 with h | h
            · omega
            · have := DN.out (by omega)
              have e0 := HO0.out
              have e1 := HO1.out
              rw [this.1] at e0
              rw [this.2] at e1
              simp at e0 e1
              omega
          have TK := Lib.hid (lf_tick BO.out.lf OK.out.room OK.out.few)
          have hal : k.a.op.length ≤ 20 := OO.out k OK.out 0 (by decide)
          have hbl : k.b.op.length ≤ 20 := OO.out k OK.out 1 (by decide)
          have hrm : k.fl.length + k.a.op.length + k.b.op.length ≤ 1024 := by have := SF.out; omega
          have RU0 := Lib.hid (OK.out.run (n := 0) hrm (by decide))
          have RU1 := Lib.hid (OK.out.run (n := 1) hrm (by decide))
          have OT := Lib.hid OK.out.tick
          have WT := Lib.hid (show wt k.tick.fl + 0 ≤ 400 from by
            have f0 := tries_fl k 0 k.a.op (by omega)
            have f1 := tries_fl (k.tries 0 k.a.op) 1 k.b.op (by rw [f0, List.length_append, List.length_map]; omega)
            have e : k.tick.fl.length = k.fl.length + k.a.op.length + k.b.op.length := by
              show ((k.tries 0 k.a.op).tries 1 k.b.op).fl.length = _
              rw [f1, f0]
              simp [Nat.add_assoc]
            have := (wt_le k.tick.fl).1
            have := SF.out
            omega)
          obtain ⟨tn, htn⟩ : ∃ tn, tn = k.tick.fl.length - k.fl.length := ⟨_, rfl⟩
          rw [← htn] at TK
          clear hal hbl hrm htn
          go_upto_region 19 with (first | (go_at_call 14; refine P0.out.mono ?_; intro e w' hh; have he := hh.1; have hw := hh.2; subst he; subst w'; clear hh P0) | (go_at_call 14; refine P1.out.mono ?_; intro e w' hh; have he := hh.1; have hw := hh.2; subst he; subst w'; clear hh P1) | (go_at_call 18; refine TK.out.mono ?_; rintro e w5 ⟨rfl, hl5, hs5⟩; have B5 := Lib.hid (BO.out.stay hl5 hs5); clear hl5 hs5 TK))
          go_wp2_with fail
          go_loopw [12] (fun i wr => ∃ jj : Nat, ∃ k, i = .int .i64 jj ∧ Bo w bl sb k S v0 v1 wr ∧ Ok k S ∧ Run 0 k S ∧ Run 1 k S ∧ wt k.fl + jj ≤ 400) (fun i _ => 400 - (intOf i).toNat)
          case atStart => exact ⟨0, k.tick, rfl, B5.out, OT.out, RU0.out, RU1.out, WT.out⟩
          case round =>
            clear B5 OT RU0 RU1 WT BO OK SF DN HO0 HO1
            obtain ⟨jj, k, rfl, hbo, hok, hr0, hr1', hjj⟩ := hrel
            have BO := Lib.hid hbo
            have OK := Lib.hid hok
            have RU0 := Lib.hid hr0
            have RU1 := Lib.hid hr1'
            have HW := Lib.hid hjj
            have hj400 : jj ≤ 400 := by omega
            have FL := Lib.hid (lf_flight hbo.lf hok.room)
            obtain ⟨fq, hfq⟩ : ∃ fq, fq = k.fl.length := ⟨_, rfl⟩
            rw [← hfq] at FL
            have HFQ := Lib.hid hfq
            have hfqb : fq ≤ 1024 := by rw [hfq]; exact hok.room
            clear hfq hbo hok hr0 hr1' hjj
            by_cases hq0 : 0 < fq
            · have hq0' : (0 : Int) < fq := by omega
              have hj4 : (jj : Int) < 400 := by have := HW.out; have := (wt_le k.fl).2; have := HFQ.out; omega
              obtain ⟨p, rest, hpr⟩ : ∃ p rest, k.fl = p :: rest := by
                cases hf : k.fl with
                | nil => rw [hf] at HFQ; have := HFQ.out; simp at this; omega
                | cons p rest => exact ⟨p, rest, rfl⟩
              have DV := Lib.hid (show ∀ w', Bo w bl sb k S v0 v1 w' → Calls Try.prog 15 #[.pointer (some ⟨bl, 0, none⟩), .int .i64 0] w' fun e w'' => e = .returned (.int .i64 0) ∧ Bo w bl sb (k.dels 0) S v0 v1 w'' from fun w' h => (lf_deliver h.lf 0 (by have := HFQ.out; omega) (fun p hp => (OK.out.fl p hp).1) (GG.out k OK.out)).mono (by
                rintro e w'' ⟨rfl, hl, hs⟩
                exact ⟨rfl, h.stay hl hs⟩))
              have R2 := Lib.hid (run_dels OK.out (by decide) hpr RU0.out)
              have R3 := Lib.hid (run_dels OK.out (by decide) hpr RU1.out)
              have W2 := Lib.hid (wt_dels OK.out hpr)
              clear hpr
              go_wp2_with (first | (go_at_call 12; refine FL.out.mono ?_; rintro e w6 ⟨fa2, fc2, rfl, hl6, hb6⟩; have DV1 := Lib.hid (DV.out _ (BO.out.below hb6)); clear hl6 hb6 FL) | (go_at_call 15; refine DV1.out.mono ?_; rintro e w7 ⟨rfl, hl7⟩; have L7 := Lib.hid hl7; clear hl7 DV DV1))
              refine ⟨⟨jj + 1, k.dels 0, by go_num, L7.out, OK.out.dels 0, R2.out, R3.out, by have := W2.out; have := HW.out; omega⟩, ?_⟩
              simp [intOf]; omega
            · have hqz : fq = 0 := by omega
              subst hqz
              have hnil : k.fl = [] := List.eq_nil_of_length_eq_zero HFQ.out.symm
              obtain ⟨d1, _⟩ := OK.out.done (by decide) RU0.out hnil
              obtain ⟨d2, _⟩ := OK.out.done (by decide) RU1.out hnil
              have D1 := Lib.hid d1
              have D2 := Lib.hid d2
              have FZ := Lib.hid (show k.fl.length ≤ 42 from by rw [hnil]; exact Nat.zero_le _)
              clear d1 d2 hnil
              by_cases hj4 : jj < 400
              all_goals
                have hj4' := hj4
                go_wp2_with (go_at_call 12; refine FL.out.mono ?_; rintro e w6 ⟨fa2, fc2, rfl, hl6, hb6⟩; have B6 := Lib.hid (BO.out.below hb6); clear hl6 hb6 FL)
                try refine ⟨?rel, ?measure⟩
                case rel =>
                  first
                    | exact ⟨1, k, by omega, by first | rfl | go_num, by first | exact B6.out | exact BO.out, OK.out, FZ.out, fun _ => ⟨D1.out, D2.out⟩⟩
                    | exact ⟨1, by omega, rfl, k, BO.out, OK.out, FZ.out, fun _ => ⟨D1.out, D2.out⟩⟩
                    | ((repeat apply Exists.intro); exact ⟨⟨1, k, by omega, by first | rfl | go_num, by first | exact B6.out | exact BO.out, OK.out, FZ.out, fun _ => ⟨D1.out, D2.out⟩⟩, rfl⟩)
                case measure =>
                  simp [intOf]
        · have hz0 : o0 = 0 := by omega
          have hz1 : o1 = 0 := by omega
          subst hz0
          subst hz1
          have e0 : (k.en 0).op = [] := List.eq_nil_of_length_eq_zero HO0.out.symm
          have e1 : (k.en 1).op = [] := List.eq_nil_of_length_eq_zero HO1.out.symm
          have G1 := Lib.hid (show (k.en 1).got = S 0 from op_nil_got OK.out 0 (by decide) e0)
          have G0 := Lib.hid (show (k.en 0).got = S 1 from op_nil_got OK.out 1 (by decide) e1)
          have GT1 := Lib.hid (show ∀ w', Bo w bl sb k S v0 v1 w' → Calls Try.prog 16 #[.pointer (some ⟨bl, 0, none⟩), .int .i64 1] w' fun e w'' => ∃ va, e = .returned va ∧ Txt w'' va (S 0) ∧ Bo w bl sb k S v0 v1 w'' from fun w' h => (lf_got h.lf 1 (by decide) (GG.out k OK.out 1 (by decide))).mono (by
            rintro e w'' ⟨va, rfl, ht, _, hb⟩
            rw [G1.out] at ht
            exact ⟨va, rfl, ht, h.below hb⟩))
          have GT0 := Lib.hid (show ∀ w', Bo w bl sb k S v0 v1 w' → Calls Try.prog 16 #[.pointer (some ⟨bl, 0, none⟩), .int .i64 0] w' fun e w'' => ∃ va, e = .returned va ∧ Txt w'' va (S 1) ∧ Bo w bl sb k S v0 v1 w'' from fun w' h => (lf_got h.lf 0 (by decide) (GG.out k OK.out 0 (by decide))).mono (by
            rintro e w'' ⟨va, rfl, ht, _, hb⟩
            rw [G0.out] at ht
            exact ⟨va, rfl, ht, h.below hb⟩))
          have ST0 := Lib.hid (show ∀ va w', Txt w' va (S 0) → Bo w bl sb k S v0 v1 w' → Calls Try.prog 19 #[va, v0] w' fun e w'' => e = .returned (.bool true) ∧ Bo w bl sb k S v0 v1 w'' from fun va w' ht h => (texts_any va v0 (S 0) (S 0) w' ht (h.r0.txt h.lf.below)).mono (by
            rintro e w'' ⟨rfl, nd, rfl⟩
            rw [decide_eq_true rfl]
            exact ⟨rfl, h.below ⟨rfl, rfl, rfl, Nat.le_refl _, fun _ _ => rfl⟩⟩))
          have ST1 := Lib.hid (show ∀ va w', Txt w' va (S 1) → Bo w bl sb k S v0 v1 w' → Calls Try.prog 19 #[va, v1] w' fun e w'' => e = .returned (.bool true) ∧ Bo w bl sb k S v0 v1 w'' from fun va w' ht h => (texts_any va v1 (S 1) (S 1) w' ht (h.r1.txt h.lf.below)).mono (by
            rintro e w'' ⟨rfl, nd, rfl⟩
            rw [decide_eq_true rfl]
            exact ⟨rfl, h.below ⟨rfl, rfl, rfl, Nat.le_refl _, fun _ _ => rfl⟩⟩))
          have OP0 := Lib.hid (show ∀ w', Bo w bl sb k S v0 v1 w' → Calls Try.prog 14 #[.pointer (some ⟨bl, 0, none⟩), .int .i64 0] w' fun e w'' => e = .returned (.int .i64 0) ∧ w' = w'' from fun w' h => (lf_open h.lf 0 (by decide)).mono (by
            rintro e w'' ⟨rfl, rfl⟩
            exact ⟨by rw [e0]; rfl, rfl⟩))
          have OP1 := Lib.hid (show ∀ w', Bo w bl sb k S v0 v1 w' → Calls Try.prog 14 #[.pointer (some ⟨bl, 0, none⟩), .int .i64 1] w' fun e w'' => e = .returned (.int .i64 0) ∧ w' = w'' from fun w' h => (lf_open h.lf 1 (by decide)).mono (by
            rintro e w'' ⟨rfl, rfl⟩
            exact ⟨by rw [e1]; rfl, rfl⟩))
          clear e0 e1 HO0 HO1 GG OO SL0 SL1 SF OK DN G1 G0
          go_upto_region 24 with (first | (go_at_call 14; refine P0.out.mono ?_; intro e w' hh; have he := hh.1; have hw := hh.2; subst he; subst w'; clear hh P0) | (go_at_call 14; refine P1.out.mono ?_; intro e w' hh; have he := hh.1; have hw := hh.2; subst he; subst w'; clear hh P1))
          have hbd : Bo w bl sb k S v0 v1 wr.drew := BO.out.below ((Below.refl _ _).drew)
          clear BO
          go_region_held3 (fun w' => w'.cell? ⟨sb, 0, none⟩ = some v0 ∧ w'.cell? ⟨sb, 1, none⟩ = some v1) (first | exact ⟨hbd.blk.cell 0, hbd.blk.cell 1⟩ | exact ⟨hb1.blk.cell 0, hb1.blk.cell 1⟩ | exact ⟨hb2.blk.cell 0, hb2.blk.cell 1⟩ | exact ⟨hb3.blk.cell 0, hb3.blk.cell 1⟩ | exact ⟨hb4.blk.cell 0, hb4.blk.cell 1⟩)
            (first
              | (go_at_call_of 14 (Value.int .i64 0); refine (OP0.out _ (by assumption)).mono ?_; intro e w' hh; have he := hh.1; have hw := hh.2; subst he; subst w'; clear hh)
              | (go_at_call_of 14 (Value.int .i64 1); refine (OP1.out _ (by assumption)).mono ?_; intro e w' hh; have he := hh.1; have hw := hh.2; subst he; subst w'; clear hh)
              | (go_at_call_of 16 (Value.int .i64 1); refine (GT1.out _ (by assumption)).mono ?_; rintro e w1 ⟨va, rfl, ht1, hb1⟩)
              | (go_at_call_of 16 (Value.int .i64 0); refine (GT0.out _ (by assumption)).mono ?_; rintro e w3 ⟨vb, rfl, ht3, hb3⟩)
              | (go_at_call_of 19 v0; refine (ST0.out _ _ (by assumption) (by assumption)).mono ?_; rintro e w2 ⟨rfl, hb2⟩)
              | (go_at_call_of 19 v1; refine (ST1.out _ _ (by assumption) (by assumption)).mono ?_; rintro e w4 ⟨rfl, hb4⟩))
          go_wp2_with fail
          go_ret
          exact ⟨rfl, hb4.lf.below⟩
section
variable {H : Type} {enc : TypeId × Value → H} {base : Nat} {spare : Nat → Bool} {held : Bool} {W : World}
theorem both_in (a : Option Addr) (n ca : Nat) (lf : Opens.LfOk enc Try.prog W base spare held (.slice 23) (.slice a n ca)) (b : Option Addr) (m cb : Nat) (lg : Opens.LfOk enc Try.prog W base spare held (.slice 23) (.slice b m cb)) (c : Option Addr) (l cc : Nat) (lh : Opens.LfOk enc Try.prog W base spare held (.slice 5) (.slice c l cc)) : Calls Try.prog 4 #[.slice a n ca, .slice b m cb, .slice c l cc] W fun e w' => e = .returned (.bool true) ∧ Below W.heap.size W w' := by
  obtain ⟨ps, hp⟩ := pcs_in lf
  obtain ⟨qs, hq⟩ := pcs_in lg
  obtain ⟨pk, hk, _⟩ := bytes_in lh
  exact both_walk a n ca ps W hp b m cb qs hq c l cc pk hk
end
end Go.Proofs.Ytfjaoompdleljaa.Link

