/-
  The walk of the statement on epochs. Helper text; no statement is proved here.
-/
import Derived.Test.YtfjaoompdleljaaLv
set_option linter.unusedVariables false
set_option maxRecDepth 20000
set_option linter.unusedSimpArgs false
namespace Go.Proofs.Ytfjaoompdleljaa.Link
open Go.RowKit Go.Proofs.Ytfjaoompdleljaa.Base Go.Proofs.Ytfjaoompdleljaa.Laws Go.Proofs.Ytfjaoompdleljaa.Disk Go.Proofs.Ytfjaoompdleljaa.Row Go.Proofs.Ytfjaoompdleljaa.Flat Go.Proofs.Ytfjaoompdleljaa.InvM
/-- i messages may have been sent from end 0 in epoch 0 -/
def Ep1 (k : Lk) (i : Nat) : Prop := k.ep = 0 ∧ k.fl.length ≤ i ∧ k.a.op.length ≤ i ∧ (∀ p ∈ k.fl, p.f = 0 ∧ p.m.e = 0) ∧ k.a.got = [] ∧ k.b.got = []
theorem ep1_send {k : Lk} {i : Nat} (h : Ep1 k i) (B : List UInt8) : Ep1 (k.sends 0 B) (i + 1) := by
  obtain ⟨h1, h2, h3, h4, h5, h6⟩ := h
  unfold Lk.sends
  split
  · refine ⟨h1, ?_, ?_, ?_, h5, h6⟩
    · show (k.fl ++ [_]).length ≤ i + 1
      rw [List.length_append]; simp; omega
    · show (k.a.op ++ [_]).length ≤ i + 1
      rw [List.length_append]; simp; omega
    · intro p hp
      rcases List.mem_append.1 (show p ∈ k.fl ++ [_] from hp) with hp | hp
      · exact h4 p hp
      · obtain rfl := List.mem_singleton.1 hp
        exact ⟨rfl, h1⟩
  · exact ⟨h1, by omega, by omega, h4, h5, h6⟩
theorem dels_old {k : Lk} {p : Pk} (hp : k.fl[0]? = some p) (he : p.m.e ≠ k.ep) : k.dels 0 = { k with fl := k.fl.drop 1 } := by
  unfold Lk.dels
  rw [hp]
  show (k.less 0).comes p = _
  unfold Lk.comes
  rw [if_neg (show ¬ p.m.e = (k.less 0).ep from he)]
  rfl
def Lk.cut (k : Lk) (j : Nat) : Lk := { k with fl := k.fl.drop j }
theorem cut_dels {k : Lk} {j n : Nat} (hn : n ≤ k.fl.length) (hj : j < n) (ho : ∀ p ∈ k.fl.take n, p.m.e ≠ k.ep) : (k.cut j).dels 0 = k.cut (j + 1) := by
  obtain ⟨p, hp⟩ : ∃ p, k.fl[j]? = some p := ⟨_, List.getElem?_eq_getElem (by omega)⟩
  have h0 : (k.cut j).fl[0]? = some p := by show (k.fl.drop j)[0]? = _; rw [List.getElem?_drop]; exact hp
  rw [dels_old h0 (ho p (List.mem_of_getElem? (i := j) (by rw [List.getElem?_take_of_lt hj]; exact hp)))]
  unfold Lk.cut
  show (⟨k.ep, k.a, k.b, (k.fl.drop j).drop 1⟩ : Lk) = _
  rw [List.drop_drop]
/-- behind Renew and Send -/
def Lk.two (k : Lk) (B : List UInt8) : Lk := (k.renew 7).sends 0 B
theorem two_arg {k : Lk} {B : List UInt8} (h : ¬ (1 ≤ B.length ∧ B.length ≤ 64)) : (k.renew 7).sendE 0 B.length = 2 ∧ k.two B = k.renew 7 := by
  have e : (k.renew 7).sendE 0 B.length = 2 := if_pos (by omega)
  refine ⟨e, ?_⟩
  unfold Lk.two Lk.sends
  rw [e]
  rfl
theorem two_ok {k : Lk} {B : List UInt8} (h : 1 ≤ B.length ∧ B.length ≤ 64) (hf : k.fl.length < 1024) (ha : k.a.got = []) (hb : k.b.got = []) : (k.renew 7).sendE 0 B.length = 0 ∧ k.two B = ⟨7, ⟨[⟨0, 1, 0, B⟩], 1, 0, []⟩, ⟨[], 0, 0, []⟩, k.fl ++ [⟨0, ⟨7, 1, 0, B⟩⟩]⟩ := by
  have e : (k.renew 7).sendE 0 B.length = 0 := by
    unfold Lk.sendE
    rw [if_neg (by omega), if_pos ⟨hf, by show 0 < 256; decide⟩]
  refine ⟨e, ?_⟩
  unfold Lk.two Lk.sends
  rw [e, if_pos rfl]
  unfold Lk.renew
  rw [ha, hb]
  rfl
theorem two_facts {k : Lk} {B : List UInt8} {i : Nat} (h : Ep1 k i) (hi : i ≤ 100) : (k.two B).ep = 7 ∧ k.fl.length ≤ (k.two B).fl.length ∧ (k.two B).fl.length ≤ k.fl.length + 1 ∧ (∀ p ∈ (k.two B).fl.take k.fl.length, p.m.e ≠ (k.two B).ep) ∧ (∀ p ∈ (k.two B).fl, p.f < 2) ∧ (∀ n, n < 2 → ((k.two B).en n).got = []) := by
  obtain ⟨h1, h2, h3, h4, h5, h6⟩ := h
  by_cases hb : 1 ≤ B.length ∧ B.length ≤ 64
  · obtain ⟨_, e⟩ := two_ok hb (show k.fl.length < 1024 by omega) h5 h6
    rw [e]
    refine ⟨rfl, by simp, by simp, fun p hp => ?_, fun p hp => ?_, fun n hn => ?_⟩
    · rw [List.take_left] at hp
      have := (h4 p hp).2
      show p.m.e ≠ 7
      omega
    · rcases List.mem_append.1 hp with hp | hp
      · have := (h4 p hp).1; omega
      · obtain rfl := List.mem_singleton.1 hp
        show 0 < 2
        decide
    · obtain rfl | rfl : n = 0 ∨ n = 1 := by omega
      · rfl
      · rfl
  · obtain ⟨_, e⟩ := two_arg (k := k) hb
    rw [e]
    refine ⟨rfl, Nat.le_refl _, Nat.le_succ _, fun p hp => ?_, fun p hp => ?_, fun n hn => ?_⟩
    · have := (h4 p (List.mem_of_mem_take hp)).2
      show p.m.e ≠ 7
      omega
    · have := (h4 p hp).1; omega
    · obtain rfl | rfl : n = 0 ∨ n = 1 := by omega
      · exact h5
      · exact h6
def k3 (B : List UInt8) : Lk := ⟨7, ⟨[⟨0, 1, 0, B⟩], 1, 0, []⟩, ⟨[], 0, 0, []⟩, [⟨0, ⟨7, 1, 0, B⟩⟩]⟩
def k4 (B : List UInt8) : Lk := ⟨7, ⟨[⟨0, 1, 0, B⟩], 1, 0, []⟩, ⟨[], 0, 1, [B]⟩, [⟨1, ⟨7, 0, 1, []⟩⟩]⟩
theorem k3_dels (B : List UInt8) (hB : B ≠ []) : (k3 B).dels 0 = k4 B := by
  show ((k3 B).less 0).comes ⟨0, ⟨7, 1, 0, B⟩⟩ = _
  unfold Lk.comes
  rw [if_pos (show (7 : Nat) = ((k3 B).less 0).ep from rfl), if_neg (show ¬ B = [] from hB)]
  rfl
set_option maxHeartbeats 2000000 in
theorem epochs_walk (a : Option Addr) (n cap : Nat) (ps : List (List UInt8)) (w : World) (h : Pcs w a n cap ps) (b : Option Addr) (m c : Nat) (B : List UInt8) (hB : Bts w b m c B) :
    Calls Try.prog 3 #[.slice a n cap, .slice b m c] w fun e w' => e = .returned (.bool true) ∧ Below w.heap.size w w' := by
  obtain ⟨h1, h2, h3, h4, h5⟩ := h
  unfold maxLen at h3
  have HPC := Lib.hid h5
  have HN := Lib.hid h1
  have HB := Lib.hid hB
  have hm : m ≤ 9223372036854775807 := by have := hB.2.1; have := hB.2.2.1; unfold maxLen at this; omega
  clear h5 h1 hB
  go_enter Try.func3, Try.ntmps3
  go_wp2_with (first | (go_at_call 9; refine (awake_any w).mono ?_; rintro e w1 ⟨rfl, hb1⟩; have NW := Lib.hid (lv_new hb1); clear hb1) | (go_at_call 10; refine NW.out.mono ?_; rintro e w2 ⟨rfl, hl⟩; have L2 := Lib.hid hl; clear hl NW))
  obtain ⟨bl, hbl⟩ : ∃ bl, bl = w1.heap.size := ⟨_, rfl⟩
  rw [← hbl] at L2 ⊢
  clear hbl
  go_loopw [6] (fun i wr => ∃ kk : Nat, ∃ k : Lk, kk ≤ n ∧ kk ≤ 100 ∧ i = .int .i64 kk ∧ Ep1 k kk ∧ Lv w bl [] k wr) (fun i _ => n - (intOf i).toNat)
  case atStart => exact ⟨0, k0, by omega, by omega, rfl, ⟨rfl, by decide, by decide, (fun p hp => by cases hp), rfl, rfl⟩, L2.out⟩
  case round =>
    obtain ⟨kk, k, hk, hk100, rfl, hep, hl⟩ := hrel
    have EP := Lib.hid hep
    have HL := Lib.hid hl
    clear hep hl
    by_cases hkn : kk < n ∧ kk < 100
    · obtain ⟨hkn, hk1⟩ := hkn
      · obtain ⟨p, hp⟩ : ∃ p, ps[kk]? = some p := ⟨_, List.getElem?_eq_getElem (by have := HN.out; omega)⟩
        obtain ⟨g, o, rfl, hc⟩ := HPC.out.resolve_left (by omega)
        obtain ⟨a', l', c', hcell, hbt, hl'⟩ := hc kk p hp
        have hlv := HL.out
        obtain ⟨V, hA, hBel, hbl⟩ := HL.out
        have q1 : wr.cell? ⟨g, o + kk, none⟩ = some (.slice a' l' c') := (Below.cell hBel (p := ⟨g, o + kk, none⟩) (block_lt_of_cell hcell)).trans hcell
        have SD := Lib.hid (lv_send hlv 0 a' l' c' p (hbt.below hBel (Nat.le_refl _)) (fun hl g o e => by subst e; exact bts_block hbt hl))
        clear hc hcell hbt hA hBel hbl hp hlv
        go_wp2_with (first | (go_at_call 11; refine SD.out.mono ?_; rintro e w3 ⟨rfl, hl3⟩; have L3 := Lib.hid hl3; clear hl3))
        refine ⟨⟨kk + 1, k.sends 0 p, by omega, by omega, by go_num, ep1_send EP.out p, L3.out⟩, ?_⟩
        simp [intOf]; omega
    · rcases (by omega : ¬ kk < n ∨ (kk < n ∧ ¬ kk < 100)) with hx | ⟨hx, hy⟩
      all_goals
        have hfl : k.fl.length ≤ kk := EP.out.2.1
        have FL := Lib.hid (lv_flight HL.out (by omega))
        obtain ⟨old, hold⟩ : ∃ old, old = k.fl.length := ⟨_, rfl⟩
        have OL := Lib.hid hold
        rw [← hold] at FL hfl
        clear hold
        clear hkn
        go_upto_region 9 with (go_at_call 12; refine FL.out.mono ?_; rintro e w3 ⟨fa, fc, rfl, hl3⟩; have L3 := Lib.hid hl3; clear hl3 FL)
        have RN := Lib.hid (lv_renew L3.out 7)
        rw [EP.out.1, if_neg (by decide), if_neg (by decide)] at RN
        obtain ⟨r, hr⟩ : ∃ r, r = k.renew 7 := ⟨_, rfl⟩
        have HR := Lib.hid hr
        rw [← hr] at RN
        have re : r.ep = 7 := by rw [hr]; rfl
        have rf : r.fl = k.fl := by rw [hr]; rfl
        have ro : (r.en 0).op = [] := by rw [hr]; rfl
        have RE := Lib.hid re
        have RF := Lib.hid rf
        have RO := Lib.hid ro
        clear hr re rf ro
        go_upto_region 11 with (first | (go_at_call 13; refine RN.out.mono ?_; rintro e w4 ⟨rfl, hl4⟩; have L4 := Lib.hid hl4; have RN2 := Lib.hid (lv_renew hl4 7); rw [RE.out, if_pos (by decide), if_pos (by decide)] at RN2; clear hl4 RN) | (go_at_call 13; refine RN2.out.mono ?_; rintro e w5 ⟨rfl, hl5⟩; have L5 := Lib.hid hl5; have OP := Lib.hid (lv_open hl5 0 (by decide)); rw [RO.out] at OP; have FL2 := Lib.hid (lv_flight hl5 (by have := RF.out; have := OL.out; rw [RF.out]; omega)); rw [RF.out, ← OL.out] at FL2; clear hl5 RN2) | (go_at_call 14; refine OP.out.mono ?_; rintro e w6 ⟨rfl, rfl⟩; clear OP) | (go_at_call 12; refine FL2.out.mono ?_; rintro e w7 ⟨fa2, fc2, rfl, hl7⟩; have L7 := Lib.hid hl7; clear hl7 FL2))
        have BT := (HB.out.below (show Below w.heap.size w w7 from L7.out.choose_spec.2.1) (Nat.le_refl _))
        have SD := Lib.hid (lv_send L7.out 0 b m c B BT (fun hl g o e => by subst e; exact bts_block HB.out hl))
        obtain ⟨k2, hk2⟩ : ∃ k2, k2 = r.sends 0 B := ⟨_, rfl⟩
        obtain ⟨E, hE⟩ : ∃ E, E = r.sendE 0 m := ⟨_, rfl⟩
        have TF := Lib.hid (two_facts (B := B) EP.out hk100)
        have hk2' : k.two B = k2 := by rw [hk2, HR.out]; rfl
        rw [hk2', ← OL.out] at TF
        have EF := Lib.hid (show (¬ (1 ≤ B.length ∧ B.length ≤ 64) ∧ E = 2) ∨ ((1 ≤ B.length ∧ B.length ≤ 64) ∧ E = 0 ∧ k2 = ⟨7, ⟨[⟨0, 1, 0, B⟩], 1, 0, []⟩, ⟨[], 0, 0, []⟩, k.fl ++ [⟨0, ⟨7, 1, 0, B⟩⟩]⟩) from by
          have hbl : B.length = m := HB.out.1
          by_cases hb : 1 ≤ B.length ∧ B.length ≤ 64
          · obtain ⟨e1, e2⟩ := two_ok (k := k) hb (by have := OL.out; omega) EP.out.2.2.2.2.1 EP.out.2.2.2.2.2
            exact .inr ⟨hb, by rw [hE, HR.out, ← hbl]; exact e1, by rw [← hk2', e2]⟩
          · obtain ⟨e1, e2⟩ := two_arg (k := k) hb
            exact .inl ⟨hb, by rw [hE, HR.out, ← hbl]; exact e1⟩)
        rw [← hk2, ← hE] at SD
        clear hk2 hE hk2' BT
        go_wp2_with (go_at_call 11; refine SD.out.mono ?_; rintro e w8 ⟨rfl, hl8⟩; have L8 := Lib.hid hl8; clear hl8 SD)
        go_loopw [9] (fun i wr => ∃ j : Nat, j ≤ old ∧ i = .int .i64 j ∧ Lv w bl [] (k2.cut j) wr) (fun i _ => old - (intOf i).toNat)
        case atStart => exact ⟨0, by omega, rfl, L8.out⟩
        case round =>
          obtain ⟨j, hj, rfl, hl⟩ := hrel
          have HL := Lib.hid hl
          clear hl
          by_cases hjo : j < old
          · have hlen : (k2.cut j).fl.length = k2.fl.length - j := List.length_drop ..
            have hlen1 : (k2.cut (j + 1)).fl.length = k2.fl.length - (j + 1) := List.length_drop ..
            have hge := TF.out.2.1
            have hle := TF.out.2.2.1
            have hgt : ∀ i n, n < 2 → ((k2.cut i).en n).got = [] := fun i n hn => by
              have := TF.out.2.2.2.2.2 n hn
              obtain rfl | rfl : n = 0 ∨ n = 1 := by omega
              · exact this
              · exact this
            have DV := Lib.hid (lv_deliver HL.out 0 (by omega) (fun p hp => TF.out.2.2.2.2.1 p (List.mem_of_mem_drop hp)) (fun n hn => by rw [hgt j n hn]; decide))
            rw [cut_dels hge hjo TF.out.2.2.2.1] at DV
            obtain ⟨fl1, hfl1⟩ : ∃ fl1, fl1 = (k2.cut (j + 1)).fl.length := ⟨_, rfl⟩
            have hf1 : (fl1 : Int) ≤ old := by omega
            have HF1 := Lib.hid hfl1
            have HL1 := Lib.hid (show fl1 ≤ 1024 by omega)
            have HG := Lib.hid (hgt (j + 1) 1 (by decide))
            clear hlen hlen1 hge hle hgt hfl1
            go_wp2_with (first | (go_at_call 15; refine DV.out.mono ?_; rintro e w9 ⟨rfl, hl9⟩; have L9 := Lib.hid hl9; have GT := Lib.hid (lv_got hl9 1 (by decide) (by rw [HG.out]; decide)); rw [HG.out] at GT; clear hl9 DV) | (go_at_call 16; refine GT.out.mono ?_; rintro e w10 ⟨gv, rfl, ⟨ga, gc, hgv, _⟩, hl10⟩; have hgv' : gv = .slice ga 0 gc := hgv; clear hgv; subst hgv'; have L10 := Lib.hid hl10; have FL := Lib.hid (lv_flight hl10 (by rw [← HF1.out]; exact HL1.out)); rw [← HF1.out] at FL; clear hl10 GT) | (go_at_call 12; refine FL.out.mono ?_; rintro e w11 ⟨fb, fd, rfl, hl11⟩; have L11 := Lib.hid hl11; clear hl11 FL))
            refine ⟨⟨j + 1, by omega, by go_num, L11.out⟩, ?_⟩
            simp [intOf]; omega
          · obtain rfl : j = old := by omega
            rcases EF.out with ⟨_, rfl⟩ | ⟨hb, rfl, hk2⟩
            · go_wp2_with fail
              go_ret
              exact ⟨rfl, HL.out.choose_spec.2.1⟩
            · have e3 : k2.cut j = k3 B := by
                rw [hk2]
                unfold Lk.cut
                show (⟨7, _, _, List.drop j (k.fl ++ [_])⟩ : Lk) = _
                rw [List.drop_left' OL.out.symm]
                rfl
              rw [e3] at HL
              have hbn : B ≠ [] := by intro e; subst e; exact absurd hb.1 (by decide)
              have DV := Lib.hid (lv_deliver HL.out 0 (by show 0 < 1; decide) (fun p hp => by obtain rfl := List.mem_singleton.1 hp; show 0 < 2; decide) (fun n hn => by
                obtain rfl | rfl : n = 0 ∨ n = 1 := by omega
                · show (0 + 1) * 24 ≤ 140737488355328; decide
                · show (0 + 1) * 24 ≤ 140737488355328; decide))
              rw [k3_dels B hbn] at DV
              clear e3 hk2 hb hbn EF
              go_upto_region 22 with (first | (go_at_call 15; refine DV.out.mono ?_; rintro e w9 ⟨rfl, hl9⟩; have L9 := Lib.hid hl9; have GT := Lib.hid (lv_got hl9 1 (by decide) (by show (1 + 1) * 24 ≤ 140737488355328; decide)); clear hl9 DV) | (go_at_call 16; refine GT.out.mono ?_; rintro e w10 ⟨gv, rfl, hgv, hl10⟩; have HGV := Lib.hid hgv; have L10 := Lib.hid hl10; clear hl10 hgv GT))
              obtain ⟨ga, gc, hgv, _, _, hgs⟩ := HGV.out
              have hgv' : gv = .slice ga 1 gc := hgv
              clear hgv
              subst hgv'
              obtain ⟨gb, ya, yc, rfl, hcell, hbt⟩ := hgs 0 B rfl
              have SM := Lib.hid (Same.same_any ya B.length yc B b m c B w10 hbt (HB.out.below (show Below w.heap.size w w10 from L10.out.choose_spec.2.1) (Nat.le_refl _)))
              rw [decide_eq_true rfl] at SM
              have LO := Lib.hid (show ∀ nd, Lv w bl [] (k4 B) (w10.drewN nd) from fun nd => L10.out.goesB ⟨rfl, rfl, rfl, Nat.le_refl _, fun _ _ => rfl⟩)
              obtain ⟨yl, hyl⟩ : ∃ yl, yl = B.length := ⟨_, rfl⟩
              rw [← hyl] at hcell SM
              clear hgs hbt HGV hyl
              go_wp2_with (first | (go_at_call 17; refine SM.out.mono ?_; rintro e w11 ⟨rfl, nd, rfl⟩; have OP := Lib.hid (show Calls Try.prog 14 #[.pointer (some ⟨bl, 0, none⟩), .int .i64 0] (w10.drewN nd) fun e w' => e = .returned (.int .i64 1) ∧ w10.drewN nd = w' from lv_open (LO.out nd) 0 (by decide)) ) | (go_at_call 14; refine OP.out.mono ?_; rintro e w12 ⟨rfl, rfl⟩))
              go_ret
              exact ⟨rfl, (LO.out nd).choose_spec.2.1⟩
section
variable {H : Type} {enc : TypeId × Value → H} {base : Nat} {spare : Nat → Bool} {held : Bool} {W : World}
theorem epochs_in (a : Option Addr) (n ca : Nat) (lf : Opens.LfOk enc Try.prog W base spare held (.slice 23) (.slice a n ca)) (b : Option Addr) (m cb : Nat) (lg : Opens.LfOk enc Try.prog W base spare held (.slice 5) (.slice b m cb)) : Calls Try.prog 3 #[.slice a n ca, .slice b m cb] W fun e w' => e = .returned (.bool true) ∧ Below W.heap.size W w' := by
  obtain ⟨ps, hp⟩ := pcs_in lf
  obtain ⟨l, hl, _⟩ := bytes_in lg
  exact epochs_walk a n ca ps W hp b m cb l hl
end
end Go.Proofs.Ytfjaoompdleljaa.Link
