/-
  The walk of the statement on loads. Helper text; no statement is proved here.
-/
import Derived.Test.YtobblbplanimgaaNvLd
import Derived.Test.YtobblbplanimgaaNv7Keeps
set_option linter.unusedVariables false
set_option maxRecDepth 20000
set_option linter.unusedSimpArgs false
namespace Go.Proofs.Ytobblbplanimgaa.Nvram
open Go.RowKit Go.Proofs.Ytobblbplanimgaa.Base Go.Proofs.Ytobblbplanimgaa.Laws Go.Proofs.Ytobblbplanimgaa.Disk Go.Proofs.Ytobblbplanimgaa.Row Go.Proofs.Ytobblbplanimgaa.Codec Go.Proofs.Ytobblbplanimgaa.InvL Go.Proofs.Ytobblbplanimgaa.InvM
theorem load_cases (s size : Nat) (B : List UInt8) (rs : List Rc) (hv : ∀ r ∈ rs, r.Valid) : (loadR ⟨false, 0, s⟩ size B rs = (0, ⟨false, 0, s + 1⟩, laidAll rs) ∧ ∀ r ∈ rs, r.Valid ∧ r.Good) ∨ ∃ k, k ≠ 0 ∧ loadR ⟨false, 0, s⟩ size B rs = (k, ⟨false, 0, s⟩, B) := by
  by_cases h : ∃ r ∈ rs, ¬ r.Good
  · exact .inr ⟨2, by decide, load_two h⟩
  · by_cases hf : size / 37 < rs.length
    · exact .inr ⟨9, by decide, load_nine h rfl hf⟩
    · exact .inl ⟨load_ok h rfl hf rfl, fun r hr => ⟨hv r hr, Classical.byContradiction fun hn => h ⟨r, hr, hn⟩⟩⟩
theorem load_cut (s size : Nat) (B : List UInt8) (rs : List Rc) : ∃ k p', k ≠ 0 ∧ loadR ⟨false, 1, s⟩ size B rs = (k, p', B) := by
  by_cases h : ∃ r ∈ rs, ¬ r.Good
  · exact ⟨2, _, by decide, load_two h⟩
  · by_cases hf : size / 37 < rs.length
    · exact ⟨9, _, by decide, load_nine h rfl hf⟩
    · exact ⟨4, _, by decide, load_torn h rfl hf rfl⟩
theorem recs_nil (w : World) : Recs w none 0 0 [] := ⟨rfl, Nat.le_refl _, by unfold maxLen; omega, by simp, .inl rfl⟩
set_option maxHeartbeats 4000000 in
theorem loads_walk (a0 : Option Addr) (n0 c0 : Nat) (l0 : List Rc) (a1 : Option Addr) (n1 c1 : Nat) (l1 : List Rc) (cut : Bool) (w : World) (h0 : Recs w a0 n0 c0 l0) (h1 : Recs w a1 n1 c1 l1) :
    Calls Try.prog 6 #[.slice a0 n0 c0, .slice a1 n1 c1, .bool cut] w fun e w' => e = .returned (.bool true) ∧ Below w.heap.size w w' := by
  have H0 := Lib.hid h0
  have H1 := Lib.hid h1
  clear h0 h1
  go_enter Try.func6, Try.ntmps6
  go_wp2_with fail
  refine (awake_any w).mono ?_
  rintro e w1 ⟨rfl, b1⟩
  have B1 := Lib.hid b1
  have hs1 := b1.size
  clear b1
  go_wp2_with fail
  refine (newmains w1).mono ?_
  rintro e w2 ⟨rfl, p2, b2, z2⟩
  have NW := Lib.hid (new_at p2 65536 (by decide) (by decide) 65536 rfl)
  have P2 := Lib.hid p2
  have B2 := Lib.hid (B1.out.trans (b2.mono hs1))
  have hs2 : w1.heap.size < w2.heap.size := by omega
  clear p2 b2 z2 B1
  go_wp2_with fail
  refine NW.out.mono ?_
  rintro e w3 ⟨rfl, r3, b3, z3⟩
  have P3 := P2.out.only (Only.of_below (S := []) b3) (by simp)
  have B3 := Lib.hid (B2.out.trans (b3.mono (by omega)))
  have LD := Lib.hid (load_any r3 P3 (kok (by decide) (by decide)) a0 n0 c0 l0 (H0.out.below B3.out (Nat.le_refl _)))
  have hs3 : w2.heap.size < w3.heap.size := by omega
  have hblk : blkOf (.slice none 0 0) w2.heap.size = w2.heap.size := rfl
  have HBLK := Lib.hid hblk
  clear r3 P3 b3 z3 NW P2 B2 hblk
  obtain ⟨bm, hbm⟩ : ∃ g, g = w1.heap.size := ⟨_, rfl⟩
  obtain ⟨br, hbr⟩ : ∃ g, g = w2.heap.size := ⟨_, rfl⟩
  rw [← hbm] at LD hs2 hs1 ⊢
  rw [← hbr] at LD hs2 hs3 HBLK ⊢
  clear hbm hbr
  have hbb : bm < br := by omega
  go_wp2_with fail
  refine LD.out.mono ?_
  rintro e w4 ⟨rfl, v4, r4, p4, ow4, o4⟩
  have B4 := Lib.hid (B3.out.trans (o4.below (by omega) (by simp; rw [HBLK.out]; omega)))
  have hs4 := o4.size
  clear LD o4 B3 ow4
  rcases load_cases 0 65536 [] l0 H0.out.2.2.2.1 with ⟨ek, hg0⟩ | ⟨k, hk, ek⟩
  · rw [ek] at r4 p4 ⊢
    have HG0 := Lib.hid hg0
    have R4 := Lib.hid (show RamAt w4 br bm 65536 v4 (laidAll l0) from r4)
    have P4 := Lib.hid (show PowAt w4 bm ⟨false, 0, 1⟩ from p4)
    clear ek hg0 r4 p4
    cases cut with
    | true =>
      have C5 := Lib.hid (cut_on P4.out 0 0 rfl (by decide))
      go_wp2_with fail
      refine C5.out.mono ?_
      rintro e w5 ⟨rfl, p5, o5⟩
      have P5 := Lib.hid p5
      have R5 := Lib.hid (R4.out.only o5 (by simp; omega) (fun g hg => by have := (own_lt R4.out.own hg).1; simp; omega))
      have B5 := Lib.hid (B4.out.trans (o5.below B4.out.size (by simp; omega)))
      clear p5 o5 C5 R4 P4 B4
      have L6 := Lib.hid (load_any R5.out P5.out (kok (by decide) (by decide)) a1 n1 c1 l1 (H1.out.below B5.out (Nat.le_refl _)))
      obtain ⟨k, p', hk, ek⟩ := load_cut 1 65536 (laidAll l0) l1
      rw [ek] at L6
      have k1 : ((k : Int) != 0) = true := by simp; omega
      have k2 : (k != 0) = true := by simp; omega
      clear ek
      go_wp2_with fail
      refine L6.out.mono ?_
      rintro e w6 ⟨rfl, v6, r6, p6, ow6, o6⟩
      have B6 := Lib.hid (B5.out.trans (o6.below B5.out.size (ram_ge R5.out (by omega))))
      have R6 := Lib.hid r6
      have P6 := Lib.hid p6
      clear r6 p6 ow6 o6 R5 P5 B5 L6
      have RS := Lib.hid (restore_any bm _ _ P6.out)
      go_wp2_with fail
      refine RS.out.mono ?_
      rintro e w7 ⟨rfl, p7, o7⟩
      have R7 := Lib.hid (R6.out.only o7 (by simp; omega) (fun g hg => by have := (own_lt R6.out.own hg).1; simp; omega))
      have B7 := Lib.hid (B6.out.trans (o7.below B6.out.size (by simp; omega)))
      clear p7 o7 RS R6 P6 B6
      have RC := Lib.hid (records_any R7.out)
      go_wp2_with fail
      refine RC.out.mono ?_
      rintro e wf ⟨rr, rfl, hof, bf⟩
      have BF := Lib.hid (B7.out.trans (bf.mono B7.out.size))
      have krec := H0.out.below BF.out (Nat.le_refl _) -- wf
      rw [scan_laid _ HG0.out, krec.1] at hof
      obtain ⟨ra, rc, rfl, rrec⟩ := own_recs krec.1 (fun r hr => (HG0.out r hr).1) hof
      have SR := Lib.hid (same_recs _ _ _ _ _ _ _ _ wf rrec krec)
      rw [decide_eq_true rfl] at SR
      clear hof bf rrec krec RC
      go_wp2_with fail
      refine SR.out.mono ?_
      rintro e w' ⟨rfl, nd, rfl⟩
      go_wp2_with fail
      go_ret
      exact ⟨rfl, below_drewN BF.out nd⟩
    | false =>
      have R5 := R4
      have P5 := P4
      have B5 := B4
      have L6 := Lib.hid (load_any R5.out P5.out (kok (by decide) (by decide)) a1 n1 c1 l1 (H1.out.below B5.out (Nat.le_refl _)))
      clear R4 P4 B4
      rcases load_cases 1 65536 (laidAll l0) l1 H1.out.2.2.2.1 with ⟨ek, hg1⟩ | ⟨k, hk, ek⟩
      · rw [ek] at L6
        have HG1 := Lib.hid hg1
        clear ek hg1
        go_wp2_with fail
        refine L6.out.mono ?_
        rintro e w6 ⟨rfl, v6, r6, p6, ow6, o6⟩
        have B6 := Lib.hid (B5.out.trans (o6.below B5.out.size (ram_ge R5.out (by omega))))
        have R6 := Lib.hid r6
        have P6 := Lib.hid p6
        clear r6 p6 ow6 o6 R5 P5 B5 L6
        have RS := Lib.hid (restore_any bm _ _ P6.out)
        go_wp2_with fail
        refine RS.out.mono ?_
        rintro e w7 ⟨rfl, p7, o7⟩
        have R7 := Lib.hid (R6.out.only o7 (by simp; omega) (fun g hg => by have := (own_lt R6.out.own hg).1; simp; omega))
        have B7 := Lib.hid (B6.out.trans (o7.below B6.out.size (by simp; omega)))
        clear p7 o7 RS R6 P6 B6
        have RC := Lib.hid (records_any R7.out)
        go_wp2_with fail
        refine RC.out.mono ?_
        rintro e wf ⟨rr, rfl, hof, bf⟩
        have BF := Lib.hid (B7.out.trans (bf.mono B7.out.size))
        have krec := H1.out.below BF.out (Nat.le_refl _)
        rw [scan_laid _ HG1.out, krec.1] at hof
        obtain ⟨ra, rc, rfl, rrec⟩ := own_recs krec.1 (fun r hr => (HG1.out r hr).1) hof
        have SR := Lib.hid (same_recs _ _ _ _ _ _ _ _ wf rrec krec)
        rw [decide_eq_true rfl] at SR
        clear hof bf rrec krec RC
        go_wp2_with fail
        refine SR.out.mono ?_
        rintro e w' ⟨rfl, nd, rfl⟩
        go_wp2_with fail
        go_ret
        exact ⟨rfl, below_drewN BF.out nd⟩
      · rw [ek] at L6
        have k1 : ((k : Int) != 0) = true := by simp; omega
        have k2 : (k != 0) = true := by simp; omega
        clear ek
        go_wp2_with fail
        refine L6.out.mono ?_
        rintro e w6 ⟨rfl, v6, r6, p6, ow6, o6⟩
        have B6 := Lib.hid (B5.out.trans (o6.below B5.out.size (ram_ge R5.out (by omega))))
        have R6 := Lib.hid r6
        have P6 := Lib.hid p6
        clear r6 p6 ow6 o6 R5 P5 B5 L6
        have RS := Lib.hid (restore_any bm _ _ P6.out)
        go_wp2_with fail
        refine RS.out.mono ?_
        rintro e w7 ⟨rfl, p7, o7⟩
        have R7 := Lib.hid (R6.out.only o7 (by simp; omega) (fun g hg => by have := (own_lt R6.out.own hg).1; simp; omega))
        have B7 := Lib.hid (B6.out.trans (o7.below B6.out.size (by simp; omega)))
        clear p7 o7 RS R6 P6 B6
        have RC := Lib.hid (records_any R7.out)
        go_wp2_with fail
        refine RC.out.mono ?_
        rintro e wf ⟨rr, rfl, hof, bf⟩
        have BF := Lib.hid (B7.out.trans (bf.mono B7.out.size))
        have krec := H0.out.below BF.out (Nat.le_refl _) -- wf
        rw [scan_laid _ HG0.out, krec.1] at hof
        obtain ⟨ra, rc, rfl, rrec⟩ := own_recs krec.1 (fun r hr => (HG0.out r hr).1) hof
        have SR := Lib.hid (same_recs _ _ _ _ _ _ _ _ wf rrec krec)
        rw [decide_eq_true rfl] at SR
        clear hof bf rrec krec RC
        go_wp2_with fail
        refine SR.out.mono ?_
        rintro e w' ⟨rfl, nd, rfl⟩
        go_wp2_with fail
        go_ret
        exact ⟨rfl, below_drewN BF.out nd⟩
  · rw [ek] at r4 p4 ⊢
    have R4 := Lib.hid (show RamAt w4 br bm 65536 v4 (laidAll []) from r4)
    have P4 := Lib.hid (show PowAt w4 bm ⟨false, 0, 0⟩ from p4)
    have j1 : ((k : Int) != 0) = true := by simp; omega
    have j2 : (k != 0) = true := by simp; omega
    have HNIL := Lib.hid (show ∀ r ∈ ([] : List Rc), r.Valid ∧ r.Good by simp)
    clear ek r4 p4 hk
    cases cut with
    | true =>
      have C5 := Lib.hid (cut_on P4.out 0 0 rfl (by decide))
      go_wp2_with fail
      refine C5.out.mono ?_
      rintro e w5 ⟨rfl, p5, o5⟩
      have P5 := Lib.hid p5
      have R5 := Lib.hid (R4.out.only o5 (by simp; omega) (fun g hg => by have := (own_lt R4.out.own hg).1; simp; omega))
      have B5 := Lib.hid (B4.out.trans (o5.below B4.out.size (by simp; omega)))
      clear p5 o5 C5 R4 P4 B4
      have L6 := Lib.hid (load_any R5.out P5.out (kok (by decide) (by decide)) a1 n1 c1 l1 (H1.out.below B5.out (Nat.le_refl _)))
      obtain ⟨k, p', hk, ek⟩ := load_cut 0 65536 (laidAll []) l1
      rw [ek] at L6
      have k1 : ((k : Int) != 0) = true := by simp; omega
      have k2 : (k != 0) = true := by simp; omega
      clear ek
      go_wp2_with fail
      refine L6.out.mono ?_
      rintro e w6 ⟨rfl, v6, r6, p6, ow6, o6⟩
      have B6 := Lib.hid (B5.out.trans (o6.below B5.out.size (ram_ge R5.out (by omega))))
      have R6 := Lib.hid r6
      have P6 := Lib.hid p6
      clear r6 p6 ow6 o6 R5 P5 B5 L6
      have RS := Lib.hid (restore_any bm _ _ P6.out)
      go_wp2_with fail
      refine RS.out.mono ?_
      rintro e w7 ⟨rfl, p7, o7⟩
      have R7 := Lib.hid (R6.out.only o7 (by simp; omega) (fun g hg => by have := (own_lt R6.out.own hg).1; simp; omega))
      have B7 := Lib.hid (B6.out.trans (o7.below B6.out.size (by simp; omega)))
      clear p7 o7 RS R6 P6 B6
      have RC := Lib.hid (records_any R7.out)
      go_wp2_with fail
      refine RC.out.mono ?_
      rintro e wf ⟨rr, rfl, hof, bf⟩
      have BF := Lib.hid (B7.out.trans (bf.mono B7.out.size))
      have krec := recs_nil wf
      rw [scan_laid _ HNIL.out, krec.1] at hof
      obtain ⟨ra, rc, rfl, rrec⟩ := own_recs krec.1 (fun r hr => (HNIL.out r hr).1) hof
      have SR := Lib.hid (same_recs _ _ _ _ _ _ _ _ wf rrec krec)
      rw [decide_eq_true rfl] at SR
      clear hof bf rrec krec RC
      go_wp2_with fail
      refine SR.out.mono ?_
      rintro e w' ⟨rfl, nd, rfl⟩
      go_wp2_with fail
      go_ret
      exact ⟨rfl, below_drewN BF.out nd⟩
    | false =>
      have R5 := R4
      have P5 := P4
      have B5 := B4
      have L6 := Lib.hid (load_any R5.out P5.out (kok (by decide) (by decide)) a1 n1 c1 l1 (H1.out.below B5.out (Nat.le_refl _)))
      clear R4 P4 B4
      rcases load_cases 0 65536 (laidAll []) l1 H1.out.2.2.2.1 with ⟨ek, hg1⟩ | ⟨k, hk, ek⟩
      · rw [ek] at L6
        have HG1 := Lib.hid hg1
        clear ek hg1
        go_wp2_with fail
        refine L6.out.mono ?_
        rintro e w6 ⟨rfl, v6, r6, p6, ow6, o6⟩
        have B6 := Lib.hid (B5.out.trans (o6.below B5.out.size (ram_ge R5.out (by omega))))
        have R6 := Lib.hid r6
        have P6 := Lib.hid p6
        clear r6 p6 ow6 o6 R5 P5 B5 L6
        have RS := Lib.hid (restore_any bm _ _ P6.out)
        go_wp2_with fail
        refine RS.out.mono ?_
        rintro e w7 ⟨rfl, p7, o7⟩
        have R7 := Lib.hid (R6.out.only o7 (by simp; omega) (fun g hg => by have := (own_lt R6.out.own hg).1; simp; omega))
        have B7 := Lib.hid (B6.out.trans (o7.below B6.out.size (by simp; omega)))
        clear p7 o7 RS R6 P6 B6
        have RC := Lib.hid (records_any R7.out)
        go_wp2_with fail
        refine RC.out.mono ?_
        rintro e wf ⟨rr, rfl, hof, bf⟩
        have BF := Lib.hid (B7.out.trans (bf.mono B7.out.size))
        have krec := H1.out.below BF.out (Nat.le_refl _)
        rw [scan_laid _ HG1.out, krec.1] at hof
        obtain ⟨ra, rc, rfl, rrec⟩ := own_recs krec.1 (fun r hr => (HG1.out r hr).1) hof
        have SR := Lib.hid (same_recs _ _ _ _ _ _ _ _ wf rrec krec)
        rw [decide_eq_true rfl] at SR
        clear hof bf rrec krec RC
        go_wp2_with fail
        refine SR.out.mono ?_
        rintro e w' ⟨rfl, nd, rfl⟩
        go_wp2_with fail
        go_ret
        exact ⟨rfl, below_drewN BF.out nd⟩
      · rw [ek] at L6
        have k1 : ((k : Int) != 0) = true := by simp; omega
        have k2 : (k != 0) = true := by simp; omega
        clear ek
        go_wp2_with fail
        refine L6.out.mono ?_
        rintro e w6 ⟨rfl, v6, r6, p6, ow6, o6⟩
        have B6 := Lib.hid (B5.out.trans (o6.below B5.out.size (ram_ge R5.out (by omega))))
        have R6 := Lib.hid r6
        have P6 := Lib.hid p6
        clear r6 p6 ow6 o6 R5 P5 B5 L6
        have RS := Lib.hid (restore_any bm _ _ P6.out)
        go_wp2_with fail
        refine RS.out.mono ?_
        rintro e w7 ⟨rfl, p7, o7⟩
        have R7 := Lib.hid (R6.out.only o7 (by simp; omega) (fun g hg => by have := (own_lt R6.out.own hg).1; simp; omega))
        have B7 := Lib.hid (B6.out.trans (o7.below B6.out.size (by simp; omega)))
        clear p7 o7 RS R6 P6 B6
        have RC := Lib.hid (records_any R7.out)
        go_wp2_with fail
        refine RC.out.mono ?_
        rintro e wf ⟨rr, rfl, hof, bf⟩
        have BF := Lib.hid (B7.out.trans (bf.mono B7.out.size))
        have krec := recs_nil wf
        rw [scan_laid _ HNIL.out, krec.1] at hof
        obtain ⟨ra, rc, rfl, rrec⟩ := own_recs krec.1 (fun r hr => (HNIL.out r hr).1) hof
        have SR := Lib.hid (same_recs _ _ _ _ _ _ _ _ wf rrec krec)
        rw [decide_eq_true rfl] at SR
        clear hof bf rrec krec RC
        go_wp2_with fail
        refine SR.out.mono ?_
        rintro e w' ⟨rfl, nd, rfl⟩
        go_wp2_with fail
        go_ret
        exact ⟨rfl, below_drewN BF.out nd⟩
section
variable {H : Type} {enc : TypeId × Value → H} {base : Nat} {spare : Nat → Bool} {held : Bool} {W : World}
theorem loads_in (a : Option Addr) (n ca : Nat) (lf : Opens.LfOk enc Try.prog W base spare held (.slice 27) (.slice a n ca)) (b : Option Addr) (m cb : Nat) (lg : Opens.LfOk enc Try.prog W base spare held (.slice 27) (.slice b m cb)) (cut : Bool) :
    Calls Try.prog 6 #[.slice a n ca, .slice b m cb, .bool cut] W fun e w' => e = .returned (.bool true) ∧ Below W.heap.size W w' := by
  obtain ⟨rs, hrs⟩ := rcs_in lf
  obtain ⟨qs, hqs⟩ := rcs_in lg
  exact loads_walk a n ca rs b m cb qs cut W hrs hqs
end
end Go.Proofs.Ytobblbplanimgaa.Nvram
