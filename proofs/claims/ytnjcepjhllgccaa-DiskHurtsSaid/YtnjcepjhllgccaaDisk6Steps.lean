/-
  The walk of the statement on steps. Helper text; no statement is proved here.
-/
import Derived.Test.YtnjcepjhllgccaaDisk6A
import Derived.Test.YtnjcepjhllgccaaSlIn
set_option linter.unusedVariables false
set_option linter.unusedSimpArgs false
namespace Go.Proofs.Ytnjcepjhllgccaa.Disk
open Go.RowKit Go.Proofs.Ytnjcepjhllgccaa.Base Go.Proofs.Ytnjcepjhllgccaa.Laws Go.Proofs.Ytnjcepjhllgccaa.Flat Go.Proofs.Ytnjcepjhllgccaa.InvM
theorem pstep2 {n k T : Nat} (h : k < n) : Pow.step ⟨false, n + 1 - k, T + k⟩ = (true, ⟨false, n + 1 - (k + 1), T + (k + 1)⟩) := by
  unfold Pow.step
  simp only [Bool.false_eq_true, if_false]
  rw [if_neg (by omega), if_neg (by omega), show n + 1 - k - 1 = n + 1 - (k + 1) from by omega, Nat.add_assoc]
theorem pstep1 (T : Nat) : Pow.step ⟨false, 1, T⟩ = (false, ⟨true, 0, T⟩) := rfl
theorem pstep0 (T : Nat) : Pow.step ⟨false, 0, T⟩ = (true, ⟨false, 0, T + 1⟩) := rfl
theorem pstepo (l T : Nat) : Pow.step ⟨true, l, T⟩ = (false, ⟨true, l, T⟩) := rfl
theorem pok {o : Bool} {l T : Nat} (hl : l ≤ 1000000) (hT : T ≤ 1000000) : Pow.Ok ⟨o, l, T⟩ := ⟨by show l ≤ _; omega, by show T ≤ _; omega⟩
theorem only_bel {w wo w' : World} {b : Nat} (hb : b = w.heap.size) (h : Below w.heap.size w wo) (o : Only [b] wo w') : Below w.heap.size w w' :=
  h.trans (o.below h.size (by simp [hb]))
/-- at the head of a round -/
def SI (w : World) (b T : Nat) (wr : World) : Prop := PowAt wr b ⟨false, 0, T⟩ ∧ Below w.heap.size w wr
/-- at the head of an inner round -/
def SJ (w : World) (b T n k : Nat) (wr : World) : Prop := PowAt wr b ⟨false, n + 1 - k, T + k⟩ ∧ Below w.heap.size w wr
set_option maxRecDepth 100000 in
set_option maxHeartbeats 2000000 in
theorem steps_walk (a : Option Addr) (len cap : Nat) (l : List UInt8) (w : World) (h : Bts w a len cap l) :
    Calls Try.prog 4 #[.slice a len cap] w fun e w' => e = .returned (.bool true) ∧ Below w.heap.size w w' := by
  have hl := h.1
  have hm := h.2.1
  have hm2 := h.2.2.1
  unfold maxLen at hm2
  have H0 := Lib.hid h
  have HL := Lib.hid hl
  clear h hl
  go_enter Try.func4, Try.ntmps4
  go_wp2_with fail
  refine (newmains w).mono ?_
  rintro e w1 ⟨rfl, p1, b1, z1⟩
  have P1 := Lib.hid p1
  have B1 := Lib.hid b1
  have hs1 := b1.size
  clear p1 b1 z1
  go_wp2_with fail
  refine (awake_any w1).mono ?_
  rintro e w2 ⟨rfl, b2⟩
  have P2 := Lib.hid (P1.out.only (Only.of_below (S := []) b2) (by simp))
  have B2 := Lib.hid (B1.out.trans (b2.mono hs1))
  clear b2 P1 B1
  go_wp2_with fail
  obtain ⟨b, hb⟩ : ∃ b, b = w.heap.size := ⟨_, rfl⟩
  rw [← hb]
  rw [← hb] at P2
  have HB := Lib.hid hb
  clear hb
  go_loopw [4, 5] (fun t j wr => ∃ i T : Nat, i ≤ len ∧ i ≤ 40 ∧ T ≤ 20 * i ∧ j = .int .i64 i ∧ t = .int .i64 T ∧ SI w b T wr) (fun _ j _ => len - (intOf j).toNat)
  case atStart => exact ⟨0, 0, by omega, by omega, by omega, rfl, rfl, P2.out, B2.out⟩
  case round =>
    obtain ⟨i, T, hi, hi40, hT, rfl, rfl, hp, hbel⟩ := hrel
    obtain ⟨wo, rfl⟩ : ∃ wo : World, wo = wr := ⟨_, rfl⟩
    have P := Lib.hid hp
    have BL := Lib.hid hbel
    have hTi : (T : Int) ≤ 800 := by omega
    have hT0 : (0 : Int) ≤ (T : Int) := by omega
    clear hp hbel
    by_cases hgo : i < len ∧ i < 40
    · obtain ⟨hlt, hlt40⟩ := hgo
      obtain ⟨u, hu⟩ : ∃ u, l[i]? = some u := ⟨_, List.getElem?_eq_getElem (by rw [HL.out]; exact hlt)⟩
      obtain ⟨g, o, rfl, hc⟩ := ((H0.out.below BL.out (Nat.le_refl _)).2.2.2).resolve_left (by omega)
      have hcell := hc i u hu
      unfold u8 at hcell
      obtain ⟨n, hn⟩ : ∃ n : Nat, n = u.toNat % 20 := ⟨_, rfl⟩
      have hn20 : n < 20 := by omega
      have e1 : (u.toNat : Int) % 20 = (n : Int) := by omega
      have u0 : (0 : Int) ≤ (u.toNat : Int) := by omega
      have u1 : (u.toNat : Int) < 256 := by have := u.toNat_lt; omega
      have C1 := Lib.hid (cut_on P.out 99 99 rfl (by decide))
      clear hc hu hn
      go_wp2_with fail
      refine C1.out.mono ?_
      rintro e w3 ⟨rfl, p3, o3⟩
      have P3 := Lib.hid p3
      have B3 := Lib.hid (only_bel HB.out BL.out o3)
      have C2 := Lib.hid (cut_on P3.out n n rfl (by omega))
      clear p3 o3
      go_wp2_with fail
      refine C2.out.mono ?_
      rintro e w4 ⟨rfl, p4, o4⟩
      have P4 := Lib.hid p4
      have B4 := Lib.hid (only_bel HB.out B3.out o4)
      clear p4 o4
      go_wp2_with fail
      go_loopw [4, 7] (fun t k wr => ∃ j : Nat, j ≤ n ∧ k = .int .i64 j ∧ t = .int .i64 (T + j : Nat) ∧ SJ w b T n j wr) (fun _ k _ => n - (intOf k).toNat)
      case atStart => exact ⟨0, by omega, rfl, rfl, P4.out, B4.out⟩
      case round =>
        obtain ⟨j, hj, rfl, rfl, hp, hbel⟩ := hrel
        obtain ⟨wi, rfl⟩ : ∃ wi : World, wi = wr := ⟨_, rfl⟩
        have P := Lib.hid hp
        have BI := Lib.hid hbel
        have t0 : (0 : Int) ≤ ((T + j : Nat) : Int) := by omega
        have t1 : ((T + j : Nat) : Int) ≤ 900 := by omega
        clear hp hbel
        by_cases hjn : j < n
        · have S1 := Lib.hid (step_at P.out (pok (by omega) (by omega)) true _ (pstep2 hjn))
          go_wp2_with fail
          refine S1.out.mono ?_
          rintro e w5 ⟨rfl, p5, o5⟩
          have P5 := Lib.hid p5
          have B5 := Lib.hid (only_bel HB.out BI.out o5)
          have N5 := Lib.hid (on_at p5 true rfl)
          clear p5 o5
          go_wp2_with (first | (go_at_call 16; refine N5.out.mono ?_; rintro e w' ⟨rfl, rfl⟩))
          go_roundw
          case rel => exact ⟨j + 1, by omega, by go_num, by go_num, P5.out, B5.out⟩
          case measure => simp [intOf]; omega
        · obtain rfl : j = n := by omega
          have S1 := Lib.hid (step_at P.out (pok (by omega) (by omega)) false ⟨true, 0, T + j⟩ (by rw [show j + 1 - j = 1 from by omega]; rfl))
          go_wp2_with fail
          refine S1.out.mono ?_
          rintro e w5 ⟨rfl, p5, o5⟩
          have P5 := Lib.hid p5
          have B5 := Lib.hid (only_bel HB.out BI.out o5)
          have N5 := Lib.hid (on_at p5 false rfl)
          clear p5 o5
          go_wp2_with fail
          refine N5.out.mono ?_
          rintro e w' ⟨rfl, rfl⟩
          have S2 := Lib.hid (step_at P5.out (pok (by omega) (by omega)) false _ rfl)
          go_wp2_with fail
          refine S2.out.mono ?_
          rintro e w6 ⟨rfl, p6, o6⟩
          have P6 := Lib.hid p6
          have B6 := Lib.hid (only_bel HB.out B5.out o6)
          have C6 := Lib.hid (cut_off P6.out 3 3 rfl (by decide))
          clear p6 o6
          go_wp2_with fail
          refine C6.out.mono ?_
          rintro e w7 ⟨rfl, p7, o7⟩
          have P7 := Lib.hid p7
          have B7 := Lib.hid (only_bel HB.out B6.out o7)
          have N7 := Lib.hid (steps_at P7.out (pok (by omega) (by omega)) ((T + j : Nat) : Int) rfl)
          clear p7 o7
          go_wp2_with fail
          refine N7.out.mono ?_
          rintro e w' ⟨rfl, rfl⟩
          have R8 := Lib.hid (restore_any b _ _ P7.out)
          go_wp2_with fail
          refine R8.out.mono ?_
          rintro e w8 ⟨rfl, p8, o8⟩
          have P8 := Lib.hid p8
          have B8 := Lib.hid (only_bel HB.out B7.out o8)
          have S9 := Lib.hid (step_at P8.out (pok (by omega) (by omega)) true _ rfl)
          clear p8 o8
          go_wp2_with fail
          refine S9.out.mono ?_
          rintro e w9 ⟨rfl, p9, o9⟩
          have P9 := Lib.hid p9
          have B9 := Lib.hid (only_bel HB.out B8.out o9)
          clear p9 o9
          go_wp2_with fail
          go_roundw
          case rel => exact ⟨i + 1, T + j + 1, by omega, by omega, by omega, by go_num, by go_num, P9.out, B9.out⟩
          case measure => simp [intOf]; omega
    · have N1 := Lib.hid (steps_at P.out (pok (by omega) (by omega)) (T : Int) rfl)
      have N2 := Lib.hid (on_at P.out true rfl)
      have h40 : i < len → (40 : Int) ≤ (i : Int) := fun hl => by
        have : ¬ i < 40 := fun hh => hgo ⟨hl, hh⟩
        omega
      clear hgo
      by_cases hlt : i < len
      · have h41 := h40 hlt
        clear h40
        go_wp2_with (first | (go_at_call 17; refine N1.out.mono ?_; rintro e w' ⟨rfl, rfl⟩) | (go_at_call 16; refine N2.out.mono ?_; rintro e w' ⟨rfl, rfl⟩))
        go_ret
        exact ⟨rfl, BL.out⟩
      · clear h40
        go_wp2_with (first | (go_at_call 17; refine N1.out.mono ?_; rintro e w' ⟨rfl, rfl⟩) | (go_at_call 16; refine N2.out.mono ?_; rintro e w' ⟨rfl, rfl⟩))
        go_ret
        exact ⟨rfl, BL.out⟩
section
variable {H : Type} {enc : TypeId × Value → H} {base : Nat} {spare : Nat → Bool} {held : Bool} {W : World}
theorem steps_in (a : Option Addr) (n ca : Nat) (lf : Opens.LfOk enc Try.prog W base spare held (.slice 5) (.slice a n ca)) :
    Calls Try.prog 4 #[.slice a n ca] W fun e w' => e = .returned (.bool true) ∧ Below W.heap.size W w' := by
  obtain ⟨l, ha, hs⟩ := bytes_in lf
  exact steps_walk a n ca l W ha
end
end Go.Proofs.Ytnjcepjhllgccaa.Disk
