/-
  SameBytes of the reference and Equal of the library by contract. Helper text; no statement is proved here.
-/
import Derived.Test.YtfjaoompdleljaaOwnB
import Derived.BigQuiet
import Derived.Deep.QuietTactic
set_option linter.unusedVariables false
set_option maxRecDepth 20000
set_option linter.unusedSimpArgs false
namespace Go.Proofs.Ytfjaoompdleljaa.Same
open Go.RowKit Go.Proofs.Ytfjaoompdleljaa.Base Go.Proofs.Ytfjaoompdleljaa.Laws
theorem take_eq_of {α : Type} {la lb : List α} (h : la.length = lb.length) {k : Nat} (hk : k = la.length) (ht : la.take k = lb.take k) : la = lb := by
  subst hk
  rwa [List.take_of_length_le (Nat.le_refl _), List.take_of_length_le (by omega)] at ht
theorem u8_ne {x y : UInt8} : ((x.toNat : Int) = (y.toNat : Int)) ↔ x = y := by
  constructor
  · intro h
    exact UInt8.toNat_inj.1 (by omega)
  · rintro rfl; rfl
set_option maxHeartbeats 1000000 in
theorem same_any (a : Option Addr) (n c : Nat) (la : List UInt8) (b : Option Addr) (m d : Nat) (lb : List UInt8) (w : World) (ha : Bts w a n c la) (hb : Bts w b m d lb) :
    Calls Try.prog 17 #[.slice a n c, .slice b m d] w fun e w' => e = .returned (.bool (decide (la = lb))) ∧ ∃ nd, w' = w.drewN nd := by
  obtain ⟨h1, h2, h3, h4⟩ := ha
  obtain ⟨g1, g2, g3, g4⟩ := hb
  unfold maxLen at h3 g3
  by_cases hnm : n = m
  · subst hnm
    have HL := Lib.hid (show la.length = lb.length by omega)
    have HA := Lib.hid (show ∀ i x, la[i]? = some x → ∃ ad : Addr, a = some ad ∧ w.cell? (ad.add i) = some (u8 x) from fun i x hx => by
      rcases h4 with h4 | ⟨p, o, rfl, hc⟩
      · subst h4; simp [List.eq_nil_of_length_eq_zero h1] at hx
      · exact ⟨_, rfl, by rw [Addr.add_lit]; exact hc i x hx⟩)
    have HB := Lib.hid (show ∀ i x, lb[i]? = some x → ∃ ad : Addr, b = some ad ∧ w.cell? (ad.add i) = some (u8 x) from fun i x hx => by
      rcases g4 with g4 | ⟨p, o, rfl, hc⟩
      · subst g4; simp [List.eq_nil_of_length_eq_zero g1] at hx
      · exact ⟨_, rfl, by rw [Addr.add_lit]; exact hc i x hx⟩)
    clear h4 g4
    go_enter Try.func17, Try.ntmps17
    go_wp2
    go_loopw [5] (fun i wr => ∃ k nd : Nat, k ≤ n ∧ i = .int .i64 k ∧ la.take k = lb.take k ∧ wr = w.drewN nd) (fun i _ => n - (intOf i).toNat)
    case atStart => exact ⟨0, 0, by omega, rfl, rfl, rfl⟩
    case round =>
      obtain ⟨k, nd, hk, rfl, ht, rfl⟩ := hrel
      have HT := Lib.hid ht
      clear ht
      by_cases hkn : k < n
      · have hx : la[k]? = some la[k] := List.getElem?_eq_getElem (by omega)
        have hy : lb[k]? = some lb[k] := List.getElem?_eq_getElem (by omega)
        obtain ⟨x, hx2⟩ : ∃ x, x = la[k] := ⟨_, rfl⟩
        obtain ⟨y, hy2⟩ : ∃ y, y = lb[k] := ⟨_, rfl⟩
        rw [← hx2] at hx
        rw [← hy2] at hy
        obtain ⟨p, rfl, hp⟩ := HA.out k x hx
        obtain ⟨q, rfl, hq⟩ := HB.out k y hy
        have X1 := Lib.hid (take_snoc la k x hx)
        have Y1 := Lib.hid (take_snoc lb k y hy)
        have XG := Lib.hid hx
        have YG := Lib.hid hy
        unfold u8 at hp hq
        clear hx hy hx2 hy2
        by_cases hxy : x = y
        · have hv : ((x.toNat : Int) = (y.toNat : Int)) := by rw [hxy]
          go_wp2
          go_quiet (fail)
          go_wp2
          go_roundw
          case rel => exact ⟨k + 1, nd + nq, by omega, by go_num, by rw [X1.out, Y1.out, HT.out, hxy], rfl⟩
          case measure => simp [intOf]; omega
        · have hv : ¬ ((x.toNat : Int) = (y.toNat : Int)) := fun h => hxy (u8_ne.1 h)
          go_wp2
          go_quiet (fail)
          go_wp2
          go_ret
          refine ⟨ret_bool (decide_eq_false fun e => hxy ?_).symm, nd + nq, World.drewN_drewN ..⟩
          have := XG.out
          rw [e, YG.out] at this
          exact (Option.some.inj this).symm
      · go_wp2
        go_ret
        exact ⟨ret_bool (decide_eq_true (take_eq_of HL.out (by omega) HT.out)).symm, _, rfl⟩
  · have HN := Lib.hid (show la ≠ lb from fun e => by subst e; omega)
    have hnm' : ¬ ((n : Int) = m) := by omega
    go_enter Try.func17, Try.ntmps17
    go_wp2
    go_ret
    exact ⟨ret_bool (decide_eq_false HN.out).symm, 0, rfl⟩
end Go.Proofs.Ytfjaoompdleljaa.Same
