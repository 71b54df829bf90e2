/-
  SameRecords of the reference by contract. Helper text; no statement is proved here.
-/
import Derived.Test.YtobblbplanimgaaScanPlain
import Derived.Test.YtobblbplanimgaaSame
import Derived.StillTailTactics
set_option linter.unusedVariables false
set_option maxRecDepth 20000
set_option linter.unusedSimpArgs false
namespace Go.Proofs.Ytobblbplanimgaa.Codec
open Go.RowKit Go.Proofs.Ytobblbplanimgaa.Base Go.Proofs.Ytobblbplanimgaa.Laws Go.Proofs.Ytobblbplanimgaa.InvM
theorem rec_at {w : World} {b o : Nat} {rs : List Rc} (hv : ∀ r ∈ rs, r.Valid) (hc : ∀ j u, (rv rs)[j]? = some u → w.cell? ⟨b, o + j, none⟩ = some u) {i : Nat} {r : Rc} (hr : rs[i]? = some r) : ∀ j u, r.cells[j]? = some u → w.cell? ((⟨b, o + i * 19, none⟩ : Addr).add j) = some u := fun j u hu => by
  rw [Addr.add_lit, Nat.add_assoc]
  exact hc _ u (rv_get hv i r hr j u hu)
set_option maxRecDepth 4000 in
set_option maxHeartbeats 2000000 in
theorem same_recs (a : Option Addr) (n c : Nat) (la : List Rc) (b : Option Addr) (m d : Nat) (lb : List Rc) (w : World) (ha : Recs w a n c la) (hb : Recs w b m d lb) :
    Calls Try.prog 16 #[.slice a n c, .slice b m d] w fun e w' => e = .returned (.bool (decide (la = lb))) ∧ ∃ nd, w' = w.drewN nd := by
  obtain ⟨h1, h2, h3, h5, h4⟩ := ha
  obtain ⟨g1, g2, g3, g5, g4⟩ := hb
  unfold maxLen at h3 g3
  by_cases hnm : n = m
  · subst hnm
    have HL := Lib.hid (show la.length = lb.length by omega)
    have HV := Lib.hid h5
    have GV := Lib.hid g5
    by_cases h0 : n = 0
    · subst h0
      have e : la = lb := by rw [List.eq_nil_of_length_eq_zero h1, List.eq_nil_of_length_eq_zero g1]
      have HE := Lib.hid e
      clear h4 g4 h5 g5 e
      go_enter Try.func16, Try.ntmps16
      go_wp2
      refine wp_loop_rounds 1 ?_
      rw [rounds_succ]
      go_wp2
      go_ret
      exact ⟨ret_bool (decide_eq_true HE.out).symm, 0, rfl⟩
    rcases h4 with h4 | ⟨p, o, rfl, hc⟩
    · omega
    rcases g4 with g4 | ⟨q, u, rfl, gc⟩
    · omega
    have HA := Lib.hid hc
    have HB := Lib.hid gc
    clear hc gc h5 g5
    go_enter Try.func16, Try.ntmps16
    go_wp2
    go_loopw [5] (fun i wr => ∃ k nd : Nat, k ≤ n ∧ i = .int .i64 k ∧ la.take k = lb.take k ∧ wr = w.drewN nd) (fun i _ => n - (intOf i).toNat)
    case atStart => exact ⟨0, 0, by omega, rfl, rfl, rfl⟩
    case round =>
      obtain ⟨k, nd, hk, rfl, ht, rfl⟩ := hrel
      have HT := Lib.hid ht
      clear ht
      by_cases hkn : k < n
      · obtain ⟨x, hx⟩ : ∃ x, la[k]? = some x := ⟨_, List.getElem?_eq_getElem (by omega)⟩
        obtain ⟨y, hy⟩ : ∃ x, lb[k]? = some x := ⟨_, List.getElem?_eq_getElem (by omega)⟩
        have xv := HV.out x (List.mem_of_getElem? hx)
        have yv := GV.out y (List.mem_of_getElem? hy)
        have X1 := Lib.hid (take_snoc la k x hx)
        have Y1 := Lib.hid (take_snoc lb k y hy)
        have XC := Lib.hid (rec_at HV.out HA.out hx)
        have YC := Lib.hid (rec_at GV.out HB.out hy)
        have XL := Lib.hid (Rc.len xv)
        have YL := Lib.hid (Rc.len yv)
        have XE := Lib.hid (Rc.eq xv yv)
        have XG := Lib.hid hx
        have YG := Lib.hid hy
        clear hx hy xv yv
        go_wp2
        refine wp_region_still_tail 8 (by kernel_rfl) (by kernel_rfl) ?_
        simp only [List.take_succ_cons, List.take_zero, List.drop_succ_cons, List.drop_zero]
        still_step
        still_step
        still_step
        refine wpStill_value rfl (.agg x.cells.toArray) (exec_load_from (m := 19) rfl rfl XC.out Try.underlying27 rfl (by kernel_rfl) XL.out) ?_
        still_step
        still_step
        still_step
        refine wpStill_value rfl (.agg y.cells.toArray) (exec_load_from (m := 19) rfl rfl YC.out Try.underlying27 rfl (by kernel_rfl) YL.out) ?_
        refine wpStill_nil ?_
        change wpList _ _ _ _ _ (w.drewN nd).drew
        rw [World.drew_drewN]
        by_cases hxy : x = y
        · refine wpList_value_g rfl (.bool (!true)) (exec_neq rfl rfl rfl (by kernel_rfl) ((XE.out (w.drewN (nd + 1))).trans (by rw [decide_eq_true hxy]))) ?_
          simp only [Bool.not_true, Bool.not_false]
          go_wp2
          go_roundw
          case rel => exact ⟨k + 1, nd + 1, by omega, by go_num, by rw [X1.out, Y1.out, HT.out, hxy], rfl⟩
          case measure => simp [intOf]; omega
        · refine wpList_value_g rfl (.bool (!false)) (exec_neq rfl rfl rfl (by kernel_rfl) ((XE.out (w.drewN (nd + 1))).trans (by rw [decide_eq_false hxy]))) ?_
          simp only [Bool.not_true, Bool.not_false]
          go_wp2
          go_ret
          refine ⟨ret_bool (decide_eq_false fun e => hxy ?_).symm, nd + 1, rfl⟩
          have := XG.out
          rw [e, YG.out] at this
          exact (Option.some.inj this).symm
      · go_wp2
        go_ret
        exact ⟨ret_bool (decide_eq_true (Same.take_eq_of HL.out (by omega) HT.out)).symm, _, rfl⟩
  · have HN := Lib.hid (show la ≠ lb from fun e => by subst e; omega)
    have hnm' : ¬ ((n : Int) = m) := by omega
    clear h4 g4 h5 g5
    go_enter Try.func16, Try.ntmps16
    go_wp2
    go_ret
    exact ⟨ret_bool (decide_eq_false HN.out).symm, 0, rfl⟩
end Go.Proofs.Ytobblbplanimgaa.Codec
