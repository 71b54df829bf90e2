/-
  Tick of a link by contract. Helper text; no statement is proved here.
-/
import Derived.Test.YtfjaoompdleljaaLv
set_option linter.unusedVariables false
set_option maxRecDepth 20000
set_option linter.unusedSimpArgs false
namespace Go.Proofs.Ytfjaoompdleljaa.Link
open Go.RowKit Go.Proofs.Ytfjaoompdleljaa.Base Go.Proofs.Ytfjaoompdleljaa.Laws Go.Proofs.Ytfjaoompdleljaa.Disk Go.Proofs.Ytfjaoompdleljaa.Row Go.Proofs.Ytfjaoompdleljaa.Flat Go.Proofs.Ytfjaoompdleljaa.InvM
def Lk.try1 (k : Lk) (n : Nat) (m : Mk) : Lk := if k.fl.length < 1024 then k.put n m.s m.B else k
def Lk.tries (k : Lk) (n : Nat) (ms : List Mk) : Lk := ms.foldl (fun k m => k.try1 n m) k
theorem tries_snoc (k : Lk) (n : Nat) (ms : List Mk) (m : Mk) : k.tries n (ms ++ [m]) = (k.tries n ms).try1 n m := by
  unfold Lk.tries; rw [List.foldl_append]; rfl
theorem try1_en (k : Lk) (n : Nat) (m : Mk) : (k.try1 n m).ep = k.ep ∧ (k.try1 n m).a = k.a ∧ (k.try1 n m).b = k.b ∧ k.fl.length ≤ (k.try1 n m).fl.length ∧ (k.fl.length ≤ 1024 → (k.try1 n m).fl.length ≤ 1024) := by
  unfold Lk.try1
  split
  · refine ⟨rfl, rfl, rfl, ?_, fun h => ?_⟩
    · show k.fl.length ≤ (k.fl ++ [_]).length; simp
    · show (k.fl ++ [_]).length ≤ 1024; simp; omega
  · exact ⟨rfl, rfl, rfl, Nat.le_refl _, fun h => h⟩
theorem tries_en (k : Lk) (n : Nat) (ms : List Mk) : (k.tries n ms).ep = k.ep ∧ (k.tries n ms).a = k.a ∧ (k.tries n ms).b = k.b ∧ k.fl.length ≤ (k.tries n ms).fl.length ∧ (k.fl.length ≤ 1024 → (k.tries n ms).fl.length ≤ 1024) := by
  unfold Lk.tries
  induction ms generalizing k with
  | nil => exact ⟨rfl, rfl, rfl, Nat.le_refl _, fun h => h⟩
  | cons m ms ih =>
    obtain ⟨h1, h2, h3, h4, h5⟩ := ih (k.try1 n m)
    obtain ⟨g1, g2, g3, g4, g5⟩ := try1_en k n m
    exact ⟨h1.trans g1, h2.trans g2, h3.trans g3, Nat.le_trans g4 h4, fun h => h5 (g5 h)⟩
def Lk.tick (k : Lk) : Lk := (k.tries 0 k.a.op).tries 1 k.b.op
section
variable {w : World} {bl : Nat} {V : Nat → Value} {A : List Nat} {k : Lk}
set_option maxHeartbeats 2000000 in
theorem tick_any (h : LinkAt w bl V A k) (hfl : k.fl.length ≤ 1024) (hop : ∀ n, n < 2 → (k.en n).op.length ≤ 256) : Calls Try.prog 18 #[.pointer (some ⟨bl, 0, none⟩)] w fun e w' => e = .returned (.int .i64 ((k.tick.fl.length - k.fl.length : Nat) : Int)) ∧ ∃ V', Goes w bl V A w' V' k.tick := by
  obtain ⟨F0, hF0⟩ : ∃ F0, F0 = k.fl.length := ⟨_, rfl⟩
  have HF := Lib.hid hF0
  have HOP := Lib.hid hop
  have G0 := Lib.hid (Goes.refl h)
  rw [← hF0] at hfl ⊢
  clear h hop hF0
  go_enter Try.func18, Try.ntmps18
  go_wp2_with fail
  refine wp_loop_rounds 3 ?_
  rw [rounds_succ]
  obtain ⟨ops0, hops0⟩ : ∃ o, o = (k.en 0).op := ⟨_, rfl⟩
  obtain ⟨oa0, oc0, ov0, _⟩ := G0.out.at_.slO 0 (by decide)
  obtain ⟨N0, hN0⟩ : ∃ N, N = ops0.length := ⟨_, rfl⟩
  have hN256_0 : N0 ≤ 256 := by rw [hN0, hops0]; exact HOP.out 0 (by decide)
  rw [← hops0, ← hN0] at ov0
  have c0 : w.cell? ⟨bl, 1, none⟩ = some (.slice oa0 N0 oc0) := by rw [← ov0]; exact G0.out.at_.cell 1
  have HN0 := Lib.hid hN0
  have HO0 := Lib.hid hops0
  have HV0 := Lib.hid ov0
  clear hops0 hN0 ov0
  go_wp2_with fail
  go_loopw [20, 3] (fun i nn wr => ∃ j : Nat, ∃ V', j ≤ N0 ∧ i = .int .i64 j ∧ nn = .int .i64 (((k.tries 0 (ops0.take j)).fl.length - F0 : Nat) : Int) ∧ Goes w bl V A wr V' (k.tries 0 (ops0.take j)) ∧ V' 0 = .slice oa0 N0 oc0) (fun i _ _ => N0 - (intOf i).toNat)
  case atStart => exact ⟨0, _, by omega, rfl, (by have := HF.out; show _ = Value.int .i64 ((k.fl.length - F0 : Nat) : Int); rw [show k.fl.length - F0 = 0 by omega]; rfl), G0.out, HV0.out⟩
  case round =>
    obtain ⟨j, V', hj, rfl, rfl, hg, hv'⟩ := hrel
    have HG := Lib.hid hg
    have HV' := Lib.hid hv'
    clear hg hv'
    by_cases hjn : j < N0
    · obtain ⟨m, hm⟩ : ∃ m, ops0[j]? = some m := ⟨_, List.getElem?_eq_getElem (by have := HN0.out; omega)⟩
      have HM := Lib.hid hm
      have hops : ((k.tries 0 (ops0.take j)).en 0).op = ops0 := by
        have := congrArg En.op (tries_en k 0 (ops0.take j)).2.1
        exact this.trans HO0.out.symm
      obtain ⟨g, c', y, ee, hgl, hcy, hY⟩ := (HG.out.at_.o 0 (by decide)).at_ (fun _ => rfl) j m (by rw [hops]; exact hm)
      rw [show V' (2 * 0) = _ from HV'.out] at ee
      obtain ⟨rfl, _, _⟩ : oa0 = some ⟨g, 0, none⟩ ∧ True ∧ True := by
        simp only [Value.slice.injEq] at ee
        exact ⟨ee.1, trivial, trivial⟩
      obtain ⟨ya, yc, hy, _, _⟩ := hY.slice
      obtain ⟨yl, hyl⟩ : ∃ yl, yl = m.B.length := ⟨_, rfl⟩
      rw [← hyl] at hy
      obtain ⟨mv, hmv⟩ : ∃ mv, mv = mc (m, y) := ⟨_, rfl⟩
      have HMV := Lib.hid hmv
      have LD := Lib.hid (show ∀ i v, mv[i]? = some v → wr.cell? ((⟨g, j * 4, none⟩ : Addr).add i) = some v from fun i v hi => by
        rw [Addr.add_lit]
        exact hcy i v (by rw [← hmv]; exact hi))
      have M4 := Lib.hid (show mv.length = 4 by rw [hmv]; rfl)
      have M1 := Lib.hid (show ∀ u ∈ mv, u.oneCell' = true by rw [hmv]; exact mc_one hY.one)
      have Z2 := Lib.hid (blk_at (w := wr) (g := wr.heap.size) (cs := zmk) (t := 71) (arr := #[.int .u32 0, .int .u32 0, .int .u32 0, .slice none 0 0]) rfl rfl)
      have HY := Lib.hid hY
      have HYS := Lib.hid hy
      clear hm hops ee hcy hY hmv hy hyl
      go_upto_region 10 with (first | (refine wpList_value_g rfl (.agg mv.toArray) (exec_load_from rfl rfl LD.out Try.underlying71 rfl (by kernel_rfl) M4.out) ?_) | (refine wpList_store_blk rfl 71 _ _ rfl wr.heap.size 0 4 rfl 71 zmk mv rfl Z2.out (by kernel_rfl) M4.out (by decide) M1.out ?_; intro w3 z3 g3; have Z3 := Lib.hid z3; have G3 := Lib.hid g3; clear z3 g3))
      have B3 := Lib.hid (below_grown ((Below.refl wr.heap.size wr).alloc (Nat.le_refl _) _) G3.out (by simp) (Nat.le_refl _))
      obtain ⟨pb, hpb⟩ : ∃ pb, pb = wr.heap.size := ⟨_, rfl⟩
      have P6 := Lib.hid (show Blk w3 pb (mc (m, y)) 71 from by have := Z3.out; rw [put_all _ _ (by rw [M4.out]; rfl), ← hpb, HMV.out] at this; exact this)
      have H3 := Lib.hid (HG.out.keep B3.out)
      have Y3 := Lib.hid (HY.out.move (Only.of_below (S := []) B3.out) (by simp) (fun x hx => .inl hx))
      have q1 : w3.cell? ⟨pb, 1, none⟩ = some (.int .u32 (m.s : Int)) := P6.out.cell 1
      have q3 : w3.cell? ⟨pb, 3, none⟩ = some (.slice ya yl yc) := by rw [← HYS.out]; exact P6.out.cell 3
      have SN := Lib.hid (show k.tries 0 (ops0.take (j + 1)) = (k.tries 0 (ops0.take j)).try1 0 m from by rw [take_snoc ops0 j m HM.out, tries_snoc])
      have GE := Lib.hid (show F0 ≤ (k.tries 0 (ops0.take j)).fl.length from by have := (tries_en k 0 (ops0.take j)).2.2.2.1; have := HF.out; omega)
      have LE4 := Lib.hid (show (k.tries 0 (ops0.take j)).fl.length ≤ 1024 from (tries_en k 0 (ops0.take j)).2.2.2.2 (by have := HF.out; omega))
      have RM := Lib.hid (room_any H3.out.at_)
      obtain ⟨kj, hkj⟩ : ∃ kj, kj = k.tries 0 (ops0.take j) := ⟨_, rfl⟩
      have HKJ := Lib.hid hkj
      rw [← hkj] at SN GE LE4 RM H3 ⊢
      rw [← hpb]
      clear Z3 Z2 LD G3 hpb hkj
      simp only [Act.put]
      by_cases hroom : kj.fl.length < 1024
      · have PT := Lib.hid (put_any4 H3.out.at_ 0 (by decide) m.s Y3.out hroom)
        rw [decide_eq_true hroom] at RM
        rw [HYS.out] at PT
        have SP := Lib.hid (show kj.try1 0 m = kj.put 0 m.s m.B from if_pos hroom)
        have d1 : (kj.fl.length - F0 : Nat) ≤ 1024 := by have := LE4.out; omega
        obtain ⟨dd, hdd⟩ : ∃ dd, dd = kj.fl.length - F0 := ⟨_, rfl⟩
        have DD := Lib.hid hdd
        rw [← hdd] at d1 ⊢
        clear hroom hdd
        go_wp2_with (first | (go_at_call 32; refine RM.out.mono ?_; intro e w' hh; have he := hh.1; have hw := hh.2; subst he; subst w'; clear hh) | (go_at_call 34; refine PT.out.mono ?_; rintro e w9 ⟨rfl, v9, g9⟩; have G9 := Lib.hid g9; clear g9))
        refine ⟨?rel, ?measure⟩
        case rel =>
          refine ⟨j + 1, upd V' 4 v9, by omega, by go_num, ?_, ?_, ?_⟩
          · rw [SN.out, SP.out]
            show _ = Value.int .i64 (((kj.fl ++ [_]).length - F0 : Nat) : Int)
            have := DD.out
            have := GE.out
            rw [List.length_append]
            simp only [List.length_singleton]
            congr 1
            omega
          · rw [SN.out, SP.out]; exact H3.out.trans G9.out
          · rw [upd_ne (by decide)]; exact HV'.out
        case measure => simp [intOf]; omega
      · rw [decide_eq_false hroom] at RM
        have SP := Lib.hid (show kj.try1 0 m = kj from if_neg hroom)
        clear hroom
        go_wp2_with (first | (go_at_call 32; refine RM.out.mono ?_; intro e w' hh; have he := hh.1; have hw := hh.2; subst he; subst w'; clear hh))
        refine ⟨?rel, ?measure⟩
        case rel => exact ⟨j + 1, V', by omega, by go_num, by rw [SN.out, SP.out], by rw [SN.out, SP.out]; exact H3.out, HV'.out⟩
        case measure => simp [intOf]; omega
    · have e5 := HN0.out
      rw [List.take_of_length_le (by omega)] at HG ⊢
      obtain ⟨w1, hw1⟩ : ∃ x, x = wr := ⟨_, rfl⟩
      obtain ⟨V1, hV1⟩ : ∃ x, x = V' := ⟨_, rfl⟩
      rw [← hw1, ← hV1] at HG
      rw [← hw1]
      clear hw1 hV1 HV' e5
      obtain ⟨K1, hK1⟩ : ∃ x, x = k.tries 0 ops0 := ⟨_, rfl⟩
      have HK1 := Lib.hid hK1
      rw [← hK1] at HG ⊢
      have G1 := Lib.hid HG.out
      clear HG hK1
      have K1G : F0 ≤ K1.fl.length := by have := (tries_en k 0 ops0).2.2.2.1; have := HF.out; rw [HK1.out]; omega
      have K1L : K1.fl.length ≤ 1024 := by rw [HK1.out]; exact (tries_en k 0 ops0).2.2.2.2 (by have := HF.out; omega)
      go_wp2_with fail
      rw [rounds_succ]
      obtain ⟨ops1, hops1⟩ : ∃ o, o = (K1.en 1).op := ⟨_, rfl⟩
      obtain ⟨oa1, oc1, ov1, _⟩ := G1.out.at_.slO 1 (by decide)
      obtain ⟨N1, hN1⟩ : ∃ N, N = ops1.length := ⟨_, rfl⟩
      have hN256_1 : N1 ≤ 256 := by rw [hN1, hops1]; exact (by have := HOP.out 1 (by decide); have e : K1.b = k.b := by { rw [HK1.out]; exact (tries_en k 0 ops0).2.2.1 }; show K1.b.op.length ≤ 256; rw [e]; exact this)
      rw [← hops1, ← hN1] at ov1
      have c1 : w1.cell? ⟨bl, 5, none⟩ = some (.slice oa1 N1 oc1) := by rw [← ov1]; exact G1.out.at_.cell 5
      have HN1 := Lib.hid hN1
      have HO1 := Lib.hid hops1
      have HV1 := Lib.hid ov1
      clear hops1 hN1 ov1
      go_wp2_with fail
      go_loopw [20, 3] (fun i nn wr => ∃ j : Nat, ∃ V', j ≤ N1 ∧ i = .int .i64 j ∧ nn = .int .i64 (((K1.tries 1 (ops1.take j)).fl.length - F0 : Nat) : Int) ∧ Goes w bl V A wr V' (K1.tries 1 (ops1.take j)) ∧ V' 2 = .slice oa1 N1 oc1) (fun i _ _ => N1 - (intOf i).toNat)
      case atStart => exact ⟨0, _, by omega, rfl, rfl, G1.out, HV1.out⟩
      case round =>
        obtain ⟨j, V', hj, rfl, rfl, hg, hv'⟩ := hrel
        have HG := Lib.hid hg
        have HV' := Lib.hid hv'
        clear hg hv'
        by_cases hjn : j < N1
        · obtain ⟨m, hm⟩ : ∃ m, ops1[j]? = some m := ⟨_, List.getElem?_eq_getElem (by have := HN1.out; omega)⟩
          have HM := Lib.hid hm
          have hops : ((K1.tries 1 (ops1.take j)).en 1).op = ops1 := by
            have := congrArg En.op (tries_en K1 1 (ops1.take j)).2.2.1
            exact this.trans HO1.out.symm
          obtain ⟨g, c', y, ee, hgl, hcy, hY⟩ := (HG.out.at_.o 1 (by decide)).at_ (fun _ => rfl) j m (by rw [hops]; exact hm)
          rw [show V' (2 * 1) = _ from HV'.out] at ee
          obtain ⟨rfl, _, _⟩ : oa1 = some ⟨g, 0, none⟩ ∧ True ∧ True := by
            simp only [Value.slice.injEq] at ee
            exact ⟨ee.1, trivial, trivial⟩
          obtain ⟨ya, yc, hy, _, _⟩ := hY.slice
          obtain ⟨yl, hyl⟩ : ∃ yl, yl = m.B.length := ⟨_, rfl⟩
          rw [← hyl] at hy
          obtain ⟨mv, hmv⟩ : ∃ mv, mv = mc (m, y) := ⟨_, rfl⟩
          have HMV := Lib.hid hmv
          have LD := Lib.hid (show ∀ i v, mv[i]? = some v → wr.cell? ((⟨g, j * 4, none⟩ : Addr).add i) = some v from fun i v hi => by
            rw [Addr.add_lit]
            exact hcy i v (by rw [← hmv]; exact hi))
          have M4 := Lib.hid (show mv.length = 4 by rw [hmv]; rfl)
          have M1 := Lib.hid (show ∀ u ∈ mv, u.oneCell' = true by rw [hmv]; exact mc_one hY.one)
          have Z2 := Lib.hid (blk_at (w := wr) (g := wr.heap.size) (cs := zmk) (t := 71) (arr := #[.int .u32 0, .int .u32 0, .int .u32 0, .slice none 0 0]) rfl rfl)
          have HY := Lib.hid hY
          have HYS := Lib.hid hy
          clear hm hops ee hcy hY hmv hy hyl
          go_upto_region 10 with (first | (refine wpList_value_g rfl (.agg mv.toArray) (exec_load_from rfl rfl LD.out Try.underlying71 rfl (by kernel_rfl) M4.out) ?_) | (refine wpList_store_blk rfl 71 _ _ rfl wr.heap.size 0 4 rfl 71 zmk mv rfl Z2.out (by kernel_rfl) M4.out (by decide) M1.out ?_; intro w3 z3 g3; have Z3 := Lib.hid z3; have G3 := Lib.hid g3; clear z3 g3))
          have B3 := Lib.hid (below_grown ((Below.refl wr.heap.size wr).alloc (Nat.le_refl _) _) G3.out (by simp) (Nat.le_refl _))
          obtain ⟨pb, hpb⟩ : ∃ pb, pb = wr.heap.size := ⟨_, rfl⟩
          have P6 := Lib.hid (show Blk w3 pb (mc (m, y)) 71 from by have := Z3.out; rw [put_all _ _ (by rw [M4.out]; rfl), ← hpb, HMV.out] at this; exact this)
          have H3 := Lib.hid (HG.out.keep B3.out)
          have Y3 := Lib.hid (HY.out.move (Only.of_below (S := []) B3.out) (by simp) (fun x hx => .inl hx))
          have q1 : w3.cell? ⟨pb, 1, none⟩ = some (.int .u32 (m.s : Int)) := P6.out.cell 1
          have q3 : w3.cell? ⟨pb, 3, none⟩ = some (.slice ya yl yc) := by rw [← HYS.out]; exact P6.out.cell 3
          have SN := Lib.hid (show K1.tries 1 (ops1.take (j + 1)) = (K1.tries 1 (ops1.take j)).try1 1 m from by rw [take_snoc ops1 j m HM.out, tries_snoc])
          have GE := Lib.hid (show F0 ≤ (K1.tries 1 (ops1.take j)).fl.length from by have := (tries_en K1 1 (ops1.take j)).2.2.2.1; have := K1G; omega)
          have LE4 := Lib.hid (show (K1.tries 1 (ops1.take j)).fl.length ≤ 1024 from (tries_en K1 1 (ops1.take j)).2.2.2.2 (by have := K1L; omega))
          have RM := Lib.hid (room_any H3.out.at_)
          obtain ⟨kj, hkj⟩ : ∃ kj, kj = K1.tries 1 (ops1.take j) := ⟨_, rfl⟩
          have HKJ := Lib.hid hkj
          rw [← hkj] at SN GE LE4 RM H3 ⊢
          rw [← hpb]
          clear Z3 Z2 LD G3 hpb hkj
          simp only [Act.put]
          by_cases hroom : kj.fl.length < 1024
          · have PT := Lib.hid (put_any4 H3.out.at_ 1 (by decide) m.s Y3.out hroom)
            rw [decide_eq_true hroom] at RM
            rw [HYS.out] at PT
            have SP := Lib.hid (show kj.try1 1 m = kj.put 1 m.s m.B from if_pos hroom)
            have d1 : (kj.fl.length - F0 : Nat) ≤ 1024 := by have := LE4.out; omega
            obtain ⟨dd, hdd⟩ : ∃ dd, dd = kj.fl.length - F0 := ⟨_, rfl⟩
            have DD := Lib.hid hdd
            rw [← hdd] at d1 ⊢
            clear hroom hdd
            go_wp2_with (first | (go_at_call 32; refine RM.out.mono ?_; intro e w' hh; have he := hh.1; have hw := hh.2; subst he; subst w'; clear hh) | (go_at_call 34; refine PT.out.mono ?_; rintro e w9 ⟨rfl, v9, g9⟩; have G9 := Lib.hid g9; clear g9))
            refine ⟨?rel, ?measure⟩
            case rel =>
              refine ⟨j + 1, upd V' 4 v9, by omega, by go_num, ?_, ?_, ?_⟩
              · rw [SN.out, SP.out]
                show _ = Value.int .i64 (((kj.fl ++ [_]).length - F0 : Nat) : Int)
                have := DD.out
                have := GE.out
                rw [List.length_append]
                simp only [List.length_singleton]
                congr 1
                omega
              · rw [SN.out, SP.out]; exact H3.out.trans G9.out
              · rw [upd_ne (by decide)]; exact HV'.out
            case measure => simp [intOf]; omega
          · rw [decide_eq_false hroom] at RM
            have SP := Lib.hid (show kj.try1 1 m = kj from if_neg hroom)
            clear hroom
            go_wp2_with (first | (go_at_call 32; refine RM.out.mono ?_; intro e w' hh; have he := hh.1; have hw := hh.2; subst he; subst w'; clear hh))
            refine ⟨?rel, ?measure⟩
            case rel => exact ⟨j + 1, V', by omega, by go_num, by rw [SN.out, SP.out], by rw [SN.out, SP.out]; exact H3.out, HV'.out⟩
            case measure => simp [intOf]; omega
        · have e5 := HN1.out
          rw [List.take_of_length_le (by omega)] at HG ⊢
          obtain ⟨w2, hw2⟩ : ∃ x, x = wr := ⟨_, rfl⟩
          obtain ⟨V2, hV2⟩ : ∃ x, x = V' := ⟨_, rfl⟩
          rw [← hw2, ← hV2] at HG
          rw [← hw2]
          clear hw2 hV2 HV' e5
          obtain ⟨K2, hK2⟩ : ∃ x, x = K1.tries 1 ops1 := ⟨_, rfl⟩
          have HK2 := Lib.hid hK2
          rw [← hK2] at HG ⊢
          have G2 := Lib.hid HG.out
          clear HG hK2
          go_wp2_with fail
          rw [rounds_succ]
          go_wp2_with fail
          go_ret
          have e : k.tick = K2 := by
            rw [HK2.out, HK1.out]
            unfold Lk.tick
            have e1 : ops1 = k.b.op := by
              have := congrArg En.op (tries_en k 0 ops0).2.2.1
              rw [← HK1.out] at this
              exact HO1.out.trans this
            rw [e1, show ops0 = k.a.op from HO0.out]
          rw [e]
          exact ⟨rfl, _, G2.out⟩
end
end Go.Proofs.Ytfjaoompdleljaa.Link
