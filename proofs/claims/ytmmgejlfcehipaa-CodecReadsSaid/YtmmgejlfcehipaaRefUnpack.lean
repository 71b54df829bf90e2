/-
  Unpack of the reference by contract. Helper text; no statement is proved here.
-/
import Derived.Test.YtmmgejlfcehipaaRefGet
import Derived.Deep.Cut
set_option linter.unusedVariables false
set_option linter.unusedSimpArgs false
namespace Go.Proofs.Ytmmgejlfcehipaa.Codec
open Go.RowKit Go.Proofs.Ytmmgejlfcehipaa.Base Go.Proofs.Ytmmgejlfcehipaa.Laws Go.Proofs.Ytmmgejlfcehipaa.Inv Go.Proofs.Ytmmgejlfcehipaa.InvL Go.Proofs.Ytmmgejlfcehipaa.InvM
/-- the sum stands behind the record: as a number, as bytes -/
theorem sum_iff {l : List UInt8} (h : 37 ≤ l.length) : (l.drop 33).take 4 = be 4 (Crc.crc (l.take 33)) ↔ Crc.crc (l.take 33) = val ((l.drop 33).take 4) := by
  have hl : ((l.drop 33).take 4).length = 4 := by rw [List.length_take, List.length_drop]; omega
  constructor
  · intro e
    rw [e, val_be 4 _ (by have := Crc.crc_lt (l.take 33); simpa using this)]
  · intro e
    rw [e, be_val' _ hl]
theorem data_set {k : Int} {v : Nat} {a : Int} {d : List UInt8} {j : Nat} {x : UInt8} (hd : d.length = 16) (hj : j < 16) (hx : d[j]? = some x) : (recV k v a (d.take j ++ OwnB.zs (16 - j))).set (3 + j) (Base.u8 x) = recV k v a (d.take (j + 1) ++ OwnB.zs (16 - (j + 1))) := by
  unfold recV
  have e : 16 - j = (16 - (j + 1)) + 1 := by omega
  rw [take_snoc d j x hx, e, show OwnB.zs (16 - (j + 1) + 1) = 0 :: OwnB.zs (16 - (j + 1)) from rfl, List.set_append_right _ _ (by simp), show 3 + j - [Value.int .i64 k, .int .u64 (v : Int), .int .i64 a].length = j from by simp, bv_append]
  congr 1
  rw [show bv (0 :: OwnB.zs (16 - (j + 1))) = Base.u8 0 :: bv (OwnB.zs (16 - (j + 1))) from rfl, set_mid _ _ _ _ j (by rw [bv_len, List.length_take]; omega), List.append_assoc, bv_append]
  rfl
set_option maxHeartbeats 1000000 in
theorem runpack_short (a : Option Addr) (len cap : Nat) (l : List UInt8) (w : World) (h : Bts w a len cap l) (hs : len < 37) :
    Calls Try.prog 26 #[.slice a len cap] w fun e w' => e = .returned (.tuple #[.agg zrec.toArray, .int .i64 1]) ∧ Below w.heap.size w w' := by
  obtain ⟨hl, hlc, hm, ha⟩ := h
  unfold maxLen at hm
  clear ha
  have Z := Lib.hid (blk_at (w := w) (g := w.heap.size) (cs := zrec) (t := 26) (arr := #[.int .i64 0, .int .u64 0, .int .i64 0, .int .u8 0, .int .u8 0, .int .u8 0, .int .u8 0, .int .u8 0, .int .u8 0, .int .u8 0, .int .u8 0, .int .u8 0, .int .u8 0, .int .u8 0, .int .u8 0, .int .u8 0, .int .u8 0, .int .u8 0, .int .u8 0]) rfl rfl)
  go_enter Try.func26, Try.ntmps26
  go_upto_region 2 with (fail)
  obtain ⟨w1, hw1⟩ : ∃ w1, w1 = w.alloc (.cells #[.int .i64 0, .int .u64 0, .int .i64 0, .int .u8 0, .int .u8 0, .int .u8 0, .int .u8 0, .int .u8 0, .int .u8 0, .int .u8 0, .int .u8 0, .int .u8 0, .int .u8 0, .int .u8 0, .int .u8 0, .int .u8 0, .int .u8 0, .int .u8 0, .int .u8 0] 26) := ⟨_, rfl⟩
  have L1 := Lib.hid (show Below w.heap.size w w1 from hw1 ▸ ((Below.refl w.heap.size w).alloc (Nat.le_refl _) _))
  rw [← hw1] at Z ⊢
  clear hw1
  go_wp2_with (first | (refine wpList_store_blk rfl 26 _ _ rfl w.heap.size 0 19 rfl 26 zrec zrec rfl Z.out (by kernel_rfl) rfl (by decide) (recV_one _ _ _ _) ?_; intro w2 z2 g2; have Z2 := Lib.hid (show Blk w2 w.heap.size zrec 26 from z2); have L2 := Lib.hid (below_grown L1.out g2 L1.out.size (Nat.le_refl _)); clear z2 g2))
  exact bodyPost_ret (v := .tuple #[.agg zrec.toArray, .int .i64 1]) (results_cell_two rfl _ _ w.heap.size 26 _ (0, 0) _ _ rfl rfl Z2.out Try.underlying26 rfl (by kernel_rfl)) rfl ⟨rfl, L2.out⟩
set_option maxRecDepth 4000 in
set_option maxHeartbeats 4000000 in
theorem runpack_long (a : Option Addr) (len cap : Nat) (l : List UInt8) (w : World) (h : Bts w a len cap l) (hs : 37 ≤ len) :
    Calls Try.prog 26 #[.slice a len cap] w fun e w' => e = .returned (.tuple #[.agg (recOut l).toArray, .int .i64 (recErr l)]) ∧ Below w.heap.size w w' := by
  have h0 := h
  obtain ⟨hl, hlc, hm, ha⟩ := h
  rcases ha with ha | ⟨b, o, rfl, hc⟩
  · omega
  have hb : b < w.heap.size := by
    obtain ⟨x, hx⟩ : ∃ x, l[0]? = some x := ⟨_, List.getElem?_eq_getElem (by omega)⟩
    exact block_lt_of_cell (hc 0 x hx)
  have T0 := Lib.hid h0
  clear h0 hc
  obtain ⟨x0, hx0⟩ : ∃ x, l[0]? = some x := ⟨_, List.getElem?_eq_getElem (by omega)⟩
  have hk : kindOf l = (x0.toNat : Int) := by
    unfold kindOf
    cases l with
    | nil => simp at hx0
    | cons y l => simp at hx0; subst hx0; rfl
  have CJ := Lib.hid (show ∀ w', Bts w' (some ⟨b, o, none⟩) len cap l → ∀ j x, l[j]? = some x → w'.cell? ⟨b, o + j, none⟩ = some (Base.u8 x) from fun w' h j x hx => by
    obtain ⟨_, _, _, h4⟩ := h
    rcases h4 with h4 | ⟨b', o', e, hc⟩
    · omega
    · simp only [Option.some.injEq, Addr.mk.injEq, and_true] at e
      obtain ⟨rfl, rfl⟩ := e
      exact hc j x hx)
  have C0 := Lib.hid (show ∀ w', Bts w' (some ⟨b, o, none⟩) len cap l → w'.cell? ⟨b, o, none⟩ = some (.int .u8 (x0.toNat : Int)) from fun w' h => CJ.out w' h 0 x0 hx0)
  have hd16 : (dataOf l).length = 16 := by unfold dataOf; rw [List.length_take, List.length_drop]; omega
  have BR := Lib.hid (built_three (x0.toNat : Int) (verOf l) (lbaOf l))
  obtain ⟨rc, hrc⟩ : ∃ rc, rc = recV (x0.toNat : Int) (verOf l) (lbaOf l) (OwnB.zs 16) := ⟨_, rfl⟩
  have hr19 : rc.length = 19 := by rw [hrc]; rfl
  have hr1 : ∀ u ∈ rc, u.oneCell' = true := by rw [hrc]; exact recV_one _ _ _ _
  rw [← hrc] at BR
  have RC := Lib.hid hrc
  clear hrc
  unfold maxLen at hm
  have hw0 : IntKind.i64.wrap (x0.toNat : Int) = (x0.toNat : Int) := by have := x0.toNat_lt; rw [IntKind.wrap_i64]; omega
  obtain ⟨w1, hw1⟩ : ∃ w1, w1 = w.alloc (.cells #[.int .i64 0, .int .u64 0, .int .i64 0, .int .u8 0, .int .u8 0, .int .u8 0, .int .u8 0, .int .u8 0, .int .u8 0, .int .u8 0, .int .u8 0, .int .u8 0, .int .u8 0, .int .u8 0, .int .u8 0, .int .u8 0, .int .u8 0, .int .u8 0, .int .u8 0] 26) := ⟨_, rfl⟩
  have Z := Lib.hid (show Blk w1 w.heap.size zrec 26 from hw1 ▸ (blk_at (w := w) (g := w.heap.size) (cs := zrec) (t := 26) (arr := #[.int .i64 0, .int .u64 0, .int .i64 0, .int .u8 0, .int .u8 0, .int .u8 0, .int .u8 0, .int .u8 0, .int .u8 0, .int .u8 0, .int .u8 0, .int .u8 0, .int .u8 0, .int .u8 0, .int .u8 0, .int .u8 0, .int .u8 0, .int .u8 0, .int .u8 0]) rfl rfl))
  have L1 := Lib.hid (show Below w.heap.size w w1 from hw1 ▸ ((Below.refl w.heap.size w).alloc (Nat.le_refl _) _))
  have TT := Lib.hid (show Bts w1 (some ⟨b, o, none⟩) len cap l from hw1 ▸ bts_alloc T0.out _)
  have hN1 : w1.heap.size = w.heap.size + 1 := by rw [hw1]; simp only [size_alloc]
  have hne : ¬ len = 0 := by omega
  have hnc : ¬ cap = 0 := by omega
  have h33 : (33 : Int) ≤ cap := by omega
  clear hx0
  go_enter Try.func26, Try.ntmps26
  go_wp2
  rw [← hw1]
  clear hw1
  obtain ⟨N, hN⟩ : ∃ N, N = w1.heap.size := ⟨_, rfl⟩
  have KV := Lib.hid (fun (i : Nat) (d : Array Bool) (w' : World) (hi : i ≠ 10) (h : (Bts w' (some ⟨b, o, none⟩) len cap l ∧ Blk w' w.heap.size zrec 26 ∧ Below w.heap.size w w') ∧ At 10 (fun w' => w'.heap.size = N) (fun w' => Blk w' N zrec 26) d w') => (⟨h.1, At.keep hi id id h.2⟩ : (Bts w' (some ⟨b, o, none⟩) len cap l ∧ Blk w' w.heap.size zrec 26 ∧ Below w.heap.size w w') ∧ At 10 (fun w' => w'.heap.size = N) (fun w' => Blk w' N zrec 26) (d.setIfInBounds i true) w'))
  refine InvL.wp_region_inv_tail (fun d w' => (Bts w' (some ⟨b, o, none⟩) len cap l ∧ Blk w' w.heap.size zrec 26 ∧ Below w.heap.size w w') ∧ At 10 (fun w' => w'.heap.size = N) (fun w' => Blk w' N zrec 26) d w') 11 (by kernel_rfl) (by kernel_rfl) ⟨⟨TT.out, Z.out.drew, L1.out.drew⟩, At.start (by rfl) hN.symm⟩ ?_
  simp only [List.take_succ_cons, List.take_zero, List.drop_succ_cons, List.drop_zero]
  refine invl_value (.slice (some ⟨b, o, none⟩) len cap) rfl (fun d w' h => by go_simp) (fun d w' _ h => KV.out _ d w' (by decide) h) ?_
  simp only [Act.put, List.setIfInBounds_toArray, List.set_cons_zero, List.set_cons_succ]
  refine invl_value (.pointer (some ⟨b, o, none⟩)) rfl (fun d w' h => by go_simp) (fun d w' _ h => KV.out _ d w' (by decide) h) ?_
  simp only [Act.put, List.setIfInBounds_toArray, List.set_cons_zero, List.set_cons_succ]
  refine invl_value (.int .u8 (x0.toNat : Int)) rfl (fun d w' h => by have c0 := C0.out w' h.1.1; go_simp) (fun d w' _ h => KV.out _ d w' (by decide) h) ?_
  simp only [Act.put, List.setIfInBounds_toArray, List.set_cons_zero, List.set_cons_succ]
  refine invl_value (.int .i64 (x0.toNat : Int)) rfl (fun d w' h => by go_simp) (fun d w' _ h => KV.out _ d w' (by decide) h) ?_
  simp only [Act.put, List.setIfInBounds_toArray, List.set_cons_zero, List.set_cons_succ]
  refine invl_value (.slice (some ⟨b, o, none⟩) len cap) rfl (fun d w' h => by go_simp) (fun d w' _ h => KV.out _ d w' (by decide) h) ?_
  simp only [Act.put, List.setIfInBounds_toArray, List.set_cons_zero, List.set_cons_succ]
  refine invl_call (.int .u64 (val ((l.drop 1).take 8) : Nat)) rfl 41 #[.slice (some ⟨b, o, none⟩) len cap, .int .i64 1, .int .i64 8] (fun d w' _ => by go_simp) (fun d w' _ h => (get_any _ _ _ l 1 8 (by omega) (by decide) w' h.1.1).mono fun e w'' ⟨he, hw⟩ => ⟨he, hw ▸ KV.out _ d w' (by decide) h⟩) ?_
  simp only [Act.put, List.setIfInBounds_toArray, List.set_cons_zero, List.set_cons_succ]
  refine invl_value (.slice (some ⟨b, o, none⟩) len cap) rfl (fun d w' h => by go_simp) (fun d w' _ h => KV.out _ d w' (by decide) h) ?_
  simp only [Act.put, List.setIfInBounds_toArray, List.set_cons_zero, List.set_cons_succ]
  refine invl_call (.int .u64 (val ((l.drop 9).take 8) : Nat)) rfl 41 #[.slice (some ⟨b, o, none⟩) len cap, .int .i64 9, .int .i64 8] (fun d w' _ => by go_simp) (fun d w' _ h => (get_any _ _ _ l 9 8 (by omega) (by decide) w' h.1.1).mono fun e w'' ⟨he, hw⟩ => ⟨he, hw ▸ KV.out _ d w' (by decide) h⟩) ?_
  simp only [Act.put, List.setIfInBounds_toArray, List.set_cons_zero, List.set_cons_succ]
  refine invl_value (.int .i64 (lbaOf l)) rfl (fun d w' h => by go_simp; all_goals rfl) (fun d w' _ h => KV.out _ d w' (by decide) h) ?_
  simp only [Act.put, List.setIfInBounds_toArray, List.set_cons_zero, List.set_cons_succ]
  refine invl_value (.agg rc.toArray) rfl (fun d w' h => by exact exec_build (vs := [(0, .int .i64 (x0.toNat : Int)), (1, .int .u64 (verOf l : Int)), (2, .int .i64 (lbaOf l))]) rfl rfl BR.out) (fun d w' _ h => KV.out _ d w' (by decide) h) ?_
  simp only [Act.put, List.setIfInBounds_toArray, List.set_cons_zero, List.set_cons_succ]
  refine invl_world (.pointer (some ⟨N, 0, none⟩)) rfl (fun d w' hd h => ⟨w'.alloc (.cells #[.int .i64 0, .int .u64 0, .int .i64 0, .int .u8 0, .int .u8 0, .int .u8 0, .int .u8 0, .int .u8 0, .int .u8 0, .int .u8 0, .int .u8 0, .int .u8 0, .int .u8 0, .int .u8 0, .int .u8 0, .int .u8 0, .int .u8 0, .int .u8 0, .int .u8 0] 26), by have hh := h.2.before hd; go_simp, ⟨bts_alloc h.1.1 _, h.1.2.1.alloc _, h.1.2.2.alloc h.1.2.2.size _⟩, At.now hd (blk_at (h.2.before hd) rfl)⟩) ?_
  simp only [Act.put, List.setIfInBounds_toArray, List.set_cons_zero, List.set_cons_succ]
  refine invl_nil fun w2 hI => ?_
  obtain ⟨⟨bt, bz, bl⟩, hn⟩ := hI
  have hn := hn.done (by rfl)
  have hN2 := hn.lt
  refine wpList_store_blk rfl 26 _ _ rfl N 0 19 rfl 26 zrec rc rfl hn (by kernel_rfl) hr19 (by decide) hr1 ?_
  intro w3 n3 g3
  rw [put_all _ _ (by rw [hr19]; rfl)] at n3
  have hNw : w.heap.size < N := by omega
  have Z3 := Lib.hid (bz.grown g3 (by omega))
  have R3 := Lib.hid (show Blk w3 N (recV (x0.toNat : Int) (verOf l) (lbaOf l) ((dataOf l).take 0 ++ OwnB.zs (16 - 0))) 26 from by rw [RC.out] at n3; exact n3)
  have L3 := Lib.hid (below_grown bl g3 (by omega) (by omega))
  clear bt bz bl hn g3 n3 Z L1 TT KV BR C0 hN hN1 hN2 hr19 hr1 RC hw0
  have DJ := Lib.hid (show ∀ j, j < 16 → ∃ x, (dataOf l)[j]? = some x ∧ l[17 + j]? = some x from fun j hj => by
    obtain ⟨x, hx⟩ : ∃ x, (dataOf l)[j]? = some x := ⟨_, List.getElem?_eq_getElem (by omega)⟩
    refine ⟨x, hx, ?_⟩
    unfold dataOf at hx
    rw [List.getElem?_take, if_pos hj, List.getElem?_drop] at hx
    exact hx)
  obtain ⟨dt, hdt⟩ : ∃ dt, dt = dataOf l := ⟨_, rfl⟩
  rw [← hdt] at R3 DJ hd16
  have HDT := Lib.hid hdt
  clear hdt
  go_wp2
  go_loopw [5] (fun i wr => ∃ j : Nat, j ≤ 16 ∧ i = .int .i64 (j : Int) ∧ Blk wr w.heap.size zrec 26 ∧ Blk wr N (recV (x0.toNat : Int) (verOf l) (lbaOf l) (dt.take j ++ OwnB.zs (16 - j))) 26 ∧ Below w.heap.size w wr) (fun i _ => 16 - (intOf i).toNat)
  case atStart => exact ⟨0, by omega, rfl, Z3.out, R3.out, L3.out⟩
  case round =>
    obtain ⟨j, hj, rfl, bz, br, bl⟩ := hrel
    have BZ := Lib.hid bz
    have BN := Lib.hid br
    have BL := Lib.hid bl
    have TB := Lib.hid (bts_under T0.out bl hb)
    have hNr := br.lt
    clear bz br bl Z3 R3 L3
    by_cases hj16 : j < 16
    · obtain ⟨x, hx1, hx2⟩ := DJ.out j hj16
      have hcx := CJ.out wr TB.out _ x hx2
      have HX := Lib.hid hx1
      have hlen17 : 17 + j < len := by omega
      have hlen17' : (17 : Int) + j < len := by omega
      have hfz := BN.out.frozen (3 + j)
      obtain ⟨y, hy⟩ : ∃ y, wr.cell? ⟨N, 3 + j, none⟩ = some y := ⟨_, (BN.out.cell (3 + j)).trans (List.getElem?_eq_getElem (by rw [recV_len _ _ _ _ (by simp [OwnB.zs]; omega)]; omega))⟩
      unfold Base.u8 at hcx
      clear hx1 hx2
      go_wp2
      go_roundw
      case rel =>
        refine ⟨j + 1, by omega, by go_num, BZ.out.setCell_far (by omega) _ _, ?_, below_grown BL.out (grown_setCell wr N (3 + j) _) BL.out.size (by omega)⟩
        have := BN.out.setCell (3 + j) (Base.u8 x)
        rw [data_set hd16 hj16 HX.out] at this
        exact this
      case measure => simp [intOf]; omega
    · obtain rfl : j = 16 := by omega
      rw [List.take_of_length_le (by omega), show OwnB.zs (16 - 16) = [] from rfl, List.append_nil] at BN
      clear DJ CJ
      obtain ⟨rd, hrd⟩ : ∃ rd, rd = recV (x0.toNat : Int) (verOf l) (lbaOf l) dt := ⟨_, rfl⟩
      have hr19 : rd.length = 19 := by rw [hrd]; exact recV_len _ _ _ _ hd16
      have hr1 : ∀ u ∈ rd, u.oneCell' = true := by rw [hrd]; exact recV_one _ _ _ _
      have RC := Lib.hid hrd
      by_cases hok : Ok (x0.toNat : Int) (lbaOf l)
      · have HO := Lib.hid (fun w' => rok_yes (v := verOf l) (l := dt) hok w')
        rw [← hrd] at HO BN
        clear hrd
        go_wp2_with (first | (refine wpList_load_g rfl 26 _ rfl N 19 rfl 26 rd _ BN.out Try.underlying26 rfl (by kernel_rfl) hr19 ?_))
        refine (HO.out _).mono ?_
        rintro e w4 ⟨rfl, hb4⟩
        have T4 := Lib.hid (TB.out.below hb4 (Nat.le_refl _))
        have Z5 := Lib.hid (BZ.out.below hb4 BZ.out.lt)
        have N5 := Lib.hid (BN.out.below hb4 hNr)
        have L5 := Lib.hid (BL.out.trans (hb4.mono BL.out.size))
        have hs5 := L5.out.size
        have HC := Lib.hid (RefSumW.crc_any (some ⟨b, o, none⟩) 33 cap (l.take 33) w4 (T4.out.take (by omega)))
        have HG := Lib.hid (get_any (some ⟨b, o, none⟩) len cap l 33 4 (by omega) (by decide) w4 T4.out)
        have hsum := sum_iff (l := l) (by omega)
        have hrecI : IsRec l ↔ Crc.crc (l.take 33) = val ((l.drop 33).take 4) := ⟨fun h => hsum.1 h.2.2, fun h => ⟨by omega, hk ▸ hok, hsum.2 h⟩⟩
        have hcr := Crc.crc_lt (l.take 33)
        clear TB T4 BZ BN BL HO hb4 hsum
        obtain ⟨c, hc⟩ : ∃ c, c = Crc.crc (l.take 33) := ⟨_, rfl⟩
        obtain ⟨s4, hs4⟩ : ∃ s, s = val ((l.drop 33).take 4) := ⟨_, rfl⟩
        rw [← hc] at HC hrecI hcr
        rw [← hs4] at HG hrecI
        clear hc hs4
        go_wp2_with fail
        refine HC.out.mono ?_
        rintro e w5 ⟨rfl, rfl⟩
        go_wp2_with fail
        refine HG.out.mono ?_
        rintro e w5 ⟨rfl, rfl⟩
        by_cases he : c = s4
        · have hrec := hrecI.2 he
          have he' : (c : Int) = s4 := by omega
          go_wp2_with (first | (refine wpList_load_blk rfl 26 _ rfl N 0 19 rfl 26 rd _ N5.out Try.underlying26 rfl (by kernel_rfl) (by rw [hr19]; omega) rd (by rw [List.drop_zero, List.take_of_length_le (by rw [hr19]; omega)]) ?_) | (refine wpList_store_blk rfl 26 _ _ rfl w.heap.size 0 19 rfl 26 zrec rd rfl Z5.out (by kernel_rfl) hr19 (by decide) hr1 ?_; intro w6 z6 g6; rw [put_all _ _ (by rw [hr19]; rfl)] at z6; have Z6 := Lib.hid z6; have L6 := Lib.hid (below_grown L5.out g6 hs5 (Nat.le_refl _)); clear z6 g6))
          exact bodyPost_ret (v := .tuple #[.agg rd.toArray, .int .i64 0]) (results_cell_two rfl _ _ w.heap.size 26 _ (0, 0) _ _ rfl rfl Z6.out Try.underlying26 rfl (by rw [List.size_toArray, hr19]; kernel_rfl)) rfl ⟨by rw [(out_yes hrec).1, (out_yes hrec).2, RC.out, hk, ← HDT.out], L6.out⟩
        · have hrec : ¬ IsRec l := fun h => he (hrecI.1 h)
          have he' : ¬ (c : Int) = s4 := by omega
          go_wp2_with (first | (refine wpList_load_blk rfl 26 _ rfl N 0 19 rfl 26 rd _ N5.out Try.underlying26 rfl (by kernel_rfl) (by rw [hr19]; omega) rd (by rw [List.drop_zero, List.take_of_length_le (by rw [hr19]; omega)]) ?_) | (refine wpList_store_blk rfl 26 _ _ rfl w.heap.size 0 19 rfl 26 zrec zrec rfl Z5.out (by kernel_rfl) rfl (by decide) (recV_one _ _ _ _) ?_; intro w6 z6 g6; have Z6 := Lib.hid (show Blk w6 w.heap.size zrec 26 from z6); have L6 := Lib.hid (below_grown L5.out g6 hs5 (Nat.le_refl _)); clear z6 g6))
          exact bodyPost_ret (v := .tuple #[.agg zrec.toArray, .int .i64 7]) (results_cell_two rfl _ _ w.heap.size 26 _ (0, 0) _ _ rfl rfl Z6.out Try.underlying26 rfl (by kernel_rfl)) rfl ⟨by rw [(out_no (by omega) hrec).1, (out_no (by omega) hrec).2], L6.out⟩
      · have HO := Lib.hid (fun w' => rok_no (v := verOf l) (l := dt) hok w')
        have hrec : ¬ IsRec l := fun h => hok (hk ▸ h.2.1)
        rw [← hrd] at HO BN
        clear hrd
        go_wp2_with (first | (refine wpList_load_g rfl 26 _ rfl N 19 rfl 26 rd _ BN.out Try.underlying26 rfl (by kernel_rfl) hr19 ?_))
        refine (HO.out _).mono ?_
        rintro e w4 ⟨rfl, hb4⟩
        have Z5 := Lib.hid (BZ.out.below hb4 BZ.out.lt)
        have N5 := Lib.hid (BN.out.below hb4 hNr)
        have L5 := Lib.hid (BL.out.trans (hb4.mono BL.out.size))
        have hs5 := L5.out.size
        clear TB BZ BN BL HO hb4
        go_wp2_with (first | (refine wpList_load_blk rfl 26 _ rfl N 0 19 rfl 26 rd _ N5.out Try.underlying26 rfl (by kernel_rfl) (by rw [hr19]; omega) rd (by rw [List.drop_zero, List.take_of_length_le (by rw [hr19]; omega)]) ?_) | (refine wpList_store_blk rfl 26 _ _ rfl w.heap.size 0 19 rfl 26 zrec zrec rfl Z5.out (by kernel_rfl) rfl (by decide) (recV_one _ _ _ _) ?_; intro w6 z6 g6; have Z6 := Lib.hid (show Blk w6 w.heap.size zrec 26 from z6); have L6 := Lib.hid (below_grown L5.out g6 hs5 (Nat.le_refl _)); clear z6 g6))
        exact bodyPost_ret (v := .tuple #[.agg zrec.toArray, .int .i64 7]) (results_cell_two rfl _ _ w.heap.size 26 _ (0, 0) _ _ rfl rfl Z6.out Try.underlying26 rfl (by kernel_rfl)) rfl ⟨by rw [(out_no (by omega) hrec).1, (out_no (by omega) hrec).2], L6.out⟩
theorem runpack_any (a : Option Addr) (len cap : Nat) (l : List UInt8) (w : World) (h : Bts w a len cap l) :
    Calls Try.prog 26 #[.slice a len cap] w fun e w' => e = .returned (.tuple #[.agg (recOut l).toArray, .int .i64 (recErr l)]) ∧ Below w.heap.size w w' := by
  by_cases hs : len < 37
  · rw [(out_short (h.1 ▸ hs)).1, (out_short (h.1 ▸ hs)).2]
    exact runpack_short a len cap l w h hs
  · exact runpack_long a len cap l w h (by omega)
end Go.Proofs.Ytmmgejlfcehipaa.Codec
