/-
  The walk of CodecRecords. Helper text; no statement is proved here.
-/
import Derived.Test.YtmmgejlfcehipaaAwake4
import Derived.Test.YtmmgejlfcehipaaRefPack
import Derived.Test.YtmmgejlfcehipaaRecIn
import Derived.Test.YtmmgejlfcehipaaInvM
set_option linter.unusedVariables false
set_option linter.unusedSimpArgs false
namespace Go.Proofs.Ytmmgejlfcehipaa.Codec
open Go.RowKit Go.Proofs.Ytmmgejlfcehipaa.Base Go.Proofs.Ytmmgejlfcehipaa.Laws Go.Proofs.Ytmmgejlfcehipaa.InvM
theorem bts_nil (w : World) : Bts w none 0 0 [] := ⟨rfl, Nat.le_refl _, by unfold maxLen; omega, .inl rfl⟩
theorem not_rec_nil : recOut [] = zrec ∧ recErr [] = 1 := out_short (by decide)
set_option maxRecDepth 4000 in
set_option maxHeartbeats 2000000 in
theorem records_no {k : Int} {v : Nat} {a : Int} {l : List UInt8} (hl : l.length = 16) (hok : ¬ Ok k a) (w : World) :
    Calls Try.prog 3 #[.agg (recV k v a l).toArray] w fun e w' => e = .returned (.bool true) ∧ Below w.heap.size w w' := by
  have HB0 := Lib.hid (blk_at (w := w) (cs := recV k v a l) (t := 26) rfl rfl)
  have h19 := recV_len k v a l hl
  have HP := Lib.hid (fun w' => pack_no (v := v) hl hok w')
  have HQ := Lib.hid (fun w' => rpack_no (v := v) hl hok w')
  have HW := Lib.hid awake_any
  have HS := Lib.hid (fun w' => Same.same_any none 0 0 [] none 0 0 [] w' (bts_nil w') (bts_nil w'))
  have HU := Lib.hid (fun w' => unpack_any none 0 0 [] w' (bts_nil w'))
  rw [not_rec_nil.1, not_rec_nil.2] at HU
  obtain ⟨rc, hrc⟩ : ∃ rc, rc = recV k v a l := ⟨_, rfl⟩
  rw [← hrc] at HB0 h19 HP HQ ⊢
  clear hrc
  go_enter Try.func3, Try.ntmps3
  go_wp2_with (first | (refine wpList_load_blk rfl 26 _ rfl w.heap.size 0 19 rfl 26 rc _ HB0.out Try.underlying26 rfl (by kernel_rfl) (by rw [h19]; omega) rc (by rw [List.drop_zero, List.take_of_length_le (by rw [h19]; omega)]) ?_))
  refine (HP.out _).mono ?_
  rintro e w1 ⟨rfl, hb⟩
  have B1 := Lib.hid (HB0.out.below hb (by simp only [size_alloc]; omega))
  have L1 := Lib.hid (((Below.refl _ _).alloc (Nat.le_refl _) _).trans (hb.mono (by simp only [size_alloc]; omega)) : Below w.heap.size w w1)
  have hs1 := L1.out.size
  clear hb HB0
  go_wp2_with (first | (refine wpList_load_blk rfl 26 _ rfl w.heap.size 0 19 rfl 26 rc _ B1.out Try.underlying26 rfl (by kernel_rfl) (by rw [h19]; omega) rc (by rw [List.drop_zero, List.take_of_length_le (by rw [h19]; omega)]) ?_))
  refine (HQ.out _).mono ?_
  rintro e w2 ⟨rfl, hb⟩
  have L2 := Lib.hid (L1.out.trans (hb.mono hs1))
  have hs2 := L2.out.size
  clear hb B1 L1
  go_wp2_with fail
  refine (HW.out _).mono ?_
  rintro e w3 ⟨rfl, hb⟩
  have L3 := Lib.hid (L2.out.trans (hb.mono hs2))
  have hs3 := L3.out.size
  clear hb L2
  go_wp2_with fail
  refine (HS.out _).mono ?_
  rintro e w4 ⟨rfl, nd, rfl⟩
  have L4 := Lib.hid (below_drewN L3.out nd)
  clear L3
  obtain ⟨w4, hw4⟩ : ∃ w4, w4 = w3.drewN nd := ⟨_, rfl⟩
  rw [← hw4] at L4 ⊢
  clear hw4
  have hs4 := L4.out.size
  go_wp2_with fail
  refine (HU.out _).mono ?_
  rintro e w5 ⟨rfl, hb⟩
  have L5 := Lib.hid (L4.out.trans (hb.mono hs4))
  have hs5 := L5.out.size
  have Z5 := Lib.hid (blk_at (w := w5) (g := w5.heap.size) (cs := zrec) (t := 26) (arr := #[.int .i64 0, .int .u64 0, .int .i64 0, .int .u8 0, .int .u8 0, .int .u8 0, .int .u8 0, .int .u8 0, .int .u8 0, .int .u8 0, .int .u8 0, .int .u8 0, .int .u8 0, .int .u8 0, .int .u8 0, .int .u8 0, .int .u8 0, .int .u8 0, .int .u8 0]) rfl rfl)
  clear hb L4
  go_wp2_with (first | (refine wpList_store_blk rfl 26 _ _ rfl w5.heap.size 0 19 rfl 26 zrec zrec rfl Z5.out (by kernel_rfl) rfl (by decide) (recV_one _ _ _ _) ?_; intro w6 z6 g6; have L6 := Lib.hid (below_grown (L5.out.alloc hs5 _) g6 (by simp only [size_alloc]; omega) hs5); clear z6 g6))
  go_ret
  exact ⟨rfl, L6.out⟩
set_option maxRecDepth 4000 in
set_option maxHeartbeats 2000000 in
theorem records_yes {k : Int} {v a : Nat} {l : List UInt8} (hl : l.length = 16) (hv : v < 18446744073709551616) (hk : I64 k) (ha : I64 (a : Int)) (hok : Ok k a) (w : World) :
    Calls Try.prog 3 #[.agg (recV k v a l).toArray] w fun e w' => e = .returned (.bool true) ∧ Below w.heap.size w w' := by
  have HB0 := Lib.hid (blk_at (w := w) (cs := recV k v a l) (t := 26) rfl rfl)
  have h19 := recV_len k v a l hl
  have hr1 := recV_one k v a l
  have HP := Lib.hid (fun w' (hb : w.heap.size ≤ w'.heap.size) => pack_yes (k := k) (v := v) (a := a) (l := l) hl hv hok w'.heap.size w' (Nat.le_refl _))
  have HQ := Lib.hid (fun w' => rpack_yes (k := k) (v := v) (a := a) (l := l) hl hv hok w')
  have HW := Lib.hid awake_any
  have hb := rec_back' (k := k) (v := v) (a := a) (l := l) hl hv hok
  have h37 := rec37_len k v a l hl
  have HEQ := Lib.hid (fun w' => rec_eq hl hl hk hv ha hk hv ha w')
  simp only [decide_true] at HEQ
  rw [show rec33 k v a l ++ be 4 (Crc.crc (rec33 k v a l)) = rec37 k v a l from rfl] at HP HQ
  obtain ⟨L, hL⟩ : ∃ L, L = rec37 k v a l := ⟨_, rfl⟩
  rw [← hL] at HP HQ hb h37
  obtain ⟨_, o1, o2⟩ := hb
  have HU := Lib.hid (fun a cap w' (h : Bts w' a 37 cap L) => unpack_any a 37 cap L w' h)
  rw [o1, o2] at HU
  obtain ⟨rc, hrc⟩ : ∃ rc, rc = recV k v a l := ⟨_, rfl⟩
  rw [← hrc] at HB0 h19 HP HQ HU HEQ hr1 ⊢
  clear hrc o1 o2 hL
  go_enter Try.func3, Try.ntmps3
  go_wp2_with (first | (refine wpList_load_blk rfl 26 _ rfl w.heap.size 0 19 rfl 26 rc _ HB0.out Try.underlying26 rfl (by kernel_rfl) (by rw [h19]; omega) rc (by rw [List.drop_zero, List.take_of_length_le (by rw [h19]; omega)]) ?_))
  refine (HP.out _ (by simp only [size_alloc]; omega)).mono ?_
  rintro e w1 ⟨p, rfl, ho, hb⟩
  obtain ⟨pa, pcap, rfl, hbt⟩ := OwnB.bts_own h37 ho
  have B1 := Lib.hid (HB0.out.below hb (by simp only [size_alloc]; omega))
  have L1 := Lib.hid (((Below.refl _ _).alloc (Nat.le_refl _) _).trans (hb.mono (by simp only [size_alloc]; omega)) : Below w.heap.size w w1)
  have T1 := Lib.hid hbt
  have hs1 := L1.out.size
  clear hb HB0 ho hbt
  go_wp2_with (first | (refine wpList_load_blk rfl 26 _ rfl w.heap.size 0 19 rfl 26 rc _ B1.out Try.underlying26 rfl (by kernel_rfl) (by rw [h19]; omega) rc (by rw [List.drop_zero, List.take_of_length_le (by rw [h19]; omega)]) ?_))
  refine (HQ.out _).mono ?_
  rintro e w2 ⟨q, rfl, ho, hb⟩
  obtain ⟨qa, qcap, rfl, hbt⟩ := OwnB.bts_own h37 ho
  have B2 := Lib.hid (B1.out.below hb B1.out.lt)
  have L2 := Lib.hid (L1.out.trans (hb.mono hs1))
  have T2 := Lib.hid (T1.out.below hb (Nat.le_refl _))
  have U2 := Lib.hid hbt
  have hs2 := L2.out.size
  clear hb B1 L1 ho hbt T1
  go_wp2_with fail
  refine (HW.out _).mono ?_
  rintro e w3 ⟨rfl, hb⟩
  have B3 := Lib.hid (B2.out.below hb B2.out.lt)
  have L3 := Lib.hid (L2.out.trans (hb.mono hs2))
  have T3 := Lib.hid (T2.out.below hb (Nat.le_refl _))
  have U3 := Lib.hid (U2.out.below hb (Nat.le_refl _))
  have hs3 := L3.out.size
  have HS := Lib.hid (Same.same_any pa 37 pcap L qa 37 qcap L w3 T3.out U3.out)
  simp only [decide_true] at HS
  clear hb L2 B2 T2 U2
  go_wp2_with fail
  refine HS.out.mono ?_
  rintro e w4 ⟨rfl, nd, rfl⟩
  have L4 := Lib.hid (below_drewN L3.out nd)
  have B4 := Lib.hid (B3.out.drewN nd)
  have T4 := Lib.hid (show Bts (w3.drewN nd) pa 37 pcap L from T3.out)
  clear L3 B3 T3 U3 HS
  obtain ⟨w4, hw4⟩ : ∃ w4, w4 = w3.drewN nd := ⟨_, rfl⟩
  rw [← hw4] at L4 B4 T4 ⊢
  clear hw4
  have hs4 := L4.out.size
  have HU2 := Lib.hid (HU.out pa pcap w4 T4.out)
  go_wp2_with fail
  refine HU2.out.mono ?_
  rintro e w5 ⟨rfl, hb⟩
  have L5 := Lib.hid (L4.out.trans (hb.mono hs4))
  have B5 := Lib.hid (B4.out.below hb B4.out.lt)
  have hs5 := L5.out.size
  have hl5 := B5.out.lt
  have Z5 := Lib.hid (blk_at (w := w5) (g := w5.heap.size) (cs := zrec) (t := 26) (arr := #[.int .i64 0, .int .u64 0, .int .i64 0, .int .u8 0, .int .u8 0, .int .u8 0, .int .u8 0, .int .u8 0, .int .u8 0, .int .u8 0, .int .u8 0, .int .u8 0, .int .u8 0, .int .u8 0, .int .u8 0, .int .u8 0, .int .u8 0, .int .u8 0, .int .u8 0]) rfl rfl)
  clear hb L4 B4 T4 HU2 HU HP HQ
  go_wp2_with (first | (refine wpList_store_blk rfl 26 _ _ rfl w5.heap.size 0 19 rfl 26 zrec rc rfl Z5.out (by kernel_rfl) h19 (by decide) hr1 ?_; intro w6 z6 g6; rw [put_all _ _ (by rw [h19]; rfl)] at z6; have L6 := Lib.hid (below_grown (L5.out.alloc hs5 _) g6 (by simp only [size_alloc]; omega) hs5); have Z6 := Lib.hid z6; have B6 := Lib.hid ((B5.out.alloc _).grown g6 (by omega)); clear z6 g6) | (refine wpList_load_g rfl 26 _ rfl w5.heap.size 19 rfl 26 rc _ Z6.out Try.underlying26 rfl (by kernel_rfl) h19 ?_) | (refine wpList_load_g rfl 26 _ rfl w.heap.size 19 rfl 26 rc _ B6.out Try.underlying26 rfl (by kernel_rfl) h19 ?_) | (refine wpList_value_g rfl (.bool true) (exec_eql rfl rfl rfl (by kernel_rfl) (HEQ.out w6)) ?_))
  go_ret  
  exact ⟨rfl, L6.out⟩
section
variable {H : Type} {enc : TypeId × Value → H} {base : Nat} {spare : Nat → Bool} {held : Bool} {W : World}
theorem records_in (c : List Value) (hl : c.length = 19) (h : Opens.Fits enc Try.prog W base spare held ([.int .i64, .int .u64, .int .i64] ++ List.replicate 16 (.int .u8)) c) :
    Calls Try.prog 3 #[.agg c.toArray] W fun e w' => e = .returned (.bool true) ∧ Below W.heap.size W w' := by
  obtain ⟨k, v, a, l, hl16, hv, hk, ha, rfl⟩ := rec_in hl rfl h
  by_cases hok : Ok k a
  · obtain ⟨an, rfl⟩ : ∃ an : Nat, a = an := ⟨a.toNat, by have := hok.2.1; omega⟩
    exact records_yes hl16 hv hk ha hok W
  · exact records_no hl16 hok W
end
end Go.Proofs.Ytmmgejlfcehipaa.Codec
