/-
  The walk of CodecSupers. Helper text; no statement is proved here.
-/
import Derived.Test.YtmmgejlfcehipaaSupIn
import Derived.Test.YtmmgejlfcehipaaRefPackSuper
import Derived.Test.YtmmgejlfcehipaaAwake4
set_option linter.unusedVariables false
set_option linter.unusedSimpArgs false
namespace Go.Proofs.Ytmmgejlfcehipaa.Codec
open Go.RowKit Go.Proofs.Ytmmgejlfcehipaa.Base Go.Proofs.Ytmmgejlfcehipaa.Laws Go.Proofs.Ytmmgejlfcehipaa.InvM Go.Proofs.Ytmmgejlfcehipaa.Lay
theorem bts_non (w : World) : Bts w none 0 0 [] := ⟨rfl, Nat.le_refl _, by unfold maxLen; omega, .inl rfl⟩
set_option maxRecDepth 4000 in
set_option maxHeartbeats 2000000 in
theorem supers_no {x : Su} (hv : x.Valid) (hg : ¬ x.Good) (w : World) :
    Calls Try.prog 7 #[.agg x.cells.toArray] w fun e w' => e = .returned (.bool true) ∧ Below w.heap.size w w' := by
  have HB0 := Lib.hid (blk_at (w := w) (cs := x.cells) (t := 52) rfl rfl)
  have h7 : x.cells.length = 7 := rfl
  have hr1 : ∀ u ∈ x.cells, u.oneCell' = true := by intro u hu; simp [Su.cells] at hu; rcases hu with rfl | rfl | rfl | rfl | rfl | rfl | rfl <;> rfl
  have HW := Lib.hid awake_any
  have PN : ∃ en : Int, ¬ en = 0 ∧ (∀ w', Calls Try.prog 23 #[.agg x.cells.toArray] w' fun e w'' => e = .returned (.tuple #[.slice none 0 0, .int .i64 en]) ∧ Below w'.heap.size w' w'') ∧ (∀ w', Calls Try.prog 24 #[.agg x.cells.toArray] w' fun e w'' => e = .returned (.tuple #[.slice none 0 0, .int .i64 en]) ∧ Below w'.heap.size w' w'') := by
    by_cases hso : Sound x.d x.c x.s
    · exact ⟨2, by decide, fun w' => packsuper_arg hso (fun h => hg ⟨hso, h⟩) w', fun w' => rpacksuper_arg hso (fun h => hg ⟨hso, h⟩) w'⟩
    · exact ⟨1, by decide, fun w' => packsuper_form hso w', fun w' => rpacksuper_form hso w'⟩
  obtain ⟨en, hen, hp, hq⟩ := PN
  have HP := Lib.hid hp
  have HQ := Lib.hid hq
  have HU := Lib.hid (fun w' => unpacksuper_any none 0 0 [] w' (bts_non w'))
  rw [(sOut_short (by decide)).1, (sOut_short (by decide)).2] at HU
  obtain ⟨rc, hrc⟩ : ∃ rc, rc = x.cells := ⟨_, rfl⟩
  rw [← hrc] at HB0 h7 hr1 HP HQ ⊢
  clear hrc hp hq
  go_enter Try.func7, Try.ntmps7
  go_wp2_with (first | (refine wpList_load_g rfl 52 _ rfl w.heap.size 7 rfl 52 rc _ HB0.out Try.underlying52 rfl (by kernel_rfl) h7 ?_))
  refine (HP.out _).mono ?_
  rintro e w1 ⟨rfl, hb⟩
  have B1 := Lib.hid (HB0.out.below hb (by simp only [size_alloc]; omega))
  have L1 := Lib.hid (((Below.refl _ _).alloc (Nat.le_refl _) _).trans (hb.mono (by simp only [size_alloc]; omega)) : Below w.heap.size w w1)
  have hs1 := L1.out.size
  clear hb HB0
  go_wp2_with (first | (refine wpList_load_g rfl 52 _ rfl w.heap.size 7 rfl 52 rc _ B1.out Try.underlying52 rfl (by kernel_rfl) h7 ?_))
  refine (HQ.out _).mono ?_
  rintro e w2 ⟨rfl, hb⟩
  have B2 := Lib.hid (B1.out.below hb B1.out.lt)
  have L2 := Lib.hid (L1.out.trans (hb.mono hs1))
  have hs2 := L2.out.size
  clear hb B1 L1
  go_wp2_with fail
  refine (HW.out _).mono ?_
  rintro e w3 ⟨rfl, hb⟩
  have B3 := Lib.hid (B2.out.below hb B2.out.lt)
  have L3 := Lib.hid (L2.out.trans (hb.mono hs2))
  have hs3 := L3.out.size
  have HS := Lib.hid (Same.same_any none 0 0 [] none 0 0 [] w3 (bts_non w3) (bts_non w3))
  rw [decide_eq_true rfl] at HS
  clear hb L2 B2
  go_wp2_with fail
  refine HS.out.mono ?_
  rintro e w4 ⟨rfl, nd, rfl⟩
  have L4 := Lib.hid (below_drewN L3.out nd)
  have B4 := Lib.hid (B3.out.drewN nd)
  clear L3 B3 HS
  obtain ⟨w4, hw4⟩ : ∃ w4, w4 = w3.drewN nd := ⟨_, rfl⟩
  rw [← hw4] at L4 B4 ⊢
  clear hw4
  have hs4 := L4.out.size
  have HU2 := Lib.hid (HU.out w4)
  go_wp2_with fail
  refine HU2.out.mono ?_
  rintro e w5 ⟨rfl, hb⟩
  have L5 := Lib.hid (L4.out.trans (hb.mono hs4))
  have B5 := Lib.hid (B4.out.below hb B4.out.lt)
  have hs5 := L5.out.size
  have hl5 := B5.out.lt
  have Z5 := Lib.hid (blk_at (w := w5) (g := w5.heap.size) (cs := zsup) (t := 52) (arr := #[.int .i64 0, .int .i64 0, .int .i64 0, .int .i64 0, .int .u32 0, .int .u64 0, .int .i64 0]) rfl rfl)
  clear hb L4 B4 HU2 HU HP HQ
  go_wp2_with (first | (refine wpList_store_blk rfl 52 _ _ rfl w5.heap.size 0 7 rfl 52 zsup zsup rfl Z5.out (by kernel_rfl) rfl (by decide) (by decide) ?_; intro w6 z6 g6; have L6 := Lib.hid (below_grown (L5.out.alloc hs5 _) g6 (by simp only [size_alloc]; omega) hs5); clear z6 g6))
  go_ret
  exact ⟨rfl, L6.out⟩
set_option maxRecDepth 4000 in
set_option maxHeartbeats 2000000 in
theorem supers_yes {x : Su} (hv : x.Valid) (hg : x.Good) (w : World) :
    Calls Try.prog 7 #[.agg x.cells.toArray] w fun e w' => e = .returned (.bool true) ∧ Below w.heap.size w w' := by
  have HB0 := Lib.hid (blk_at (w := w) (cs := x.cells) (t := 52) rfl rfl)
  have h7 : x.cells.length = 7 := rfl
  have hr1 : ∀ u ∈ x.cells, u.oneCell' = true := by intro u hu; simp [Su.cells] at hu; rcases hu with rfl | rfl | rfl | rfl | rfl | rfl | rfl <;> rfl
  have HW := Lib.hid awake_any
  have harr := hv.2.2.2.2.1
  have hseq := hv.2.2.2.2.2.1
  have HP := Lib.hid (fun w' => packsuper_yes hg harr hseq w')
  have HQ := Lib.hid (fun w' => rpacksuper_yes hg harr hseq w')
  have hso := sup_out hg harr hseq
  have h45 := Su.bytes_len x
  have HEQ := Lib.hid (fun w' => Su.eq hv hv w')
  simp only [decide_true] at HEQ
  have HU := Lib.hid (fun a cap w' (h : Bts w' a 45 cap x.bytes) => unpacksuper_any a 45 cap x.bytes w' h)
  rw [hso.1, hso.2] at HU
  obtain ⟨L, hL⟩ : ∃ L, L = x.bytes := ⟨_, rfl⟩
  rw [← hL] at HP HQ HU h45
  obtain ⟨rc, hrc⟩ : ∃ rc, rc = x.cells := ⟨_, rfl⟩
  rw [← hrc] at HB0 h7 hr1 HP HQ HU HEQ ⊢
  clear hrc hL hso
  go_enter Try.func7, Try.ntmps7
  go_wp2_with (first | (refine wpList_load_g rfl 52 _ rfl w.heap.size 7 rfl 52 rc _ HB0.out Try.underlying52 rfl (by kernel_rfl) h7 ?_))
  refine (HP.out _).mono ?_
  rintro e w1 ⟨p, rfl, ho, hb⟩
  obtain ⟨pa, pcap, rfl, hbt⟩ := OwnB.bts_own h45 ho
  have T1 := Lib.hid hbt
  have B1 := Lib.hid (HB0.out.below hb (by simp only [size_alloc]; omega))
  have L1 := Lib.hid (((Below.refl _ _).alloc (Nat.le_refl _) _).trans (hb.mono (by simp only [size_alloc]; omega)) : Below w.heap.size w w1)
  have hs1 := L1.out.size
  clear hb HB0 ho hbt
  go_wp2_with (first | (refine wpList_load_g rfl 52 _ rfl w.heap.size 7 rfl 52 rc _ B1.out Try.underlying52 rfl (by kernel_rfl) h7 ?_))
  refine (HQ.out _).mono ?_
  rintro e w2 ⟨q, rfl, ho, hb⟩
  obtain ⟨qa, qcap, rfl, hbt⟩ := OwnB.bts_own h45 ho
  have U2 := Lib.hid hbt
  have T2 := Lib.hid (T1.out.below hb (Nat.le_refl _))
  have B2 := Lib.hid (B1.out.below hb B1.out.lt)
  have L2 := Lib.hid (L1.out.trans (hb.mono hs1))
  have hs2 := L2.out.size
  clear hb B1 L1 ho hbt T1
  go_wp2_with fail
  refine (HW.out _).mono ?_
  rintro e w3 ⟨rfl, hb⟩
  have B3 := Lib.hid (B2.out.below hb B2.out.lt)
  have L3 := Lib.hid (L2.out.trans (hb.mono hs2))
  have hs3 := L3.out.size
  have T3 := Lib.hid (T2.out.below hb (Nat.le_refl _))
  have U3 := Lib.hid (U2.out.below hb (Nat.le_refl _))
  have HS := Lib.hid (Same.same_any pa 45 pcap L qa 45 qcap L w3 T3.out U3.out)
  clear T2 U2
  rw [decide_eq_true rfl] at HS
  clear hb L2 B2
  go_wp2_with fail
  refine HS.out.mono ?_
  rintro e w4 ⟨rfl, nd, rfl⟩
  have L4 := Lib.hid (below_drewN L3.out nd)
  have B4 := Lib.hid (B3.out.drewN nd)
  have T4 := Lib.hid (show Bts (w3.drewN nd) pa 45 pcap L from T3.out)
  clear T3 U3
  clear L3 B3 HS
  obtain ⟨w4, hw4⟩ : ∃ w4, w4 = w3.drewN nd := ⟨_, rfl⟩
  rw [← hw4] at L4 B4 T4 ⊢
  clear hw4
  have hs4 := L4.out.size
  have HU2 := Lib.hid (HU.out pa pcap w4 T4.out)
  go_wp2_with fail
  refine HU2.out.mono ?_
  rintro e w5 ⟨rfl, hb⟩
  have L5 := Lib.hid (L4.out.trans (hb.mono hs4))
  have B5 := Lib.hid (B4.out.below hb B4.out.lt)
  have hs5 := L5.out.size
  have hl5 := B5.out.lt
  have Z5 := Lib.hid (blk_at (w := w5) (g := w5.heap.size) (cs := zsup) (t := 52) (arr := #[.int .i64 0, .int .i64 0, .int .i64 0, .int .i64 0, .int .u32 0, .int .u64 0, .int .i64 0]) rfl rfl)
  clear hb L4 B4 HU2 HU HP HQ T4
  go_wp2_with (first | (refine wpList_store_blk rfl 52 _ _ rfl w5.heap.size 0 7 rfl 52 zsup rc rfl Z5.out (by kernel_rfl) h7 (by decide) hr1 ?_; intro w6 z6 g6; rw [put_all _ _ (by rw [h7]; rfl)] at z6; have L6 := Lib.hid (below_grown (L5.out.alloc hs5 _) g6 (by simp only [size_alloc]; omega) hs5); have Z6 := Lib.hid z6; have B6 := Lib.hid ((B5.out.alloc _).grown g6 (by omega)); clear z6 g6) | (refine wpList_load_g rfl 52 _ rfl w5.heap.size 7 rfl 52 rc _ Z6.out Try.underlying52 rfl (by kernel_rfl) h7 ?_) | (refine wpList_load_g rfl 52 _ rfl w.heap.size 7 rfl 52 rc _ B6.out Try.underlying52 rfl (by kernel_rfl) h7 ?_) | (refine wpList_value_g rfl (.bool true) (exec_eql rfl rfl rfl (by kernel_rfl) (HEQ.out w6)) ?_))
  go_ret
  exact ⟨rfl, L6.out⟩
section
variable {H : Type} {enc : TypeId × Value → H} {base : Nat} {spare : Nat → Bool} {held : Bool} {W : World}
theorem supers_in (c : List Value) (hl : c.length = 7) (h : Opens.Fits enc Try.prog W base spare held (List.replicate 4 (.int .i64) ++ [.int .u32, .int .u64, .int .i64]) c) :
    Calls Try.prog 7 #[.agg c.toArray] W fun e w' => e = .returned (.bool true) ∧ Below W.heap.size W w' := by
  obtain ⟨x, hx, rfl⟩ := sup_in hl (show Opens.Fits enc Try.prog W base spare held [.int .i64, .int .i64, .int .i64, .int .i64, .int .u32, .int .u64, .int .i64] c from h)
  by_cases hg : x.Good
  · exact supers_yes hx hg W
  · exact supers_no hx hg W
end
end Go.Proofs.Ytmmgejlfcehipaa.Codec
