/-
  UnpackSuper of the reference by contract. Helper text; no statement is proved here.
-/
import Derived.Test.YtmmgejlfcehipaaUnpackSuper
import Derived.Test.YtmmgejlfcehipaaRefPackSuper
import Derived.Test.YtmmgejlfcehipaaRefGet
set_option linter.unusedVariables false
set_option linter.unusedSimpArgs false
namespace Go.Proofs.Ytmmgejlfcehipaa.Codec
open Go.RowKit Go.Proofs.Ytmmgejlfcehipaa.Base Go.Proofs.Ytmmgejlfcehipaa.Laws Go.Proofs.Ytmmgejlfcehipaa.Lay Go.Proofs.Ytmmgejlfcehipaa.InvM
set_option maxRecDepth 4000 in
set_option maxHeartbeats 2000000 in
theorem runpacksuper_long (a : Option Addr) (cap : Nat) (l : List UInt8) (w : World) (h : Bts w a 45 cap l) :
    Calls Try.prog 27 #[.slice a 45 cap] w fun e w' => e = .returned (.tuple #[.agg (sOut l).cells.toArray, .int .i64 (sErr l)]) ∧ Below w.heap.size w w' := by
  have hl := h.1
  have hlc := h.2.1
  have hm := h.2.2.1
  unfold maxLen at hm
  have harr : (supOf l).arr < 4294967296 := val_bd (l.drop 12) 4 4294967296 (by decide)
  have hseq : (supOf l).seq < 18446744073709551616 := val_bd (l.drop 16) 8 18446744073709551616 (by decide)
  have hbl := Su.bytes_len (supOf l)
  obtain ⟨w1, hw1⟩ : ∃ w1, w1 = w.alloc (.cells #[.int .i64 0, .int .i64 0, .int .i64 0, .int .i64 0, .int .u32 0, .int .u64 0, .int .i64 0] 52) := ⟨_, rfl⟩
  have Z := Lib.hid (show Blk w1 w.heap.size zsup 52 from hw1 ▸ (blk_at (w := w) (g := w.heap.size) (cs := zsup) (t := 52) (arr := #[.int .i64 0, .int .i64 0, .int .i64 0, .int .i64 0, .int .u32 0, .int .u64 0, .int .i64 0]) rfl rfl))
  have L1 := Lib.hid (show Below w.heap.size w w1 from hw1 ▸ ((Below.refl w.heap.size w).alloc (Nat.le_refl _) _))
  have TT := Lib.hid (show Bts w1 a 45 cap l from hw1 ▸ bts_alloc h _)
  have G4 := Lib.hid (get_any a 45 cap l 4 2 (by omega) (by decide) w1 TT.out)
  have G6 := Lib.hid (get_any a 45 cap l 6 2 (by omega) (by decide) w1 TT.out)
  have G8 := Lib.hid (get_any a 45 cap l 8 2 (by omega) (by decide) w1 TT.out)
  have G10 := Lib.hid (get_any a 45 cap l 10 2 (by omega) (by decide) w1 TT.out)
  have G12 := Lib.hid (get_any a 45 cap l 12 4 (by omega) (by decide) w1 TT.out)
  have G16 := Lib.hid (get_any a 45 cap l 16 8 (by omega) (by decide) w1 TT.out)
  have G24 := Lib.hid (get_any a 45 cap l 24 8 (by omega) (by decide) w1 TT.out)
  obtain ⟨x, hx⟩ : ∃ x, x = supOf l := ⟨_, rfl⟩
  have HX := Lib.hid hx
  obtain ⟨v4, hv4⟩ : ∃ v, v = val ((l.drop 4).take 2) := ⟨_, rfl⟩
  have b4 : v4 < 65536 := hv4 ▸ val_bd (l.drop 4) 2 65536 (by decide)
  rw [← hv4] at G4
  obtain ⟨v6, hv6⟩ : ∃ v, v = val ((l.drop 6).take 2) := ⟨_, rfl⟩
  have b6 : v6 < 65536 := hv6 ▸ val_bd (l.drop 6) 2 65536 (by decide)
  rw [← hv6] at G6
  obtain ⟨v8, hv8⟩ : ∃ v, v = val ((l.drop 8).take 2) := ⟨_, rfl⟩
  have b8 : v8 < 65536 := hv8 ▸ val_bd (l.drop 8) 2 65536 (by decide)
  rw [← hv8] at G8
  obtain ⟨v10, hv10⟩ : ∃ v, v = val ((l.drop 10).take 2) := ⟨_, rfl⟩
  have b10 : v10 < 65536 := hv10 ▸ val_bd (l.drop 10) 2 65536 (by decide)
  rw [← hv10] at G10
  obtain ⟨v12, hv12⟩ : ∃ v, v = val ((l.drop 12).take 4) := ⟨_, rfl⟩
  have b12 : v12 < 4294967296 := hv12 ▸ val_bd (l.drop 12) 4 4294967296 (by decide)
  rw [← hv12] at G12
  obtain ⟨v16, hv16⟩ : ∃ v, v = val ((l.drop 16).take 8) := ⟨_, rfl⟩
  have b16 : v16 < 18446744073709551616 := hv16 ▸ val_bd (l.drop 16) 8 18446744073709551616 (by decide)
  rw [← hv16] at G16
  obtain ⟨v24, hv24⟩ : ∃ v, v = val ((l.drop 24).take 8) := ⟨_, rfl⟩
  have b24 : v24 < 18446744073709551616 := hv24 ▸ val_bd (l.drop 24) 8 18446744073709551616 (by decide)
  rw [← hv24] at G24
  have hxe : x = ⟨(v4 : Int), (v6 : Int), (v8 : Int), (v10 : Int), v12, v16, IntKind.i64.wrap (v24 : Int)⟩ := by rw [hx, hv4, hv6, hv8, hv10, hv12, hv16, hv24]; rfl
  obtain ⟨m24, hm24⟩ : ∃ m, m = IntKind.i64.wrap (v24 : Int) := ⟨_, rfl⟩
  rw [← hm24] at hxe
  have HXE := Lib.hid hxe
  rw [← hx] at harr hseq hbl
  have k4 : IntKind.i64.wrap (v4 : Int) = (v4 : Int) := by rw [IntKind.wrap_i64]; omega
  have k6 : IntKind.i64.wrap (v6 : Int) = (v6 : Int) := by rw [IntKind.wrap_i64]; omega
  have k8 : IntKind.i64.wrap (v8 : Int) = (v8 : Int) := by rw [IntKind.wrap_i64]; omega
  have k10 : IntKind.i64.wrap (v10 : Int) = (v10 : Int) := by rw [IntKind.wrap_i64]; omega
  have k12 : IntKind.u32.wrap (v12 : Int) = (v12 : Int) := by rw [IntKind.wrap_u32]; omega
  have k24 : IntKind.i64.wrap (v24 : Int) = m24 := hm24.symm
  have hs1 := L1.out.size
  have HBT := Lib.hid h
  clear hv4 hv6 hv8 hv10 hv12 hv16 hv24 hx hxe hm24 h
  go_enter Try.func27, Try.ntmps27
  go_upto_region 1 with (fail)
  rw [← hw1]
  clear hw1
  go_wp2_with fail
  refine G4.out.mono ?_
  rintro e w' ⟨rfl, rfl⟩
  go_wp2_with fail
  refine G6.out.mono ?_
  rintro e w' ⟨rfl, rfl⟩
  go_wp2_with fail
  refine G8.out.mono ?_
  rintro e w' ⟨rfl, rfl⟩
  go_wp2_with fail
  refine G10.out.mono ?_
  rintro e w' ⟨rfl, rfl⟩
  go_wp2_with fail
  refine G12.out.mono ?_
  rintro e w' ⟨rfl, rfl⟩
  go_wp2_with fail
  refine G16.out.mono ?_
  rintro e w' ⟨rfl, rfl⟩
  go_wp2_with fail
  refine G24.out.mono ?_
  rintro e w' ⟨rfl, rfl⟩
  have Z2 := Lib.hid (blk_at (w := w1) (g := w1.heap.size) (cs := zsup) (t := 52) (arr := #[.int .i64 0, .int .i64 0, .int .i64 0, .int .i64 0, .int .u32 0, .int .u64 0, .int .i64 0]) rfl rfl)
  have hr1 : ∀ u ∈ x.cells, u.oneCell' = true := by intro u hu; simp [Su.cells] at hu; rcases hu with rfl | rfl | rfl | rfl | rfl | rfl | rfl <;> rfl
  have hc : x.cells = [.int .i64 (v4 : Int), .int .i64 (v6 : Int), .int .i64 (v8 : Int), .int .i64 (v10 : Int), .int .u32 (v12 : Int), .int .u64 (v16 : Int), .int .i64 m24] := by rw [HXE.out]; rfl
  obtain ⟨xc, hxc⟩ : ∃ xc, xc = x.cells := ⟨_, rfl⟩
  rw [← hxc] at hc hr1
  have HC := Lib.hid hc
  have HXC := Lib.hid hxc
  have h7 : xc.length = 7 := by rw [hc]; rfl
  clear hc hxc
  go_upto_region 4 with (refine wpList_store_blk rfl 52 _ _ rfl w1.heap.size 0 7 rfl 52 zsup xc (by rw [HC.out]; rfl) Z2.out (by kernel_rfl) h7 (by decide) hr1 ?_; intro w3 n3 g3; rw [put_all _ _ (by rw [h7]; rfl)] at n3; have R3 := Lib.hid n3; have L3 := Lib.hid (below_grown (L1.out.alloc hs1 _) g3 (by simp only [size_alloc]; omega) hs1); have Z3 := Lib.hid ((Z.out.alloc _).grown g3 (by have := Z.out.lt; omega)); clear n3 g3)
  have hs3 := L3.out.size
  have hr3 := R3.out.lt
  have hz3 := Z3.out.lt
  have hzw := Z.out.lt
  have B3 := Lib.hid (HBT.out.below L3.out (Nat.le_refl _))
  have hxs : x = supOf l := HX.out
  by_cases hg : x.Good
  · have P := Lib.hid (fun w' => rpacksuper_yes hg harr hseq w')
    rw [← HXC.out] at P
    have hrecI : IsSup l ↔ x.bytes = l := by rw [hxs]; exact ⟨fun h => h.2.2, fun h => ⟨hl, hxs ▸ hg, h⟩⟩
    obtain ⟨bs, hbs⟩ : ∃ bs, bs = x.bytes := ⟨_, rfl⟩
    rw [← hbs] at P hbl hrecI
    have RI := Lib.hid hrecI
    clear hbs hg hrecI hxs
    go_wp2_with (first | (refine wpList_load_g rfl 52 _ rfl w1.heap.size 7 rfl 52 xc _ R3.out Try.underlying52 rfl (by kernel_rfl) h7 ?_))
    refine (P.out _).mono ?_
    rintro e w4 ⟨p, rfl, ho, hb4⟩
    obtain ⟨pa, pcap, rfl, hbt⟩ := OwnB.bts_own hbl ho
    have Z4 := Lib.hid (Z3.out.below hb4 hz3)
    have R4 := Lib.hid (R3.out.below hb4 hr3)
    have L4 := Lib.hid (L3.out.trans (hb4.mono hs3))
    have E := Lib.hid (Same.same_any a 45 cap l pa 45 pcap bs w4 (B3.out.below hb4 (Nat.le_refl _)) hbt)
    clear ho hbt hb4 P Z3 R3 L3 B3
    by_cases heq : l = bs
    · have HQ := Lib.hid (RI.out.2 heq.symm)
      rw [decide_eq_true heq] at E
      clear heq
      go_wp2_with fail
      refine E.out.mono ?_
      rintro e w5 ⟨rfl, nd, rfl⟩
      have Z5 := Lib.hid (Z4.out.drewN nd)
      have R5 := Lib.hid (R4.out.drewN nd)
      have L5 := Lib.hid (below_drewN L4.out nd)
      have hs5 := L5.out.size
      clear Z4 R4 L4
      go_wp2_with (first | (refine wpList_load_g rfl 52 _ rfl w1.heap.size 7 rfl 52 xc _ R5.out Try.underlying52 rfl (by kernel_rfl) h7 ?_) | (refine wpList_store_blk rfl 52 _ _ rfl w.heap.size 0 7 rfl 52 zsup xc rfl Z5.out (by kernel_rfl) h7 (by decide) hr1 ?_; intro w6 z6 g6; rw [put_all _ _ (by rw [h7]; rfl)] at z6; have Z6 := Lib.hid z6; have L6 := Lib.hid (below_grown L5.out g6 hs5 (Nat.le_refl _)); clear z6 g6))
      exact bodyPost_ret (v := .tuple #[.agg xc.toArray, .int .i64 0]) (results_cell_two rfl _ _ w.heap.size 52 _ (0, 0) _ _ rfl rfl Z6.out Try.underlying52 rfl (by rw [List.size_toArray, h7]; kernel_rfl)) rfl ⟨by rw [(sOut_yes HQ.out).1, (sOut_yes HQ.out).2, HXC.out, HX.out], L6.out⟩
    · have HQ := Lib.hid (show ¬ IsSup l from fun h => heq (RI.out.1 h).symm)
      rw [decide_eq_false heq] at E
      clear heq
      go_wp2_with fail
      refine E.out.mono ?_
      rintro e w5 ⟨rfl, nd, rfl⟩
      have Z5 := Lib.hid (Z4.out.drewN nd)
      have R5 := Lib.hid (R4.out.drewN nd)
      have L5 := Lib.hid (below_drewN L4.out nd)
      have hs5 := L5.out.size
      clear Z4 R4 L4
      go_wp2_with (first | (refine wpList_load_g rfl 52 _ rfl w1.heap.size 7 rfl 52 xc _ R5.out Try.underlying52 rfl (by kernel_rfl) h7 ?_) | (refine wpList_store_blk rfl 52 _ _ rfl w.heap.size 0 7 rfl 52 zsup zsup rfl Z5.out (by kernel_rfl) rfl (by decide) (by decide) ?_; intro w6 z6 g6; have Z6 := Lib.hid (show Blk w6 w.heap.size zsup 52 from z6); have L6 := Lib.hid (below_grown L5.out g6 hs5 (Nat.le_refl _)); clear z6 g6))
      exact bodyPost_ret (v := .tuple #[.agg zsup.toArray, .int .i64 7]) (results_cell_two rfl _ _ w.heap.size 52 _ (0, 0) _ _ rfl rfl Z6.out Try.underlying52 rfl (by kernel_rfl)) rfl ⟨by rw [(sOut_no hl HQ.out).1, (sOut_no hl HQ.out).2]; rfl, L6.out⟩
  · have HQ := Lib.hid (show ¬ IsSup l from fun h => hg (hxs ▸ h.2.1))
    have P : ∃ en : Int, ¬ en = 0 ∧ ∀ w', Calls Try.prog 24 #[.agg xc.toArray] w' fun e w'' => e = .returned (.tuple #[.slice none 0 0, .int .i64 en]) ∧ Below w'.heap.size w' w'' := by
      rw [HXC.out]
      by_cases hso : Sound x.d x.c x.s
      · exact ⟨2, by decide, fun w' => rpacksuper_arg hso (fun h => hg ⟨hso, h⟩) w'⟩
      · exact ⟨1, by decide, fun w' => rpacksuper_form hso w'⟩
    obtain ⟨en, hen, hP⟩ := P
    have P2 := Lib.hid hP
    clear hP hg hxs
    go_wp2_with (first | (refine wpList_load_g rfl 52 _ rfl w1.heap.size 7 rfl 52 xc _ R3.out Try.underlying52 rfl (by kernel_rfl) h7 ?_))
    refine (P2.out _).mono ?_
    rintro e w4 ⟨rfl, hb4⟩
    have Z5 := Lib.hid (Z3.out.below hb4 hz3)
    have R5 := Lib.hid (R3.out.below hb4 hr3)
    have L5 := Lib.hid (L3.out.trans (hb4.mono hs3))
    have hs5 := L5.out.size
    clear Z3 R3 L3 B3 hb4 P2
    go_wp2_with (first | (refine wpList_load_g rfl 52 _ rfl w1.heap.size 7 rfl 52 xc _ R5.out Try.underlying52 rfl (by kernel_rfl) h7 ?_) | (refine wpList_store_blk rfl 52 _ _ rfl w.heap.size 0 7 rfl 52 zsup zsup rfl Z5.out (by kernel_rfl) rfl (by decide) (by decide) ?_; intro w6 z6 g6; have Z6 := Lib.hid (show Blk w6 w.heap.size zsup 52 from z6); have L6 := Lib.hid (below_grown L5.out g6 hs5 (Nat.le_refl _)); clear z6 g6))
    exact bodyPost_ret (v := .tuple #[.agg zsup.toArray, .int .i64 7]) (results_cell_two rfl _ _ w.heap.size 52 _ (0, 0) _ _ rfl rfl Z6.out Try.underlying52 rfl (by kernel_rfl)) rfl ⟨by rw [(sOut_no hl HQ.out).1, (sOut_no hl HQ.out).2]; rfl, L6.out⟩
set_option maxHeartbeats 1000000 in
theorem runpacksuper_short (a : Option Addr) (len cap : Nat) (l : List UInt8) (w : World) (h : Bts w a len cap l) (hs : len ≠ 45) :
    Calls Try.prog 27 #[.slice a len cap] w fun e w' => e = .returned (.tuple #[.agg zsup.toArray, .int .i64 1]) ∧ Below w.heap.size w w' := by
  obtain ⟨hl, hlc, hm, ha⟩ := h
  unfold maxLen at hm
  have hne : ¬ ((len : Int) = 45) := by omega
  clear ha hs
  obtain ⟨w1, hw1⟩ : ∃ w1, w1 = w.alloc (.cells #[.int .i64 0, .int .i64 0, .int .i64 0, .int .i64 0, .int .u32 0, .int .u64 0, .int .i64 0] 52) := ⟨_, rfl⟩
  have Z := Lib.hid (show Blk w1 w.heap.size zsup 52 from hw1 ▸ (blk_at (w := w) (g := w.heap.size) (cs := zsup) (t := 52) (arr := #[.int .i64 0, .int .i64 0, .int .i64 0, .int .i64 0, .int .u32 0, .int .u64 0, .int .i64 0]) rfl rfl))
  have L1 := Lib.hid (show Below w.heap.size w w1 from hw1 ▸ ((Below.refl w.heap.size w).alloc (Nat.le_refl _) _))
  have hs1 := L1.out.size
  go_enter Try.func27, Try.ntmps27
  go_upto_region 1 with (fail)
  rw [← hw1]
  clear hw1
  go_wp2_with (first | (refine wpList_store_blk rfl 52 _ _ rfl w.heap.size 0 7 rfl 52 zsup zsup rfl Z.out (by kernel_rfl) rfl (by decide) (by decide) ?_; intro w6 z6 g6; have Z6 := Lib.hid (show Blk w6 w.heap.size zsup 52 from z6); have L6 := Lib.hid (below_grown L1.out g6 hs1 (Nat.le_refl _)); clear z6 g6))
  exact bodyPost_ret (v := .tuple #[.agg zsup.toArray, .int .i64 1]) (results_cell_two rfl _ _ w.heap.size 52 _ (0, 0) _ _ rfl rfl Z6.out Try.underlying52 rfl (by kernel_rfl)) rfl ⟨rfl, L6.out⟩
theorem runpacksuper_any (a : Option Addr) (len cap : Nat) (l : List UInt8) (w : World) (h : Bts w a len cap l) :
    Calls Try.prog 27 #[.slice a len cap] w fun e w' => e = .returned (.tuple #[.agg (sOut l).cells.toArray, .int .i64 (sErr l)]) ∧ Below w.heap.size w w' := by
  by_cases hs : len = 45
  · subst hs
    exact runpacksuper_long a cap l w h
  · rw [(sOut_short (h.1 ▸ hs)).1, (sOut_short (h.1 ▸ hs)).2]
    exact runpacksuper_short a len cap l w h hs
end Go.Proofs.Ytmmgejlfcehipaa.Codec
