/-
  The walk of CodecUnlike. Helper text; no statement is proved here.
-/
import Derived.Test.YtmmgejlfcehipaaUnlikePlain
import Derived.Deep.Cut
set_option linter.unusedVariables false
set_option linter.unusedSimpArgs false
namespace Go.Proofs.Ytmmgejlfcehipaa.Codec
open Go.RowKit Go.Proofs.Ytmmgejlfcehipaa.Base Go.Proofs.Ytmmgejlfcehipaa.Laws Go.Proofs.Ytmmgejlfcehipaa.InvM Go.Proofs.Ytmmgejlfcehipaa.Lay Go.Proofs.Ytmmgejlfcehipaa.Inv
set_option maxRecDepth 16000 in
set_option maxHeartbeats 16000000 in
theorem unlike_walk {r1 r2 : Rc} (hr1 : r1.Valid) (hr2 : r2.Valid) {x1 x2 : Su} (hx1 : x1.Valid) (hx2 : x2.Valid) {e1 s1 q1 e2 s2 q2 : Nat} (he1 : e1 < 4294967296) (hs1 : s1 < 4294967296) (hq1 : q1 < 4294967296) (he2 : e2 < 4294967296) (hs2 : s2 < 4294967296) (hq2 : q2 < 4294967296) {b1 b2 : Option Addr} {n1 c1 n2 c2 : Nat} {l1 l2 : List UInt8} (w : World) (h1 : Bts w b1 n1 c1 l1) (h2 : Bts w b2 n2 c2 l2) :
    Calls Try.prog 8 #[.agg r1.cells.toArray, .agg r2.cells.toArray, .agg x1.cells.toArray, .agg x2.cells.toArray, .agg #[.int .u32 (e1 : Int), .int .u32 (s1 : Int), .int .u32 (q1 : Int), .slice b1 n1 c1], .agg #[.int .u32 (e2 : Int), .int .u32 (s2 : Int), .int .u32 (q2 : Int), .slice b2 n2 c2]] w fun y w' => y = .returned (.bool true) ∧ Below w.heap.size w w' := by
  have HB1 := Lib.hid h1
  have HB2 := Lib.hid h2
  have HW := Lib.hid awake_any
  have PR1 := Lib.hid (fun w' => px_rec hr1 w')
  have PR2 := Lib.hid (fun w' => px_rec hr2 w')
  have PS1 := Lib.hid (fun w' => px_sup hx1 w')
  have PS2 := Lib.hid (fun w' => px_sup hx2 w')
  have PM1 := Lib.hid (fun w' (hb : Below w.heap.size w w') => px_msg he1 hs1 hq1 w' (HB1.out.below hb (Nat.le_refl _)))
  have PM2 := Lib.hid (fun w' (hb : Below w.heap.size w w') => px_msg he2 hs2 hq2 w' (HB2.out.below hb (Nat.le_refl _)))
  have SM := Lib.hid (fun w' (hb : Below w.heap.size w w') => samemsg_any e1 s1 q1 b1 n1 c1 l1 e2 s2 q2 b2 n2 c2 l2 w' (HB1.out.below hb (Nat.le_refl _)) (HB2.out.below hb (Nat.le_refl _)))
  have hrl1 := Rc.len hr1
  have hrl2 := Rc.len hr2
  have hxl1 : x1.cells.length = 7 := rfl
  have hxl2 : x2.cells.length = 7 := rfl
  have ER := Lib.hid (fun w' => Rc.eq hr1 hr2 w')
  have EX := Lib.hid (fun w' => Su.eq hx1 hx2 w')
  have em1 : (#[.int .u32 (e1 : Int), .int .u32 (s1 : Int), .int .u32 (q1 : Int), .slice b1 n1 c1] : Array Value) = (msgV e1 s1 q1 (.slice b1 n1 c1)).toArray := rfl
  have em2 : (#[.int .u32 (e2 : Int), .int .u32 (s2 : Int), .int .u32 (q2 : Int), .slice b2 n2 c2] : Array Value) = (msgV e2 s2 q2 (.slice b2 n2 c2)).toArray := rfl
  have hml1 : (msgV e1 s1 q1 (.slice b1 n1 c1)).length = 4 := rfl
  have hml2 : (msgV e2 s2 q2 (.slice b2 n2 c2)).length = 4 := rfl
  rw [em1] at PM1 SM ⊢
  rw [em2] at PM2 SM ⊢
  obtain ⟨rc1, hrc1⟩ : ∃ rc, rc = r1.cells := ⟨_, rfl⟩
  obtain ⟨rc2, hrc2⟩ : ∃ rc, rc = r2.cells := ⟨_, rfl⟩
  obtain ⟨xc1, hxc1⟩ : ∃ rc, rc = x1.cells := ⟨_, rfl⟩
  obtain ⟨xc2, hxc2⟩ : ∃ rc, rc = x2.cells := ⟨_, rfl⟩
  obtain ⟨mc1, hmc1⟩ : ∃ rc, rc = msgV e1 s1 q1 (.slice b1 n1 c1) := ⟨_, rfl⟩
  obtain ⟨mc2, hmc2⟩ : ∃ rc, rc = msgV e2 s2 q2 (.slice b2 n2 c2) := ⟨_, rfl⟩
  rw [← hrc1] at PR1 ER hrl1 ⊢
  rw [← hrc2] at PR2 ER hrl2 ⊢
  rw [← hxc1] at PS1 EX hxl1 ⊢
  rw [← hxc2] at PS2 EX hxl2 ⊢
  rw [← hmc1] at PM1 SM hml1 ⊢
  rw [← hmc2] at PM2 SM hml2 ⊢
  clear hrc1 hrc2 hxc1 hxc2 hmc1 hmc2 em1 em2 h1 h2
  obtain ⟨w1, hw1⟩ : ∃ w1, w1 = (((((w.alloc (.cells rc1.toArray 26)).alloc (.cells rc2.toArray 26)).alloc (.cells xc1.toArray 52)).alloc (.cells xc2.toArray 52)).alloc (.cells mc1.toArray 43)).alloc (.cells mc2.toArray 43) := ⟨_, rfl⟩
  have RA1 := Lib.hid (show Blk w1 w.heap.size rc1 26 from hw1 ▸ (((((blk_new w rc1 _).alloc _).alloc _).alloc _).alloc _).alloc _)
  have RB1 := Lib.hid (show Blk w1 (w.heap.size + 1) rc2 26 from hw1 ▸ ((((blk_at (by simp only [size_alloc]) rfl).alloc _).alloc _).alloc _).alloc _)
  have XA1 := Lib.hid (show Blk w1 (w.heap.size + 1 + 1) xc1 52 from hw1 ▸ (((blk_at (by simp only [size_alloc]) rfl).alloc _).alloc _).alloc _)
  have XB1 := Lib.hid (show Blk w1 (w.heap.size + 1 + 1 + 1) xc2 52 from hw1 ▸ ((blk_at (by simp only [size_alloc]) rfl).alloc _).alloc _)
  have MA1 := Lib.hid (show Blk w1 (w.heap.size + 1 + 1 + 1 + 1) mc1 43 from hw1 ▸ (blk_at (by simp only [size_alloc]) rfl).alloc _)
  have MB1 := Lib.hid (show Blk w1 (w.heap.size + 1 + 1 + 1 + 1 + 1) mc2 43 from hw1 ▸ blk_at (by simp only [size_alloc]) rfl)
  have L1 := Lib.hid (show Below w.heap.size w w1 from hw1 ▸ ((((((Below.refl _ _).alloc (Nat.le_refl _) _).alloc (by simp only [size_alloc]; omega) _).alloc (by simp only [size_alloc]; omega) _).alloc (by simp only [size_alloc]; omega) _).alloc (by simp only [size_alloc]; omega) _).alloc (by simp only [size_alloc]; omega) _)
  go_enter Try.func8, Try.ntmps8
  go_upto_region 1 with (fail)
  rw [← hw1]
  clear hw1
  have hz1 := L1.out.size
  go_wp2_with fail
  refine (HW.out _).mono ?_
  rintro y w2 ⟨rfl, hb⟩
  have RA2 := Lib.hid (RA1.out.below hb RA1.out.lt)
  have RB2 := Lib.hid (RB1.out.below hb RB1.out.lt)
  have XA2 := Lib.hid (XA1.out.below hb XA1.out.lt)
  have XB2 := Lib.hid (XB1.out.below hb XB1.out.lt)
  have MA2 := Lib.hid (MA1.out.below hb MA1.out.lt)
  have MB2 := Lib.hid (MB1.out.below hb MB1.out.lt)
  have L2 := Lib.hid (L1.out.trans (hb.mono hz1))
  have hz2 := L2.out.size
  clear hb RA1 RB1 XA1 XB1 MA1 MB1 L1
  have K2 := Lib.hid (PR1.out w2)
  go_wp2_with (first | (refine wpList_load_g rfl 26 _ rfl w.heap.size 19 rfl 26 rc1 _ RA2.out Try.underlying26 rfl (by kernel_rfl) hrl1 ?_))
  refine K2.out.mono ?_
  rintro y w3 ⟨va, ea, rfl, px, hb⟩
  have RA3 := Lib.hid (RA2.out.below hb RA2.out.lt)
  have RB3 := Lib.hid (RB2.out.below hb RB2.out.lt)
  have XA3 := Lib.hid (XA2.out.below hb XA2.out.lt)
  have XB3 := Lib.hid (XB2.out.below hb XB2.out.lt)
  have MA3 := Lib.hid (MA2.out.below hb MA2.out.lt)
  have MB3 := Lib.hid (MB2.out.below hb MB2.out.lt)
  have Qva3 := Lib.hid px
  have L3 := Lib.hid (L2.out.trans (hb.mono hz2))
  have hz3 := L3.out.size
  clear hb px K2 L2 RA2 RB2 XA2 XB2 MA2 MB2 
  have K3 := Lib.hid (PR2.out w3)
  go_wp2_with (first | (refine wpList_load_g rfl 26 _ rfl (w.heap.size + 1) 19 rfl 26 rc2 _ RB3.out Try.underlying26 rfl (by kernel_rfl) hrl2 ?_))
  refine K3.out.mono ?_
  rintro y w4 ⟨vb, eb, rfl, px, hb⟩
  have RA4 := Lib.hid (RA3.out.below hb RA3.out.lt)
  have RB4 := Lib.hid (RB3.out.below hb RB3.out.lt)
  have XA4 := Lib.hid (XA3.out.below hb XA3.out.lt)
  have XB4 := Lib.hid (XB3.out.below hb XB3.out.lt)
  have MA4 := Lib.hid (MA3.out.below hb MA3.out.lt)
  have MB4 := Lib.hid (MB3.out.below hb MB3.out.lt)
  have Qva4 := Lib.hid (Qva3.out.below hb)
  have Qvb4 := Lib.hid px
  have L4 := Lib.hid (L3.out.trans (hb.mono hz3))
  have hz4 := L4.out.size
  clear hb px K3 L3 RA3 RB3 XA3 XB3 MA3 MB3 Qva3
  have K4 := Lib.hid (PS1.out w4)
  go_wp2_with (first | (refine wpList_load_g rfl 52 _ rfl (w.heap.size + 1 + 1) 7 rfl 52 xc1 _ XA4.out Try.underlying52 rfl (by kernel_rfl) hxl1 ?_))
  refine K4.out.mono ?_
  rintro y w5 ⟨vc, ec, rfl, px, hb⟩
  have RA5 := Lib.hid (RA4.out.below hb RA4.out.lt)
  have RB5 := Lib.hid (RB4.out.below hb RB4.out.lt)
  have XA5 := Lib.hid (XA4.out.below hb XA4.out.lt)
  have XB5 := Lib.hid (XB4.out.below hb XB4.out.lt)
  have MA5 := Lib.hid (MA4.out.below hb MA4.out.lt)
  have MB5 := Lib.hid (MB4.out.below hb MB4.out.lt)
  have Qva5 := Lib.hid (Qva4.out.below hb)
  have Qvb5 := Lib.hid (Qvb4.out.below hb)
  have Qvc5 := Lib.hid px
  have L5 := Lib.hid (L4.out.trans (hb.mono hz4))
  have hz5 := L5.out.size
  clear hb px K4 L4 RA4 RB4 XA4 XB4 MA4 MB4 Qva4 Qvb4
  have K5 := Lib.hid (PS2.out w5)
  go_wp2_with (first | (refine wpList_load_g rfl 52 _ rfl (w.heap.size + 1 + 1 + 1) 7 rfl 52 xc2 _ XB5.out Try.underlying52 rfl (by kernel_rfl) hxl2 ?_))
  refine K5.out.mono ?_
  rintro y w6 ⟨vd, ed, rfl, px, hb⟩
  have RA6 := Lib.hid (RA5.out.below hb RA5.out.lt)
  have RB6 := Lib.hid (RB5.out.below hb RB5.out.lt)
  have XA6 := Lib.hid (XA5.out.below hb XA5.out.lt)
  have XB6 := Lib.hid (XB5.out.below hb XB5.out.lt)
  have MA6 := Lib.hid (MA5.out.below hb MA5.out.lt)
  have MB6 := Lib.hid (MB5.out.below hb MB5.out.lt)
  have Qva6 := Lib.hid (Qva5.out.below hb)
  have Qvb6 := Lib.hid (Qvb5.out.below hb)
  have Qvc6 := Lib.hid (Qvc5.out.below hb)
  have Qvd6 := Lib.hid px
  have L6 := Lib.hid (L5.out.trans (hb.mono hz5))
  have hz6 := L6.out.size
  clear hb px K5 L5 RA5 RB5 XA5 XB5 MA5 MB5 Qva5 Qvb5 Qvc5
  have K6 := Lib.hid (PM1.out w6 L6.out)
  go_wp2_with (first | (refine wpList_load_g rfl 43 _ rfl (w.heap.size + 1 + 1 + 1 + 1) 4 rfl 43 mc1 _ MA6.out Try.underlying43 rfl (by kernel_rfl) hml1 ?_))
  refine K6.out.mono ?_
  rintro y w7 ⟨ve, ee, rfl, px, hb⟩
  have RA7 := Lib.hid (RA6.out.below hb RA6.out.lt)
  have RB7 := Lib.hid (RB6.out.below hb RB6.out.lt)
  have XA7 := Lib.hid (XA6.out.below hb XA6.out.lt)
  have XB7 := Lib.hid (XB6.out.below hb XB6.out.lt)
  have MA7 := Lib.hid (MA6.out.below hb MA6.out.lt)
  have MB7 := Lib.hid (MB6.out.below hb MB6.out.lt)
  have Qva7 := Lib.hid (Qva6.out.below hb)
  have Qvb7 := Lib.hid (Qvb6.out.below hb)
  have Qvc7 := Lib.hid (Qvc6.out.below hb)
  have Qvd7 := Lib.hid (Qvd6.out.below hb)
  have Qve7 := Lib.hid px
  have L7 := Lib.hid (L6.out.trans (hb.mono hz6))
  have hz7 := L7.out.size
  clear hb px K6 L6 RA6 RB6 XA6 XB6 MA6 MB6 Qva6 Qvb6 Qvc6 Qvd6
  have K7 := Lib.hid (PM2.out w7 L7.out)
  go_wp2_with (first | (refine wpList_load_g rfl 43 _ rfl (w.heap.size + 1 + 1 + 1 + 1 + 1) 4 rfl 43 mc2 _ MB7.out Try.underlying43 rfl (by kernel_rfl) hml2 ?_))
  refine K7.out.mono ?_
  rintro y w8 ⟨vf, ef, rfl, px, hb⟩
  have RA8 := Lib.hid (RA7.out.below hb RA7.out.lt)
  have RB8 := Lib.hid (RB7.out.below hb RB7.out.lt)
  have XA8 := Lib.hid (XA7.out.below hb XA7.out.lt)
  have XB8 := Lib.hid (XB7.out.below hb XB7.out.lt)
  have MA8 := Lib.hid (MA7.out.below hb MA7.out.lt)
  have MB8 := Lib.hid (MB7.out.below hb MB7.out.lt)
  have Qva8 := Lib.hid (Qva7.out.below hb)
  have Qvb8 := Lib.hid (Qvb7.out.below hb)
  have Qvc8 := Lib.hid (Qvc7.out.below hb)
  have Qvd8 := Lib.hid (Qvd7.out.below hb)
  have Qve8 := Lib.hid (Qve7.out.below hb)
  have Qvf8 := Lib.hid px
  have L8 := Lib.hid (L7.out.trans (hb.mono hz7))
  have hz8 := L8.out.size
  clear hb px K7 L7 RA7 RB7 XA7 XB7 MA7 MB7 Qva7 Qvb7 Qvc7 Qvd7 Qve7
  go_upto_region 9 with (fail)
  obtain ⟨k7, hk7, hU⟩ := px_sup_rec Qvc8.out
  have hS := px_rec_sup hr1 Qva8.out
  have KU := Lib.hid (fun w' (hb : Below w8.heap.size w8 w') => px_sup_rec ((Qvc8.out).below hb))
  have KS := Lib.hid (fun w' (hb : Below w8.heap.size w8 w') => px_rec_sup hr1 ((Qva8.out).below hb))
  clear hk7 hU hS
  clear k7
  have KQ := Lib.hid (fun w' w'' (h : Below w8.heap.size w8 w') (hb : Below w'.heap.size w' w'') => h.trans (hb.mono h.size))
  refine wp_region_inv_tail (fun w' => Below w8.heap.size w8 w') 48 (by kernel_rfl) (by kernel_rfl) ((Below.refl _ _).drew) ?_
  simp only [List.take_succ_cons, List.take_zero, List.drop_succ_cons, List.drop_zero]
  have Y1 := Qva8.out
  have Y2 := Qvb8.out
  clear Qva8 Qvb8
  rcases Y1 with ⟨he1', g1, a1, k1, rfl, T1⟩ | ⟨he1', hv1'⟩
  case' inr =>
    clear Y2 hv1'
    refine inv_value (.int .i64 ea) rfl (fun w' _ => by go_simp) ?_
    simp only [Act.put, List.setIfInBounds_toArray, List.set_cons_zero, List.set_cons_succ]
    refine inv_value (.bool false) rfl (fun w' _ => by go_simp) ?_
    simp only [Act.put, List.setIfInBounds_toArray, List.set_cons_zero, List.set_cons_succ]
    refine inv_value (.bool false) rfl (fun w' _ => by go_simp) ?_
    simp only [Act.put, List.setIfInBounds_toArray, List.set_cons_zero, List.set_cons_succ]
    refine inv_skip rfl ?_
    simp only [Act.put, List.setIfInBounds_toArray, List.set_cons_zero, List.set_cons_succ]
    refine inv_skip rfl ?_
    simp only [Act.put, List.setIfInBounds_toArray, List.set_cons_zero, List.set_cons_succ]
    refine inv_value (.bool false) rfl (fun w' _ => by go_simp) ?_
    simp only [Act.put, List.setIfInBounds_toArray, List.set_cons_zero, List.set_cons_succ]
    refine inv_value (.bool false) rfl (fun w' _ => by go_simp) ?_
    simp only [Act.put, List.setIfInBounds_toArray, List.set_cons_zero, List.set_cons_succ]
    refine inv_skip rfl ?_
    simp only [Act.put, List.setIfInBounds_toArray, List.set_cons_zero, List.set_cons_succ]
    refine inv_skip rfl ?_
    simp only [Act.put, List.setIfInBounds_toArray, List.set_cons_zero, List.set_cons_succ]
    refine inv_skip rfl ?_
    simp only [Act.put, List.setIfInBounds_toArray, List.set_cons_zero, List.set_cons_succ]
    refine inv_skip rfl ?_
    simp only [Act.put, List.setIfInBounds_toArray, List.set_cons_zero, List.set_cons_succ]
    refine inv_skip rfl ?_
    simp only [Act.put, List.setIfInBounds_toArray, List.set_cons_zero, List.set_cons_succ]
    refine inv_skip rfl ?_
    simp only [Act.put, List.setIfInBounds_toArray, List.set_cons_zero, List.set_cons_succ]
    refine inv_skip rfl ?_
    simp only [Act.put, List.setIfInBounds_toArray, List.set_cons_zero, List.set_cons_succ]
    refine inv_value (.bool false) rfl (fun w' _ => by go_simp) ?_
    simp only [Act.put, List.setIfInBounds_toArray, List.set_cons_zero, List.set_cons_succ]
    refine inv_value (.bool false) rfl (fun w' _ => by go_simp) ?_
    simp only [Act.put, List.setIfInBounds_toArray, List.set_cons_zero, List.set_cons_succ]
  case' inl =>
    subst he1'
    rcases Y2 with ⟨he2', g2, a2, k2, rfl, T2⟩ | ⟨he2', hv2'⟩
    case' inr =>
      clear T1 hv2'
      refine inv_value (.int .i64 0) rfl (fun w' _ => by go_simp) ?_
      simp only [Act.put, List.setIfInBounds_toArray, List.set_cons_zero, List.set_cons_succ]
      refine inv_value (.bool true) rfl (fun w' _ => by go_simp) ?_
      simp only [Act.put, List.setIfInBounds_toArray, List.set_cons_zero, List.set_cons_succ]
      refine inv_value (.bool true) rfl (fun w' _ => by go_simp) ?_
      simp only [Act.put, List.setIfInBounds_toArray, List.set_cons_zero, List.set_cons_succ]
      refine inv_value (.int .i64 eb) rfl (fun w' _ => by go_simp) ?_
      simp only [Act.put, List.setIfInBounds_toArray, List.set_cons_zero, List.set_cons_succ]
      refine inv_value (.bool false) rfl (fun w' _ => by go_simp) ?_
      simp only [Act.put, List.setIfInBounds_toArray, List.set_cons_zero, List.set_cons_succ]
      refine inv_value (.bool false) rfl (fun w' _ => by go_simp) ?_
      simp only [Act.put, List.setIfInBounds_toArray, List.set_cons_zero, List.set_cons_succ]
      refine inv_value (.bool false) rfl (fun w' _ => by go_simp) ?_
      simp only [Act.put, List.setIfInBounds_toArray, List.set_cons_zero, List.set_cons_succ]
      refine inv_skip rfl ?_
      simp only [Act.put, List.setIfInBounds_toArray, List.set_cons_zero, List.set_cons_succ]
      refine inv_skip rfl ?_
      simp only [Act.put, List.setIfInBounds_toArray, List.set_cons_zero, List.set_cons_succ]
      refine inv_skip rfl ?_
      simp only [Act.put, List.setIfInBounds_toArray, List.set_cons_zero, List.set_cons_succ]
      refine inv_skip rfl ?_
      simp only [Act.put, List.setIfInBounds_toArray, List.set_cons_zero, List.set_cons_succ]
      refine inv_skip rfl ?_
      simp only [Act.put, List.setIfInBounds_toArray, List.set_cons_zero, List.set_cons_succ]
      refine inv_skip rfl ?_
      simp only [Act.put, List.setIfInBounds_toArray, List.set_cons_zero, List.set_cons_succ]
      refine inv_skip rfl ?_
      simp only [Act.put, List.setIfInBounds_toArray, List.set_cons_zero, List.set_cons_succ]
      refine inv_value (.bool false) rfl (fun w' _ => by go_simp) ?_
      simp only [Act.put, List.setIfInBounds_toArray, List.set_cons_zero, List.set_cons_succ]
      refine inv_value (.bool false) rfl (fun w' _ => by go_simp) ?_
      simp only [Act.put, List.setIfInBounds_toArray, List.set_cons_zero, List.set_cons_succ]
    case' inl =>
      subst he2'
      have HSB := Lib.hid (fun w' (hb : Below w8.heap.size w8 w') => Same.same_any a1 (37) k1 _ a2 (37) k2 _ w' (T1.below hb (Nat.le_refl _)) (T2.below hb (Nat.le_refl _)))
      obtain ⟨D, hD⟩ : ∃ D, D = decide (r1 = r2) := ⟨_, rfl⟩
      rw [rec_bytes_iff hr1 hr2 g1 g2, ← hD] at HSB
      have HD := Lib.hid hD
      clear hD g1 g2
      clear T1 T2
      refine inv_value (.int .i64 0) rfl (fun w' _ => by go_simp) ?_
      simp only [Act.put, List.setIfInBounds_toArray, List.set_cons_zero, List.set_cons_succ]
      refine inv_value (.bool true) rfl (fun w' _ => by go_simp) ?_
      simp only [Act.put, List.setIfInBounds_toArray, List.set_cons_zero, List.set_cons_succ]
      refine inv_value (.bool true) rfl (fun w' _ => by go_simp) ?_
      simp only [Act.put, List.setIfInBounds_toArray, List.set_cons_zero, List.set_cons_succ]
      refine inv_value (.int .i64 0) rfl (fun w' _ => by go_simp) ?_
      simp only [Act.put, List.setIfInBounds_toArray, List.set_cons_zero, List.set_cons_succ]
      refine inv_value (.bool true) rfl (fun w' _ => by go_simp) ?_
      simp only [Act.put, List.setIfInBounds_toArray, List.set_cons_zero, List.set_cons_succ]
      refine inv_value (.bool true) rfl (fun w' _ => by go_simp) ?_
      simp only [Act.put, List.setIfInBounds_toArray, List.set_cons_zero, List.set_cons_succ]
      refine inv_value (.bool true) rfl (fun w' _ => by go_simp) ?_
      simp only [Act.put, List.setIfInBounds_toArray, List.set_cons_zero, List.set_cons_succ]
      refine inv_value (.slice a1 (37) k1) rfl (fun w' _ => by go_simp) ?_
      simp only [Act.put, List.setIfInBounds_toArray, List.set_cons_zero, List.set_cons_succ]
      refine inv_value (.slice a2 (37) k2) rfl (fun w' _ => by go_simp) ?_
      simp only [Act.put, List.setIfInBounds_toArray, List.set_cons_zero, List.set_cons_succ]
      refine inv_call (.bool D) rfl 14 #[.slice a1 (37) k1, .slice a2 (37) k2] (fun w' _ => by go_simp) (fun w' h => (HSB.out w' h).mono fun y w'' ⟨hy, nd, hw⟩ => ⟨hy, hw ▸ below_drewN h nd⟩) ?_
      simp only [Act.put, List.setIfInBounds_toArray, List.set_cons_zero, List.set_cons_succ]
      refine inv_load_blk rfl 26 _ rfl w.heap.size 0 19 rfl 26 rc1 _ (fun w' h => RA8.out.below h RA8.out.lt) Try.underlying26 rfl (by kernel_rfl) (by rw [hrl1]; omega) rc1 (by rw [List.drop_zero, List.take_of_length_le (by rw [hrl1]; omega)]) ?_
      simp only [Act.put, List.setIfInBounds_toArray, List.set_cons_zero, List.set_cons_succ]
      refine inv_load_blk rfl 26 _ rfl (w.heap.size + 1) 0 19 rfl 26 rc2 _ (fun w' h => RB8.out.below h RB8.out.lt) Try.underlying26 rfl (by kernel_rfl) (by rw [hrl2]; omega) rc2 (by rw [List.drop_zero, List.take_of_length_le (by rw [hrl2]; omega)]) ?_
      simp only [Act.put, List.setIfInBounds_toArray, List.set_cons_zero, List.set_cons_succ]
      refine Eq.inv_eql (b := D) rfl rfl rfl rfl (by kernel_rfl) (fun w' _ => (ER.out w').trans (by rw [HD.out])) ?_
      simp only [Act.put, List.setIfInBounds_toArray, List.set_cons_zero, List.set_cons_succ]
      refine inv_value (.bool false) rfl (fun w' _ => by go_simp; all_goals simp) ?_
      simp only [Act.put, List.setIfInBounds_toArray, List.set_cons_zero, List.set_cons_succ]
      refine inv_value (.bool false) rfl (fun w' _ => by go_simp) ?_
      simp only [Act.put, List.setIfInBounds_toArray, List.set_cons_zero, List.set_cons_succ]
      refine inv_value (.bool false) rfl (fun w' _ => by go_simp) ?_
      simp only [Act.put, List.setIfInBounds_toArray, List.set_cons_zero, List.set_cons_succ]
  all_goals
    have Y1 := Qvc8.out
    have Y2 := Qvd8.out
    clear Qvc8 Qvd8
    rcases Y1 with ⟨he1', g1, a1, k1, rfl, T1⟩ | ⟨he1', hv1'⟩
    case' inr =>
      clear Y2 hv1'
      refine inv_value (.int .i64 ec) rfl (fun w' _ => by go_simp) ?_
      simp only [Act.put, List.setIfInBounds_toArray, List.set_cons_zero, List.set_cons_succ]
      refine inv_value (.bool false) rfl (fun w' _ => by go_simp) ?_
      simp only [Act.put, List.setIfInBounds_toArray, List.set_cons_zero, List.set_cons_succ]
      refine inv_value (.bool false) rfl (fun w' _ => by go_simp) ?_
      simp only [Act.put, List.setIfInBounds_toArray, List.set_cons_zero, List.set_cons_succ]
      refine inv_skip rfl ?_
      simp only [Act.put, List.setIfInBounds_toArray, List.set_cons_zero, List.set_cons_succ]
      refine inv_skip rfl ?_
      simp only [Act.put, List.setIfInBounds_toArray, List.set_cons_zero, List.set_cons_succ]
      refine inv_value (.bool false) rfl (fun w' _ => by go_simp) ?_
      simp only [Act.put, List.setIfInBounds_toArray, List.set_cons_zero, List.set_cons_succ]
      refine inv_value (.bool false) rfl (fun w' _ => by go_simp) ?_
      simp only [Act.put, List.setIfInBounds_toArray, List.set_cons_zero, List.set_cons_succ]
      refine inv_skip rfl ?_
      simp only [Act.put, List.setIfInBounds_toArray, List.set_cons_zero, List.set_cons_succ]
      refine inv_skip rfl ?_
      simp only [Act.put, List.setIfInBounds_toArray, List.set_cons_zero, List.set_cons_succ]
      refine inv_skip rfl ?_
      simp only [Act.put, List.setIfInBounds_toArray, List.set_cons_zero, List.set_cons_succ]
      refine inv_skip rfl ?_
      simp only [Act.put, List.setIfInBounds_toArray, List.set_cons_zero, List.set_cons_succ]
      refine inv_skip rfl ?_
      simp only [Act.put, List.setIfInBounds_toArray, List.set_cons_zero, List.set_cons_succ]
      refine inv_skip rfl ?_
      simp only [Act.put, List.setIfInBounds_toArray, List.set_cons_zero, List.set_cons_succ]
      refine inv_skip rfl ?_
      simp only [Act.put, List.setIfInBounds_toArray, List.set_cons_zero, List.set_cons_succ]
      refine inv_value (.bool false) rfl (fun w' _ => by go_simp) ?_
      simp only [Act.put, List.setIfInBounds_toArray, List.set_cons_zero, List.set_cons_succ]
      refine inv_value (.bool false) rfl (fun w' _ => by go_simp) ?_
      simp only [Act.put, List.setIfInBounds_toArray, List.set_cons_zero, List.set_cons_succ]
      refine inv_value (.bool false) rfl (fun w' _ => by go_simp) ?_
      simp only [Act.put, List.setIfInBounds_toArray, List.set_cons_zero, List.set_cons_succ]
    case' inl =>
      subst he1'
      rcases Y2 with ⟨he2', g2, a2, k2, rfl, T2⟩ | ⟨he2', hv2'⟩
      case' inr =>
        clear T1 hv2'
        refine inv_value (.int .i64 0) rfl (fun w' _ => by go_simp) ?_
        simp only [Act.put, List.setIfInBounds_toArray, List.set_cons_zero, List.set_cons_succ]
        refine inv_value (.bool true) rfl (fun w' _ => by go_simp) ?_
        simp only [Act.put, List.setIfInBounds_toArray, List.set_cons_zero, List.set_cons_succ]
        refine inv_value (.bool true) rfl (fun w' _ => by go_simp) ?_
        simp only [Act.put, List.setIfInBounds_toArray, List.set_cons_zero, List.set_cons_succ]
        refine inv_value (.int .i64 ed) rfl (fun w' _ => by go_simp) ?_
        simp only [Act.put, List.setIfInBounds_toArray, List.set_cons_zero, List.set_cons_succ]
        refine inv_value (.bool false) rfl (fun w' _ => by go_simp) ?_
        simp only [Act.put, List.setIfInBounds_toArray, List.set_cons_zero, List.set_cons_succ]
        refine inv_value (.bool false) rfl (fun w' _ => by go_simp) ?_
        simp only [Act.put, List.setIfInBounds_toArray, List.set_cons_zero, List.set_cons_succ]
        refine inv_value (.bool false) rfl (fun w' _ => by go_simp) ?_
        simp only [Act.put, List.setIfInBounds_toArray, List.set_cons_zero, List.set_cons_succ]
        refine inv_skip rfl ?_
        simp only [Act.put, List.setIfInBounds_toArray, List.set_cons_zero, List.set_cons_succ]
        refine inv_skip rfl ?_
        simp only [Act.put, List.setIfInBounds_toArray, List.set_cons_zero, List.set_cons_succ]
        refine inv_skip rfl ?_
        simp only [Act.put, List.setIfInBounds_toArray, List.set_cons_zero, List.set_cons_succ]
        refine inv_skip rfl ?_
        simp only [Act.put, List.setIfInBounds_toArray, List.set_cons_zero, List.set_cons_succ]
        refine inv_skip rfl ?_
        simp only [Act.put, List.setIfInBounds_toArray, List.set_cons_zero, List.set_cons_succ]
        refine inv_skip rfl ?_
        simp only [Act.put, List.setIfInBounds_toArray, List.set_cons_zero, List.set_cons_succ]
        refine inv_skip rfl ?_
        simp only [Act.put, List.setIfInBounds_toArray, List.set_cons_zero, List.set_cons_succ]
        refine inv_value (.bool false) rfl (fun w' _ => by go_simp) ?_
        simp only [Act.put, List.setIfInBounds_toArray, List.set_cons_zero, List.set_cons_succ]
        refine inv_value (.bool false) rfl (fun w' _ => by go_simp) ?_
        simp only [Act.put, List.setIfInBounds_toArray, List.set_cons_zero, List.set_cons_succ]
        refine inv_value (.bool false) rfl (fun w' _ => by go_simp) ?_
        simp only [Act.put, List.setIfInBounds_toArray, List.set_cons_zero, List.set_cons_succ]
      case' inl =>
        subst he2'
        have HSB := Lib.hid (fun w' (hb : Below w8.heap.size w8 w') => Same.same_any a1 (45) k1 _ a2 (45) k2 _ w' (T1.below hb (Nat.le_refl _)) (T2.below hb (Nat.le_refl _)))
        obtain ⟨D, hD⟩ : ∃ D, D = decide (x1 = x2) := ⟨_, rfl⟩
        rw [sup_bytes_iff hx1 hx2 g1 g2, ← hD] at HSB
        have HD := Lib.hid hD
        clear hD g1 g2
        clear T1 T2
        refine inv_value (.int .i64 0) rfl (fun w' _ => by go_simp) ?_
        simp only [Act.put, List.setIfInBounds_toArray, List.set_cons_zero, List.set_cons_succ]
        refine inv_value (.bool true) rfl (fun w' _ => by go_simp) ?_
        simp only [Act.put, List.setIfInBounds_toArray, List.set_cons_zero, List.set_cons_succ]
        refine inv_value (.bool true) rfl (fun w' _ => by go_simp) ?_
        simp only [Act.put, List.setIfInBounds_toArray, List.set_cons_zero, List.set_cons_succ]
        refine inv_value (.int .i64 0) rfl (fun w' _ => by go_simp) ?_
        simp only [Act.put, List.setIfInBounds_toArray, List.set_cons_zero, List.set_cons_succ]
        refine inv_value (.bool true) rfl (fun w' _ => by go_simp) ?_
        simp only [Act.put, List.setIfInBounds_toArray, List.set_cons_zero, List.set_cons_succ]
        refine inv_value (.bool true) rfl (fun w' _ => by go_simp) ?_
        simp only [Act.put, List.setIfInBounds_toArray, List.set_cons_zero, List.set_cons_succ]
        refine inv_value (.bool true) rfl (fun w' _ => by go_simp) ?_
        simp only [Act.put, List.setIfInBounds_toArray, List.set_cons_zero, List.set_cons_succ]
        refine inv_value (.slice a1 (45) k1) rfl (fun w' _ => by go_simp) ?_
        simp only [Act.put, List.setIfInBounds_toArray, List.set_cons_zero, List.set_cons_succ]
        refine inv_value (.slice a2 (45) k2) rfl (fun w' _ => by go_simp) ?_
        simp only [Act.put, List.setIfInBounds_toArray, List.set_cons_zero, List.set_cons_succ]
        refine inv_call (.bool D) rfl 14 #[.slice a1 (45) k1, .slice a2 (45) k2] (fun w' _ => by go_simp) (fun w' h => (HSB.out w' h).mono fun y w'' ⟨hy, nd, hw⟩ => ⟨hy, hw ▸ below_drewN h nd⟩) ?_
        simp only [Act.put, List.setIfInBounds_toArray, List.set_cons_zero, List.set_cons_succ]
        refine inv_load_blk rfl 52 _ rfl (w.heap.size + 1 + 1) 0 7 rfl 52 xc1 _ (fun w' h => XA8.out.below h XA8.out.lt) Try.underlying52 rfl (by kernel_rfl) (by rw [hxl1]; omega) xc1 (by rw [List.drop_zero, List.take_of_length_le (by rw [hxl1]; omega)]) ?_
        simp only [Act.put, List.setIfInBounds_toArray, List.set_cons_zero, List.set_cons_succ]
        refine inv_load_blk rfl 52 _ rfl (w.heap.size + 1 + 1 + 1) 0 7 rfl 52 xc2 _ (fun w' h => XB8.out.below h XB8.out.lt) Try.underlying52 rfl (by kernel_rfl) (by rw [hxl2]; omega) xc2 (by rw [List.drop_zero, List.take_of_length_le (by rw [hxl2]; omega)]) ?_
        simp only [Act.put, List.setIfInBounds_toArray, List.set_cons_zero, List.set_cons_succ]
        refine Eq.inv_eql (b := D) rfl rfl rfl rfl (by kernel_rfl) (fun w' _ => (EX.out w').trans (by rw [HD.out])) ?_
        simp only [Act.put, List.setIfInBounds_toArray, List.set_cons_zero, List.set_cons_succ]
        refine inv_value (.bool false) rfl (fun w' _ => by go_simp; all_goals simp) ?_
        simp only [Act.put, List.setIfInBounds_toArray, List.set_cons_zero, List.set_cons_succ]
        refine inv_value (.bool false) rfl (fun w' _ => by go_simp) ?_
        simp only [Act.put, List.setIfInBounds_toArray, List.set_cons_zero, List.set_cons_succ]
        refine inv_value (.bool false) rfl (fun w' _ => by go_simp) ?_
        simp only [Act.put, List.setIfInBounds_toArray, List.set_cons_zero, List.set_cons_succ]
        refine inv_value (.bool false) rfl (fun w' _ => by go_simp) ?_
        simp only [Act.put, List.setIfInBounds_toArray, List.set_cons_zero, List.set_cons_succ]
  all_goals
    have Y1 := Qve8.out
    have Y2 := Qvf8.out
    clear Qve8 Qvf8
    rcases Y1 with ⟨he1', g1, a1, k1, rfl, T1⟩ | ⟨he1', hv1'⟩
    case' inr =>
      clear Y2 hv1'
      refine inv_value (.int .i64 ee) rfl (fun w' _ => by go_simp) ?_
      simp only [Act.put, List.setIfInBounds_toArray, List.set_cons_zero, List.set_cons_succ]
      refine inv_value (.bool false) rfl (fun w' _ => by go_simp) ?_
      simp only [Act.put, List.setIfInBounds_toArray, List.set_cons_zero, List.set_cons_succ]
      refine inv_value (.bool false) rfl (fun w' _ => by go_simp) ?_
      simp only [Act.put, List.setIfInBounds_toArray, List.set_cons_zero, List.set_cons_succ]
      refine inv_skip rfl ?_
      simp only [Act.put, List.setIfInBounds_toArray, List.set_cons_zero, List.set_cons_succ]
      refine inv_skip rfl ?_
      simp only [Act.put, List.setIfInBounds_toArray, List.set_cons_zero, List.set_cons_succ]
      refine inv_value (.bool false) rfl (fun w' _ => by go_simp) ?_
      simp only [Act.put, List.setIfInBounds_toArray, List.set_cons_zero, List.set_cons_succ]
      refine inv_value (.bool false) rfl (fun w' _ => by go_simp) ?_
      simp only [Act.put, List.setIfInBounds_toArray, List.set_cons_zero, List.set_cons_succ]
      refine inv_skip rfl ?_
      simp only [Act.put, List.setIfInBounds_toArray, List.set_cons_zero, List.set_cons_succ]
      refine inv_skip rfl ?_
      simp only [Act.put, List.setIfInBounds_toArray, List.set_cons_zero, List.set_cons_succ]
      refine inv_skip rfl ?_
      simp only [Act.put, List.setIfInBounds_toArray, List.set_cons_zero, List.set_cons_succ]
      refine inv_skip rfl ?_
      simp only [Act.put, List.setIfInBounds_toArray, List.set_cons_zero, List.set_cons_succ]
      refine inv_skip rfl ?_
      simp only [Act.put, List.setIfInBounds_toArray, List.set_cons_zero, List.set_cons_succ]
      refine inv_skip rfl ?_
      simp only [Act.put, List.setIfInBounds_toArray, List.set_cons_zero, List.set_cons_succ]
      refine inv_skip rfl ?_
      simp only [Act.put, List.setIfInBounds_toArray, List.set_cons_zero, List.set_cons_succ]
      refine inv_value (.bool false) rfl (fun w' _ => by go_simp) ?_
      simp only [Act.put, List.setIfInBounds_toArray, List.set_cons_zero, List.set_cons_succ]
    case' inl =>
      subst he1'
      rcases Y2 with ⟨he2', g2, a2, k2, rfl, T2⟩ | ⟨he2', hv2'⟩
      case' inr =>
        clear T1 hv2'
        refine inv_value (.int .i64 0) rfl (fun w' _ => by go_simp) ?_
        simp only [Act.put, List.setIfInBounds_toArray, List.set_cons_zero, List.set_cons_succ]
        refine inv_value (.bool true) rfl (fun w' _ => by go_simp) ?_
        simp only [Act.put, List.setIfInBounds_toArray, List.set_cons_zero, List.set_cons_succ]
        refine inv_value (.bool true) rfl (fun w' _ => by go_simp) ?_
        simp only [Act.put, List.setIfInBounds_toArray, List.set_cons_zero, List.set_cons_succ]
        refine inv_value (.int .i64 ef) rfl (fun w' _ => by go_simp) ?_
        simp only [Act.put, List.setIfInBounds_toArray, List.set_cons_zero, List.set_cons_succ]
        refine inv_value (.bool false) rfl (fun w' _ => by go_simp) ?_
        simp only [Act.put, List.setIfInBounds_toArray, List.set_cons_zero, List.set_cons_succ]
        refine inv_value (.bool false) rfl (fun w' _ => by go_simp) ?_
        simp only [Act.put, List.setIfInBounds_toArray, List.set_cons_zero, List.set_cons_succ]
        refine inv_value (.bool false) rfl (fun w' _ => by go_simp) ?_
        simp only [Act.put, List.setIfInBounds_toArray, List.set_cons_zero, List.set_cons_succ]
        refine inv_skip rfl ?_
        simp only [Act.put, List.setIfInBounds_toArray, List.set_cons_zero, List.set_cons_succ]
        refine inv_skip rfl ?_
        simp only [Act.put, List.setIfInBounds_toArray, List.set_cons_zero, List.set_cons_succ]
        refine inv_skip rfl ?_
        simp only [Act.put, List.setIfInBounds_toArray, List.set_cons_zero, List.set_cons_succ]
        refine inv_skip rfl ?_
        simp only [Act.put, List.setIfInBounds_toArray, List.set_cons_zero, List.set_cons_succ]
        refine inv_skip rfl ?_
        simp only [Act.put, List.setIfInBounds_toArray, List.set_cons_zero, List.set_cons_succ]
        refine inv_skip rfl ?_
        simp only [Act.put, List.setIfInBounds_toArray, List.set_cons_zero, List.set_cons_succ]
        refine inv_skip rfl ?_
        simp only [Act.put, List.setIfInBounds_toArray, List.set_cons_zero, List.set_cons_succ]
        refine inv_value (.bool false) rfl (fun w' _ => by go_simp) ?_
        simp only [Act.put, List.setIfInBounds_toArray, List.set_cons_zero, List.set_cons_succ]
      case' inl =>
        subst he2'
        have HSB := Lib.hid (fun w' (hb : Below w8.heap.size w8 w') => Same.same_any a1 (17 + n1) k1 _ a2 (17 + n2) k2 _ w' (T1.below hb (Nat.le_refl _)) (T2.below hb (Nat.le_refl _)))
        obtain ⟨D, hD⟩ : ∃ D, D = decide (e1 = e2 ∧ s1 = s2 ∧ q1 = q2 ∧ l1 = l2) := ⟨_, rfl⟩
        rw [msg_bytes_iff he1 hs1 hq1 he2 hs2 hq2, ← hD] at HSB
        have SM2 := SM
        rw [← hD] at SM2
        clear hD
        clear T1 T2
        refine inv_value (.int .i64 0) rfl (fun w' _ => by go_simp) ?_
        simp only [Act.put, List.setIfInBounds_toArray, List.set_cons_zero, List.set_cons_succ]
        refine inv_value (.bool true) rfl (fun w' _ => by go_simp) ?_
        simp only [Act.put, List.setIfInBounds_toArray, List.set_cons_zero, List.set_cons_succ]
        refine inv_value (.bool true) rfl (fun w' _ => by go_simp) ?_
        simp only [Act.put, List.setIfInBounds_toArray, List.set_cons_zero, List.set_cons_succ]
        refine inv_value (.int .i64 0) rfl (fun w' _ => by go_simp) ?_
        simp only [Act.put, List.setIfInBounds_toArray, List.set_cons_zero, List.set_cons_succ]
        refine inv_value (.bool true) rfl (fun w' _ => by go_simp) ?_
        simp only [Act.put, List.setIfInBounds_toArray, List.set_cons_zero, List.set_cons_succ]
        refine inv_value (.bool true) rfl (fun w' _ => by go_simp) ?_
        simp only [Act.put, List.setIfInBounds_toArray, List.set_cons_zero, List.set_cons_succ]
        refine inv_value (.bool true) rfl (fun w' _ => by go_simp) ?_
        simp only [Act.put, List.setIfInBounds_toArray, List.set_cons_zero, List.set_cons_succ]
        refine inv_value (.slice a1 (17 + n1) k1) rfl (fun w' _ => by go_simp) ?_
        simp only [Act.put, List.setIfInBounds_toArray, List.set_cons_zero, List.set_cons_succ]
        refine inv_value (.slice a2 (17 + n2) k2) rfl (fun w' _ => by go_simp) ?_
        simp only [Act.put, List.setIfInBounds_toArray, List.set_cons_zero, List.set_cons_succ]
        refine inv_call (.bool D) rfl 14 #[.slice a1 (17 + n1) k1, .slice a2 (17 + n2) k2] (fun w' _ => by go_simp) (fun w' h => (HSB.out w' h).mono fun y w'' ⟨hy, nd, hw⟩ => ⟨hy, hw ▸ below_drewN h nd⟩) ?_
        simp only [Act.put, List.setIfInBounds_toArray, List.set_cons_zero, List.set_cons_succ]
        refine inv_load_blk rfl 43 _ rfl (w.heap.size + 1 + 1 + 1 + 1) 0 4 rfl 43 mc1 _ (fun w' h => MA8.out.below h MA8.out.lt) Try.underlying43 rfl (by kernel_rfl) (by rw [hml1]; omega) mc1 (by rw [List.drop_zero, List.take_of_length_le (by rw [hml1]; omega)]) ?_
        simp only [Act.put, List.setIfInBounds_toArray, List.set_cons_zero, List.set_cons_succ]
        refine inv_load_blk rfl 43 _ rfl (w.heap.size + 1 + 1 + 1 + 1 + 1) 0 4 rfl 43 mc2 _ (fun w' h => MB8.out.below h MB8.out.lt) Try.underlying43 rfl (by kernel_rfl) (by rw [hml2]; omega) mc2 (by rw [List.drop_zero, List.take_of_length_le (by rw [hml2]; omega)]) ?_
        simp only [Act.put, List.setIfInBounds_toArray, List.set_cons_zero, List.set_cons_succ]
        refine inv_call (.bool D) rfl 22 #[.agg mc1.toArray, .agg mc2.toArray] (fun w' _ => by go_simp) (fun w' h => (SM2.out w' (L8.out.trans (h.mono hz8))).mono fun y w'' ⟨hy, hb⟩ => ⟨hy, KQ.out _ _ h hb⟩) ?_
        simp only [Act.put, List.setIfInBounds_toArray, List.set_cons_zero, List.set_cons_succ]
        refine inv_value (.bool false) rfl (fun w' _ => by go_simp; all_goals simp) ?_
        simp only [Act.put, List.setIfInBounds_toArray, List.set_cons_zero, List.set_cons_succ]
        refine inv_value (.bool false) rfl (fun w' _ => by go_simp) ?_
        simp only [Act.put, List.setIfInBounds_toArray, List.set_cons_zero, List.set_cons_succ]
  all_goals
    refine inv_nil fun w9 hI => ?_
    have LW := Lib.hid (L8.out.trans (hI.mono hz8))
    have hzw := LW.out.size
    have KS2 := Lib.hid (KS.out w9 hI)
    have HI := Lib.hid hI
    clear hI
    go_wp2_with fail
    refine KS2.out.mono ?_
    rintro y w10 ⟨rfl, hb⟩
    have LW2 := Lib.hid (LW.out.trans (hb.mono hzw))
    have HI2 := Lib.hid (KQ.out _ _ HI.out hb)
    have hzw2 := LW2.out.size
    have Zs := Lib.hid (blk_at (w := w10) (g := w10.heap.size) (cs := zsup) (t := 52) (arr := #[.int .i64 0, .int .i64 0, .int .i64 0, .int .i64 0, .int .u32 0, .int .u64 0, .int .i64 0]) rfl rfl)
    clear hb KS2
    go_upto_region 12 with (refine wpList_store_blk rfl 52 _ _ rfl w10.heap.size 0 7 rfl 52 zsup zsup rfl Zs.out (by kernel_rfl) rfl (by decide) (by decide) ?_; intro w11 z11 g11; have LW3 := Lib.hid (below_grown (LW2.out.alloc hzw2 _) g11 (by simp only [size_alloc]; omega) hzw2); have HI3 := Lib.hid (KQ.out _ _ HI2.out (below_grown ((Below.refl w10.heap.size w10).alloc (Nat.le_refl _) _) g11 (by simp only [size_alloc]; omega) (Nat.le_refl _))); clear z11 g11)
    have hzw3 := LW3.out.size
    obtain ⟨k7, hk7, hU⟩ := KU.out _ HI3.out
    have KU2 := Lib.hid hU
    clear hU
    try (have hk8 := hk7 trivial; clear hk7; subst hk8)
    go_wp2_with fail
    refine KU2.out.mono ?_
    rintro y w12 ⟨rfl, hb⟩
    have LW4 := Lib.hid (LW3.out.trans (hb.mono hzw3))
    have hzw4 := LW4.out.size
    have Zr := Lib.hid (blk_at (w := w12) (g := w12.heap.size) (cs := zrec) (t := 26) (arr := #[.int .i64 0, .int .u64 0, .int .i64 0, .int .u8 0, .int .u8 0, .int .u8 0, .int .u8 0, .int .u8 0, .int .u8 0, .int .u8 0, .int .u8 0, .int .u8 0, .int .u8 0, .int .u8 0, .int .u8 0, .int .u8 0, .int .u8 0, .int .u8 0, .int .u8 0]) rfl rfl)
    clear hb KU2
    go_wp2_with (first | (refine wpList_store_blk rfl 26 _ _ rfl w12.heap.size 0 19 rfl 26 zrec zrec rfl Zr.out (by kernel_rfl) rfl (by decide) (recV_one _ _ _ _) ?_; intro w13 z13 g13; have LW5 := Lib.hid (below_grown (LW4.out.alloc hzw4 _) g13 (by simp only [size_alloc]; omega) hzw4); clear z13 g13))
    go_ret
    exact ⟨rfl, LW5.out⟩
end Go.Proofs.Ytmmgejlfcehipaa.Codec
