-- PRINTED BY print.sh 35421559b90ae4d0a3588c463048766b98c2df88dd9212a6774a882060cdf62d: not written by this session
import Derived.Test.YtgedclbfednhlaaPLayoutCountsx0
import Derived.Test.YtgedclbfednhlaaPLayoutCountsx3
import Derived.Test.YtgedclbfednhlaaPLayoutCountsx4
namespace Go.Proofs.Ytgedclbfednhlaa.PLayoutCounts
open Go.RowKit Go.Proofs.YtgedclbfednhlaaW.PrintWords Go.Proofs.YtgedclbfednhlaaW.PrintLast Go.Proofs.YtgedclbfednhlaaW.PrintMore
attribute [local go_sem] max2_int min2_int max_two min_two max_three min_three max_four min_four   -- for this text's walks alone
set_option linter.unusedVariables false
set_option linter.unusedSimpArgs false

/-! ### ravelinlaw03_LayoutCounts: function 7 -/
mutual
def ravelinlaw03_LayoutCounts.j0 : Nat → Int → Int → Bool → Int → Int → Int → Option (Bool)
  | 0, _, _, _, _, _, _ => none
  | k + 1, x8, x10, x59, x128000, x128001, x128002 => if x59 = true then (some false) else (if 0 ≤ x8 then (if (x8 : Int).toNat ≤ 281474976710656 then (ravelinlaw03_LayoutCounts.l0 k x8 x10 (List.replicate (x8 : Int).toNat false) 0 0 x128000 x128001 x128002) else (none)) else (none))
def ravelinlaw03_LayoutCounts.l0 : Nat → Int → Int → List Bool → Int → Int → Int → Int → Int → Option (Bool)
  | 0, _, _, _, _, _, _, _, _ => none
  | k + 1, x8, x10, x12, x13, x14, x128000, x128001, x128002 => if x14 < x128000 then (ravelinlaw03_LayoutCounts.l1 k x8 x10 x12 x13 x14 0 x128000 x128001 x128002) else (if x13 = (wrap64 (2 * x10)) then (some ((wrap64 (x8 + x13)) == (wrap64 (x128000 * x10)))) else (some false))
def ravelinlaw03_LayoutCounts.l1 : Nat → Int → Int → List Bool → Int → Int → Int → Int → Int → Int → Option (Bool)
  | 0, _, _, _, _, _, _, _, _, _ => none
  | k + 1, x8, x10, x12, x13, x14, x15, x128000, x128001, x128002 => if x15 < x10 then ((layout_Back.f k x128000 x128001 x128002 x14 x15).bind fun bt136 => (if bt136.2.2 = 0 then (if bt136.1 ≥ x8 then (ravelinlaw03_LayoutCounts.j3 k x8 x10 x12 x13 x14 x15 bt136.1 true x128000 x128001 x128002) else (if bt136.1 ≥ 0 then (if 0 ≤ bt136.1 then (if bt136.1 < (x12.length : Int) then (ravelinlaw03_LayoutCounts.j3 k x8 x10 x12 x13 x14 x15 bt136.1 (rdOf false x12 bt136.1) x128000 x128001 x128002) else (none)) else (none)) else (ravelinlaw03_LayoutCounts.j3 k x8 x10 x12 x13 x14 x15 bt136.1 false x128000 x128001 x128002))) else (ravelinlaw03_LayoutCounts.j3 k x8 x10 x12 x13 x14 x15 bt136.1 true x128000 x128001 x128002))) else (ravelinlaw03_LayoutCounts.l0 k x8 x10 x12 x13 (wrap64 (x14 + 1)) x128000 x128001 x128002)
def ravelinlaw03_LayoutCounts.j3 : Nat → Int → Int → List Bool → Int → Int → Int → Int → Bool → Int → Int → Int → Option (Bool)
  | 0, _, _, _, _, _, _, _, _, _, _, _ => none
  | k + 1, x8, x10, x12, x13, x14, x15, x16, x98, x128000, x128001, x128002 => if x98 = true then (some false) else (if x16 ≥ 0 then (if 0 ≤ x16 then (if x16 < (x12.length : Int) then (ravelinlaw03_LayoutCounts.l1 k x8 x10 (x12.set (x16 : Int).toNat true) x13 x14 (wrap64 (x15 + 1)) x128000 x128001 x128002) else (none)) else (none)) else (ravelinlaw03_LayoutCounts.l1 k x8 x10 x12 (wrap64 (x13 + 1)) x14 (wrap64 (x15 + 1)) x128000 x128001 x128002))
end
def ravelinlaw03_LayoutCounts.f (k : Nat) (a0 : Int) (a1 : Int) (a2 : Int) : Option (Bool) := (layout_Capacity.f (wrap64 ((wrap64 (Int.tmod a0 9)) + 4)) (wrap64 ((wrap64 (Int.tmod a1 4)) + 1)) (wrap64 ((wrap64 (Int.tmod a2 9)) + 1))).bind fun bt128 => ((layout_Size.f (wrap64 ((wrap64 (Int.tmod a0 9)) + 4)) (wrap64 ((wrap64 (Int.tmod a1 4)) + 1)) (wrap64 ((wrap64 (Int.tmod a2 9)) + 1))).bind fun bt130 => ((ravelinlaw03_awake.f).bind fun t132 => (if t132 = true then (if bt128.2 = 0 then (if bt130.2 = 0 then (if bt128.1 < 1 then (ravelinlaw03_LayoutCounts.j0 k bt128.1 bt130.1 true (wrap64 ((wrap64 (Int.tmod a0 9)) + 4)) (wrap64 ((wrap64 (Int.tmod a1 4)) + 1)) (wrap64 ((wrap64 (Int.tmod a2 9)) + 1))) else (ravelinlaw03_LayoutCounts.j0 k bt128.1 bt130.1 (decide (bt128.1 > 1000)) (wrap64 ((wrap64 (Int.tmod a0 9)) + 4)) (wrap64 ((wrap64 (Int.tmod a1 4)) + 1)) (wrap64 ((wrap64 (Int.tmod a2 9)) + 1)))) else (ravelinlaw03_LayoutCounts.j0 k bt128.1 bt130.1 true (wrap64 ((wrap64 (Int.tmod a0 9)) + 4)) (wrap64 ((wrap64 (Int.tmod a1 4)) + 1)) (wrap64 ((wrap64 (Int.tmod a2 9)) + 1)))) else (ravelinlaw03_LayoutCounts.j0 k bt128.1 bt130.1 true (wrap64 ((wrap64 (Int.tmod a0 9)) + 4)) (wrap64 ((wrap64 (Int.tmod a1 4)) + 1)) (wrap64 ((wrap64 (Int.tmod a2 9)) + 1)))) else (ravelinlaw03_LayoutCounts.j0 k bt128.1 bt130.1 true (wrap64 ((wrap64 (Int.tmod a0 9)) + 4)) (wrap64 ((wrap64 (Int.tmod a1 4)) + 1)) (wrap64 ((wrap64 (Int.tmod a2 9)) + 1))))))
theorem ravelinlaw03_LayoutCounts.mono_l : ∀ k, (∀ y0 y1 y2 y3 y4 y5, LeO (ravelinlaw03_LayoutCounts.j0 k y0 y1 y2 y3 y4 y5) (ravelinlaw03_LayoutCounts.j0 (k + 1) y0 y1 y2 y3 y4 y5)) ∧ (∀ y0 y1 y2 y3 y4 y5 y6 y7, LeO (ravelinlaw03_LayoutCounts.l0 k y0 y1 y2 y3 y4 y5 y6 y7) (ravelinlaw03_LayoutCounts.l0 (k + 1) y0 y1 y2 y3 y4 y5 y6 y7)) ∧ (∀ y0 y1 y2 y3 y4 y5 y6 y7 y8, LeO (ravelinlaw03_LayoutCounts.l1 k y0 y1 y2 y3 y4 y5 y6 y7 y8) (ravelinlaw03_LayoutCounts.l1 (k + 1) y0 y1 y2 y3 y4 y5 y6 y7 y8)) ∧ (∀ y0 y1 y2 y3 y4 y5 y6 y7 y8 y9 y10, LeO (ravelinlaw03_LayoutCounts.j3 k y0 y1 y2 y3 y4 y5 y6 y7 y8 y9 y10) (ravelinlaw03_LayoutCounts.j3 (k + 1) y0 y1 y2 y3 y4 y5 y6 y7 y8 y9 y10))
  | 0 => ⟨fun _ _ _ _ _ _ r h => by simp [ravelinlaw03_LayoutCounts.j0] at h, fun _ _ _ _ _ _ _ _ r h => by simp [ravelinlaw03_LayoutCounts.l0] at h, fun _ _ _ _ _ _ _ _ _ r h => by simp [ravelinlaw03_LayoutCounts.l1] at h, fun _ _ _ _ _ _ _ _ _ _ _ r h => by simp [ravelinlaw03_LayoutCounts.j3] at h⟩
  | k + 1 => by
    obtain ⟨ih0, ih1, ih2, ih3⟩ := ravelinlaw03_LayoutCounts.mono_l k
    refine ⟨?_, ?_, ?_, ?_⟩
    · intro y0 y1 y2 y3 y4 y5
      unfold ravelinlaw03_LayoutCounts.j0
      repeat' first
      | (with_reducible exact ih0 _ _ _ _ _ _)
      | (with_reducible exact ih1 _ _ _ _ _ _ _ _)
      | (with_reducible exact ih2 _ _ _ _ _ _ _ _ _)
      | (with_reducible exact ih3 _ _ _ _ _ _ _ _ _ _ _)
      | (with_reducible exact layout_Back.mono _ _ _ _ _ _)
      | (with_reducible exact LeO.refl _)
      | (with_reducible exact LeO.none _)
      | (with_reducible refine LeO.ite ?_ ?_)
      | (with_reducible refine LeO.bind ?_ (fun _ => ?_))
      | exact ih0 _ _ _ _ _ _
      | exact ih1 _ _ _ _ _ _ _ _
      | exact ih2 _ _ _ _ _ _ _ _ _
      | exact ih3 _ _ _ _ _ _ _ _ _ _ _
      | exact layout_Back.mono _ _ _ _ _ _
      | exact LeO.none _
      | refine LeO.ite ?_ ?_
      | refine LeO.bind ?_ (fun _ => ?_)
    · intro y0 y1 y2 y3 y4 y5 y6 y7
      unfold ravelinlaw03_LayoutCounts.l0
      repeat' first
      | (with_reducible exact ih0 _ _ _ _ _ _)
      | (with_reducible exact ih1 _ _ _ _ _ _ _ _)
      | (with_reducible exact ih2 _ _ _ _ _ _ _ _ _)
      | (with_reducible exact ih3 _ _ _ _ _ _ _ _ _ _ _)
      | (with_reducible exact layout_Back.mono _ _ _ _ _ _)
      | (with_reducible exact LeO.refl _)
      | (with_reducible exact LeO.none _)
      | (with_reducible refine LeO.ite ?_ ?_)
      | (with_reducible refine LeO.bind ?_ (fun _ => ?_))
      | exact ih0 _ _ _ _ _ _
      | exact ih1 _ _ _ _ _ _ _ _
      | exact ih2 _ _ _ _ _ _ _ _ _
      | exact ih3 _ _ _ _ _ _ _ _ _ _ _
      | exact layout_Back.mono _ _ _ _ _ _
      | exact LeO.none _
      | refine LeO.ite ?_ ?_
      | refine LeO.bind ?_ (fun _ => ?_)
    · intro y0 y1 y2 y3 y4 y5 y6 y7 y8
      unfold ravelinlaw03_LayoutCounts.l1
      repeat' first
      | (with_reducible exact ih0 _ _ _ _ _ _)
      | (with_reducible exact ih1 _ _ _ _ _ _ _ _)
      | (with_reducible exact ih2 _ _ _ _ _ _ _ _ _)
      | (with_reducible exact ih3 _ _ _ _ _ _ _ _ _ _ _)
      | (with_reducible exact layout_Back.mono _ _ _ _ _ _)
      | (with_reducible exact LeO.refl _)
      | (with_reducible exact LeO.none _)
      | (with_reducible refine LeO.ite ?_ ?_)
      | (with_reducible refine LeO.bind ?_ (fun _ => ?_))
      | exact ih0 _ _ _ _ _ _
      | exact ih1 _ _ _ _ _ _ _ _
      | exact ih2 _ _ _ _ _ _ _ _ _
      | exact ih3 _ _ _ _ _ _ _ _ _ _ _
      | exact layout_Back.mono _ _ _ _ _ _
      | exact LeO.none _
      | refine LeO.ite ?_ ?_
      | refine LeO.bind ?_ (fun _ => ?_)
    · intro y0 y1 y2 y3 y4 y5 y6 y7 y8 y9 y10
      unfold ravelinlaw03_LayoutCounts.j3
      repeat' first
      | (with_reducible exact ih0 _ _ _ _ _ _)
      | (with_reducible exact ih1 _ _ _ _ _ _ _ _)
      | (with_reducible exact ih2 _ _ _ _ _ _ _ _ _)
      | (with_reducible exact ih3 _ _ _ _ _ _ _ _ _ _ _)
      | (with_reducible exact layout_Back.mono _ _ _ _ _ _)
      | (with_reducible exact LeO.refl _)
      | (with_reducible exact LeO.none _)
      | (with_reducible refine LeO.ite ?_ ?_)
      | (with_reducible refine LeO.bind ?_ (fun _ => ?_))
      | exact ih0 _ _ _ _ _ _
      | exact ih1 _ _ _ _ _ _ _ _
      | exact ih2 _ _ _ _ _ _ _ _ _
      | exact ih3 _ _ _ _ _ _ _ _ _ _ _
      | exact layout_Back.mono _ _ _ _ _ _
      | exact LeO.none _
      | refine LeO.ite ?_ ?_
      | refine LeO.bind ?_ (fun _ => ?_)
theorem ravelinlaw03_LayoutCounts.mono : ∀ a0 a1 a2 k, LeO (ravelinlaw03_LayoutCounts.f k a0 a1 a2) (ravelinlaw03_LayoutCounts.f (k + 1) a0 a1 a2) := by
  intro a0 a1 a2 k
  obtain ⟨ih0, ih1, ih2, ih3⟩ := ravelinlaw03_LayoutCounts.mono_l k
  unfold ravelinlaw03_LayoutCounts.f
  repeat' first
      | (with_reducible exact ih0 _ _ _ _ _ _)
      | (with_reducible exact ih1 _ _ _ _ _ _ _ _)
      | (with_reducible exact ih2 _ _ _ _ _ _ _ _ _)
      | (with_reducible exact ih3 _ _ _ _ _ _ _ _ _ _ _)
      | (with_reducible exact layout_Back.mono _ _ _ _ _ _)
      | (with_reducible exact LeO.refl _)
      | (with_reducible exact LeO.none _)
      | (with_reducible refine LeO.ite ?_ ?_)
      | (with_reducible refine LeO.bind ?_ (fun _ => ?_))
      | exact ih0 _ _ _ _ _ _
      | exact ih1 _ _ _ _ _ _ _ _
      | exact ih2 _ _ _ _ _ _ _ _ _
      | exact ih3 _ _ _ _ _ _ _ _ _ _ _
      | exact layout_Back.mono _ _ _ _ _ _
      | exact LeO.none _
      | refine LeO.ite ?_ ?_
      | refine LeO.bind ?_ (fun _ => ?_)
set_option maxHeartbeats 8000000 in
set_option maxRecDepth 100000 in
theorem ravelinlaw03_LayoutCounts.calls (k : Nat) (a0 : Int) (a1 : Int) (a2 : Int) (r : Bool) (w : World) (h : ravelinlaw03_LayoutCounts.f k a0 a1 a2 = some r) :
    Calls Try.prog 7 #[.int .u8 a0, .int .u8 a1, .int .u8 a2] w fun e w' => e = .returned (.bool r) ∧ Below w.heap.size w w' := by
  have hu23 := Try.underlying23
  have hu27 := Try.underlying27
  have HB := Aside0.mk (Below.refl w.heap.size w)
  have H : ((layout_Capacity.f (wrap64 ((wrap64 (Int.tmod a0 9)) + 4)) (wrap64 ((wrap64 (Int.tmod a1 4)) + 1)) (wrap64 ((wrap64 (Int.tmod a2 9)) + 1))).bind fun bt128 => ((layout_Size.f (wrap64 ((wrap64 (Int.tmod a0 9)) + 4)) (wrap64 ((wrap64 (Int.tmod a1 4)) + 1)) (wrap64 ((wrap64 (Int.tmod a2 9)) + 1))).bind fun bt130 => ((ravelinlaw03_awake.f).bind fun t132 => (if t132 = true then (if bt128.2 = 0 then (if bt130.2 = 0 then (if bt128.1 < 1 then (ravelinlaw03_LayoutCounts.j0 k bt128.1 bt130.1 true (wrap64 ((wrap64 (Int.tmod a0 9)) + 4)) (wrap64 ((wrap64 (Int.tmod a1 4)) + 1)) (wrap64 ((wrap64 (Int.tmod a2 9)) + 1))) else (ravelinlaw03_LayoutCounts.j0 k bt128.1 bt130.1 (decide (bt128.1 > 1000)) (wrap64 ((wrap64 (Int.tmod a0 9)) + 4)) (wrap64 ((wrap64 (Int.tmod a1 4)) + 1)) (wrap64 ((wrap64 (Int.tmod a2 9)) + 1)))) else (ravelinlaw03_LayoutCounts.j0 k bt128.1 bt130.1 true (wrap64 ((wrap64 (Int.tmod a0 9)) + 4)) (wrap64 ((wrap64 (Int.tmod a1 4)) + 1)) (wrap64 ((wrap64 (Int.tmod a2 9)) + 1)))) else (ravelinlaw03_LayoutCounts.j0 k bt128.1 bt130.1 true (wrap64 ((wrap64 (Int.tmod a0 9)) + 4)) (wrap64 ((wrap64 (Int.tmod a1 4)) + 1)) (wrap64 ((wrap64 (Int.tmod a2 9)) + 1)))) else (ravelinlaw03_LayoutCounts.j0 k bt128.1 bt130.1 true (wrap64 ((wrap64 (Int.tmod a0 9)) + 4)) (wrap64 ((wrap64 (Int.tmod a1 4)) + 1)) (wrap64 ((wrap64 (Int.tmod a2 9)) + 1))))))) = some r := h
  clear h
  replace H := Option.bind_eq_some_iff.mp H
  obtain ⟨⟨t128, t129⟩, A40, H⟩ := H
  replace H : ((layout_Size.f (wrap64 ((wrap64 (Int.tmod a0 9)) + 4)) (wrap64 ((wrap64 (Int.tmod a1 4)) + 1)) (wrap64 ((wrap64 (Int.tmod a2 9)) + 1))).bind fun bt130 => ((ravelinlaw03_awake.f).bind fun t132 => (if t132 = true then (if t129 = 0 then (if bt130.2 = 0 then (if t128 < 1 then (ravelinlaw03_LayoutCounts.j0 k t128 bt130.1 true (wrap64 ((wrap64 (Int.tmod a0 9)) + 4)) (wrap64 ((wrap64 (Int.tmod a1 4)) + 1)) (wrap64 ((wrap64 (Int.tmod a2 9)) + 1))) else (ravelinlaw03_LayoutCounts.j0 k t128 bt130.1 (decide (t128 > 1000)) (wrap64 ((wrap64 (Int.tmod a0 9)) + 4)) (wrap64 ((wrap64 (Int.tmod a1 4)) + 1)) (wrap64 ((wrap64 (Int.tmod a2 9)) + 1)))) else (ravelinlaw03_LayoutCounts.j0 k t128 bt130.1 true (wrap64 ((wrap64 (Int.tmod a0 9)) + 4)) (wrap64 ((wrap64 (Int.tmod a1 4)) + 1)) (wrap64 ((wrap64 (Int.tmod a2 9)) + 1)))) else (ravelinlaw03_LayoutCounts.j0 k t128 bt130.1 true (wrap64 ((wrap64 (Int.tmod a0 9)) + 4)) (wrap64 ((wrap64 (Int.tmod a1 4)) + 1)) (wrap64 ((wrap64 (Int.tmod a2 9)) + 1)))) else (ravelinlaw03_LayoutCounts.j0 k t128 bt130.1 true (wrap64 ((wrap64 (Int.tmod a0 9)) + 4)) (wrap64 ((wrap64 (Int.tmod a1 4)) + 1)) (wrap64 ((wrap64 (Int.tmod a2 9)) + 1)))))) = some r := H
  have A4 := Aside0.mk A40
  clear A40
  replace H := Option.bind_eq_some_iff.mp H
  obtain ⟨⟨t130, t131⟩, A50, H⟩ := H
  replace H : ((ravelinlaw03_awake.f).bind fun t132 => (if t132 = true then (if t129 = 0 then (if t131 = 0 then (if t128 < 1 then (ravelinlaw03_LayoutCounts.j0 k t128 t130 true (wrap64 ((wrap64 (Int.tmod a0 9)) + 4)) (wrap64 ((wrap64 (Int.tmod a1 4)) + 1)) (wrap64 ((wrap64 (Int.tmod a2 9)) + 1))) else (ravelinlaw03_LayoutCounts.j0 k t128 t130 (decide (t128 > 1000)) (wrap64 ((wrap64 (Int.tmod a0 9)) + 4)) (wrap64 ((wrap64 (Int.tmod a1 4)) + 1)) (wrap64 ((wrap64 (Int.tmod a2 9)) + 1)))) else (ravelinlaw03_LayoutCounts.j0 k t128 t130 true (wrap64 ((wrap64 (Int.tmod a0 9)) + 4)) (wrap64 ((wrap64 (Int.tmod a1 4)) + 1)) (wrap64 ((wrap64 (Int.tmod a2 9)) + 1)))) else (ravelinlaw03_LayoutCounts.j0 k t128 t130 true (wrap64 ((wrap64 (Int.tmod a0 9)) + 4)) (wrap64 ((wrap64 (Int.tmod a1 4)) + 1)) (wrap64 ((wrap64 (Int.tmod a2 9)) + 1)))) else (ravelinlaw03_LayoutCounts.j0 k t128 t130 true (wrap64 ((wrap64 (Int.tmod a0 9)) + 4)) (wrap64 ((wrap64 (Int.tmod a1 4)) + 1)) (wrap64 ((wrap64 (Int.tmod a2 9)) + 1))))) = some r := H
  have A5 := Aside0.mk A50
  clear A50
  have HC6 := Aside0.mk H
  clear H
  go_enter Try.func7, Try.ntmps7
  go_upto_region 4 with (first | ((with_reducible refine gate_dst (N := 7) rfl ?_); refine box_event ?hg (N := 7) ?hd (cs := #[.int .i64 0, .int .i64 0, .int .i64 0]) (t := 23) ?hr ?_; (case hd => rfl); (case hg => rfl); (case hr => first | (go_simp; done) | (go_simp; rfl)); intro gb127 hg w7 hbox hb; have n0_ := Aside0.mk (below_step (by repeat (first | (with_reducible first | exact HB.out | apply below_alloc | apply pw_below_drewN | apply below_drew1) | exact HB.out)) hb); have n1_ := Aside0.mk (hbox); have n2_ := Aside0.mk ((by rw [hg]; exact (below_size (by repeat (first | (with_reducible first | exact HB.out | apply below_alloc | apply pw_below_drewN | apply below_drew1) | exact HB.out))) : w.heap.size ≤ gb127)); have n3_ := Aside0.mk ((by rw [hg]; exact (below_size (by repeat (first | (with_reducible first | exact HB.out | apply below_alloc | apply pw_below_drewN | apply below_drew1) | exact HB.out))) : w.heap.size ≤ gb127)); clear HB; have HB := n0_; have BK127 := n1_; have GW127 := n2_; have GE127 := n3_; clear n0_ n1_ n2_ n3_; clear hb hbox hg; have hcz8_0 : w7.cell? ⟨gb127, 0, none⟩ = some (.int .i64 0) := (blk_cell BK127.out 0).trans rfl; have hcz8_1 : w7.cell? ⟨gb127, 1, none⟩ = some (.int .i64 0) := (blk_cell BK127.out 1).trans rfl; have hcz8_2 : w7.cell? ⟨gb127, 2, none⟩ = some (.int .i64 0) := (blk_cell BK127.out 2).trans rfl; have hfz8_0 := blk_frozen BK127.out 0; have hfz8_1 := blk_frozen BK127.out 1; have hfz8_2 := blk_frozen BK127.out 2) | ((with_reducible refine gate_callee (f := 12) rfl ?_); refine goesL_ (some 34) rfl rfl Try.func12 (by kernel_rfl) rfl #[.agg #[.int .i64 (wrap64 ((wrap64 (Int.tmod a0 9)) + 4)), .int .i64 (wrap64 ((wrap64 (Int.tmod a1 4)) + 1)), .int .i64 (wrap64 ((wrap64 (Int.tmod a2 9)) + 1))]] rfl (by (try simp only [List.map_toArray, List.map_cons, List.map_nil]); first | done | rfl | (simp only [List.length_drop, List.length_take]; rfl)) ?_; (with_reducible refine (layout_Capacity.calls (wrap64 ((wrap64 (Int.tmod a0 9)) + 4)) (wrap64 ((wrap64 (Int.tmod a1 4)) + 1)) (wrap64 ((wrap64 (Int.tmod a2 9)) + 1)) t128 t129 _ A4.out).mono ?_); rintro e w9 ⟨rfl, hb⟩; refine ⟨_, rfl, ?_⟩; have n0_ := Aside0.mk (blk_below (g := gb127) (o := .cells #[.int .i64 (wrap64 ((wrap64 (Int.tmod a0 9)) + 4)), .int .i64 (wrap64 ((wrap64 (Int.tmod a1 4)) + 1)), .int .i64 (wrap64 ((wrap64 (Int.tmod a2 9)) + 1))] 23 (0, 0)) (by (with_reducible repeat (first | refine blk_drewN ?_ _ | refine blk_drew ?_ | refine blk_alloc ?_ _)); refine blk_put (cs := #[.int .i64 (wrap64 ((wrap64 (Int.tmod a0 9)) + 4)), .int .i64 (wrap64 ((wrap64 (Int.tmod a1 4)) + 1)), .int .i64 0]) ?_ 2 _ rfl; (with_reducible repeat (first | refine blk_drewN ?_ _ | refine blk_drew ?_ | refine blk_alloc ?_ _)); refine blk_put (cs := #[.int .i64 (wrap64 ((wrap64 (Int.tmod a0 9)) + 4)), .int .i64 0, .int .i64 0]) ?_ 1 _ rfl; (with_reducible repeat (first | refine blk_drewN ?_ _ | refine blk_drew ?_ | refine blk_alloc ?_ _)); refine blk_put (cs := #[.int .i64 0, .int .i64 0, .int .i64 0]) ?_ 0 _ rfl; (with_reducible repeat (first | refine blk_drewN ?_ _ | refine blk_drew ?_ | refine blk_alloc ?_ _)); exact BK127.out) hb); have n1_ := Aside0.mk (below_step (by repeat (first | (with_reducible first | exact HB.out | apply below_alloc | apply pw_below_drewN | apply below_drew1 | refine below_set ?_ GE127.out) | exact HB.out)) hb); clear BK127; clear HB; have BK127 := n0_; have HB := n1_; clear n0_ n1_; (try clear hb); (try clear hb2); (try clear hk); (try clear hi); have hcz10_0 : w9.cell? ⟨gb127, 0, none⟩ = some (.int .i64 (wrap64 ((wrap64 (Int.tmod a0 9)) + 4))) := (blk_cell BK127.out 0).trans rfl; have hcz10_1 : w9.cell? ⟨gb127, 1, none⟩ = some (.int .i64 (wrap64 ((wrap64 (Int.tmod a1 4)) + 1))) := (blk_cell BK127.out 1).trans rfl; have hcz10_2 : w9.cell? ⟨gb127, 2, none⟩ = some (.int .i64 (wrap64 ((wrap64 (Int.tmod a2 9)) + 1))) := (blk_cell BK127.out 2).trans rfl; have hfz10_0 := blk_frozen BK127.out 0; have hfz10_1 := blk_frozen BK127.out 1; have hfz10_2 := blk_frozen BK127.out 2) | ((with_reducible refine gate_callee (f := 14) rfl ?_); refine goesL_ (some 39) rfl rfl Try.func14 (by kernel_rfl) rfl #[.agg #[.int .i64 (wrap64 ((wrap64 (Int.tmod a0 9)) + 4)), .int .i64 (wrap64 ((wrap64 (Int.tmod a1 4)) + 1)), .int .i64 (wrap64 ((wrap64 (Int.tmod a2 9)) + 1))]] rfl (by (try simp only [List.map_toArray, List.map_cons, List.map_nil]); first | done | rfl | (simp only [List.length_drop, List.length_take]; rfl)) ?_; (with_reducible refine (layout_Size.calls (wrap64 ((wrap64 (Int.tmod a0 9)) + 4)) (wrap64 ((wrap64 (Int.tmod a1 4)) + 1)) (wrap64 ((wrap64 (Int.tmod a2 9)) + 1)) t130 t131 _ A5.out).mono ?_); rintro e w11 ⟨rfl, hb⟩; refine ⟨_, rfl, ?_⟩; have n0_ := Aside0.mk (blk_below (g := gb127) (o := .cells #[.int .i64 (wrap64 ((wrap64 (Int.tmod a0 9)) + 4)), .int .i64 (wrap64 ((wrap64 (Int.tmod a1 4)) + 1)), .int .i64 (wrap64 ((wrap64 (Int.tmod a2 9)) + 1))] 23 (0, 0)) (by (with_reducible repeat (first | refine blk_drewN ?_ _ | refine blk_drew ?_ | refine blk_alloc ?_ _)); exact BK127.out) hb); have n1_ := Aside0.mk (below_step (by repeat (first | (with_reducible first | exact HB.out | apply below_alloc | apply pw_below_drewN | apply below_drew1 | refine below_set ?_ GE127.out) | exact HB.out)) hb); clear BK127; clear HB; have BK127 := n0_; have HB := n1_; clear n0_ n1_; (try clear hb); (try clear hb2); (try clear hk); (try clear hi)))
  (try simp only [Act.put, List.setIfInBounds_toArray, List.set_cons_zero, List.set_cons_succ])
  go_cut [59] (fun v59 wc => ∃ (kq : Nat) (x59_5 : Bool), v59 = .bool x59_5 ∧ Aside0 (ravelinlaw03_LayoutCounts.j0 kq t128 t130 x59_5 (wrap64 ((wrap64 (Int.tmod a0 9)) + 4)) (wrap64 ((wrap64 (Int.tmod a1 4)) + 1)) (wrap64 ((wrap64 (Int.tmod a2 9)) + 1)) = some r) ∧ Aside0 (kq ≤ k) ∧ Aside0 (wc.heap[gb127]? = some (.cells #[.int .i64 (wrap64 ((wrap64 (Int.tmod a0 9)) + 4)), .int .i64 (wrap64 ((wrap64 (Int.tmod a1 4)) + 1)), .int .i64 (wrap64 ((wrap64 (Int.tmod a2 9)) + 1))] 23 (0, 0))) ∧ Aside0 (Below w.heap.size w wc))
  case first =>
    have H := HC6.out
    clear HC6
    replace H := Option.bind_eq_some_iff.mp H
    obtain ⟨t132, A120, H⟩ := H
    replace H : (if t132 = true then (if t129 = 0 then (if t131 = 0 then (if t128 < 1 then (ravelinlaw03_LayoutCounts.j0 k t128 t130 true (wrap64 ((wrap64 (Int.tmod a0 9)) + 4)) (wrap64 ((wrap64 (Int.tmod a1 4)) + 1)) (wrap64 ((wrap64 (Int.tmod a2 9)) + 1))) else (ravelinlaw03_LayoutCounts.j0 k t128 t130 (decide (t128 > 1000)) (wrap64 ((wrap64 (Int.tmod a0 9)) + 4)) (wrap64 ((wrap64 (Int.tmod a1 4)) + 1)) (wrap64 ((wrap64 (Int.tmod a2 9)) + 1)))) else (ravelinlaw03_LayoutCounts.j0 k t128 t130 true (wrap64 ((wrap64 (Int.tmod a0 9)) + 4)) (wrap64 ((wrap64 (Int.tmod a1 4)) + 1)) (wrap64 ((wrap64 (Int.tmod a2 9)) + 1)))) else (ravelinlaw03_LayoutCounts.j0 k t128 t130 true (wrap64 ((wrap64 (Int.tmod a0 9)) + 4)) (wrap64 ((wrap64 (Int.tmod a1 4)) + 1)) (wrap64 ((wrap64 (Int.tmod a2 9)) + 1)))) else (ravelinlaw03_LayoutCounts.j0 k t128 t130 true (wrap64 ((wrap64 (Int.tmod a0 9)) + 4)) (wrap64 ((wrap64 (Int.tmod a1 4)) + 1)) (wrap64 ((wrap64 (Int.tmod a2 9)) + 1)))) = some r := H
    have A12 := Aside0.mk A120
    clear A120
    by_cases c13 : t132 = true
    · subst c13
      have H1 : (if t129 = 0 then (if t131 = 0 then (if t128 < 1 then (ravelinlaw03_LayoutCounts.j0 k t128 t130 true (wrap64 ((wrap64 (Int.tmod a0 9)) + 4)) (wrap64 ((wrap64 (Int.tmod a1 4)) + 1)) (wrap64 ((wrap64 (Int.tmod a2 9)) + 1))) else (ravelinlaw03_LayoutCounts.j0 k t128 t130 (decide (t128 > 1000)) (wrap64 ((wrap64 (Int.tmod a0 9)) + 4)) (wrap64 ((wrap64 (Int.tmod a1 4)) + 1)) (wrap64 ((wrap64 (Int.tmod a2 9)) + 1)))) else (ravelinlaw03_LayoutCounts.j0 k t128 t130 true (wrap64 ((wrap64 (Int.tmod a0 9)) + 4)) (wrap64 ((wrap64 (Int.tmod a1 4)) + 1)) (wrap64 ((wrap64 (Int.tmod a2 9)) + 1)))) else (ravelinlaw03_LayoutCounts.j0 k t128 t130 true (wrap64 ((wrap64 (Int.tmod a0 9)) + 4)) (wrap64 ((wrap64 (Int.tmod a1 4)) + 1)) (wrap64 ((wrap64 (Int.tmod a2 9)) + 1)))) = some r := by rw [if_pos rfl] at H; exact H
      clear H
      have H := H1
      clear H1
      by_cases c14 : t129 = 0
      · rw [if_pos c14] at H
        have c14b0 : (t129 == 0) = true := beq_iff_eq.mpr c14
        have c14b1 : (t129 != 0) = false := bne_eq_false_iff_eq.mpr c14
        clear c14
        (first | rw [c14b0] | (simp only [i64_w, i32_w]; rw [c14b0]) | skip)
        by_cases c15 : t131 = 0
        · rw [if_pos c15] at H
          have c15b0 : (t131 == 0) = true := beq_iff_eq.mpr c15
          have c15b1 : (t131 != 0) = false := bne_eq_false_iff_eq.mpr c15
          clear c15
          by_cases c16 : t128 < 1
          · rw [if_pos c16] at H
            have c16b0 : decide (t128 < 1) = true := decide_eq_true c16
            clear c16
            have H' := Aside0.mk H
            clear H
            go_wp2_with (first | ((with_reducible refine gate_callee (f := 11) rfl ?_); refine goesL_ (some 42) rfl rfl Try.func11 (by kernel_rfl) rfl #[] rfl (by (try simp only [List.map_toArray, List.map_cons, List.map_nil]); first | done | rfl | (simp only [List.length_drop, List.length_take]; rfl)) ?_; (with_reducible refine (ravelinlaw03_awake.calls  true _ A12.out).mono ?_); rintro e w17 ⟨rfl, hb⟩; refine ⟨_, rfl, ?_⟩; have n0_ := Aside0.mk (blk_below (g := gb127) (o := .cells #[.int .i64 (wrap64 ((wrap64 (Int.tmod a0 9)) + 4)), .int .i64 (wrap64 ((wrap64 (Int.tmod a1 4)) + 1)), .int .i64 (wrap64 ((wrap64 (Int.tmod a2 9)) + 1))] 23 (0, 0)) (by (with_reducible repeat (first | refine blk_drewN ?_ _ | refine blk_drew ?_ | refine blk_alloc ?_ _)); exact BK127.out) hb); have n1_ := Aside0.mk (below_step (by repeat (first | (with_reducible first | exact HB.out | apply below_alloc | apply pw_below_drewN | apply below_drew1 | refine below_set ?_ GE127.out) | exact HB.out)) hb); clear BK127; clear HB; have BK127 := n0_; have HB := n1_; clear n0_ n1_; (try clear hb); (try clear hb2); (try clear hk); (try clear hi)))
            go_meet
            case rel => exact ⟨_, (true), (by first | rfl | (simp; done) | (simp [*]; done)), H', ⟨by first | omega | exact Nat.le_refl _⟩, ⟨by (with_reducible repeat (first | refine blk_drewN ?_ _ | refine blk_drew ?_ | refine blk_alloc ?_ _)); exact BK127.out⟩, ⟨by repeat (first | (with_reducible first | exact HB.out | apply below_alloc | apply pw_below_drewN | apply below_drew1 | refine below_set ?_ GE127.out) | exact HB.out)⟩⟩
          · rw [if_neg c16] at H
            have c16b0 : decide (t128 < 1) = false := decide_eq_false c16
            clear c16
            have H' := Aside0.mk H
            clear H
            go_wp2_with (first | ((with_reducible refine gate_callee (f := 11) rfl ?_); refine goesL_ (some 42) rfl rfl Try.func11 (by kernel_rfl) rfl #[] rfl (by (try simp only [List.map_toArray, List.map_cons, List.map_nil]); first | done | rfl | (simp only [List.length_drop, List.length_take]; rfl)) ?_; (with_reducible refine (ravelinlaw03_awake.calls  true _ A12.out).mono ?_); rintro e w18 ⟨rfl, hb⟩; refine ⟨_, rfl, ?_⟩; have n0_ := Aside0.mk (blk_below (g := gb127) (o := .cells #[.int .i64 (wrap64 ((wrap64 (Int.tmod a0 9)) + 4)), .int .i64 (wrap64 ((wrap64 (Int.tmod a1 4)) + 1)), .int .i64 (wrap64 ((wrap64 (Int.tmod a2 9)) + 1))] 23 (0, 0)) (by (with_reducible repeat (first | refine blk_drewN ?_ _ | refine blk_drew ?_ | refine blk_alloc ?_ _)); exact BK127.out) hb); have n1_ := Aside0.mk (below_step (by repeat (first | (with_reducible first | exact HB.out | apply below_alloc | apply pw_below_drewN | apply below_drew1 | refine below_set ?_ GE127.out) | exact HB.out)) hb); clear BK127; clear HB; have BK127 := n0_; have HB := n1_; clear n0_ n1_; (try clear hb); (try clear hb2); (try clear hk); (try clear hi)))
            go_meet
            case rel => exact ⟨_, (decide (t128 > 1000)), (by first | rfl | (simp; done) | (simp [*]; done)), H', ⟨by first | omega | exact Nat.le_refl _⟩, ⟨by (with_reducible repeat (first | refine blk_drewN ?_ _ | refine blk_drew ?_ | refine blk_alloc ?_ _)); exact BK127.out⟩, ⟨by repeat (first | (with_reducible first | exact HB.out | apply below_alloc | apply pw_below_drewN | apply below_drew1 | refine below_set ?_ GE127.out) | exact HB.out)⟩⟩
        · rw [if_neg c15] at H
          have c15b0 : (t131 == 0) = false := beq_eq_false_iff_ne.mpr c15
          have c15b1 : (t131 != 0) = true := bne_iff_ne.mpr c15
          have H' := Aside0.mk H
          clear H
          go_wp2_with (first | ((with_reducible refine gate_callee (f := 11) rfl ?_); refine goesL_ (some 42) rfl rfl Try.func11 (by kernel_rfl) rfl #[] rfl (by (try simp only [List.map_toArray, List.map_cons, List.map_nil]); first | done | rfl | (simp only [List.length_drop, List.length_take]; rfl)) ?_; (with_reducible refine (ravelinlaw03_awake.calls  true _ A12.out).mono ?_); rintro e w19 ⟨rfl, hb⟩; refine ⟨_, rfl, ?_⟩; have n0_ := Aside0.mk (blk_below (g := gb127) (o := .cells #[.int .i64 (wrap64 ((wrap64 (Int.tmod a0 9)) + 4)), .int .i64 (wrap64 ((wrap64 (Int.tmod a1 4)) + 1)), .int .i64 (wrap64 ((wrap64 (Int.tmod a2 9)) + 1))] 23 (0, 0)) (by (with_reducible repeat (first | refine blk_drewN ?_ _ | refine blk_drew ?_ | refine blk_alloc ?_ _)); exact BK127.out) hb); have n1_ := Aside0.mk (below_step (by repeat (first | (with_reducible first | exact HB.out | apply below_alloc | apply pw_below_drewN | apply below_drew1 | refine below_set ?_ GE127.out) | exact HB.out)) hb); clear BK127; clear HB; have BK127 := n0_; have HB := n1_; clear n0_ n1_; (try clear hb); (try clear hb2); (try clear hk); (try clear hi)))
          go_meet
          case rel => exact ⟨_, (true), (by first | rfl | (simp; done) | (simp [*]; done)), H', ⟨by first | omega | exact Nat.le_refl _⟩, ⟨by (with_reducible repeat (first | refine blk_drewN ?_ _ | refine blk_drew ?_ | refine blk_alloc ?_ _)); exact BK127.out⟩, ⟨by repeat (first | (with_reducible first | exact HB.out | apply below_alloc | apply pw_below_drewN | apply below_drew1 | refine below_set ?_ GE127.out) | exact HB.out)⟩⟩
      · rw [if_neg c14] at H
        have c14b0 : (t129 == 0) = false := beq_eq_false_iff_ne.mpr c14
        have c14b1 : (t129 != 0) = true := bne_iff_ne.mpr c14
        (first | rw [c14b0] | (simp only [i64_w, i32_w]; rw [c14b0]) | skip)
        have H' := Aside0.mk H
        clear H
        go_wp2_with (first | ((with_reducible refine gate_callee (f := 11) rfl ?_); refine goesL_ (some 42) rfl rfl Try.func11 (by kernel_rfl) rfl #[] rfl (by (try simp only [List.map_toArray, List.map_cons, List.map_nil]); first | done | rfl | (simp only [List.length_drop, List.length_take]; rfl)) ?_; (with_reducible refine (ravelinlaw03_awake.calls  true _ A12.out).mono ?_); rintro e w20 ⟨rfl, hb⟩; refine ⟨_, rfl, ?_⟩; have n0_ := Aside0.mk (blk_below (g := gb127) (o := .cells #[.int .i64 (wrap64 ((wrap64 (Int.tmod a0 9)) + 4)), .int .i64 (wrap64 ((wrap64 (Int.tmod a1 4)) + 1)), .int .i64 (wrap64 ((wrap64 (Int.tmod a2 9)) + 1))] 23 (0, 0)) (by (with_reducible repeat (first | refine blk_drewN ?_ _ | refine blk_drew ?_ | refine blk_alloc ?_ _)); exact BK127.out) hb); have n1_ := Aside0.mk (below_step (by repeat (first | (with_reducible first | exact HB.out | apply below_alloc | apply pw_below_drewN | apply below_drew1 | refine below_set ?_ GE127.out) | exact HB.out)) hb); clear BK127; clear HB; have BK127 := n0_; have HB := n1_; clear n0_ n1_; (try clear hb); (try clear hb2); (try clear hk); (try clear hi)))
        go_meet
        case rel => exact ⟨_, (true), (by first | rfl | (simp; done) | (simp [*]; done)), H', ⟨by first | omega | exact Nat.le_refl _⟩, ⟨by (with_reducible repeat (first | refine blk_drewN ?_ _ | refine blk_drew ?_ | refine blk_alloc ?_ _)); exact BK127.out⟩, ⟨by repeat (first | (with_reducible first | exact HB.out | apply below_alloc | apply pw_below_drewN | apply below_drew1 | refine below_set ?_ GE127.out) | exact HB.out)⟩⟩
    · replace c13 := Bool.eq_false_iff.mpr c13
      subst c13
      have H1 : (ravelinlaw03_LayoutCounts.j0 k t128 t130 true (wrap64 ((wrap64 (Int.tmod a0 9)) + 4)) (wrap64 ((wrap64 (Int.tmod a1 4)) + 1)) (wrap64 ((wrap64 (Int.tmod a2 9)) + 1))) = some r := by rw [if_neg (show ¬ (false = true) by decide)] at H; exact H
      clear H
      have H := H1
      clear H1
      have H' := Aside0.mk H
      clear H
      go_wp2_with (first | ((with_reducible refine gate_callee (f := 11) rfl ?_); refine goesL_ (some 42) rfl rfl Try.func11 (by kernel_rfl) rfl #[] rfl (by (try simp only [List.map_toArray, List.map_cons, List.map_nil]); first | done | rfl | (simp only [List.length_drop, List.length_take]; rfl)) ?_; (with_reducible refine (ravelinlaw03_awake.calls  false _ A12.out).mono ?_); rintro e w21 ⟨rfl, hb⟩; refine ⟨_, rfl, ?_⟩; have n0_ := Aside0.mk (blk_below (g := gb127) (o := .cells #[.int .i64 (wrap64 ((wrap64 (Int.tmod a0 9)) + 4)), .int .i64 (wrap64 ((wrap64 (Int.tmod a1 4)) + 1)), .int .i64 (wrap64 ((wrap64 (Int.tmod a2 9)) + 1))] 23 (0, 0)) (by (with_reducible repeat (first | refine blk_drewN ?_ _ | refine blk_drew ?_ | refine blk_alloc ?_ _)); exact BK127.out) hb); have n1_ := Aside0.mk (below_step (by repeat (first | (with_reducible first | exact HB.out | apply below_alloc | apply pw_below_drewN | apply below_drew1 | refine below_set ?_ GE127.out) | exact HB.out)) hb); clear BK127; clear HB; have BK127 := n0_; have HB := n1_; clear n0_ n1_; (try clear hb); (try clear hb2); (try clear hk); (try clear hi)))
      go_meet
      case rel => exact ⟨_, (true), (by first | rfl | (simp; done) | (simp [*]; done)), H', ⟨by first | omega | exact Nat.le_refl _⟩, ⟨by (with_reducible repeat (first | refine blk_drewN ?_ _ | refine blk_drew ?_ | refine blk_alloc ?_ _)); exact BK127.out⟩, ⟨by repeat (first | (with_reducible first | exact HB.out | apply below_alloc | apply pw_below_drewN | apply below_drew1 | refine below_set ?_ GE127.out) | exact HB.out)⟩⟩
  case rest =>
    clear HC6
    try clear c1
    try clear p2
    try clear p6
    try clear c7
    try clear c11
    try clear c12
    try clear c13
    try clear c14
    try clear c14b0
    try clear c14b1
    try clear c15
    try clear c15b0
    try clear c15b1
    try clear c16
    try clear c16b0
    try clear hcz10_0
    try clear hcz10_1
    try clear hcz10_2
    try clear hcz8_0
    try clear hcz8_1
    try clear hcz8_2
    try clear hfz10_0
    try clear hfz10_1
    try clear hfz10_2
    try clear hfz8_0
    try clear hfz8_1
    try clear hfz8_2
    obtain ⟨kq, x59_5, rfl, HA, HJ5, BK127, HB⟩ := hcut
    cases kq with
    | zero => exact absurd HA.out (by simp [ravelinlaw03_LayoutCounts.j0])
    | succ kj5 =>
      have H := HA.out
      clear HA
      simp only [ravelinlaw03_LayoutCounts.j0] at H
      by_cases c22 : x59_5 = true
      · subst c22
        have H1 : (some false) = some r := by rw [if_pos rfl] at H; exact H
        clear H
        have H := H1
        clear H1
        obtain rfl := Option.some.inj H
        go_wp2
        go_ret
        exact ⟨by first | rfl | (simp [errW_none, errW_some] <;> rfl) | (simp [*, errW_none, errW_some] <;> rfl), by repeat (first | (with_reducible first | exact HB.out | apply below_alloc | apply pw_below_drewN | apply below_drew1 | refine below_set ?_ GE127.out) | exact HB.out)⟩
      · replace c22 := Bool.eq_false_iff.mpr c22
        subst c22
        have H1 : (if 0 ≤ t128 then (if (t128 : Int).toNat ≤ 281474976710656 then (ravelinlaw03_LayoutCounts.l0 kj5 t128 t130 (List.replicate (t128 : Int).toNat false) 0 0 (wrap64 ((wrap64 (Int.tmod a0 9)) + 4)) (wrap64 ((wrap64 (Int.tmod a1 4)) + 1)) (wrap64 ((wrap64 (Int.tmod a2 9)) + 1))) else (none)) else (none)) = some r := by rw [if_neg (show ¬ (false = true) by decide)] at H; exact H
        clear H
        have H := H1
        clear H1
        by_cases c23 : 0 ≤ t128
        · rw [if_pos c23] at H
          have c23b0 := eq_true c23
          have c23b1 : decide (0 ≤ t128) = true := decide_eq_true c23
          clear c23
          by_cases c24 : (t128 : Int).toNat ≤ 281474976710656
          · rw [if_pos c24] at H
            have c24b0 := eq_true c24
            have c24b1 : decide ((t128 : Int).toNat ≤ 281474976710656) = true := decide_eq_true c24
            clear c24
            obtain ⟨y133, hy133⟩ : ∃ y_ : List Bool, y_ = (List.replicate (t128 : Int).toNat false) := ⟨_, rfl⟩
            replace H : (ravelinlaw03_LayoutCounts.l0 kj5 t128 t130 y133 0 0 (wrap64 ((wrap64 (Int.tmod a0 9)) + 4)) (wrap64 ((wrap64 (Int.tmod a1 4)) + 1)) (wrap64 ((wrap64 (Int.tmod a2 9)) + 1))) = some r := by first | (rw [hy133]; with_reducible exact H) | (have H2_ := (Option.bind_some _ _).symm.trans H; rw [hy133]; with_reducible exact H2_) | (have H2_ := (Option.bind_some _ _).symm.trans H; with_reducible exact H2_) | with_reducible exact H | (rw [hy133]; exact H) | exact H
            have Ny133 := Aside0.mk hy133
            clear hy133
            have H' := Aside0.mk H
            clear H
            go_wp2_with (first | ((with_reducible refine gate_dst (N := 61) rfl ?_); refine Kd.R_make Kd.bool _ 4 rfl (N := 61) rfl 40 _ _ rfl t128 rfl rfl Try.underlying40 (.bool false) 1 info4 rfl (by decide) (by omega) false (ok := fun _ => True) (okp := fun _ => True) rfl (fun _ hk => hk) trivial (of_decide_eq_true (by first | (with_reducible assumption) | assumption)) (Nat.le_trans (Nat.mul_le_mul_right _ (of_decide_eq_true (by first | (with_reducible assumption) | assumption) : t128.toNat ≤ 281474976710656)) (by omega)) (Below.refl _ _) (Nat.le_refl _) ?_; intro v134 w25 ho26 hb hg_ hnew_; clear hg_ hnew_; (first | rw [← Ny133.out] at ho26 | (simp only [Int.reduceToNat] at ho26; rw [← Ny133.out] at ho26)); have n0_ := Aside0.mk (Kd.R_lower ho26 (below_size (by repeat (first | (with_reducible first | exact HB.out | apply below_alloc | apply pw_below_drewN | apply below_drew1 | refine below_set ?_ GE127.out) | exact HB.out)))); have n1_ := Aside0.mk (blk_below (g := gb127) (o := .cells #[.int .i64 (wrap64 ((wrap64 (Int.tmod a0 9)) + 4)), .int .i64 (wrap64 ((wrap64 (Int.tmod a1 4)) + 1)), .int .i64 (wrap64 ((wrap64 (Int.tmod a2 9)) + 1))] 23 (0, 0)) (by (with_reducible repeat (first | refine blk_drewN ?_ _ | refine blk_drew ?_ | refine blk_alloc ?_ _)); exact BK127.out) hb); have n2_ := Aside0.mk (below_step (by repeat (first | (with_reducible first | exact HB.out | apply below_alloc | apply pw_below_drewN | apply below_drew1 | refine below_set ?_ GE127.out) | exact HB.out)) hb); clear BK127; clear HB; have HO135 := n0_; have BK127 := n1_; have HB := n2_; clear n0_ n1_ n2_; clear hb ho26))
            go_loopg [13, 14] kj5 (fun kq v13 v14 w' => ∃ (x12_2 : List Bool) (x13_2 : Int) (x14_2 : Int), v13 = .int .i64 x13_2 ∧ v14 = .int .i64 x14_2 ∧ Aside0 (ravelinlaw03_LayoutCounts.l0 kq t128 t130 x12_2 x13_2 x14_2 (wrap64 ((wrap64 (Int.tmod a0 9)) + 4)) (wrap64 ((wrap64 (Int.tmod a1 4)) + 1)) (wrap64 ((wrap64 (Int.tmod a2 9)) + 1)) = some r) ∧ Aside0 (kq ≤ kj5) ∧ Aside0 (Kd.R Kd.bool 4 w' w.heap.size (fun _ => True) v134 x12_2) ∧ Aside0 (w'.heap[gb127]? = some (.cells #[.int .i64 (wrap64 ((wrap64 (Int.tmod a0 9)) + 4)), .int .i64 (wrap64 ((wrap64 (Int.tmod a1 4)) + 1)), .int .i64 (wrap64 ((wrap64 (Int.tmod a2 9)) + 1))] 23 (0, 0))) ∧ Aside0 (Below w.heap.size w w'))
            case atStart => exact ⟨(y133), (0), (0), (by first | rfl | (simp; done) | (simp [*]; done)), (by first | rfl | (simp; done) | (simp [*]; done)), H', ⟨Nat.le_refl _⟩, ⟨by (with_reducible repeat (first | apply Kd.R_alloc | apply Kd.R_drewN | apply Kd.R_drew)); exact HO135.out⟩, ⟨by (with_reducible repeat (first | refine blk_drewN ?_ _ | refine blk_drew ?_ | refine blk_alloc ?_ _)); exact BK127.out⟩, ⟨by repeat (first | (with_reducible first | exact HB.out | apply below_alloc | apply pw_below_drewN | apply below_drew1 | refine below_set ?_ GE127.out) | exact HB.out)⟩⟩
            case round =>
              clear H'
              try clear c1
              try clear c2
              try clear p2
              try clear p6
              try clear c7
              try clear c11
              try clear c12
              try clear c13
              try clear c14
              try clear c14b0
              try clear c14b1
              try clear c15
              try clear c15b0
              try clear c15b1
              try clear c16
              try clear c16b0
              try clear c22
              try clear c23
              try clear c23b0
              try clear c23b1
              try clear c24
              try clear c24b0
              try clear c24b1
              try clear hcz10_0
              try clear hcz10_1
              try clear hcz10_2
              try clear hcz8_0
              try clear hcz8_1
              try clear hcz8_2
              try clear hfz10_0
              try clear hfz10_1
              try clear hfz10_2
              try clear hfz8_0
              try clear hfz8_1
              try clear hfz8_2
              try clear p2
              try clear p6
              obtain ⟨x12_2, x13_2, x14_2, rfl, rfl, HA, HK2, HO_12, BK127, HB⟩ := hrel
              cases gk with
              | zero => exact absurd HA.out (by simp [ravelinlaw03_LayoutCounts.l0])
              | succ k2 =>
                have H := HA.out
                clear HA
                simp only [ravelinlaw03_LayoutCounts.l0] at H
                by_cases c27 : x14_2 < (wrap64 ((wrap64 (Int.tmod a0 9)) + 4))
                · rw [if_pos c27] at H
                  have c27b0 : decide (x14_2 < (wrap64 ((wrap64 (Int.tmod a0 9)) + 4))) = true := decide_eq_true c27
                  clear c27
                  have H' := Aside0.mk H
                  clear H
                  have hcz28_0 : wr.cell? ⟨gb127, 0, none⟩ = some (.int .i64 (wrap64 ((wrap64 (Int.tmod a0 9)) + 4))) := (blk_cell BK127.out 0).trans rfl
                  have hcz28_1 : wr.cell? ⟨gb127, 1, none⟩ = some (.int .i64 (wrap64 ((wrap64 (Int.tmod a1 4)) + 1))) := (blk_cell BK127.out 1).trans rfl
                  have hcz28_2 : wr.cell? ⟨gb127, 2, none⟩ = some (.int .i64 (wrap64 ((wrap64 (Int.tmod a2 9)) + 1))) := (blk_cell BK127.out 2).trans rfl
                  have hfz28_0 := blk_frozen BK127.out 0
                  have hfz28_1 := blk_frozen BK127.out 1
                  have hfz28_2 := blk_frozen BK127.out 2
                  go_wp2
                  go_loopg [13, 15] k2 (fun kq v13 v15 w' => ∃ (x12_3 : List Bool) (x13_3 : Int) (x15_3 : Int), v13 = .int .i64 x13_3 ∧ v15 = .int .i64 x15_3 ∧ Aside0 (ravelinlaw03_LayoutCounts.l1 kq t128 t130 x12_3 x13_3 x14_2 x15_3 (wrap64 ((wrap64 (Int.tmod a0 9)) + 4)) (wrap64 ((wrap64 (Int.tmod a1 4)) + 1)) (wrap64 ((wrap64 (Int.tmod a2 9)) + 1)) = some r) ∧ Aside0 (kq ≤ k2) ∧ Aside0 (Kd.R Kd.bool 4 w' w.heap.size (fun _ => True) v134 x12_3) ∧ Aside0 (w'.heap[gb127]? = some (.cells #[.int .i64 (wrap64 ((wrap64 (Int.tmod a0 9)) + 4)), .int .i64 (wrap64 ((wrap64 (Int.tmod a1 4)) + 1)), .int .i64 (wrap64 ((wrap64 (Int.tmod a2 9)) + 1))] 23 (0, 0))) ∧ Aside0 (Below w.heap.size w w'))
                  case atStart => exact ⟨(x12_2), (x13_2), (0), (by first | rfl | (simp; done) | (simp [*]; done)), (by first | rfl | (simp; done) | (simp [*]; done)), H', ⟨Nat.le_refl _⟩, ⟨by (with_reducible repeat (first | apply Kd.R_alloc | apply Kd.R_drewN | apply Kd.R_drew)); exact HO_12.out⟩, ⟨by (with_reducible repeat (first | refine blk_drewN ?_ _ | refine blk_drew ?_ | refine blk_alloc ?_ _)); exact BK127.out⟩, ⟨by repeat (first | (with_reducible first | exact HB.out | apply below_alloc | apply pw_below_drewN | apply below_drew1 | refine below_set ?_ GE127.out) | exact HB.out)⟩⟩
                  case round =>
                    clear H'
                    try clear c1
                    try clear c2
                    try clear p2
                    try clear p6
                    try clear c7
                    try clear c11
                    try clear c12
                    try clear c13
                    try clear c14
                    try clear c14b0
                    try clear c14b1
                    try clear c15
                    try clear c15b0
                    try clear c15b1
                    try clear c16
                    try clear c16b0
                    try clear c22
                    try clear c23
                    try clear c23b0
                    try clear c23b1
                    try clear c24
                    try clear c24b0
                    try clear c24b1
                    try clear c27
                    try clear c27b0
                    try clear hcz10_0
                    try clear hcz10_1
                    try clear hcz10_2
                    try clear hcz28_0
                    try clear hcz28_1
                    try clear hcz28_2
                    try clear hcz8_0
                    try clear hcz8_1
                    try clear hcz8_2
                    try clear hfz10_0
                    try clear hfz10_1
                    try clear hfz10_2
                    try clear hfz28_0
                    try clear hfz28_1
                    try clear hfz28_2
                    try clear hfz8_0
                    try clear hfz8_1
                    try clear hfz8_2
                    try clear p2
                    try clear p6
                    obtain ⟨x12_3, x13_3, x15_3, rfl, rfl, HA, HK3, HO_12, BK127, HB⟩ := hrel
                    cases gk with
                    | zero => exact absurd HA.out (by simp [ravelinlaw03_LayoutCounts.l1])
                    | succ k3 =>
                      have H := HA.out
                      clear HA
                      simp only [ravelinlaw03_LayoutCounts.l1] at H
                      by_cases c29 : x15_3 < t130
                      · rw [if_pos c29] at H
                        have c29b0 : decide (x15_3 < t130) = true := decide_eq_true c29
                        clear c29
                        replace H := Option.bind_eq_some_iff.mp H
                        obtain ⟨⟨t136, t137, t138⟩, A300, H⟩ := H
                        replace H : (if t138 = 0 then (if t136 ≥ t128 then (ravelinlaw03_LayoutCounts.j3 k3 t128 t130 x12_3 x13_3 x14_2 x15_3 t136 true (wrap64 ((wrap64 (Int.tmod a0 9)) + 4)) (wrap64 ((wrap64 (Int.tmod a1 4)) + 1)) (wrap64 ((wrap64 (Int.tmod a2 9)) + 1))) else (if t136 ≥ 0 then (if 0 ≤ t136 then (if t136 < (x12_3.length : Int) then (ravelinlaw03_LayoutCounts.j3 k3 t128 t130 x12_3 x13_3 x14_2 x15_3 t136 (rdOf false x12_3 t136) (wrap64 ((wrap64 (Int.tmod a0 9)) + 4)) (wrap64 ((wrap64 (Int.tmod a1 4)) + 1)) (wrap64 ((wrap64 (Int.tmod a2 9)) + 1))) else (none)) else (none)) else (ravelinlaw03_LayoutCounts.j3 k3 t128 t130 x12_3 x13_3 x14_2 x15_3 t136 false (wrap64 ((wrap64 (Int.tmod a0 9)) + 4)) (wrap64 ((wrap64 (Int.tmod a1 4)) + 1)) (wrap64 ((wrap64 (Int.tmod a2 9)) + 1))))) else (ravelinlaw03_LayoutCounts.j3 k3 t128 t130 x12_3 x13_3 x14_2 x15_3 t136 true (wrap64 ((wrap64 (Int.tmod a0 9)) + 4)) (wrap64 ((wrap64 (Int.tmod a1 4)) + 1)) (wrap64 ((wrap64 (Int.tmod a2 9)) + 1)))) = some r := H
                        have A30 := Aside0.mk A300
                        clear A300
                        have HC31 := Aside0.mk H
                        clear H
                        have hcz32_0 : wr.cell? ⟨gb127, 0, none⟩ = some (.int .i64 (wrap64 ((wrap64 (Int.tmod a0 9)) + 4))) := (blk_cell BK127.out 0).trans rfl
                        have hcz32_1 : wr.cell? ⟨gb127, 1, none⟩ = some (.int .i64 (wrap64 ((wrap64 (Int.tmod a1 4)) + 1))) := (blk_cell BK127.out 1).trans rfl
                        have hcz32_2 : wr.cell? ⟨gb127, 2, none⟩ = some (.int .i64 (wrap64 ((wrap64 (Int.tmod a2 9)) + 1))) := (blk_cell BK127.out 2).trans rfl
                        have hfz32_0 := blk_frozen BK127.out 0
                        have hfz32_1 := blk_frozen BK127.out 1
                        have hfz32_2 := blk_frozen BK127.out 2
                        go_upto_region 15 with (first | ((with_reducible refine gate_callee (f := 19) rfl ?_); refine goesL_ (some 78) rfl rfl Try.func19 (by kernel_rfl) rfl #[.agg #[.int .i64 (wrap64 ((wrap64 (Int.tmod a0 9)) + 4)), .int .i64 (wrap64 ((wrap64 (Int.tmod a1 4)) + 1)), .int .i64 (wrap64 ((wrap64 (Int.tmod a2 9)) + 1))], .agg #[.int .i64 x14_2, .int .i64 x15_3]] rfl (by (try simp only [List.map_toArray, List.map_cons, List.map_nil]); first | done | rfl | (simp only [List.length_drop, List.length_take]; rfl)) ?_; (with_reducible refine (layout_Back.calls k3 (wrap64 ((wrap64 (Int.tmod a0 9)) + 4)) (wrap64 ((wrap64 (Int.tmod a1 4)) + 1)) (wrap64 ((wrap64 (Int.tmod a2 9)) + 1)) x14_2 x15_3 t136 t137 t138 _ A30.out).mono ?_); rintro e w33 ⟨rfl, hb⟩; refine ⟨_, rfl, ?_⟩; have n0_ := Aside0.mk (Kd.R_below (by (with_reducible repeat (first | apply Kd.R_alloc | apply Kd.R_drewN | apply Kd.R_drew)); exact HO_12.out) hb); have n1_ := Aside0.mk (blk_below (g := gb127) (o := .cells #[.int .i64 (wrap64 ((wrap64 (Int.tmod a0 9)) + 4)), .int .i64 (wrap64 ((wrap64 (Int.tmod a1 4)) + 1)), .int .i64 (wrap64 ((wrap64 (Int.tmod a2 9)) + 1))] 23 (0, 0)) (by (with_reducible repeat (first | refine blk_drewN ?_ _ | refine blk_drew ?_ | refine blk_alloc ?_ _)); exact BK127.out) hb); have n2_ := Aside0.mk (below_step (by repeat (first | (with_reducible first | exact HB.out | apply below_alloc | apply pw_below_drewN | apply below_drew1 | refine below_set ?_ GE127.out) | exact HB.out)) hb); clear HO_12; clear BK127; clear HB; have HO_12 := n0_; have BK127 := n1_; have HB := n2_; clear n0_ n1_ n2_; (try clear hb); (try clear hb2); (try clear hk); (try clear hi)))
                        (try simp only [Act.put, List.setIfInBounds_toArray, List.set_cons_zero, List.set_cons_succ])
                        go_cut [98] (fun v98 wc => ∃ (kq : Nat) (x98_30 : Bool), v98 = .bool x98_30 ∧ Aside0 (ravelinlaw03_LayoutCounts.j3 kq t128 t130 x12_3 x13_3 x14_2 x15_3 t136 x98_30 (wrap64 ((wrap64 (Int.tmod a0 9)) + 4)) (wrap64 ((wrap64 (Int.tmod a1 4)) + 1)) (wrap64 ((wrap64 (Int.tmod a2 9)) + 1)) = some r) ∧ Aside0 (kq ≤ k3) ∧ Aside0 (Kd.R Kd.bool 4 wc w.heap.size (fun _ => True) v134 x12_3) ∧ Aside0 (wc.heap[gb127]? = some (.cells #[.int .i64 (wrap64 ((wrap64 (Int.tmod a0 9)) + 4)), .int .i64 (wrap64 ((wrap64 (Int.tmod a1 4)) + 1)), .int .i64 (wrap64 ((wrap64 (Int.tmod a2 9)) + 1))] 23 (0, 0))) ∧ Aside0 (Below w.heap.size w wc))
                        case first =>
                          have H := HC31.out
                          clear HC31
                          by_cases c34 : t138 = 0
                          · rw [if_pos c34] at H
                            have c34b0 : (t138 == 0) = true := beq_iff_eq.mpr c34
                            have c34b1 : (t138 != 0) = false := bne_eq_false_iff_eq.mpr c34
                            clear c34
                            (first | rw [c34b0] | (simp only [i64_w, i32_w]; rw [c34b0]) | skip)
                            by_cases c35 : t136 ≥ t128
                            · rw [if_pos c35] at H
                              have c35b0 : decide (t128 ≤ t136) = true := decide_eq_true c35
                              clear c35
                              have H' := Aside0.mk H
                              clear H
                              go_wp2
                              go_meet
                              case rel => exact ⟨_, (true), (by first | rfl | (simp; done) | (simp [*]; done)), H', ⟨by have := HJ5.out; have := HK2.out; have := HK3.out; first | omega | exact Nat.le_refl _⟩, ⟨by (with_reducible repeat (first | apply Kd.R_alloc | apply Kd.R_drewN | apply Kd.R_drew)); exact HO_12.out⟩, ⟨by (with_reducible repeat (first | refine blk_drewN ?_ _ | refine blk_drew ?_ | refine blk_alloc ?_ _)); exact BK127.out⟩, ⟨by repeat (first | (with_reducible first | exact HB.out | apply below_alloc | apply pw_below_drewN | apply below_drew1 | refine below_set ?_ GE127.out) | exact HB.out)⟩⟩
                            · rw [if_neg c35] at H
                              have c35b0 : decide (t128 ≤ t136) = false := decide_eq_false c35
                              clear c35
                              by_cases c36 : t136 ≥ 0
                              · rw [if_pos c36] at H
                                have c36b0 : decide (0 ≤ t136) = true := decide_eq_true c36
                                clear c36
                                by_cases c37 : 0 ≤ t136
                                · rw [if_pos c37] at H
                                  have c37b0 : decide (0 ≤ t136) = true := decide_eq_true c37
                                  clear c37
                                  by_cases c38 : t136 < (x12_3.length : Int)
                                  · rw [if_pos c38] at H
                                    have c38b0 : decide (t136 < (x12_3.length : Int)) = true := decide_eq_true c38
                                    clear c38
                                    have H' := Aside0.mk H
                                    clear H
                                    obtain ⟨Ao39, co39, eo39⟩ := Kd.R_slice HO_12.out
                                    subst eo39
                                    have p139 : 0 ≤ (t136 : Int) := of_decide_eq_true (by first | (with_reducible assumption) | assumption)
                                    have q139 : t136 < (x12_3.length : Int) := of_decide_eq_true (by first | (with_reducible assumption) | assumption)
                                    obtain ⟨ad139, e139, hx139_0⟩ := Kd.at_bool (Kd.R_reads' HO_12.out).2.2 t136 p139 q139
                                    cases e139
                                    replace p139 := eq_true p139
                                    replace q139 := eq_true q139
                                    go_wp2
                                    go_meet
                                    case rel => exact ⟨_, (rdOf false x12_3 t136), (by first | rfl | (simp; done) | (simp [*]; done)), H', ⟨by have := HJ5.out; have := HK2.out; have := HK3.out; first | omega | exact Nat.le_refl _⟩, ⟨by (with_reducible repeat (first | apply Kd.R_alloc | apply Kd.R_drewN | apply Kd.R_drew)); exact HO_12.out⟩, ⟨by (with_reducible repeat (first | refine blk_drewN ?_ _ | refine blk_drew ?_ | refine blk_alloc ?_ _)); exact BK127.out⟩, ⟨by repeat (first | (with_reducible first | exact HB.out | apply below_alloc | apply pw_below_drewN | apply below_drew1 | refine below_set ?_ GE127.out) | exact HB.out)⟩⟩
                                  · rw [if_neg c38] at H
                                    exact absurd H (by simp)
                                · rw [if_neg c37] at H
                                  exact absurd H (by simp)
                              · rw [if_neg c36] at H
                                have c36b0 : decide (0 ≤ t136) = false := decide_eq_false c36
                                clear c36
                                have H' := Aside0.mk H
                                clear H
                                go_wp2
                                go_meet
                                case rel => exact ⟨_, (false), (by first | rfl | (simp; done) | (simp [*]; done)), H', ⟨by have := HJ5.out; have := HK2.out; have := HK3.out; first | omega | exact Nat.le_refl _⟩, ⟨by (with_reducible repeat (first | apply Kd.R_alloc | apply Kd.R_drewN | apply Kd.R_drew)); exact HO_12.out⟩, ⟨by (with_reducible repeat (first | refine blk_drewN ?_ _ | refine blk_drew ?_ | refine blk_alloc ?_ _)); exact BK127.out⟩, ⟨by repeat (first | (with_reducible first | exact HB.out | apply below_alloc | apply pw_below_drewN | apply below_drew1 | refine below_set ?_ GE127.out) | exact HB.out)⟩⟩
                          · rw [if_neg c34] at H
                            have c34b0 : (t138 == 0) = false := beq_eq_false_iff_ne.mpr c34
                            have c34b1 : (t138 != 0) = true := bne_iff_ne.mpr c34
                            (first | rw [c34b0] | (simp only [i64_w, i32_w]; rw [c34b0]) | skip)
                            have H' := Aside0.mk H
                            clear H
                            go_wp2
                            go_meet
                            case rel => exact ⟨_, (true), (by first | rfl | (simp; done) | (simp [*]; done)), H', ⟨by have := HJ5.out; have := HK2.out; have := HK3.out; first | omega | exact Nat.le_refl _⟩, ⟨by (with_reducible repeat (first | apply Kd.R_alloc | apply Kd.R_drewN | apply Kd.R_drew)); exact HO_12.out⟩, ⟨by (with_reducible repeat (first | refine blk_drewN ?_ _ | refine blk_drew ?_ | refine blk_alloc ?_ _)); exact BK127.out⟩, ⟨by repeat (first | (with_reducible first | exact HB.out | apply below_alloc | apply pw_below_drewN | apply below_drew1 | refine below_set ?_ GE127.out) | exact HB.out)⟩⟩
                        case rest =>
                          clear HC31
                          try clear c1
                          try clear p1
                          try clear q1
                          try clear hx1
                          try clear c2
                          try clear p2
                          try clear c3
                          try clear p6
                          try clear c7
                          try clear c11
                          try clear c12
                          try clear c13
                          try clear p13
                          try clear q13
                          try clear hx13
                          try clear c14
                          try clear c14b0
                          try clear c14b1
                          try clear c15
                          try clear c15b0
                          try clear c15b1
                          try clear c16
                          try clear c16b0
                          try clear c19
                          try clear c22
                          try clear c23
                          try clear c23b0
                          try clear c23b1
                          try clear c24
                          try clear c24b0
                          try clear c24b1
                          try clear c27
                          try clear c27b0
                          try clear c29
                          try clear c29b0
                          try clear c34
                          try clear c34b0
                          try clear c34b1
                          try clear c35
                          try clear c35b0
                          try clear c36
                          try clear c36b0
                          try clear c37
                          try clear c37b0
                          try clear c38
                          try clear c38b0
                          try clear hcz10_0
                          try clear hcz10_1
                          try clear hcz10_2
                          try clear hcz28_0
                          try clear hcz28_1
                          try clear hcz28_2
                          try clear hcz32_0
                          try clear hcz32_1
                          try clear hcz32_2
                          try clear hcz8_0
                          try clear hcz8_1
                          try clear hcz8_2
                          try clear hfz10_0
                          try clear hfz10_1
                          try clear hfz10_2
                          try clear hfz28_0
                          try clear hfz28_1
                          try clear hfz28_2
                          try clear hfz32_0
                          try clear hfz32_1
                          try clear hfz32_2
                          try clear hfz8_0
                          try clear hfz8_1
                          try clear hfz8_2
                          try clear hx139_0
                          try clear p139
                          try clear p2
                          try clear p6
                          try clear q139
                          obtain ⟨kq, x98_30, rfl, HA, HJ30, HO_12, BK127, HB⟩ := hcut
                          cases kq with
                          | zero => exact absurd HA.out (by simp [ravelinlaw03_LayoutCounts.j3])
                          | succ kj30 =>
                            have H := HA.out
                            clear HA
                            simp only [ravelinlaw03_LayoutCounts.j3] at H
                            by_cases c40 : x98_30 = true
                            · subst c40
                              have H1 : (some false) = some r := by rw [if_pos rfl] at H; exact H
                              clear H
                              have H := H1
                              clear H1
                              obtain rfl := Option.some.inj H
                              go_wp2
                              go_ret
                              exact ⟨by first | rfl | (simp [errW_none, errW_some] <;> rfl) | (simp [*, errW_none, errW_some] <;> rfl), by repeat (first | (with_reducible first | exact HB.out | apply below_alloc | apply pw_below_drewN | apply below_drew1 | refine below_set ?_ GE127.out) | exact HB.out)⟩
                            · replace c40 := Bool.eq_false_iff.mpr c40
                              subst c40
                              have H1 : (if t136 ≥ 0 then (if 0 ≤ t136 then (if t136 < (x12_3.length : Int) then (ravelinlaw03_LayoutCounts.l1 kj30 t128 t130 (x12_3.set (t136 : Int).toNat true) x13_3 x14_2 (wrap64 (x15_3 + 1)) (wrap64 ((wrap64 (Int.tmod a0 9)) + 4)) (wrap64 ((wrap64 (Int.tmod a1 4)) + 1)) (wrap64 ((wrap64 (Int.tmod a2 9)) + 1))) else (none)) else (none)) else (ravelinlaw03_LayoutCounts.l1 kj30 t128 t130 x12_3 (wrap64 (x13_3 + 1)) x14_2 (wrap64 (x15_3 + 1)) (wrap64 ((wrap64 (Int.tmod a0 9)) + 4)) (wrap64 ((wrap64 (Int.tmod a1 4)) + 1)) (wrap64 ((wrap64 (Int.tmod a2 9)) + 1)))) = some r := by rw [if_neg (show ¬ (false = true) by decide)] at H; exact H
                              clear H
                              have H := H1
                              clear H1
                              by_cases c41 : t136 ≥ 0
                              · rw [if_pos c41] at H
                                have c41b0 : decide (0 ≤ t136) = true := decide_eq_true c41
                                clear c41
                                by_cases c42 : 0 ≤ t136
                                · rw [if_pos c42] at H
                                  have c42b0 : decide (0 ≤ t136) = true := decide_eq_true c42
                                  clear c42
                                  by_cases c43 : t136 < (x12_3.length : Int)
                                  · rw [if_pos c43] at H
                                    have c43b0 : decide (t136 < (x12_3.length : Int)) = true := decide_eq_true c43
                                    clear c43
                                    obtain ⟨y140, hy140⟩ : ∃ y_ : List Bool, y_ = (x12_3.set (t136 : Int).toNat true) := ⟨_, rfl⟩
                                    replace H : (ravelinlaw03_LayoutCounts.l1 kj30 t128 t130 y140 x13_3 x14_2 (wrap64 (x15_3 + 1)) (wrap64 ((wrap64 (Int.tmod a0 9)) + 4)) (wrap64 ((wrap64 (Int.tmod a1 4)) + 1)) (wrap64 ((wrap64 (Int.tmod a2 9)) + 1))) = some r := by first | (rw [hy140]; with_reducible exact H) | (have H2_ := (Option.bind_some _ _).symm.trans H; rw [hy140]; with_reducible exact H2_) | (have H2_ := (Option.bind_some _ _).symm.trans H; with_reducible exact H2_) | with_reducible exact H | (rw [hy140]; exact H) | exact H
                                    have Ny140 := Aside0.mk hy140
                                    clear hy140
                                    have H' := Aside0.mk H
                                    clear H
                                    have p44 : 0 ≤ (t136 : Int) := of_decide_eq_true (by first | (with_reducible assumption) | assumption)
                                    have q44 : (t136 : Int) < ((x12_3.length : Int) : Int) := of_decide_eq_true (by first | (with_reducible assumption) | assumption)
                                    obtain ⟨go44, co44, eo44, gb44, gl44, cl44, HG44⟩ := Kd.R_form HO_12.out (by omega)
                                    (first | cases eo44 | (injection eo44 with ea_ en_ ec_; (first | subst ea_ | (injection ea_ with ea_; subst ea_)); subst ec_; clear en_))
                                    have GB44 := Aside0.mk gb44
                                    have GG44 := Aside0.mk HG44
                                    clear gb44 gl44 HG44
                                    obtain ⟨hx44_0, hf44_0⟩ := Kd.R_celln false HO_12.out (t136 : Int) p44 q44
                                    replace p44 := eq_true p44
                                    replace q44 := eq_true q44
                                    have HP45 := Kd.R_putg HO_12.out (t136 : Int) true
                                    go_wp2_with (first | ((with_reducible refine gate_store (t := 4) (p := 103) rfl ?_); refine store_event (t := 4) (p := 103) (v := ?vo_w46) (w1 := (wc.setCell ⟨go44, (t136 : Int).toNat, none⟩ (.bool true))) ?hg ?ho ?hn ?hr ?_; (case ho => rfl); (case hg => rfl); (case hn => rfl); (case hr => first | (go_simp; done) | (go_simp; rfl)); intro w46 hw; have hg : wc.grownBy w46 (some go44) := (by rw [hw]; exact HP45.2); have hp_ : Kd.R Kd.bool 4 w46 w.heap.size (fun _ => True) (.slice (some ⟨go44, 0, none⟩) x12_3.length co44) y140 := (by rw [hw, Ny140.out]; exact HP45.1); clear HP45; have n0_ := Aside0.mk (hp_); have n1_ := Aside0.mk (blk_grown (g := gb127) (o := .cells #[.int .i64 (wrap64 ((wrap64 (Int.tmod a0 9)) + 4)), .int .i64 (wrap64 ((wrap64 (Int.tmod a1 4)) + 1)), .int .i64 (wrap64 ((wrap64 (Int.tmod a2 9)) + 1))] 23 (0, 0)) (by (with_reducible repeat (first | refine blk_drewN ?_ _ | refine blk_drew ?_ | refine blk_alloc ?_ _)); exact BK127.out) hg (Kd.R_ne HO_12.out BK127.out (by decide))); have n2_ := Aside0.mk ((by rw [hw]; exact below_set (HB.out) GB44.out : Below w.heap.size w w46)); clear HO_12; clear BK127; clear HB; have HO_12 := n0_; have BK127 := n1_; have HB := n2_; clear n0_ n1_ n2_; clear hg hw hp_))
                                    go_roundg kj30
                                    case measure => have := HJ5.out; have := HK2.out; have := HK3.out; have := HJ30.out; omega
                                    case rel => exact ⟨(y140), (x13_3), (wrap64 (x15_3 + 1)), (by first | rfl | (simp; done) | (simp [*]; done)), (by first | rfl | (simp; done) | (simp [*]; done)), H', ⟨by have := HJ5.out; have := HK2.out; have := HK3.out; have := HJ30.out; omega⟩, ⟨by (with_reducible repeat (first | apply Kd.R_alloc | apply Kd.R_drewN | apply Kd.R_drew)); exact HO_12.out⟩, ⟨by (with_reducible repeat (first | refine blk_drewN ?_ _ | refine blk_drew ?_ | refine blk_alloc ?_ _)); exact BK127.out⟩, ⟨by repeat (first | (with_reducible first | exact HB.out | apply below_alloc | apply pw_below_drewN | apply below_drew1 | refine below_set ?_ GE127.out) | exact HB.out)⟩⟩
                                  · rw [if_neg c43] at H
                                    exact absurd H (by simp)
                                · rw [if_neg c42] at H
                                  exact absurd H (by simp)
                              · rw [if_neg c41] at H
                                have c41b0 : decide (0 ≤ t136) = false := decide_eq_false c41
                                clear c41
                                have H' := Aside0.mk H
                                clear H
                                go_wp2
                                go_roundg kj30
                                case measure => have := HJ5.out; have := HK2.out; have := HK3.out; have := HJ30.out; omega
                                case rel => exact ⟨(x12_3), (wrap64 (x13_3 + 1)), (wrap64 (x15_3 + 1)), (by first | rfl | (simp; done) | (simp [*]; done)), (by first | rfl | (simp; done) | (simp [*]; done)), H', ⟨by have := HJ5.out; have := HK2.out; have := HK3.out; have := HJ30.out; omega⟩, ⟨by (with_reducible repeat (first | apply Kd.R_alloc | apply Kd.R_drewN | apply Kd.R_drew)); exact HO_12.out⟩, ⟨by (with_reducible repeat (first | refine blk_drewN ?_ _ | refine blk_drew ?_ | refine blk_alloc ?_ _)); exact BK127.out⟩, ⟨by repeat (first | (with_reducible first | exact HB.out | apply below_alloc | apply pw_below_drewN | apply below_drew1 | refine below_set ?_ GE127.out) | exact HB.out)⟩⟩
                      · rw [if_neg c29] at H
                        have c29b0 : decide (x15_3 < t130) = false := decide_eq_false c29
                        clear c29
                        have H' := Aside0.mk H
                        clear H
                        go_wp2
                        go_roundg k3
                        case measure => have := HJ5.out; have := HK2.out; have := HK3.out; omega
                        case rel => exact ⟨(x12_3), (x13_3), (wrap64 (x14_2 + 1)), (by first | rfl | (simp; done) | (simp [*]; done)), (by first | rfl | (simp; done) | (simp [*]; done)), H', ⟨by have := HJ5.out; have := HK2.out; have := HK3.out; omega⟩, ⟨by (with_reducible repeat (first | apply Kd.R_alloc | apply Kd.R_drewN | apply Kd.R_drew)); exact HO_12.out⟩, ⟨by (with_reducible repeat (first | refine blk_drewN ?_ _ | refine blk_drew ?_ | refine blk_alloc ?_ _)); exact BK127.out⟩, ⟨by repeat (first | (with_reducible first | exact HB.out | apply below_alloc | apply pw_below_drewN | apply below_drew1 | refine below_set ?_ GE127.out) | exact HB.out)⟩⟩
                · rw [if_neg c27] at H
                  have c27b0 : decide (x14_2 < (wrap64 ((wrap64 (Int.tmod a0 9)) + 4))) = false := decide_eq_false c27
                  clear c27
                  by_cases c47 : x13_2 = (wrap64 (2 * t130))
                  · rw [if_pos c47] at H
                    have c47b0 : (x13_2 == (wrap64 (2 * t130))) = true := beq_iff_eq.mpr c47
                    have c47b1 : (x13_2 != (wrap64 (2 * t130))) = false := bne_eq_false_iff_eq.mpr c47
                    clear c47
                    obtain rfl := Option.some.inj H
                    have hcz48_0 : wr.cell? ⟨gb127, 0, none⟩ = some (.int .i64 (wrap64 ((wrap64 (Int.tmod a0 9)) + 4))) := (blk_cell BK127.out 0).trans rfl
                    have hcz48_1 : wr.cell? ⟨gb127, 1, none⟩ = some (.int .i64 (wrap64 ((wrap64 (Int.tmod a1 4)) + 1))) := (blk_cell BK127.out 1).trans rfl
                    have hcz48_2 : wr.cell? ⟨gb127, 2, none⟩ = some (.int .i64 (wrap64 ((wrap64 (Int.tmod a2 9)) + 1))) := (blk_cell BK127.out 2).trans rfl
                    have hfz48_0 := blk_frozen BK127.out 0
                    have hfz48_1 := blk_frozen BK127.out 1
                    have hfz48_2 := blk_frozen BK127.out 2
                    go_wp2
                    go_ret
                    exact ⟨by first | rfl | (simp [errW_none, errW_some] <;> rfl) | (simp [*, errW_none, errW_some] <;> rfl), by repeat (first | (with_reducible first | exact HB.out | apply below_alloc | apply pw_below_drewN | apply below_drew1 | refine below_set ?_ GE127.out) | exact HB.out)⟩
                  · rw [if_neg c47] at H
                    have c47b0 : (x13_2 == (wrap64 (2 * t130))) = false := beq_eq_false_iff_ne.mpr c47
                    have c47b1 : (x13_2 != (wrap64 (2 * t130))) = true := bne_iff_ne.mpr c47
                    obtain rfl := Option.some.inj H
                    have hcz49_0 : wr.cell? ⟨gb127, 0, none⟩ = some (.int .i64 (wrap64 ((wrap64 (Int.tmod a0 9)) + 4))) := (blk_cell BK127.out 0).trans rfl
                    have hcz49_1 : wr.cell? ⟨gb127, 1, none⟩ = some (.int .i64 (wrap64 ((wrap64 (Int.tmod a1 4)) + 1))) := (blk_cell BK127.out 1).trans rfl
                    have hcz49_2 : wr.cell? ⟨gb127, 2, none⟩ = some (.int .i64 (wrap64 ((wrap64 (Int.tmod a2 9)) + 1))) := (blk_cell BK127.out 2).trans rfl
                    have hfz49_0 := blk_frozen BK127.out 0
                    have hfz49_1 := blk_frozen BK127.out 1
                    have hfz49_2 := blk_frozen BK127.out 2
                    go_wp2
                    go_ret
                    exact ⟨by first | rfl | (simp [errW_none, errW_some] <;> rfl) | (simp [*, errW_none, errW_some] <;> rfl), by repeat (first | (with_reducible first | exact HB.out | apply below_alloc | apply pw_below_drewN | apply below_drew1 | refine below_set ?_ GE127.out) | exact HB.out)⟩
          · rw [if_neg c24] at H
            exact absurd H (by simp)
        · rw [if_neg c23] at H
          exact absurd H (by simp)

/-- THE ONE PURE STATEMENT of ravelinlaw03_LayoutCounts: yours. -/
def ravelinlaw03_LayoutCounts.Pure : Prop := ∀ (a0 : Int) (a1 : Int) (a2 : Int), (Lit.int .u8 a0).wf = true → (Lit.int .u8 a1).wf = true → (Lit.int .u8 a2).wf = true → ∃ k, ravelinlaw03_LayoutCounts.f k a0 a1 a2 = some true
theorem ravelinlaw03_LayoutCounts.walk (P : ravelinlaw03_LayoutCounts.Pure) (a0 : Int) (a1 : Int) (a2 : Int) (w : World) (w0 : (Lit.int .u8 a0).wf = true) (w1 : (Lit.int .u8 a1).wf = true) (w2 : (Lit.int .u8 a2).wf = true) :
    Calls Try.prog 7 #[.int .u8 a0, .int .u8 a1, .int .u8 a2] w fun e w' => e = .returned (.bool true) ∧ Below w.heap.size w w' := by
  obtain ⟨k, h⟩ := P a0 a1 a2 w0 w1 w2
  refine (ravelinlaw03_LayoutCounts.calls k a0 a1 a2 true w h).mono ?_
  rintro e w' ⟨rfl, hd⟩
  exact ⟨rfl, hd⟩

end Go.Proofs.Ytgedclbfednhlaa.PLayoutCounts
