/-
  The walk of the statement on nil memories. Helper text; no statement is proved here.
-/
import Derived.Test.YtobblbplanimgaaNv7A
set_option linter.unusedVariables false
set_option maxRecDepth 20000
set_option linter.unusedSimpArgs false
namespace Go.Proofs.Ytobblbplanimgaa.Nvram
open Go.RowKit Go.Proofs.Ytobblbplanimgaa.Base Go.Proofs.Ytobblbplanimgaa.Laws Go.Proofs.Ytobblbplanimgaa.Disk Go.Proofs.Ytobblbplanimgaa.Row Go.Proofs.Ytobblbplanimgaa.Codec Go.Proofs.Ytobblbplanimgaa.InvL Go.Proofs.Ytobblbplanimgaa.InvM
theorem scan_one {x : Rc} (h : x.Valid) (g : x.Good) : scanAll ([] ++ x.bytes) = [x] := by
  have := scan_laid [x] (fun r hr => by simp at hr; subst hr; exact ⟨h, g⟩)
  simpa [laidAll] using this
/-- a row of one record: where it lies -/
theorem own_one {w : World} {base : Nat} {v : Value} {x : Rc} {n : Nat} {l : List Rc} (hv : x.Valid) (hl : l = [x]) (hn : n = l.length) (h : w.ownsRow base 27 19 v n (rv l)) : ∃ g cap cs, v = .slice (some ⟨g, 0, none⟩) 1 cap ∧ base ≤ g ∧ 1 ≤ cap ∧ cap ≤ maxLen ∧ Blk w g cs 27 ∧ cs.take 19 = x.cells := by
  subst hl
  subst hn
  rcases h.2 with ⟨_, h2⟩ | ⟨g, cap, cur, e1, hb, hg, h3, h4, h5, h6⟩
  · simp at h2
  · exact ⟨g, cap, cur.toList, e1, hb, h3, h4, by unfold Blk; simpa using hg, by rw [rv_one] at h6; exact h6⟩
theorem cells_two {cs : List Value} {x : Rc} (h : cs.take 19 = x.cells) : cs[2]? = some (.int .i64 x.a) := by
  have h2 : (cs.take 19)[2]? = x.cells[2]? := by rw [h]
  rw [List.getElem?_take, if_pos (by decide)] at h2
  rw [h2]
  rfl
set_option maxHeartbeats 2000000 in
theorem nil_walk (x : Rc) (hx : x.Valid) (w : World) : Calls Try.prog 5 #[.agg x.cells.toArray] w fun e w' => e = .returned (.bool true) ∧ Below w.heap.size w w' := by
  have Z0 := Lib.hid (blk_at (w := w) (g := w.heap.size) (cs := x.cells) (t := 27) (arr := x.cells.toArray) rfl rfl)
  have x19 := Lib.hid (Rc.len hx)
  go_enter Try.func5, Try.ntmps5
  go_upto_region 1 with (fail)
  obtain ⟨w0, hw0⟩ : ∃ w0, w0 = w.alloc (.cells x.cells.toArray 27) := ⟨_, rfl⟩
  have B0 := Lib.hid (show Below w.heap.size w w0 from hw0 ▸ (Below.refl _ _).alloc (Nat.le_refl _) _)
  have hs0 : w.heap.size < w0.heap.size := by rw [hw0]; simp
  rw [← hw0] at Z0 ⊢
  clear hw0
  go_wp2_with (first | (go_at_call 18; refine (trim_nil _).mono ?_; rintro e w' ⟨rfl, rfl⟩) | (go_at_call 22; refine (wipe_nil _).mono ?_; rintro e w' ⟨rfl, rfl⟩) | (go_at_call 21; refine (load_nil _ _ _ _).mono ?_; rintro e w' ⟨rfl, rfl⟩) | (go_at_call 17; refine (records_nil _).mono ?_; rintro e w' ⟨rfl, rfl⟩) | (go_at_call 19; refine (used_nil _).mono ?_; rintro e w' ⟨rfl, rfl⟩) | (go_at_call 20; refine (room_nil _).mono ?_; rintro e w' ⟨rfl, rfl⟩))
  refine (new_nilm 50 (by decide) (by decide) w0).mono ?_
  rintro e w' ⟨rfl, rfl⟩
  go_wp2_with fail
  refine (newmains w0).mono ?_
  rintro e w1 ⟨rfl, p1, b1, z1⟩
  have NW := Lib.hid (new_at p1 50 (by decide) (by decide) 50 rfl)
  have P1 := Lib.hid p1
  have B1 := Lib.hid (B0.out.trans (b1.mono (by omega)))
  have Z1 := Lib.hid (Z0.out.below b1 (by omega))
  have hs1 : w0.heap.size < w1.heap.size := by omega
  clear p1 b1 z1 Z0
  go_wp2_with fail
  refine NW.out.mono ?_
  rintro e w2 ⟨rfl, r2, b2, z2⟩
  have R2 := Lib.hid r2
  have P2 := Lib.hid (P1.out.only (Only.of_below (S := []) b2) (by simp))
  have B2 := Lib.hid (B1.out.trans (b2.mono (by omega)))
  have Z2 := Lib.hid (Z1.out.below b2 (by omega))
  have hs2 : w1.heap.size < w2.heap.size := by omega
  clear r2 b2 z2 NW P1 B1 Z1
  go_wp2_with fail
  refine (awake_any w2).mono ?_
  rintro e w3 ⟨rfl, b3⟩
  have r3 := R2.out.below b3
  have P3 := P2.out.only (Only.of_below (S := []) b3) (by simp)
  have tv : (Rc.two 2 3).Valid := two_valid (by unfold I64; decide) (by unfold I64; decide)
  have tg : (Rc.two 2 3).Good := by unfold Rc.Good Ok; decide
  have AP := Lib.hid (append_yes (x := Rc.two 2 3) r3 P3 ⟨by decide, by decide⟩ tv tg rfl (by decide) rfl)
  have HTV := Lib.hid tv
  have HTG := Lib.hid tg
  have B3 := Lib.hid (B2.out.trans (b3.mono (by omega)))
  have Z3 := Lib.hid (Z2.out.below b3 (by omega))
  have hs3 := b3.size
  clear r3 P3 b3 R2 P2 B2 Z2 tv tg
  go_wp2_with (first | (refine wpList_builds rfl 27 _ rfl [(0, .int .i64 2), (2, .int .i64 3)] rfl _ (two_built 2 3) ?_))
  refine AP.out.mono ?_
  rintro e w4 ⟨rfl, v4, r4, p4, _, o4⟩
  have RC := Lib.hid (records_any r4)
  have R4 := Lib.hid r4
  have Z4 := Lib.hid (Z3.out.only o4 (by simp [blkOf, Value.ownBlock]; omega))
  have B4 := Lib.hid (B3.out.trans (o4.below (by omega) (by simp [blkOf, Value.ownBlock]; omega)))
  have hs4 := o4.size
  clear r4 p4 o4 AP B3 Z3
  go_wp2_with fail
  refine RC.out.mono ?_
  rintro e w5 ⟨rr, rfl, ho5, b5⟩
  obtain ⟨g, cap, cs, rfl, hg, hc1, hcm, hcb, hct⟩ := own_one HTV.out (scan_one HTV.out HTG.out) rfl ho5
  have hsc : (scanAll ([] ++ (Rc.two 2 3).bytes)).length = 1 := by rw [scan_one HTV.out HTG.out]; rfl
  have R5 := R4.out.below b5
  have Z5 := Z4.out.below b5 (by omega)
  have hs5 := b5.size
  have hglt := hcb.lt
  have c2 : w5.cell? ⟨g, 2, none⟩ = some (.int .i64 (Rc.two 2 3).a) := by rw [hcb.cell]; exact cells_two hct
  have f2 := hcb.frozen 2
  have o6 : Only [g] w5 (w5.setCell ⟨g, 2, none⟩ (.int .i64 9)) := (Only.refl [g] w5).setCell (by simp) _ _
  have R6 := Lib.hid (R5.only o6 (by have := R4.out.head.lt; simp; omega) (fun q hq => by have := (own_lt R4.out.own hq).2; simp; omega))
  have Z6 := Lib.hid (Z5.only o6 (by simp; omega))
  have B6 := Lib.hid ((B4.out.trans (b5.mono (by omega))).trans (o6.below (by omega) (by simp; omega)))
  have hs6 := o6.size
  have hcm' : (1 : Int) ≤ (cap : Int) := by omega
  unfold maxLen at hcm
  clear ho5 b5 hcb hct hsc o6 R5 Z5 RC R4 Z4 B4
  go_upto_region 13 with (fail)
  obtain ⟨w6, hw6⟩ : ∃ w6, w6 = w5.setCell ⟨g, 2, none⟩ (.int .i64 9) := ⟨_, rfl⟩
  rw [← hw6] at R6 Z6 B6 hs6 ⊢
  clear hw6 c2 f2
  have RC2 := Lib.hid (records_any R6.out)
  go_wp2_with fail
  refine RC2.out.mono ?_
  rintro e w7 ⟨rr, rfl, ho7, b7⟩
  obtain ⟨g', cap', cs', rfl, hg', hc1', hcm2, hcb', hct'⟩ := own_one HTV.out (scan_one HTV.out HTG.out) rfl ho7
  have d2 : w7.cell? ⟨g', 2, none⟩ = some (.int .i64 3) := by rw [hcb'.cell]; exact cells_two hct'
  have Z7 := Lib.hid (Z6.out.below b7 (by omega))
  have B7 := Lib.hid (B6.out.trans (b7.mono (by omega)))
  have hs7 := b7.size
  have hcm3 : (1 : Int) ≤ (cap' : Int) := by omega
  unfold maxLen at hcm2
  have AN := Lib.hid (append_nil x.cells.toArray w7)
  clear ho7 b7 hcb' hct' RC2 R6 Z6 B6
  go_wp2_with (first | (refine wpList_load_g rfl 27 _ rfl w.heap.size 19 rfl 27 x.cells _ Z7.out Try.underlying27 rfl (by kernel_rfl) x19.out ?_))
  refine AN.out.mono ?_
  rintro e w8 ⟨rfl, b8⟩
  have B8 := Lib.hid (B7.out.trans (b8.mono (by omega)))
  clear b8
  go_wp2_with (first | (go_at_call 18; refine (trim_nil _).mono ?_; rintro e w' ⟨rfl, rfl⟩) | (go_at_call 22; refine (wipe_nil _).mono ?_; rintro e w' ⟨rfl, rfl⟩) | (go_at_call 21; refine (load_nil _ _ _ _).mono ?_; rintro e w' ⟨rfl, rfl⟩) | (go_at_call 17; refine (records_nil _).mono ?_; rintro e w' ⟨rfl, rfl⟩) | (go_at_call 19; refine (used_nil _).mono ?_; rintro e w' ⟨rfl, rfl⟩) | (go_at_call 20; refine (room_nil _).mono ?_; rintro e w' ⟨rfl, rfl⟩))
  go_ret
  exact ⟨rfl, B8.out⟩
section
variable {H : Type} {enc : TypeId × Value → H} {base : Nat} {spare : Nat → Bool} {held : Bool} {W : World}
theorem nil_in (c : List Value) (hl : c.length = 19) (h : Opens.Fits enc Try.prog W base spare held ([.int .i64, .int .u64, .int .i64] ++ List.replicate 16 (.int .u8)) c) :
    Calls Try.prog 5 #[.agg c.toArray] W fun e w' => e = .returned (.bool true) ∧ Below W.heap.size W w' := by
  obtain ⟨k, v, a, l, hl16, hv, hk, ha, rfl⟩ := rec_in hl rfl h
  exact nil_walk ⟨k, v, a, l⟩ ⟨hl16, hv, hk, ha⟩ W
end
end Go.Proofs.Ytobblbplanimgaa.Nvram
