/-
  Append to a memory by contract. Helper text; no statement is proved here.
-/
import Derived.Test.YtobblbplanimgaaNvram
import Derived.Deep.Cut
set_option linter.unusedVariables false
set_option maxRecDepth 20000
set_option linter.unusedSimpArgs false
namespace Go.Proofs.Ytobblbplanimgaa.Nvram
open Go.RowKit Go.Proofs.Ytobblbplanimgaa.Base Go.Proofs.Ytobblbplanimgaa.Laws Go.Proofs.Ytobblbplanimgaa.Disk Go.Proofs.Ytobblbplanimgaa.Row Go.Proofs.Ytobblbplanimgaa.Codec Go.Proofs.Ytobblbplanimgaa.InvL Go.Proofs.Ytobblbplanimgaa.InvM
section
variable {w w' : World} {br bm size : Nat} {v : Value} {B : List UInt8} {p : Pow} {x : Rc}
set_option maxHeartbeats 1000000 in
theorem append_bad (h : RamAt w br bm size v B) (hp : PowAt w bm p) (hx : x.Valid) (hg : ¬ x.Good) : Calls Try.prog 12 #[.pointer (some ⟨br, 0, none⟩), .agg x.cells.toArray] w fun e w' => e = .returned (.int .i64 2) ∧ Below w.heap.size w w' := by
  have hbr := h.head.lt
  have hx19 := Lib.hid (Rc.len hx)
  have Z0 := Lib.hid (blk_at (w := w) (g := w.heap.size) (cs := x.cells) (t := 27) (arr := x.cells.toArray) rfl rfl)
  have b0 : Below w.heap.size w (w.alloc (.cells x.cells.toArray 27)) := (Below.refl _ _).alloc (Nat.le_refl _) _
  have H0 := Lib.hid (h.below b0)
  have P0 := Lib.hid (hp.only (Only.of_below (S := []) b0) (by simp))
  have B0 := Lib.hid b0
  have hs0 : w.heap.size < (w.alloc (.cells x.cells.toArray 27)).heap.size := by simp
  have hbm := hp.lt
  have OWN := Lib.hid (fun g hg => own_lt h.own (g := g) hg)
  clear h hp b0
  go_enter Try.func12, Try.ntmps12
  go_upto_region 1 with (fail)
  obtain ⟨w1, hw1⟩ : ∃ w1, w1 = w.alloc (.cells x.cells.toArray 27) := ⟨_, rfl⟩
  rw [← hw1] at Z0 H0 P0 B0 hs0 ⊢
  clear hw1
  have PK := Lib.hid (show Calls Try.prog 34 #[.agg x.cells.toArray] w1 fun e w' => e = .returned (.tuple #[.slice none 0 0, .int .i64 2]) ∧ Below w1.heap.size w1 w' from pack_no (v := x.v) hx.1 hg w1)
  go_wp2_with (first | (refine wpList_load_blk rfl 27 _ rfl w.heap.size 0 19 rfl 27 x.cells _ Z0.out Try.underlying27 rfl (by kernel_rfl) (by rw [hx19.out]; omega) x.cells (by rw [List.drop_zero, List.take_of_length_le (by rw [hx19.out]; omega)]) ?_))
  refine PK.out.mono ?_
  rintro e w2 ⟨rfl, hb⟩
  have B2 := Lib.hid (B0.out.trans (hb.mono (by omega)))
  clear hb PK
  go_wp2_with fail
  go_ret
  exact ⟨rfl, B2.out⟩
theorem good_nat {x : Rc} (h : x.Good) : Ok x.k (x.a.toNat : Nat) ∧ x.cells = recV x.k x.v (x.a.toNat : Nat) x.l := by
  have h0 : 0 ≤ x.a := by unfold Rc.Good Ok at h; omega
  have e : ((x.a.toNat : Nat) : Int) = x.a := Int.toNat_of_nonneg h0
  rw [e]
  exact ⟨h, rfl⟩
set_option maxHeartbeats 1000000 in
theorem append_off (h : RamAt w br bm size v B) (hp : PowAt w bm p) (hx : x.Valid) (hg' : x.Good) (hoff : p.off = true) : Calls Try.prog 12 #[.pointer (some ⟨br, 0, none⟩), .agg x.cells.toArray] w fun e w' => e = .returned (.int .i64 4) ∧ Below w.heap.size w w' := by
  obtain ⟨hg, hcells⟩ := good_nat hg'
  have HCE := Lib.hid hcells
  clear hcells
  have hbr := h.head.lt
  have hx19 := Lib.hid (Rc.len hx)
  have Z0 := Lib.hid (blk_at (w := w) (g := w.heap.size) (cs := x.cells) (t := 27) (arr := x.cells.toArray) rfl rfl)
  have b0 : Below w.heap.size w (w.alloc (.cells x.cells.toArray 27)) := (Below.refl _ _).alloc (Nat.le_refl _) _
  have H0 := Lib.hid (h.below b0)
  have P0 := Lib.hid (hp.only (Only.of_below (S := []) b0) (by simp))
  have B0 := Lib.hid b0
  have hs0 : w.heap.size < (w.alloc (.cells x.cells.toArray 27)).heap.size := by simp
  have hbm := hp.lt
  have OWN := Lib.hid (fun g hg => own_lt h.own (g := g) hg)
  clear h hp b0
  go_enter Try.func12, Try.ntmps12
  go_upto_region 1 with (fail)
  obtain ⟨w1, hw1⟩ : ∃ w1, w1 = w.alloc (.cells x.cells.toArray 27) := ⟨_, rfl⟩
  rw [← hw1] at Z0 H0 P0 B0 hs0 ⊢
  clear hw1
  have PK0 := pack_yes (k := x.k) (v := x.v) (a := x.a.toNat) hx.1 hx.2.1 hg w1.heap.size w1 (Nat.le_refl _)
  rw [← HCE.out] at PK0
  have PK := Lib.hid PK0
  clear PK0 HCE
  go_wp2_with (first | (refine wpList_load_blk rfl 27 _ rfl w.heap.size 0 19 rfl 27 x.cells _ Z0.out Try.underlying27 rfl (by kernel_rfl) (by rw [hx19.out]; omega) x.cells (by rw [List.drop_zero, List.take_of_length_le (by rw [hx19.out]; omega)]) ?_))
  refine PK.out.mono ?_
  rintro e w2 ⟨pv, rfl, ho, hb⟩
  obtain ⟨pa, pc, rfl, hbt⟩ := OwnB.bts_own (by rw [List.length_append, rec33_len _ _ _ _ hx.1, be_len]) ho
  have PB := Lib.hid (fun (g o : Nat) (e : pa = some ⟨g, o, none⟩) => (own_lt ho (g := g) (by rw [e]; rfl)).1)
  have BT := Lib.hid (show Bts w2 pa 37 pc x.bytes from hbt)
  have H2 := Lib.hid (H0.out.below hb)
  have P2 := Lib.hid (P0.out.only (Only.of_below (S := []) hb) (by simp))
  have B2 := Lib.hid (B0.out.trans (hb.mono (by omega)))
  have hs2 := hb.size
  have h37 := hbt.2.1
  clear ho hb hbt PK Z0 H0 P0 B0
  have c0 := H2.out.c0
  have ON := Lib.hid (on_any bm p w2 P2.out)
  rw [hoff] at ON
  clear hoff
  go_wp2_with (first | (go_at_call 14; refine ON.out.mono ?_; rintro e w' ⟨rfl, rfl⟩))
  go_ret
  exact ⟨rfl, B2.out⟩
set_option maxHeartbeats 1000000 in
theorem append_full (h : RamAt w br bm size v B) (hp : PowAt w bm p) (hx : x.Valid) (hg' : x.Good) (hoff : p.off = false) (hful : size - B.length < 37) : Calls Try.prog 12 #[.pointer (some ⟨br, 0, none⟩), .agg x.cells.toArray] w fun e w' => e = .returned (.int .i64 9) ∧ Below w.heap.size w w' := by
  obtain ⟨hg, hcells⟩ := good_nat hg'
  have HCE := Lib.hid hcells
  clear hcells
  have hbr := h.head.lt
  have hx19 := Lib.hid (Rc.len hx)
  have Z0 := Lib.hid (blk_at (w := w) (g := w.heap.size) (cs := x.cells) (t := 27) (arr := x.cells.toArray) rfl rfl)
  have b0 : Below w.heap.size w (w.alloc (.cells x.cells.toArray 27)) := (Below.refl _ _).alloc (Nat.le_refl _) _
  have H0 := Lib.hid (h.below b0)
  have P0 := Lib.hid (hp.only (Only.of_below (S := []) b0) (by simp))
  have B0 := Lib.hid b0
  have hs0 : w.heap.size < (w.alloc (.cells x.cells.toArray 27)).heap.size := by simp
  have hbm := hp.lt
  have OWN := Lib.hid (fun g hg => own_lt h.own (g := g) hg)
  clear h hp b0
  go_enter Try.func12, Try.ntmps12
  go_upto_region 1 with (fail)
  obtain ⟨w1, hw1⟩ : ∃ w1, w1 = w.alloc (.cells x.cells.toArray 27) := ⟨_, rfl⟩
  rw [← hw1] at Z0 H0 P0 B0 hs0 ⊢
  clear hw1
  have PK0 := pack_yes (k := x.k) (v := x.v) (a := x.a.toNat) hx.1 hx.2.1 hg w1.heap.size w1 (Nat.le_refl _)
  rw [← HCE.out] at PK0
  have PK := Lib.hid PK0
  clear PK0 HCE
  go_wp2_with (first | (refine wpList_load_blk rfl 27 _ rfl w.heap.size 0 19 rfl 27 x.cells _ Z0.out Try.underlying27 rfl (by kernel_rfl) (by rw [hx19.out]; omega) x.cells (by rw [List.drop_zero, List.take_of_length_le (by rw [hx19.out]; omega)]) ?_))
  refine PK.out.mono ?_
  rintro e w2 ⟨pv, rfl, ho, hb⟩
  obtain ⟨pa, pc, rfl, hbt⟩ := OwnB.bts_own (by rw [List.length_append, rec33_len _ _ _ _ hx.1, be_len]) ho
  have PB := Lib.hid (fun (g o : Nat) (e : pa = some ⟨g, o, none⟩) => (own_lt ho (g := g) (by rw [e]; rfl)).1)
  have BT := Lib.hid (show Bts w2 pa 37 pc x.bytes from hbt)
  have H2 := Lib.hid (H0.out.below hb)
  have P2 := Lib.hid (P0.out.only (Only.of_below (S := []) hb) (by simp))
  have B2 := Lib.hid (B0.out.trans (hb.mono (by omega)))
  have hs2 := hb.size
  have h37 := hbt.2.1
  clear ho hb hbt PK Z0 H0 P0 B0
  have c0 := H2.out.c0
  have ON := Lib.hid (on_any bm p w2 P2.out)
  rw [hoff] at ON
  have RM := Lib.hid (room_any H2.out)
  rw [show (size - B.length) / 37 = 0 from by omega] at RM
  clear hoff hful
  go_wp2_with (first | (go_at_call 14; refine ON.out.mono ?_; rintro e w' ⟨rfl, rfl⟩))
  refine RM.out.mono ?_
  rintro e w3 ⟨rfl, nd, rfl⟩
  go_wp2_with fail
  go_ret
  exact ⟨rfl, below_drewN B2.out nd⟩
set_option maxHeartbeats 2000000 in
theorem append_yes (h : RamAt w br bm size v B) (hp : PowAt w bm p) (hpo : p.Ok) (hx : x.Valid) (hg' : x.Good) (hoff : p.off = false) (hful : 37 ≤ size - B.length) (hst : p.step.1 = true) : Calls Try.prog 12 #[.pointer (some ⟨br, 0, none⟩), .agg x.cells.toArray] w fun e w' => e = .returned (.int .i64 0) ∧ ∃ v', RamAt w' br bm size v' (B ++ x.bytes) ∧ PowAt w' bm p.step.2 ∧ (∀ g, v'.ownBlock = some g → v.ownBlock = some g ∨ w.heap.size ≤ g) ∧ Only [br, bm, blkOf v br] w w' := by
  obtain ⟨hg, hcells⟩ := good_nat hg'
  have HCE := Lib.hid hcells
  clear hcells
  have hbr := h.head.lt
  have hx19 := Lib.hid (Rc.len hx)
  have Z0 := Lib.hid (blk_at (w := w) (g := w.heap.size) (cs := x.cells) (t := 27) (arr := x.cells.toArray) rfl rfl)
  have b0 : Below w.heap.size w (w.alloc (.cells x.cells.toArray 27)) := (Below.refl _ _).alloc (Nat.le_refl _) _
  have H0 := Lib.hid (h.below b0)
  have P0 := Lib.hid (hp.only (Only.of_below (S := []) b0) (by simp))
  have B0 := Lib.hid b0
  have hs0 : w.heap.size < (w.alloc (.cells x.cells.toArray 27)).heap.size := by simp
  have hbm := hp.lt
  have OWN := Lib.hid (fun g hg => own_lt h.own (g := g) hg)
  clear h hp b0
  go_enter Try.func12, Try.ntmps12
  go_upto_region 1 with (fail)
  obtain ⟨w1, hw1⟩ : ∃ w1, w1 = w.alloc (.cells x.cells.toArray 27) := ⟨_, rfl⟩
  rw [← hw1] at Z0 H0 P0 B0 hs0 ⊢
  clear hw1
  have PK0 := pack_yes (k := x.k) (v := x.v) (a := x.a.toNat) hx.1 hx.2.1 hg w1.heap.size w1 (Nat.le_refl _)
  rw [← HCE.out] at PK0
  have PK := Lib.hid PK0
  clear PK0 HCE
  go_wp2_with (first | (refine wpList_load_blk rfl 27 _ rfl w.heap.size 0 19 rfl 27 x.cells _ Z0.out Try.underlying27 rfl (by kernel_rfl) (by rw [hx19.out]; omega) x.cells (by rw [List.drop_zero, List.take_of_length_le (by rw [hx19.out]; omega)]) ?_))
  refine PK.out.mono ?_
  rintro e w2 ⟨pv, rfl, ho, hb⟩
  obtain ⟨pa, pc, rfl, hbt⟩ := OwnB.bts_own (by rw [List.length_append, rec33_len _ _ _ _ hx.1, be_len]) ho
  have PB := Lib.hid (fun (g o : Nat) (e : pa = some ⟨g, o, none⟩) => (own_lt ho (g := g) (by rw [e]; rfl)).1)
  have BT := Lib.hid (show Bts w2 pa 37 pc x.bytes from hbt)
  have H2 := Lib.hid (H0.out.below hb)
  have P2 := Lib.hid (P0.out.only (Only.of_below (S := []) hb) (by simp))
  have B2 := Lib.hid (B0.out.trans (hb.mono (by omega)))
  have hs2 := hb.size
  have h37 := hbt.2.1
  clear ho hb hbt PK Z0 H0 P0 B0
  have c0 := H2.out.c0
  have ON := Lib.hid (on_any bm p w2 P2.out)
  rw [hoff] at ON
  have RM := Lib.hid (room_any H2.out)
  have hrm : 1 ≤ (size - B.length) / 37 := by omega
  obtain ⟨rm, hrmv⟩ : ∃ rm, rm = (size - B.length) / 37 := ⟨_, rfl⟩
  rw [← hrmv] at RM hrm
  have hrm1 : (1 : Int) ≤ (rm : Int) := by omega
  clear hoff hrmv
  go_wp2_with (first | (go_at_call 14; refine ON.out.mono ?_; rintro e w' ⟨rfl, rfl⟩))
  refine RM.out.mono ?_
  rintro e w3 ⟨rfl, nd, rfl⟩
  have P3 := Lib.hid (show PowAt (w2.drewN nd) bm p from P2.out)
  have c03 : (w2.drewN nd).cell? ⟨br, 0, none⟩ = some (.pointer (some ⟨bm, 0, none⟩)) := c0
  have SP := Lib.hid (step_any bm p _ P3.out hpo)
  rw [hst] at SP
  clear hst c0 RM ON
  go_wp2_with fail
  refine SP.out.mono ?_
  rintro e w4 ⟨rfl, p4, o4⟩
  have hbm' := H2.out.lt
  have H4 := Lib.hid (show RamAt w4 br bm size v B from RamAt.only (w := w2.drewN nd) (S := [bm]) { H2.out with head := H2.out.head, own := H2.out.own } o4 (by simp; omega) (fun g hg => by have := (OWN.out g hg).1; simp; omega))
  have P4 := Lib.hid p4
  have BT4 := Lib.hid (show Bts w4 pa 37 pc x.bytes from by
    obtain ⟨q1, q2, q3, q4⟩ := BT.out
    refine ⟨q1, q2, q3, ?_⟩
    rcases q4 with q4 | ⟨gb, og, ea, hc⟩
    · exact .inl q4
    · exact .inr ⟨gb, og, ea, fun i u hu => by
        have h0 := hc i u hu
        have hlt : gb < w2.heap.size := block_lt_of_cell h0
        exact (World.cell?_of_block (w := w2.drewN nd) (o4.block gb hlt (by have := PB.out gb og ea; simp; omega))).trans h0⟩)
  have O4 := Lib.hid (show Only [br, bm, blkOf v br] w w4 from ((Only.of_below (S := [br, bm, blkOf v br]) B2.out).drewN nd).trans (o4.mono (by simp)))
  have hs4 := o4.size
  have hs4' : w2.heap.size ≤ w4.heap.size := hs4
  clear p4 o4 SP P3 c03 H2 P2 BT B2
  have c2 := H4.out.c2
  have f2 := H4.out.head.frozen 2
  go_upto_region 13 with (fail)
  obtain ⟨v', w5, hr5, ho5, hg5, hv5⟩ := run_append_any_at (P := Try.prog) w4 (br + 1) 46 46 5 (.int .u8 0) 1 1 Try.underlying46 OwnB.infou8 rfl (by decide) v B.length (bv B) H4.out.own pa 37 pc (bv x.bytes) (OwnB.src_bts BT4.out) (by have := H4.out.len; have := H4.out.hi; omega) (by have := H4.out.len; have := H4.out.hi; unfold maxLen; omega) (by have := H4.out.head.lt; omega)
  obtain ⟨va, vcap, rfl, _, _, _⟩ := own_slice ho5 (by decide)
  have hne5 : ∀ k, v.ownBlock = some k → br ≠ k := fun k hk => by have := (OWN.out k hk).1; omega
  have hnm5 : ∀ k, v.ownBlock = some k → bm ≠ k := fun k hk => by have := (OWN.out k hk).1; omega
  have HH5 := Lib.hid (H4.out.head.grownO hg5 hne5)
  have P5 := Lib.hid (show PowAt w5 bm p.step.2 from Blk.grownO P4.out hg5 hnm5)
  have c2a : w4.cell? ⟨br, 2, none⟩ = some v := c2
  have c2b : w5.cell? ⟨br, 2, none⟩ = some v := HH5.out.cell 2
  have f2b := HH5.out.frozen 2
  have HR5 := Lib.hid hr5
  have HO5 := Lib.hid ho5
  have HG5 := Lib.hid hg5
  have HV5 := Lib.hid hv5
  have HS4 := Lib.hid hs4'
  clear hr5 ho5 hg5 hv5 hne5 hnm5 c2 f2 hs4
  go_wp2_with (first | (refine wpList_world_gg rfl _ (exec_append _ _ rfl rfl rfl HR5.out) ?_))
  go_ret
  have hB5 := HO5.out
  exact ⟨rfl, _, { head := HH5.out.setCell 2 _, own := own_only (by rw [bv_append, List.length_append, Rc.bytes_len hx]; exact hB5) ((Only.refl [br] w5).setCell (by simp) _ _) (fun g hg => by have := (own_lt hB5 hg).1; simp; omega), lt := H4.out.lt, lo := H4.out.lo, hi := H4.out.hi, len := by rw [List.length_append, Rc.bytes_len hx]; omega },
    Blk.setCell_far P5.out (by omega) _ _, fun g hg => by
      rcases HV5.out with e | e
      · exact .inl (e ▸ hg)
      · rw [e] at hg; cases hg; right; have := HS4.out; show w.heap.size ≤ w4.heap.size; omega,
    ((O4.out.trans ((only_grown (d := br) HG5.out).mono (by simp))).setCell (by simp) _ _)⟩
set_option maxHeartbeats 2000000 in
theorem append_torn (h : RamAt w br bm size v B) (hp : PowAt w bm p) (hpo : p.Ok) (hx : x.Valid) (hg' : x.Good) (hoff : p.off = false) (hful : 37 ≤ size - B.length) (hst : p.step.1 = false) : Calls Try.prog 12 #[.pointer (some ⟨br, 0, none⟩), .agg x.cells.toArray] w fun e w' => e = .returned (.int .i64 4) ∧ ∃ v', RamAt w' br bm size v' (B ++ x.bytes.take 18) ∧ PowAt w' bm p.step.2 ∧ (∀ g, v'.ownBlock = some g → v.ownBlock = some g ∨ w.heap.size ≤ g) ∧ Only [br, bm, blkOf v br] w w' := by
  obtain ⟨hg, hcells⟩ := good_nat hg'
  have HCE := Lib.hid hcells
  clear hcells
  have hbr := h.head.lt
  have hx19 := Lib.hid (Rc.len hx)
  have Z0 := Lib.hid (blk_at (w := w) (g := w.heap.size) (cs := x.cells) (t := 27) (arr := x.cells.toArray) rfl rfl)
  have b0 : Below w.heap.size w (w.alloc (.cells x.cells.toArray 27)) := (Below.refl _ _).alloc (Nat.le_refl _) _
  have H0 := Lib.hid (h.below b0)
  have P0 := Lib.hid (hp.only (Only.of_below (S := []) b0) (by simp))
  have B0 := Lib.hid b0
  have hs0 : w.heap.size < (w.alloc (.cells x.cells.toArray 27)).heap.size := by simp
  have hbm := hp.lt
  have OWN := Lib.hid (fun g hg => own_lt h.own (g := g) hg)
  clear h hp b0
  go_enter Try.func12, Try.ntmps12
  go_upto_region 1 with (fail)
  obtain ⟨w1, hw1⟩ : ∃ w1, w1 = w.alloc (.cells x.cells.toArray 27) := ⟨_, rfl⟩
  rw [← hw1] at Z0 H0 P0 B0 hs0 ⊢
  clear hw1
  have PK0 := pack_yes (k := x.k) (v := x.v) (a := x.a.toNat) hx.1 hx.2.1 hg w1.heap.size w1 (Nat.le_refl _)
  rw [← HCE.out] at PK0
  have PK := Lib.hid PK0
  clear PK0 HCE
  go_wp2_with (first | (refine wpList_load_blk rfl 27 _ rfl w.heap.size 0 19 rfl 27 x.cells _ Z0.out Try.underlying27 rfl (by kernel_rfl) (by rw [hx19.out]; omega) x.cells (by rw [List.drop_zero, List.take_of_length_le (by rw [hx19.out]; omega)]) ?_))
  refine PK.out.mono ?_
  rintro e w2 ⟨pv, rfl, ho, hb⟩
  obtain ⟨pa, pc, rfl, hbt⟩ := OwnB.bts_own (by rw [List.length_append, rec33_len _ _ _ _ hx.1, be_len]) ho
  have PB := Lib.hid (fun (g o : Nat) (e : pa = some ⟨g, o, none⟩) => (own_lt ho (g := g) (by rw [e]; rfl)).1)
  have BT := Lib.hid (show Bts w2 pa 37 pc x.bytes from hbt)
  have H2 := Lib.hid (H0.out.below hb)
  have P2 := Lib.hid (P0.out.only (Only.of_below (S := []) hb) (by simp))
  have B2 := Lib.hid (B0.out.trans (hb.mono (by omega)))
  have hs2 := hb.size
  have h37 := hbt.2.1
  clear ho hb hbt PK Z0 H0 P0 B0
  have c0 := H2.out.c0
  have ON := Lib.hid (on_any bm p w2 P2.out)
  rw [hoff] at ON
  have RM := Lib.hid (room_any H2.out)
  have hrm : 1 ≤ (size - B.length) / 37 := by omega
  obtain ⟨rm, hrmv⟩ : ∃ rm, rm = (size - B.length) / 37 := ⟨_, rfl⟩
  rw [← hrmv] at RM hrm
  have hrm1 : (1 : Int) ≤ (rm : Int) := by omega
  clear hoff hrmv
  go_wp2_with (first | (go_at_call 14; refine ON.out.mono ?_; rintro e w' ⟨rfl, rfl⟩))
  refine RM.out.mono ?_
  rintro e w3 ⟨rfl, nd, rfl⟩
  have P3 := Lib.hid (show PowAt (w2.drewN nd) bm p from P2.out)
  have c03 : (w2.drewN nd).cell? ⟨br, 0, none⟩ = some (.pointer (some ⟨bm, 0, none⟩)) := c0
  have SP := Lib.hid (step_any bm p _ P3.out hpo)
  rw [hst] at SP
  clear hst c0 RM ON
  go_wp2_with fail
  refine SP.out.mono ?_
  rintro e w4 ⟨rfl, p4, o4⟩
  have hbm' := H2.out.lt
  have H4 := Lib.hid (show RamAt w4 br bm size v B from RamAt.only (w := w2.drewN nd) (S := [bm]) { H2.out with head := H2.out.head, own := H2.out.own } o4 (by simp; omega) (fun g hg => by have := (OWN.out g hg).1; simp; omega))
  have P4 := Lib.hid p4
  have BT4 := Lib.hid (show Bts w4 pa 37 pc x.bytes from by
    obtain ⟨q1, q2, q3, q4⟩ := BT.out
    refine ⟨q1, q2, q3, ?_⟩
    rcases q4 with q4 | ⟨gb, og, ea, hc⟩
    · exact .inl q4
    · exact .inr ⟨gb, og, ea, fun i u hu => by
        have h0 := hc i u hu
        have hlt : gb < w2.heap.size := block_lt_of_cell h0
        exact (World.cell?_of_block (w := w2.drewN nd) (o4.block gb hlt (by have := PB.out gb og ea; simp; omega))).trans h0⟩)
  have O4 := Lib.hid (show Only [br, bm, blkOf v br] w w4 from ((Only.of_below (S := [br, bm, blkOf v br]) B2.out).drewN nd).trans (o4.mono (by simp)))
  have hs4 := o4.size
  have hs4' : w2.heap.size ≤ w4.heap.size := hs4
  clear p4 o4 SP P3 c03 H2 P2 BT B2
  have c2 := H4.out.c2
  have f2 := H4.out.head.frozen 2
  go_upto_region 11 with (fail)
  obtain ⟨v', w5, hr5, ho5, hg5, hv5⟩ := run_append_any_at (P := Try.prog) w4.drew (br + 1) 46 46 5 (.int .u8 0) 1 1 Try.underlying46 OwnB.infou8 rfl (by decide) v B.length (bv B) H4.out.own (shifted pa 0 pc) 18 pc (bv (x.bytes.take 18)) (OwnB.src_bts (bts_to BT4.out (by decide))) (by have := H4.out.len; have := H4.out.hi; omega) (by have := H4.out.len; have := H4.out.hi; unfold maxLen; omega) (by have := H4.out.head.lt; show br + 1 ≤ w4.heap.size; omega)
  obtain ⟨va, vcap, rfl, _, _, _⟩ := own_slice ho5 (by decide)
  have hne5 : ∀ k, v.ownBlock = some k → br ≠ k := fun k hk => by have := (OWN.out k hk).1; omega
  have hnm5 : ∀ k, v.ownBlock = some k → bm ≠ k := fun k hk => by have := (OWN.out k hk).1; omega
  have HH5 := Lib.hid (H4.out.head.drew.grownO hg5 hne5)
  have P5 := Lib.hid (show PowAt w5 bm p.step.2 from Blk.grownO (Blk.drew P4.out) hg5 hnm5)
  have c2a : w4.drew.cell? ⟨br, 2, none⟩ = some v := c2
  have c2b : w5.cell? ⟨br, 2, none⟩ = some v := HH5.out.cell 2
  have f2b := HH5.out.frozen 2
  have HR5 := Lib.hid hr5
  have HO5 := Lib.hid ho5
  have HG5 := Lib.hid hg5
  have HV5 := Lib.hid hv5
  have HS4 := Lib.hid hs4'
  clear hr5 ho5 hg5 hv5 hne5 hnm5 c2 f2 hs4
  refine InvL.wp_region_inv_tail (fun d w' => At 7 (fun w' => w' = w4.drew) (fun w' => w' = w5) d w') 10 (by kernel_rfl) (by kernel_rfl) ?hI ?_
  case hI => exact At.start (by rfl) rfl
  simp only [List.take_succ_cons, List.take_zero, List.drop_succ_cons, List.drop_zero]
  refine invl_value (.pointer (some ⟨br, 0, none⟩)) rfl (fun d w' h => by go_simp; all_goals rfl) (fun d w' _ h => At.keep (by decide) id id h) ?_
  simp only [Act.put, List.setIfInBounds_toArray, List.set_cons_zero, List.set_cons_succ]
  refine invl_value (.pointer (some ⟨br, 0, none⟩)) rfl (fun d w' h => by go_simp; all_goals rfl) (fun d w' _ h => At.keep (by decide) id id h) ?_
  simp only [Act.put, List.setIfInBounds_toArray, List.set_cons_zero, List.set_cons_succ]
  refine invl_value (.pointer (some ⟨br, 0, none⟩)) rfl (fun d w' h => by go_simp; all_goals rfl) (fun d w' _ h => At.keep (by decide) id id h) ?_
  simp only [Act.put, List.setIfInBounds_toArray, List.set_cons_zero, List.set_cons_succ]
  refine invl_value (.pointer (some ⟨br, 2, none⟩)) rfl (fun d w' h => by go_simp; all_goals rfl) (fun d w' _ h => At.keep (by decide) id id h) ?_
  simp only [Act.put, List.setIfInBounds_toArray, List.set_cons_zero, List.set_cons_succ]
  refine invl_value v rfl (fun d w' h => by rcases at_or h with h | h <;> subst h <;> go_simp <;> rfl) (fun d w' _ h => At.keep (by decide) id id h) ?_
  simp only [Act.put, List.setIfInBounds_toArray, List.set_cons_zero, List.set_cons_succ]
  refine invl_value (.slice pa 37 pc) rfl (fun d w' h => by go_simp; all_goals rfl) (fun d w' _ h => At.keep (by decide) id id h) ?_
  simp only [Act.put, List.setIfInBounds_toArray, List.set_cons_zero, List.set_cons_succ]
  refine invl_value (.slice (shifted pa 0 pc) 18 pc) rfl (fun d w' h => exec_slice rfl (slice_to w' pa 37 pc 18 .i64 (by have := BT4.out.2.1; omega))) (fun d w' _ h => At.keep (by decide) id id h) ?_
  simp only [Act.put, List.setIfInBounds_toArray, List.set_cons_zero, List.set_cons_succ]
  refine invl_world (.slice va _ vcap) rfl (fun d w' hd h => ⟨w5, by have e := h.before hd; subst e; exact exec_append _ _ rfl rfl rfl HR5.out, At.now hd rfl⟩) ?_
  simp only [Act.put, List.setIfInBounds_toArray, List.set_cons_zero, List.set_cons_succ]
  refine invl_value (.pointer (some ⟨br, 0, none⟩)) rfl (fun d w' h => by go_simp; all_goals rfl) (fun d w' _ h => At.keep (by decide) id id h) ?_
  simp only [Act.put, List.setIfInBounds_toArray, List.set_cons_zero, List.set_cons_succ]
  refine invl_value (.pointer (some ⟨br, 2, none⟩)) rfl (fun d w' h => by go_simp; all_goals rfl) (fun d w' _ h => At.keep (by decide) id id h) ?_
  simp only [Act.put, List.setIfInBounds_toArray, List.set_cons_zero, List.set_cons_succ]
  refine invl_nil fun w6 hI => ?_
  have e6 := hI.done (by rfl)
  subst e6
  go_wp2
  go_ret
  have hB5 := HO5.out
  exact ⟨rfl, _, { head := HH5.out.setCell 2 _, own := own_only (by rw [bv_append, List.length_append, List.length_take, Rc.bytes_len hx]; exact hB5) ((Only.refl [br] w6).setCell (by simp) _ _) (fun g hg => by have := (own_lt hB5 hg).1; simp; omega), lt := H4.out.lt, lo := H4.out.lo, hi := H4.out.hi, len := by rw [List.length_append, List.length_take, Rc.bytes_len hx]; have := H4.out.len; omega },
    Blk.setCell_far P5.out (by omega) _ _, fun g hg => by
      rcases HV5.out with e | e
      · exact .inl (e ▸ hg)
      · rw [e] at hg; cases hg; right; have := HS4.out; show w.heap.size ≤ w4.heap.size; omega,
    ((O4.out.drew.trans ((only_grown (d := br) HG5.out).mono (by simp))).setCell (by simp) _ _)⟩
end
end Go.Proofs.Ytobblbplanimgaa.Nvram
