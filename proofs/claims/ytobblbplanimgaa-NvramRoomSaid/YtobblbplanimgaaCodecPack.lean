/-
  Pack of the codec by contract. Helper text; no statement is proved here.
-/
import Derived.Test.YtobblbplanimgaaCodecSeal
import Derived.Test.YtobblbplanimgaaMakeB
import Derived.Test.YtobblbplanimgaaPuts
import Derived.OwnWalk
set_option linter.unusedVariables false
set_option maxRecDepth 20000
set_option linter.unusedSimpArgs false
namespace Go.Proofs.Ytobblbplanimgaa.Codec
open Go.RowKit Go.Proofs.Ytobblbplanimgaa.Base Go.Proofs.Ytobblbplanimgaa.Laws Go.Proofs.Ytobblbplanimgaa.Inv
/-- a record's cells -/
def recV (k : Int) (v : Nat) (a : Int) (l : List UInt8) : List Value := [.int .i64 k, .int .u64 (v : Int), .int .i64 a] ++ bv l
def Ok (k a : Int) : Prop := (1 ≤ k ∧ k ≤ 6) ∧ (0 ≤ a ∧ a ≤ 2147483647)
theorem recV_len (k : Int) (v : Nat) (a : Int) (l : List UInt8) (hl : l.length = 16) : (recV k v a l).length = 19 := by simp [recV, bv_len, hl]
set_option maxHeartbeats 1000000 in
theorem pack_no {k a : Int} {v : Nat} {l : List UInt8} (hl : l.length = 16) (h : ¬ Ok k a) (w : World) : Calls Try.prog 34 #[.agg (recV k v a l).toArray] w fun e w' => e = .returned (.tuple #[.slice none 0 0, .int .i64 2]) ∧ Below w.heap.size w w' := by
  have HB0 := Lib.hid (blk_at (w := w) (cs := recV k v a l) (t := 27) rfl rfl)
  have c0 := HB0.out.cell 0
  have c2 := HB0.out.cell 2
  change _ = some (Value.int .i64 k) at c0
  change _ = some (Value.int .i64 a) at c2
  obtain ⟨cs, hcs⟩ : ∃ cs, cs = recV k v a l := ⟨_, rfl⟩
  rw [← hcs] at HB0 c0 c2 ⊢
  clear hcs
  unfold Ok at h
  have hh : k < 1 ∨ (1 ≤ k ∧ 6 < k) ∨ (1 ≤ k ∧ k ≤ 6 ∧ a < 0) ∨ (1 ≤ k ∧ k ≤ 6 ∧ 0 ≤ a ∧ 2147483647 < a) := by omega
  clear h
  rcases hh with h1 | ⟨h1, h2⟩ | ⟨h1, h2, h3⟩ | ⟨h1, h2, h3, h4⟩
  all_goals
    go_enter Try.func34, Try.ntmps34
    go_wp2
    go_ret2
    exact ⟨rfl, (Below.refl _ _).alloc (Nat.le_refl _) _⟩
/-- a record's bytes ahead of the sum -/
def rec33 (k : Int) (v a : Nat) (l : List UInt8) : List UInt8 := [UInt8.ofNat k.toNat] ++ be 8 v ++ be 8 a ++ l
theorem rec33_len (k : Int) (v a : Nat) (l : List UInt8) (hl : l.length = 16) : (rec33 k v a l).length = 33 := by simp [rec33, be_len, hl]
def z37 : List UInt8 := List.replicate 37 0
theorem put_bv (a b : List UInt8) (off : Nat) : put (bv a) off (bv b) = bv (put a off b) := by
  unfold put bv
  simp [List.map_take, List.map_drop]
theorem own_blk {w : World} {base g n cap : Nat} {l r : List UInt8} (h : Blk w g (bv (l ++ r)) 5) (hb : base ≤ g) (hn : l.length = n) (hc : n + r.length = cap) (hm : cap ≤ maxLen) : w.ownsRow base 5 1 (.slice (some ⟨g, 0, none⟩) n cap) n (bv l) := by
  refine ⟨by simp [bv_len, hn], .inr ⟨g, cap, (bv (l ++ r)).toArray, rfl, hb, h, by omega, hm, ?_, ?_⟩⟩
  · simp [bv_len]; omega
  · simp [bv_append, List.take_append, bv_len, hn]
set_option maxHeartbeats 2000000 in
theorem pack_yes {k : Int} {v a : Nat} {l : List UInt8} (hl : l.length = 16) (hv : v < 18446744073709551616) (h : Ok k a) (base : Nat) (w : World) (hbase : base ≤ w.heap.size) : Calls Try.prog 34 #[.agg (recV k v a l).toArray] w fun e w' => ∃ p, e = .returned (.tuple #[p, .int .i64 0]) ∧ w'.ownsRow base 5 1 p 37 (bv (rec33 k v a l ++ be 4 (Crc.crc (rec33 k v a l)))) ∧ Below base w w' := by
  have HB0 := Lib.hid (blk_at (w := w) (cs := recV k v a l) (t := 27) rfl rfl)
  have c0 := HB0.out.cell 0
  have c2 := HB0.out.cell 2
  change _ = some (Value.int .i64 k) at c0
  change _ = some (Value.int .i64 a) at c2
  obtain ⟨cs, hcs⟩ : ∃ cs, cs = recV k v a l := ⟨_, rfl⟩
  have HCS := Lib.hid hcs
  rw [← hcs] at HB0 c0 c2 ⊢
  clear hcs
  obtain ⟨⟨h1, h2⟩, ⟨h3, h4⟩⟩ := h
  go_enter Try.func34, Try.ntmps34
  have hz : (Value.int IntKind.u8 0) = Base.u8 0 := rfl
  have B1 := Lib.hid (HB0.out.alloc (.cells (bv (OwnB.zs 37)).toArray 5))
  have Z1 := Lib.hid (blk_at (w := w.alloc (.cells cs.toArray 27)) (g := w.heap.size + 1) (cs := bv (OwnB.zs 37)) (t := 5) (by simp only [size_alloc]) rfl)
  have zc := Z1.out.cell 0
  change _ = some (Value.int .u8 0) at zc
  have zf := Z1.out.frozen 0
  have d0 := (B1.out.cell 0).trans (show cs[0]? = some (Value.int .i64 k) from by rw [HCS.out]; rfl)
  go_wp2_with (first | (at_make; refine OwnB.wpList_make_bytes rfl _ _ rfl .i64 .i64 _ _ 33 37 rfl rfl rfl rfl (by decide) (by decide) ?_))
  obtain ⟨w1, hw1⟩ : ∃ w1, w1 = (w.alloc (.cells cs.toArray 27)).alloc (.cells ((bv (OwnB.zs 37)).set 0 (.int .u8 k)).toArray 5) := ⟨_, rfl⟩
  have hk8 : Value.int .u8 k = Base.u8 (UInt8.ofNat k.toNat) := by
    unfold Base.u8
    rw [UInt8.toNat_ofNat']
    congr 1
    omega
  have B2 := Lib.hid (show Blk w1 w.heap.size cs 27 from hw1 ▸ HB0.out.alloc _)
  have Z2 := Lib.hid (show Blk w1 (w.heap.size + 1) (bv ((OwnB.zs 37).set 0 (UInt8.ofNat k.toNat))) 5 from by
    rw [hw1, ← bv_set, ← hk8]
    exact blk_at (by simp only [size_alloc]) rfl)
  have L2 := Lib.hid (show Below base w w1 from hw1 ▸ ((Below.refl _ _).alloc hbase _).alloc (by simp only [size_alloc]; omega) _)
  rw [← hw1]
  clear hw1 B1 Z1 zc zf d0 c0 c2 HB0
  have d1 := (B2.out.cell 1).trans (show cs[1]? = some (Value.int .u64 v) from by rw [HCS.out]; rfl)
  refine wp_region_still_tail 4 (by kernel_rfl) (by kernel_rfl) ?_
  simp only [List.take_succ_cons, List.take_zero, List.drop_succ_cons, List.drop_zero]
  repeat still_step
  refine wpStill_nil ?_
  change wpList _ _ _ _ _ w1.drew
  go_wp2_with fail
  refine (number_any (w.heap.size + 1) 1 8 36 v _ 5 hv (by simp [OwnB.zs]) (by simp [OwnB.zs]) (by decide) (by decide) (by decide) w1.drew Z2.out.drew).mono ?_
  rintro e w2 ⟨rfl, z3, g3⟩
  have B3 := Lib.hid (B2.out.drew.grown g3 (by omega))
  have Z3 := Lib.hid z3
  have L3 := Lib.hid (below_grown L2.out.drew g3 (by have := L2.out.size; have := B2.out.lt; simp; omega) (by omega))
  clear z3 g3 d1
  have d2 := (B3.out.cell 2).trans (show cs[2]? = some (Value.int .i64 a) from by rw [HCS.out]; rfl)
  go_wp2
  refine wp_region_still_tail 5 (by kernel_rfl) (by kernel_rfl) ?_
  simp only [List.take_succ_cons, List.take_zero, List.drop_succ_cons, List.drop_zero]
  repeat still_step
  refine wpStill_nil ?_
  change wpList _ _ _ _ _ w2.drew
  go_wp2_with fail
  refine (number_any (w.heap.size + 1) 9 8 28 a _ 5 (by omega) (by rw [put_len _ _ _ (by simp [OwnB.zs, be_len])]; simp [OwnB.zs]) (by rw [put_len _ _ _ (by simp [OwnB.zs, be_len])]; simp [OwnB.zs]) (by decide) (by decide) (by decide) w2.drew Z3.out.drew).mono ?_
  rintro e w3 ⟨rfl, z4, g4⟩
  have B4 := Lib.hid (B3.out.drew.grown g4 (by omega))
  have Z4 := Lib.hid z4
  have L4 := Lib.hid (below_grown L3.out.drew g4 (by have := L3.out.size; have := B3.out.lt; simp; omega) (by omega))
  clear z4 g4 d2
  go_wp2
  refine wp_region_still_tail 4 (by kernel_rfl) (by kernel_rfl) ?_
  simp only [List.take_succ_cons, List.take_zero, List.drop_succ_cons, List.drop_zero]
  repeat still_step
  refine wpStill_nil ?_
  change wpList _ _ _ _ _ w3.drew
  refine wpList_copy_blk rfl _ _ 46 46 rfl 5 Try.underlying46 (by kernel_rfl) (w.heap.size + 1) 17 16 20 ⟨w.heap.size, 3, none⟩ 16 16 rfl rfl _ 5 Z4.out.drew (bv l) ?kn ?ks ?kf ?kone ?_
  case kn => rw [bv_len, hl]; rfl
  case ks =>
    intro j u hu
    rw [Addr.add_lit]
    refine (B4.out.drew.cell (3 + j)).trans ?_
    rw [HCS.out]
    unfold recV
    rw [List.getElem?_append_right (by simp)]
    simpa [show 3 + j - 3 = j from by omega] using hu
  case kf => rw [bv_len, bv_len, hl, put_len _ _ _ (by rw [put_len _ _ _ (by simp [OwnB.zs, be_len])]; simp [OwnB.zs, be_len]), put_len _ _ _ (by simp [OwnB.zs, be_len])]; simp [OwnB.zs]
  case kone => intro u hu; unfold bv at hu; obtain ⟨x, _, rfl⟩ := List.mem_map.1 hu; rfl
  intro w4 z5 g5
  rw [put_bv, rec_laid _ _ _ _ (be_len _ _) (be_len _ _) hl] at z5
  have L5 := Lib.hid (below_grown L4.out.drew g5 (by have := L4.out.size; have := B4.out.lt; simp; omega) (by omega))
  have HO := Lib.hid (own_blk (n := 33) (cap := 37) (l := rec33 k v a l) (r := OwnB.zs 4) z5 (by omega) (rec33_len k v a l hl) (by rw [zs_len]) (by decide) : w4.ownsRow base 5 1 (.slice (some ⟨w.heap.size + 1, 0, none⟩) 33 37) 33 (bv (rec33 k v a l)))
  have hs5 : base ≤ w4.heap.size := by have := L5.out.size; omega
  have HS := Lib.hid (seal_any base _ 33 (rec33 k v a l) (rec33_len k v a l hl) (by decide) w4 hs5 HO.out)
  clear z5 g5 B4 Z4
  go_wp2_with (go_at_call 45; refine HS.out.mono ?_; rintro e w5 ⟨p, rfl, ho, hb⟩)
  go_ret2
  exact ⟨p, rfl, ho, L5.out.trans hb⟩
end Go.Proofs.Ytobblbplanimgaa.Codec
