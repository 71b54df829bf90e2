/-
  The reference's Seal and Good by contract. Helper text; no statement is proved here.
-/
import Derived.Test.YtldlgffjpmmlcaaGood
import Derived.Test.YtldlgffjpmmlcaaRefSumW
import Derived.Test.YtldlgffjpmmlcaaSum2Crcs
set_option linter.unusedVariables false
set_option linter.unusedSimpArgs false
namespace Go.Proofs.Ytldlgffjpmmlcaa.RefSeal
open Go.RowKit Go.Proofs.Ytldlgffjpmmlcaa.Base Go.Proofs.Ytldlgffjpmmlcaa.Laws Go.Proofs.Ytldlgffjpmmlcaa.Seal Go.Proofs.Ytldlgffjpmmlcaa.Inv Go.Proofs.Ytldlgffjpmmlcaa.Good
theorem ref_byte (a : Int) (j : Nat) (hj : j < 8) : Value.int .u8 (IntKind.u64.wrap a / 2 ^ (8 * (7 - j)) % 256) = u8 (placeB a j) := by
  rw [placeB_val, IntKind.wrap_u64]
  congr 1
  have : j = 0 ∨ j = 1 ∨ j = 2 ∨ j = 3 ∨ j = 4 ∨ j = 5 ∨ j = 6 ∨ j = 7 := by omega
  rcases this with rfl | rfl | rfl | rfl | rfl | rfl | rfl | rfl <;> simp only [Nat.reduceSub, Nat.reduceMul, Int.reducePow] <;> omega
theorem bv_snoc (l : List UInt8) (u : UInt8) : bv l ++ [u8 u] = bv (l ++ [u]) := by simp [bv]
set_option maxHeartbeats 1000000 in
theorem seal_any (at_ : Int) (h0 : -9223372036854775808 ≤ at_) (h1 : at_ ≤ 9223372036854775807) (l : List UInt8) (hl : l.length = 16) (w : World) :
    Calls Try.prog 16 #[.int .i64 at_, .agg (bv l).toArray] w fun e w' => e = .returned (.agg (cellV l (Crc.crc (place at_ ++ l))).toArray) ∧ Below w.heap.size w w' := by
  go_enter Try.func16, Try.ntmps16
  go_wp2
  go_loopw [5, 6] (fun v i wr => ∃ j : Nat, j ≤ 8 ∧ i = .int .i64 (7 - (j : Int)) ∧ Blk wr w.heap.size (bv l) 31 ∧ Blk wr (w.heap.size + 1) (zeros 16 ++ [Value.int .u32 0]) 33 ∧ wr.ownsRow (w.heap.size + 1 + 1) 5 1 v j (bv ((place at_).take j)) ∧ Below w.heap.size w wr) (fun _ i _ => (intOf i + 1).toNat)
  case atStart =>
    have ho := World.ownsRow_made (e := 5) (size := 1) (base := w.heap.size + 1 + 1) ((w.alloc (.cells (bv l).toArray 31)).alloc (.cells (zeros 16 ++ [Value.int .u32 0]).toArray 33)) #[] 0 (by simp only [size_alloc]; omega) (Nat.zero_le _) rfl
    simp only [size_alloc] at ho
    exact ⟨0, by omega, rfl, ((blk_at rfl rfl).alloc _).alloc _, (blk_at (by simp only [size_alloc]) rfl).alloc _, ho,
      (((Below.refl _ _).alloc (Nat.le_refl _) _).alloc (by simp only [size_alloc]; omega) _).alloc (by simp only [size_alloc]; omega) _⟩
  case round =>
    obtain ⟨j, hj, rfl, B1, B2, hown, hb⟩ := hrel
    have HB1 := Lib.hid B1
    have HB2 := Lib.hid B2
    have HO := Lib.hid hown
    have HB := Lib.hid hb
    have hsz : w.heap.size + 1 + 1 ≤ wr.heap.size := HB2.out.lt
    clear B1 B2 hown hb
    by_cases hj8 : j < 8
    · go_wp2_with (first | (at_builtin; refine wpList_append_any _ rfl _ _ 23 rfl (w.heap.size + 1 + 1) 5 (.int .u8 0) 1 1 Try.underlying23 Sum2.infou8 rfl (by decide) _ _ _ rfl (HO.out.alloc _) _ 1 1 _ rfl (src_one rfl) ?c1 ?c2 ?c3 ?_))
      case c1 => omega
      case c2 => unfold maxLen; omega
      case c3 => simp only [size_alloc]; omega
      intro v' w2 hown2 hgrow
      rw [ref_byte at_ j hj8, bv_snoc, ← take_snoc _ _ _ (place_get at_ j hj8)] at hown2
      have hb2 : Below w.heap.size w w2 := (HB.out.alloc (by omega) _).grown hgrow (by simp only [size_alloc]; omega) (fun k hk => by have := (HO.out.lt k hk).1; omega)
      have HB1' := Lib.hid ((HB1.out.alloc _).grownO hgrow (fun k hk => by have := (HO.out.lt k hk).1; omega))
      have HB2' := Lib.hid ((HB2.out.alloc _).grownO hgrow (fun k hk => by have := (HO.out.lt k hk).1; omega))
      have HO' := Lib.hid hown2
      have HB' := Lib.hid hb2
      clear hown2 hgrow hb2
      go_wp2
      go_roundw
      case rel => exact ⟨j + 1, by omega, by congr 1; omega, HB1'.out, HB2'.out, HO'.out, HB'.out⟩
      case measure => simp [intOf]; omega
    · obtain rfl : j = 8 := by omega
      have hp8 : (place at_).take 8 = place at_ := List.take_of_length_le (by rw [place_len]; omega)
      rw [hp8] at HO
      obtain ⟨wo, rfl⟩ : ∃ wo : World, wo = wr := ⟨_, rfl⟩
      go_wp2
      go_loopw [5, 7] (fun v i wr => ∃ j : Nat, j ≤ 16 ∧ i = .int .i64 (j : Int) ∧ Blk wr w.heap.size (bv l) 31 ∧ Blk wr (w.heap.size + 1) (zeros 16 ++ [Value.int .u32 0]) 33 ∧ wr.ownsRow (w.heap.size + 1 + 1) 5 1 v (8 + j) (bv (place at_ ++ l.take j)) ∧ Below w.heap.size w wr) (fun _ i _ => 16 - (intOf i).toNat)
      case atStart =>
        exact ⟨0, by omega, rfl, HB1.out, HB2.out, by simpa using HO.out, HB.out⟩
      case round =>
        obtain ⟨j, hj, rfl, B1, B2, hown, hb⟩ := hrel
        clear HB1 HB2 HO HB hsz
        have HB1 := Lib.hid B1
        have HB2 := Lib.hid B2
        have HO := Lib.hid hown
        have HB := Lib.hid hb
        have hsz : w.heap.size + 1 + 1 ≤ wr.heap.size := HB2.out.lt
        clear B1 B2 hown hb
        by_cases hj16 : j < 16
        · obtain ⟨u, hu⟩ : ∃ u, l[j]? = some u := ⟨l[j]'(by omega), List.getElem?_eq_getElem (by omega)⟩
          have hc : wr.cell? ⟨w.heap.size, j, none⟩ = some (u8 u) := by rw [HB1.out.cell, bv_get, hu]; rfl
          have HU := Lib.hid hu
          clear hu
          unfold u8 at hc
          go_wp2_with (first | (at_builtin; refine wpList_append_any _ rfl _ _ 23 rfl (w.heap.size + 1 + 1) 5 (.int .u8 0) 1 1 Try.underlying23 Sum2.infou8 rfl (by decide) _ _ _ rfl (HO.out.alloc _) _ 1 1 _ rfl (src_one rfl) ?d1 ?d2 ?d3 ?_))
          case d1 => omega
          case d2 => unfold maxLen; omega
          case d3 => simp only [size_alloc]; omega
          intro v' w2 hown2 hgrow
          have eu : bv (place at_ ++ l.take j) ++ [Value.int .u8 (u.toNat : Int)] = bv (place at_ ++ l.take (j + 1)) := by
            rw [take_snoc l j u HU.out, ← List.append_assoc, ← bv_snoc]
            rfl
          rw [eu] at hown2
          have hb2 : Below w.heap.size w w2 := (HB.out.alloc (by omega) _).grown hgrow (by simp only [size_alloc]; omega) (fun k hk => by have := (HO.out.lt k hk).1; omega)
          have HB1' := Lib.hid ((HB1.out.alloc _).grownO hgrow (fun k hk => by have := (HO.out.lt k hk).1; omega))
          have HB2' := Lib.hid ((HB2.out.alloc _).grownO hgrow (fun k hk => by have := (HO.out.lt k hk).1; omega))
          have HO' := Lib.hid hown2
          have HB' := Lib.hid hb2
          clear hown2 hgrow hb2 eu
          go_wp2
          go_roundw
          case rel => first | exact ⟨j + 1, by omega, by go_num, HB1'.out, HB2'.out, by have := HO'.out; rwa [Nat.add_assoc] at this, HB'.out⟩ | ((repeat apply Exists.intro); exact ⟨⟨j + 1, by omega, by go_num, HB1'.out, HB2'.out, by have := HO'.out; rwa [Nat.add_assoc] at this, HB'.out⟩, rfl⟩)
          case measure => simp [intOf]; omega
        · obtain rfl : j = 16 := by omega
          have hl16 : l.take 16 = l := List.take_of_length_le (by omega)
          rw [hl16] at HO
          obtain ⟨a', cap', rfl, hbt⟩ := Sum2.bts_own (by rw [List.length_append, place_len, hl]) HO.out
          have HT := Lib.hid hbt
          clear hbt HO hl16
          go_wp2
          refine wp_region_inv_tail (fun w' => Blk w' w.heap.size (bv l) 31 ∧ Blk w' (w.heap.size + 1) (zeros 16 ++ [Value.int .u32 0]) 33 ∧ Bts w' a' (8 + 16) cap' (place at_ ++ l) ∧ Below w.heap.size w w') 3 (by kernel_rfl) (by kernel_rfl) ⟨HB1.out.drew, HB2.out.drew, HT.out, HB.out.drew⟩ ?_
          simp only [List.take_succ_cons, List.take_zero, List.drop_succ_cons, List.drop_zero]
          refine inv_load_blk rfl 31 _ rfl w.heap.size 0 16 rfl 31 (bv l) _ (fun w' h => h.1) Try.underlying31 rfl (by kernel_rfl) (by rw [bv_len, hl]; omega) (bv l) (by rw [List.drop_zero, List.take_of_length_le (by rw [bv_len, hl]; omega)]) ?_
          refine inv_move _ rfl rfl ?_
          refine inv_call (.int .u32 (Crc.crc (place at_ ++ l) : Nat)) rfl 12 #[.slice a' (8 + 16) cap'] (fun w' _ => by go_simp) (fun w' h => (RefSumW.crc_any _ _ _ _ w' h.2.2.1).mono fun e w'' ⟨he, hw⟩ => ⟨he, hw ▸ h⟩) ?_
          refine inv_nil fun w2 hI => ?_
          obtain ⟨g1, g2, g3, g4⟩ := hI
          refine wpList_builds rfl 33 _ rfl [(0, .agg (bv l).toArray), (1, .int .u32 (Crc.crc (place at_ ++ l) : Nat))] rfl _ (built_cell l hl _) ?_
          refine wpList_store_blk rfl 33 _ _ rfl (w.heap.size + 1) 0 17 rfl 33 _ (cellV l (Crc.crc (place at_ ++ l))) rfl g2 (by kernel_rfl) (cellV_len l hl _) (by decide) (cellV_one l _) ?_
          intro w3 b4 hg3
          rw [put_all _ _ (by rw [cellV_len l hl]; rfl)] at b4
          have HB4 := Lib.hid b4
          have HB5 := Lib.hid (below_grown g4 hg3 g4.size (by omega))
          clear b4 hg3 g1 g2 g3 g4
          go_wp2
          exact bodyPost_ret (v := .agg (cellV l (Crc.crc (place at_ ++ l))).toArray) (results_cell_row rfl _ _ (w.heap.size + 1) 33 _ (0, 0) _ rfl HB4.out Try.underlying33 rfl (by rw [List.size_toArray, cellV_len l hl]; kernel_rfl)) rfl ⟨rfl, HB5.out⟩
set_option maxHeartbeats 1000000 in
theorem good_any (at_ : Int) (h0 : -9223372036854775808 ≤ at_) (h1 : at_ ≤ 9223372036854775807) (l : List UInt8) (hl : l.length = 16) (n : Nat) (hn : n < 4294967296) (w : World) :
    Calls Try.prog 18 #[.int .i64 at_, .agg (cellV l n).toArray] w fun e w' => e = .returned (.bool (decide (Crc.crc (place at_ ++ l) = n))) ∧ Below w.heap.size w w' := by
  have hlen := cellV_len l hl n
  have HL := Lib.hid hlen
  have hb0 : Blk (w.alloc (.cells (cellV l n).toArray 33)).drew w.heap.size (cellV l n) 33 := blk_at rfl rfl
  have HB0 := Lib.hid hb0
  have hs : ∀ k : Nat, (cellV l k)[16]? = some (.int .u32 (k : Int)) := fun k => by unfold cellV; rw [List.getElem?_append_right (by rw [bv_len, hl]; omega), bv_len, hl]; rfl
  have HS := Lib.hid hs
  clear hlen hb0 hs
  go_enter Try.func18, Try.ntmps18
  go_wp2
  refine wp_region_inv_tail (fun w' => Blk w' w.heap.size (cellV l n) 33 ∧ Below w.heap.size w w') 8 (by kernel_rfl) (by kernel_rfl) ⟨HB0.out, ((Below.refl _ _).alloc (Nat.le_refl _) _).drew⟩ ?_
  simp only [List.take_succ_cons, List.take_zero, List.drop_succ_cons, List.drop_zero]
  refine inv_move _ rfl rfl ?_
  refine inv_value (.pointer (some ⟨w.heap.size, 0, none⟩)) rfl (fun w' _ => by go_simp) ?_
  refine inv_load_blk rfl 31 _ rfl w.heap.size 0 16 rfl 33 (cellV l n) _ (fun w' h => h.1) Try.underlying31 rfl (by kernel_rfl) (by rw [HL.out]; omega) (bv l) (cellV_data l hl n) ?_
  refine inv_call (.agg (cellV l (Crc.crc (place at_ ++ l))).toArray) rfl 16 #[.int .i64 at_, .agg (bv l).toArray] (fun w' _ => by go_simp) (fun w' h => (seal_any at_ h0 h1 l hl w').mono fun e w'' ⟨he, hb⟩ => ⟨he, h.1.below hb h.1.lt, h.2.trans (hb.mono h.2.size)⟩) ?_
  refine inv_value (.int .u32 (Crc.crc (place at_ ++ l) : Nat)) rfl (fun w' _ => by have h := run_field_cell (P := Try.prog) w' (i := 1) Try.underlying33 rfl Try.underlying22 rfl (HS.out (Crc.crc (place at_ ++ l))); go_simp) ?_
  refine inv_value (.pointer (some ⟨w.heap.size, 16, none⟩)) rfl (fun w' _ => by go_simp) ?_
  refine inv_value (.int .u32 (n : Int)) rfl (fun w' h => by have hc := (h.1.cell 16).trans (HS.out n); go_simp) ?_
  refine inv_value (.bool ((Crc.crc (place at_ ++ l) : Int) == (n : Int))) rfl (fun w' _ => by go_simp) ?_
  refine inv_nil fun w' hI => ?_
  go_wp2
  go_ret
  exact ⟨ret_bool (by rw [Bool.eq_iff_iff]; simp; omega), hI.2⟩
end Go.Proofs.Ytldlgffjpmmlcaa.RefSeal
