/-
  The walk of SumTurns. Helper text; no statement is proved here.
-/
import Derived.Test.YtldlgffjpmmlcaaTurnsPlain
import Derived.Test.YtldlgffjpmmlcaaSum2Awake
import Derived.Test.YtldlgffjpmmlcaaSumCells
import Derived.Test.YtldlgffjpmmlcaaJoins
import Derived.Deep.QuietTactic
import Derived.StillTailTactics
set_option linter.unusedVariables false
set_option linter.unusedSimpArgs false
namespace Go.Proofs.Ytldlgffjpmmlcaa.Turns
open Go.RowKit Go.Proofs.Ytldlgffjpmmlcaa.Base Go.Proofs.Ytldlgffjpmmlcaa.Laws Go.Proofs.Ytldlgffjpmmlcaa.Seal Go.Proofs.Ytldlgffjpmmlcaa.Inv Go.Proofs.Ytldlgffjpmmlcaa.Good
/-- the bits of the first three turns -/
def three (i j k : Nat) : Nat → Nat
  | 0 => 0
  | 1 => 2 ^ (i % 128)
  | 2 => 2 ^ (i % 128) ^^^ 2 ^ (j % 128)
  | _ => 2 ^ (i % 128) ^^^ 2 ^ (j % 128) ^^^ 2 ^ (k % 128)
theorem mask_i (i : Nat) : (2 : Int) ^ (i % 8) % 256 = ((mask (i % 128)).toNat : Int) := by
  rw [mask_val, show i % 128 % 8 = i % 8 from by omega]
  have h : (2 : Nat) ^ (i % 8) ≤ 2 ^ 7 := Nat.pow_le_pow_right (by decide) (by omega)
  have h2 : (2 : Nat) ^ 7 = 128 := by decide
  have e : ((2 ^ (i % 8) : Nat) : Int) = (2 : Int) ^ (i % 8) := by simp
  rw [← e]
  generalize 2 ^ (i % 8) = q at *
  omega
theorem mask_j (p : Nat) : (2 : Int) ^ (p % 8) % 256 = ((mask p).toNat : Int) := by
  rw [mask_i]
  unfold mask
  rw [show p % 128 % 8 = p % 8 from by omega]
theorem bit_yes {row m : Nat} (hr : row < 4294967296) (h : (bits BinOp.and IntKind.u32 ((row : Int) / 2 ^ m) 1 == 1) = true) : row / 2 ^ m % 2 = 1 := by
  rw [Joins.sh1 row m hr] at h
  have := eq_of_beq h
  omega
theorem bit_no {row m : Nat} (hr : row < 4294967296) (h : (bits BinOp.and IntKind.u32 ((row : Int) / 2 ^ m) 1 == 1) = false) : ¬ row / 2 ^ m % 2 = 1 := by
  rw [Joins.sh1 row m hr] at h
  intro e
  rw [e] at h
  simp at h
theorem good_turned (at_ : Int) (h0 : -9223372036854775808 ≤ at_) (h1 : at_ ≤ 9223372036854775807) (l y : List UInt8) (hl : l.length = 16) (hy : y.length = 16) (K : Nat) (hK : K < 4294967296) (hKE : K = Crc.crc (place at_ ++ l)) (D : Nat) (hD : Crc.num y = Crc.num l ^^^ D) (h : Crc.fN 128 D = 0 ↔ D = 0) (w : World) :
    Calls Try.prog 17 #[.int .i64 at_, .agg (cellV y K).toArray] w fun e w' => e = .returned (.bool (decide (y = l))) ∧ Below w.heap.size w w' := by
  have hg := good_any at_ h0 h1 y hy K hK w
  have e : decide (Crc.crc (place at_ ++ y) = K) = decide (y = l) := by
    rw [hKE, Bool.eq_iff_iff, decide_eq_true_eq, decide_eq_true_eq]
    exact crc_turned (place at_) l y D hl hy hD h
  rw [e] at hg
  exact hg
def secP (l : List UInt8) : List (IntKind × Int) := l.map (fun b => (IntKind.u8, (b.toNat : Int)))
theorem secP_val (l : List UInt8) : (secP l).map Eq.val = bv l := by simp [secP, bv, u8, Eq.val, Function.comp_def]
theorem secK_is : Eq.kinds Try.prog 6 31 = some (List.replicate 16 .u8) := by kernel_rfl
theorem secP_k (l : List UInt8) (hl : l.length = 16) : (secP l).map (·.1) = List.replicate 16 .u8 := by
  unfold secP
  rw [List.map_map, ← hl]
  simp [Function.comp_def, List.map_const']
theorem sector_eq (l l' : List UInt8) (hl : l.length = 16) (hl' : l'.length = 16) (w : World) :
    (Op.equalIn 10000 31 (.agg (bv l).toArray) (.agg (bv l').toArray)).run Try.prog w = .ok (decide (l = l')) w := by
  have wf : ∀ x : List UInt8, ∀ p ∈ secP x, (Eq.lit p).wf = true := fun x p hp => by
    unfold secP at hp
    obtain ⟨b, _, rfl⟩ := List.mem_map.1 hp
    exact wf_byte b
  have h := Eq.run_eq_flat (P := Try.prog) (t := 31) 6 (by kernel_rfl) secK_is (by kernel_rfl) (secP_k l hl) (secP_k l' hl') (wf l) (wf l') w
  rw [secP_val, secP_val] at h
  rw [h]
  congr 1
  rw [Bool.eq_iff_iff, decide_eq_true_eq, decide_eq_true_eq]
  constructor
  · intro h
    exact (List.map_inj_right (fun a b hab => by simp at hab; exact UInt8.toNat_inj.1 (by omega))).1 h
  · rintro rfl; rfl
theorem byte_in {n : Int} (h : (Lit.int .u8 n).wf = true) : ∃ m : Nat, n = (m : Int) ∧ m < 256 := by
  simp only [Lit.wf, IntKind.min, IntKind.max, IntKind.signed, IntKind.bits, Bool.and_eq_true, decide_eq_true_eq] at h
  simp at h
  exact ⟨n.toNat, by omega, by omega⟩
set_option maxRecDepth 4000 in
set_option maxHeartbeats 2000000 in
theorem turns_walk (at_ : Int) (h0 : -9223372036854775808 ≤ at_) (h1 : at_ ≤ 9223372036854775807) (l : List UInt8) (hl : l.length = 16) (i j k row fr : Nat) (hi : i < 256) (hj : j < 256) (hk : k < 256) (hr : row < 4294967296) (hf : fr < 256) (w : World) :
    Calls Try.prog 6 #[.int .i64 at_, .agg (bv l).toArray, .int .u8 (i : Int), .int .u8 (j : Int), .int .u8 (k : Int), .int .u32 (row : Int), .int .u8 (fr : Int)] w fun e w' => e = .returned (.bool true) ∧ Below w.heap.size w w' := by
  have HB0 := Lib.hid (blk_at (w := w) (cs := bv l) (t := 31) rfl rfl)
  obtain ⟨K, hK⟩ : ∃ K, K = Crc.crc (place at_ ++ l) := ⟨_, rfl⟩
  have HK := Lib.hid (hK ▸ Crc.crc_lt (place at_ ++ l))
  have HKE := Lib.hid hK
  have HSL := Lib.hid (fun w => hK ▸ seal_any at_ h0 h1 l hl w : ∀ w, Calls Try.prog 15 #[.int .i64 at_, .agg (bv l).toArray] w fun e w' => e = .returned (.agg (cellV l K).toArray) ∧ Below w.heap.size w w')
  clear hK
  have bl := bv_len l
  go_enter Try.func6, Try.ntmps6
  go_wp2_with fail
  refine (Sum2.awake_any _).mono ?_
  rintro e w1 ⟨rfl, hb1⟩
  have HB1 := Lib.hid (HB0.out.below hb1 (by simp only [size_alloc]; omega))
  have hbl : Below w.heap.size w w1 := (((Below.refl _ _).alloc (Nat.le_refl _) _).trans (hb1.mono (by simp only [size_alloc]; omega)))
  have HL1 := Lib.hid hbl
  have hs1 : w.heap.size < w1.heap.size := HB1.out.lt
  clear hb1 hbl
  go_wp2_with (first | (refine wpList_load_blk rfl 31 _ rfl w.heap.size 0 16 rfl 31 (bv l) _ HB1.out Try.underlying31 rfl (by kernel_rfl) (by rw [bv_len, hl]; omega) (bv l) (by rw [List.drop_zero, List.take_of_length_le (by rw [bv_len, hl]; omega)]) ?_))
  refine (HSL.out _).mono ?_
  rintro e w2 ⟨rfl, hb2⟩
  have HB2 := Lib.hid (HB1.out.below hb2 (by omega))
  have HL2 := Lib.hid (HL1.out.trans (hb2.mono (by omega)))
  have hs2 : w.heap.size < w2.heap.size := HB2.out.lt
  clear hb2
  go_wp2_with (first | (refine wpList_store_blk rfl 33 _ _ rfl w2.heap.size 0 17 (by rfl) 33 (zeros 16 ++ [Value.int .u32 0]) (cellV l K) (by rfl) (blk_at rfl rfl) (by kernel_rfl) (cellV_len l hl _) (by decide) (cellV_one l _) ?_))
  intro w3 b3 hg3
  rw [put_all _ _ (by rw [cellV_len l hl]; rfl)] at b3
  have HB3 := Lib.hid ((HB2.out.alloc _).grown hg3 (by omega))
  have HX3 := Lib.hid b3
  have HL3 := Lib.hid (below_grown (HL2.out.alloc (by omega) _) hg3 (by simp only [size_alloc]; omega) (by omega))
  have hs3 := HX3.out.lt
  clear b3 hg3
  go_wp2_with (first | (refine wpList_load_blk rfl 33 _ rfl w2.heap.size 0 17 rfl 33 (cellV l K) _ HX3.out Try.underlying33 rfl (by kernel_rfl) (by rw [cellV_len l hl]; omega) (cellV l K) (cellV_whole l hl K) ?_) | (refine wpList_store_blk rfl 33 _ _ rfl w3.heap.size 0 17 (by rfl) 33 (zeros 16 ++ [Value.int .u32 0]) (cellV l K) (by rfl) (blk_at rfl rfl) (by kernel_rfl) (cellV_len l hl _) (by decide) (cellV_one l _) ?_))
  intro w4 b4 hg4
  rw [put_all _ _ (by rw [cellV_len l hl]; rfl)] at b4
  have HB4 := Lib.hid ((HB3.out.alloc _).grown hg4 (by omega))
  have HX4 := Lib.hid ((HX3.out.alloc _).grown hg4 (by omega))
  have HY4 := Lib.hid b4
  have HL4 := Lib.hid (below_grown (HL3.out.alloc (by omega) _) hg4 (by simp only [size_alloc]; omega) (by omega))
  have hs4 := HY4.out.lt
  clear b4 hg4
  go_wp2
  obtain ⟨gx, hgx⟩ : ∃ gx, gx = w2.heap.size := ⟨_, rfl⟩
  obtain ⟨gy, hgy⟩ : ∃ gy, gy = w3.heap.size := ⟨_, rfl⟩
  rw [← hgx] at HX4 hs2 hs3 ⊢
  rw [← hgy] at HY4 hs3 hs4 ⊢
  clear hgx hgy HB1 HL1 HB2 HL2 HB3 HX3 HL3
  go_loopw [17, 18] (fun n b wr => ∃ (m : Nat) (y : List UInt8), m ≤ 3 ∧ n = .int .i64 m ∧ y.length = 16 ∧ Crc.num y = Crc.num l ^^^ three i j k m ∧ Blk wr w.heap.size (bv l) 31 ∧ Blk wr gx (cellV l K) 33 ∧ Blk wr gy (cellV y K) 33 ∧ Below w.heap.size w wr) (fun n _ _ => 3 - (intOf n).toNat)
  case atStart => exact ⟨0, l, by omega, rfl, hl, by rw [three, Nat.xor_zero], HB4.out, HX4.out, HY4.out, HL4.out⟩
  case round =>
    obtain ⟨m, y, hm, rfl, hy, hn, b1, b2, b3, hb⟩ := hrel
    clear HB4 HX4 HY4 HL4
    have B1 := Lib.hid b1
    have B2 := Lib.hid b2
    have B3 := Lib.hid b3
    have BL := Lib.hid hb
    have HN := Lib.hid hn
    clear b1 b2 b3 hb hn
    by_cases hm3 : m < 3
    · obtain rfl | rfl | rfl : m = 0 ∨ m = 1 ∨ m = 2 := by omega
      · have hp : i % 128 / 8 < y.length := by omega
        have hc : wr.cell? ⟨gy, i % 128 / 8, none⟩ = some (.int .u8 ((y.getD (i % 128 / 8) 0).toNat : Int)) := by rw [B3.out.cell, get_cell y K (i % 128) hp]; rfl
        have hf := B3.out.frozen (i % 128 / 8)
        have HT := Lib.hid (turn_cell y K (i % 128) hp)
        have HX := Lib.hid (xor8 (y.getD (i % 128 / 8) 0) (mask (i % 128)))
        have HTN := Lib.hid (turn_num y (i % 128) hp)
        obtain ⟨x, hx⟩ : ∃ x, x = y.getD (i % 128 / 8) 0 := ⟨_, rfl⟩
        rw [← hx] at hc HT HX
        clear hx
        go_wp2
        go_roundw
        case rel =>
          rw [mask_i, HX.out]
          refine ⟨0 + 1, turn y (i % 128), by omega, rfl, by rw [turn_len]; exact hy, by rw [HTN.out, HN.out]; simp [three, Nat.xor_assoc], B1.out.setCell_far (by omega) _ _, B2.out.setCell_far (by omega) _ _, ?_, BL.out.setCell (by simp only []; omega) _⟩
          have := B3.out.setCell (i % 128 / 8) (u8 (x ^^^ mask (i % 128)))
          rw [HT.out] at this
          exact this
        case measure => simp [intOf]
      · have hp : j % 128 / 8 < y.length := by omega
        have hc : wr.cell? ⟨gy, j % 128 / 8, none⟩ = some (.int .u8 ((y.getD (j % 128 / 8) 0).toNat : Int)) := by rw [B3.out.cell, get_cell y K (j % 128) hp]; rfl
        have hf := B3.out.frozen (j % 128 / 8)
        have HT := Lib.hid (turn_cell y K (j % 128) hp)
        have HX := Lib.hid (xor8 (y.getD (j % 128 / 8) 0) (mask (j % 128)))
        have HTN := Lib.hid (turn_num y (j % 128) hp)
        obtain ⟨x, hx⟩ : ∃ x, x = y.getD (j % 128 / 8) 0 := ⟨_, rfl⟩
        rw [← hx] at hc HT HX
        clear hx
        go_wp2
        go_roundw
        case rel =>
          rw [mask_i, HX.out]
          refine ⟨1 + 1, turn y (j % 128), by omega, rfl, by rw [turn_len]; exact hy, by rw [HTN.out, HN.out]; simp [three, Nat.xor_assoc], B1.out.setCell_far (by omega) _ _, B2.out.setCell_far (by omega) _ _, ?_, BL.out.setCell (by simp only []; omega) _⟩
          have := B3.out.setCell (j % 128 / 8) (u8 (x ^^^ mask (j % 128)))
          rw [HT.out] at this
          exact this
        case measure => simp [intOf]
      · have hp : k % 128 / 8 < y.length := by omega
        have hc : wr.cell? ⟨gy, k % 128 / 8, none⟩ = some (.int .u8 ((y.getD (k % 128 / 8) 0).toNat : Int)) := by rw [B3.out.cell, get_cell y K (k % 128) hp]; rfl
        have hf := B3.out.frozen (k % 128 / 8)
        have HT := Lib.hid (turn_cell y K (k % 128) hp)
        have HX := Lib.hid (xor8 (y.getD (k % 128 / 8) 0) (mask (k % 128)))
        have HTN := Lib.hid (turn_num y (k % 128) hp)
        obtain ⟨x, hx⟩ : ∃ x, x = y.getD (k % 128 / 8) 0 := ⟨_, rfl⟩
        rw [← hx] at hc HT HX
        clear hx
        go_wp2
        go_roundw
        case rel =>
          rw [mask_i, HX.out]
          refine ⟨2 + 1, turn y (k % 128), by omega, rfl, by rw [turn_len]; exact hy, by rw [HTN.out, HN.out]; simp [three, Nat.xor_assoc], B1.out.setCell_far (by omega) _ _, B2.out.setCell_far (by omega) _ _, ?_, BL.out.setCell (by simp only []; omega) _⟩
          have := B3.out.setCell (k % 128 / 8) (u8 (x ^^^ mask (k % 128)))
          rw [HT.out] at this
          exact this
        case measure => simp [intOf]
    · obtain rfl : m = 3 := by omega
      have q1 := B1.out.lt
      have q2 := B2.out.lt
      have q3 := B3.out.lt
      obtain ⟨wo, rfl⟩ : ∃ wo : World, wo = wr := ⟨_, rfl⟩
      go_wp2_with (first | (refine wpList_load_blk rfl 33 _ rfl gx 0 17 rfl 33 (cellV l K) _ B2.out Try.underlying33 rfl (by kernel_rfl) (by rw [cellV_len l hl]; omega) (cellV l K) (cellV_whole l hl K) ?_) | (refine wpList_store_blk rfl 33 _ _ rfl wo.heap.size 0 17 (by rfl) 33 (zeros 16 ++ [Value.int .u32 0]) (cellV l K) (by rfl) (blk_at rfl rfl) (by kernel_rfl) (cellV_len l hl _) (by decide) (cellV_one l _) ?_))
      intro w6 b6 hg6
      rw [put_all _ _ (by rw [cellV_len l hl]; rfl)] at b6
      have C1 := Lib.hid ((B1.out.alloc _).grown hg6 (by omega))
      have C2 := Lib.hid ((B2.out.alloc _).grown hg6 (by omega))
      have C3 := Lib.hid ((B3.out.alloc _).grown hg6 (by omega))
      have C4 := Lib.hid b6
      have CL := Lib.hid (below_grown (BL.out.alloc (by omega) _) hg6 (by simp only [size_alloc]; omega) (by omega))
      clear b6 hg6
      obtain ⟨gz, hgz⟩ : ∃ gz, gz = wo.heap.size := ⟨_, rfl⟩
      rw [← hgz] at C4 q1 q2 q3 ⊢
      clear hgz B1 B2 B3 BL
      obtain ⟨o, ho⟩ : ∃ o, o = fr % 96 := ⟨_, rfl⟩
      have hf2 : (fr : Int) % 96 = (o : Int) := by omega
      have ho2 : o < 96 := by omega
      clear ho
      go_wp2
      go_loopw [20, 21] (fun n b wr => ∃ (m : Nat) (z : List UInt8), m ≤ 32 ∧ n = .int .i64 m ∧ z.length = 16 ∧ Crc.num z = Crc.num l ^^^ rowTo row o m ∧ Blk wr w.heap.size (bv l) 31 ∧ Blk wr gx (cellV l K) 33 ∧ Blk wr gy (cellV y K) 33 ∧ Blk wr gz (cellV z K) 33 ∧ Below w.heap.size w wr) (fun n _ _ => 32 - (intOf n).toNat)
      case atStart => exact ⟨0, l, by omega, rfl, hl, by rw [row_zero, Nat.xor_zero], C1.out, C2.out, C3.out, C4.out, CL.out⟩
      case round =>
        obtain ⟨m, z, hm, rfl, hz, hn, b1, b2, b3, b4, hb⟩ := hrel
        clear C1 C2 C3 C4 CL
        have C1 := Lib.hid b1
        have C2 := Lib.hid b2
        have C3 := Lib.hid b3
        have C4 := Lib.hid b4
        have CL := Lib.hid hb
        have HNZ := Lib.hid hn
        clear b1 b2 b3 b4 hb hn
        by_cases hm32 : m < 32
        · have hp : (o + m) / 8 < z.length := by omega
          have hc : wr.cell? ⟨gz, (o + m) / 8, none⟩ = some (.int .u8 ((z.getD ((o + m) / 8) 0).toNat : Int)) := by rw [C4.out.cell, get_cell z K (o + m) hp]; rfl
          have hf := C4.out.frozen ((o + m) / 8)
          have HT := Lib.hid (turn_cell z K (o + m) hp)
          have HX := Lib.hid (xor8 (z.getD ((o + m) / 8) 0) (mask (o + m)))
          have HTN := Lib.hid (turn_num z (o + m) hp)
          have HMJ := Lib.hid (mask_j (o + m))
          have hq1 : IntKind.i64.wrap (((o : Int) + m).tdiv 8) = (((o + m) / 8 : Nat) : Int) := by rw [Int.tdiv_eq_ediv_of_nonneg (by omega), IntKind.wrap_i64]; omega
          have hr1 : IntKind.i64.wrap (((o : Int) + m).tmod 8) = (((o + m) % 8 : Nat) : Int) := by rw [Int.tmod_eq_emod_of_nonneg (by omega), IntKind.wrap_i64]; omega
          have hr2 : ((o : Int) + m).tmod 8 = (((o + m) % 8 : Nat) : Int) := by rw [Int.tmod_eq_emod_of_nonneg (by omega)]; omega
          have hq16 : (o + m) / 8 < 16 := by omega
          have hr8 : (o + m) % 8 < 8 := by omega
          obtain ⟨x, hx⟩ : ∃ x, x = z.getD ((o + m) / 8) 0 := ⟨_, rfl⟩
          rw [← hx] at hc HT HX
          obtain ⟨q, hq⟩ : ∃ q, q = (o + m) / 8 := ⟨_, rfl⟩
          obtain ⟨r, hr0⟩ : ∃ r, r = (o + m) % 8 := ⟨_, rfl⟩
          rw [← hq] at hc HT hf hq1 hq16
          rw [← hr0] at hr1 hr2 hr8 HMJ
          clear hx hq hr0
          have hqi : (q : Int) < 16 := by omega
          go_wp2
          · go_still_tail 11, (by kernel_rfl)
            go_wp2
            go_roundw
            case rel =>
              rw [HMJ.out, HX.out]
              refine ⟨m + 1, turn z (o + m), by omega, by go_num, by rw [turn_len]; exact hz, by rw [HTN.out, HNZ.out, Nat.xor_assoc, row_yes row o m (bit_yes hr (by assumption))], (C1.out.setCell_far (by omega) _ _).drew, (C2.out.setCell_far (by omega) _ _).drew, (C3.out.setCell_far (by omega) _ _).drew, ?_, (CL.out.setCell (by simp only []; omega) _).drew⟩
              have := C4.out.setCell q (u8 (x ^^^ mask (o + m)))
              rw [HT.out] at this
              exact this.drew
            case measure => simp [intOf]; omega
          · go_roundw
            case rel => exact ⟨m + 1, z, by omega, by go_num, hz, by rw [HNZ.out, row_no row o m (bit_no hr (by assumption))], C1.out, C2.out, C3.out, C4.out, CL.out⟩
            case measure => simp [intOf]; omega
        · obtain rfl : m = 32 := by omega
          have GY := Lib.hid (good_turned at_ h0 h1 l y hl hy K HK.out HKE.out _ HN.out (three_iff i j k))
          have GZ := Lib.hid (good_turned at_ h0 h1 l z hl hz K HK.out HKE.out _ (by have := HNZ.out; rw [row_all row o hr] at this; exact this) (burst_iff o row (by omega) hr))
          have EY := Lib.hid (sector_eq y l hy hl)
          have EZ := Lib.hid (sector_eq z l hz hl)
          obtain ⟨by_, hby⟩ : ∃ b : Bool, b = decide (y = l) := ⟨_, rfl⟩
          obtain ⟨bz, hbz⟩ : ∃ b : Bool, b = decide (z = l) := ⟨_, rfl⟩
          rw [← hby] at GY EY
          rw [← hbz] at GZ EZ
          clear hby hbz HN HNZ
          go_wp2
          refine wp_region_inv_tail (fun w' => Blk w' w.heap.size (bv l) 31 ∧ Blk w' gy (cellV y K) 33 ∧ Blk w' gz (cellV z K) 33 ∧ Below w.heap.size w w') 18 (by kernel_rfl) (by kernel_rfl) ⟨C1.out.drew, C3.out.drew, C4.out.drew, CL.out.drew⟩ ?_
          simp only [List.take_succ_cons, List.take_zero, List.drop_succ_cons, List.drop_zero]
          have keep : ∀ (w' w'' : World), (Blk w' w.heap.size (bv l) 31 ∧ Blk w' gy (cellV y K) 33 ∧ Blk w' gz (cellV z K) 33 ∧ Below w.heap.size w w') → Below w'.heap.size w' w'' → (Blk w'' w.heap.size (bv l) 31 ∧ Blk w'' gy (cellV y K) 33 ∧ Blk w'' gz (cellV z K) 33 ∧ Below w.heap.size w w'') :=
            fun w' w'' h hb => ⟨h.1.below hb h.1.lt, h.2.1.below hb h.2.1.lt, h.2.2.1.below hb h.2.2.1.lt, h.2.2.2.trans (hb.mono h.2.2.2.size)⟩
          have KEEP := Lib.hid keep
          clear keep
          clear hf2 ho2 hm32 hm3 bl hi hj hk hr hf hm
          refine inv_move _ rfl rfl ?_
          simp only [Act.put, List.setIfInBounds_toArray, List.set_cons_zero, List.set_cons_succ]
          refine inv_load_blk rfl 33 _ rfl gy 0 17 rfl 33 (cellV y K) _ (fun w' h => h.2.1) Try.underlying33 rfl (by kernel_rfl) (by rw [cellV_len y hy]; omega) (cellV y K) (cellV_whole y hy K) ?_
          simp only [Act.put, List.setIfInBounds_toArray, List.set_cons_zero, List.set_cons_succ]
          refine inv_call (.bool by_) rfl 17 #[.int .i64 at_, .agg (cellV y K).toArray] (fun w' _ => by go_simp) (fun w' h => (GY.out w').mono fun e w'' ⟨he, hb⟩ => ⟨he, KEEP.out _ _ h hb⟩) ?_
          simp only [Act.put, List.setIfInBounds_toArray, List.set_cons_zero, List.set_cons_succ]
          refine inv_value (.pointer (some ⟨gy, 0, none⟩)) rfl (fun w' _ => by go_simp) ?_
          simp only [Act.put, List.setIfInBounds_toArray, List.set_cons_zero, List.set_cons_succ]
          refine inv_load_blk rfl 31 _ rfl gy 0 16 rfl 33 (cellV y K) _ (fun w' h => h.2.1) Try.underlying31 rfl (by kernel_rfl) (by rw [cellV_len y hy]; omega) (bv y) (cellV_data y hy K) ?_
          simp only [Act.put, List.setIfInBounds_toArray, List.set_cons_zero, List.set_cons_succ]
          refine inv_load_blk rfl 31 _ rfl w.heap.size 0 16 rfl 31 (bv l) _ (fun w' h => h.1) Try.underlying31 rfl (by kernel_rfl) (by rw [bv_len, hl]; omega) (bv l) (by rw [List.drop_zero, List.take_of_length_le (by rw [bv_len, hl]; omega)]) ?_
          simp only [Act.put, List.setIfInBounds_toArray, List.set_cons_zero, List.set_cons_succ]
          refine Eq.inv_eql rfl rfl rfl rfl (by kernel_rfl) (fun w' _ => EY.out w') ?_
          simp only [Act.put, List.setIfInBounds_toArray, List.set_cons_zero, List.set_cons_succ]
          refine inv_value (.bool true) rfl (fun w' _ => by go_simp) ?_
          simp only [Act.put, List.setIfInBounds_toArray, List.set_cons_zero, List.set_cons_succ]
          refine inv_move _ rfl rfl ?_
          simp only [Act.put, List.setIfInBounds_toArray, List.set_cons_zero, List.set_cons_succ]
          refine inv_value (.int .i64 at_) rfl (fun w' _ => by go_simp) ?_
          simp only [Act.put, List.setIfInBounds_toArray, List.set_cons_zero, List.set_cons_succ]
          refine inv_load_blk rfl 33 _ rfl gz 0 17 rfl 33 (cellV z K) _ (fun w' h => h.2.2.1) Try.underlying33 rfl (by kernel_rfl) (by rw [cellV_len z hz]; omega) (cellV z K) (cellV_whole z hz K) ?_
          simp only [Act.put, List.setIfInBounds_toArray, List.set_cons_zero, List.set_cons_succ]
          refine inv_call (.bool bz) rfl 17 #[.int .i64 at_, .agg (cellV z K).toArray] (fun w' _ => by go_simp) (fun w' h => (GZ.out w').mono fun e w'' ⟨he, hb⟩ => ⟨he, KEEP.out _ _ h hb⟩) ?_
          simp only [Act.put, List.setIfInBounds_toArray, List.set_cons_zero, List.set_cons_succ]
          refine inv_value (.pointer (some ⟨gz, 0, none⟩)) rfl (fun w' _ => by go_simp) ?_
          simp only [Act.put, List.setIfInBounds_toArray, List.set_cons_zero, List.set_cons_succ]
          refine inv_load_blk rfl 31 _ rfl gz 0 16 rfl 33 (cellV z K) _ (fun w' h => h.2.2.1) Try.underlying31 rfl (by kernel_rfl) (by rw [cellV_len z hz]; omega) (bv z) (cellV_data z hz K) ?_
          simp only [Act.put, List.setIfInBounds_toArray, List.set_cons_zero, List.set_cons_succ]
          refine inv_load_blk rfl 31 _ rfl w.heap.size 0 16 rfl 31 (bv l) _ (fun w' h => h.1) Try.underlying31 rfl (by kernel_rfl) (by rw [bv_len, hl]; omega) (bv l) (by rw [List.drop_zero, List.take_of_length_le (by rw [bv_len, hl]; omega)]) ?_
          simp only [Act.put, List.setIfInBounds_toArray, List.set_cons_zero, List.set_cons_succ]
          refine Eq.inv_eql rfl rfl rfl rfl (by kernel_rfl) (fun w' _ => EZ.out w') ?_
          simp only [Act.put, List.setIfInBounds_toArray, List.set_cons_zero, List.set_cons_succ]
          refine inv_value (.bool true) rfl (fun w' _ => by go_simp) ?_
          simp only [Act.put, List.setIfInBounds_toArray, List.set_cons_zero, List.set_cons_succ]
          refine inv_value (.bool true) rfl (fun w' _ => by go_simp) ?_
          simp only [Act.put, List.setIfInBounds_toArray, List.set_cons_zero, List.set_cons_succ]
          refine inv_nil fun w' hI => ?_
          go_wp2
          go_ret
          exact ⟨rfl, hI.2.2.2⟩
section
variable {H : Type} {enc : TypeId × Value → H} {base : Nat} {spare : Nat → Bool} {held : Bool} {W : World}
theorem turns_in (x : Int) (hx : (Lit.int .i64 x).wf = true) (c : List Value) (hc : c.length = 16) (f : Opens.Fits enc Try.prog W base spare held (List.replicate 16 (.int .u8)) c)
    (i : Int) (hi : (Lit.int .u8 i).wf = true) (j : Int) (hj : (Lit.int .u8 j).wf = true) (k : Int) (hk : (Lit.int .u8 k).wf = true) (r : Int) (hr : (Lit.int .u32 r).wf = true) (g : Int) (hg : (Lit.int .u8 g).wf = true) :
    Calls Try.prog 6 #[.int .i64 x, .agg c.toArray, .int .u8 i, .int .u8 j, .int .u8 k, .int .u32 r, .int .u8 g] W fun e w' => e = .returned (.bool true) ∧ Below W.heap.size W w' := by
  obtain ⟨l, hl, rfl⟩ := Cells.sector_in hc rfl f
  have hb := Opens.wf_i64 hx
  obtain ⟨i, rfl, hi'⟩ := byte_in hi
  obtain ⟨j, rfl, hj'⟩ := byte_in hj
  obtain ⟨k, rfl, hk'⟩ := byte_in hk
  obtain ⟨g, rfl, hg'⟩ := byte_in hg
  obtain ⟨r, hr', rfl⟩ := Opens.wf_u32 hr
  exact turns_walk x hb.1 hb.2 l hl i j k r g hi' hj' hk' hr' hg' W
end
end Go.Proofs.Ytldlgffjpmmlcaa.Turns
