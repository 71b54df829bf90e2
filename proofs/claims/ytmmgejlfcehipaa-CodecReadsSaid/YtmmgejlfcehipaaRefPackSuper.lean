/-
  PackSuper of the reference by contract. Helper text; no statement is proved here.
-/
import Derived.Test.YtmmgejlfcehipaaPackSuper
set_option linter.unusedVariables false
set_option linter.unusedSimpArgs false
namespace Go.Proofs.Ytmmgejlfcehipaa.Codec
open Go.RowKit Go.Proofs.Ytmmgejlfcehipaa.Base Go.Proofs.Ytmmgejlfcehipaa.Laws Go.Proofs.Ytmmgejlfcehipaa.Lay Go.Proofs.Ytmmgejlfcehipaa.InvM Go.Proofs.Ytmmgejlfcehipaa.Inv
set_option maxHeartbeats 2000000 in
theorem rpacksuper_form {x : Su} (h : ¬ Sound x.d x.c x.s) (w : World) : Calls Try.prog 24 #[.agg x.cells.toArray] w fun e w' => e = .returned (.tuple #[.slice none 0 0, .int .i64 1]) ∧ Below w.heap.size w w' := by
  have HB0 := Lib.hid (blk_at (w := w) (cs := x.cells) (t := 52) rfl rfl)
  have HS := Lib.hid (fun w' => rcheck_no h w')
  have hg3 : (x.cells.drop 0).take 3 = geo x.d x.c x.s := rfl
  have hx7 : x.cells.length = 7 := rfl
  obtain ⟨cs, hcs⟩ : ∃ cs, cs = x.cells := ⟨_, rfl⟩
  rw [← hcs] at HB0 hg3 hx7 ⊢
  clear hcs
  obtain ⟨l3, hl3⟩ : ∃ l, l = geo x.d x.c x.s := ⟨_, rfl⟩
  rw [← hl3] at HS hg3
  clear hl3
  go_enter Try.func24, Try.ntmps24
  go_wp2_with (first | (refine wpList_load_blk rfl 50 _ rfl w.heap.size 0 3 rfl 52 cs _ HB0.out Try.underlying50 rfl (by kernel_rfl) (by rw [hx7]; omega) l3 hg3 ?_))
  refine (HS.out _).mono ?_
  rintro e w1 ⟨rfl, hb⟩
  have L1 := Lib.hid (((Below.refl _ _).alloc (Nat.le_refl _) _).trans (hb.mono (by simp only [size_alloc]; omega)) : Below w.heap.size w w1)
  clear hb
  go_wp2
  go_ret2
  exact ⟨rfl, L1.out⟩
set_option maxHeartbeats 2000000 in
theorem rpacksuper_arg {x : Su} (h : Sound x.d x.c x.s) (hn : ¬ ((0 ≤ x.k ∧ x.k < x.d) ∧ (0 ≤ x.m ∧ x.m ≤ x.c * x.s))) (w : World) : Calls Try.prog 24 #[.agg x.cells.toArray] w fun e w' => e = .returned (.tuple #[.slice none 0 0, .int .i64 2]) ∧ Below w.heap.size w w' := by
  have HB0 := Lib.hid (blk_at (w := w) (cs := x.cells) (t := 52) rfl rfl)
  have HS := Lib.hid (fun w' => rcheck_yes h w')
  have hg3 : (x.cells.drop 0).take 3 = geo x.d x.c x.s := rfl
  have hx7 : x.cells.length = 7 := rfl
  have d0 : x.cells[0]? = some (.int .i64 x.d) := rfl
  have d1' : x.cells[1]? = some (.int .i64 x.c) := rfl
  have d2' : x.cells[2]? = some (.int .i64 x.s) := rfl
  have d3 : x.cells[3]? = some (.int .i64 x.k) := rfl
  have d6 : x.cells[6]? = some (.int .i64 x.m) := rfl
  obtain ⟨cs, hcs⟩ : ∃ cs, cs = x.cells := ⟨_, rfl⟩
  rw [← hcs] at HB0 hg3 hx7 d0 d1' d2' d3 d6 ⊢
  have D0 := Lib.hid d0
  have D3 := Lib.hid d3
  have D6 := Lib.hid d6
  have D1 := Lib.hid d1'
  have D2 := Lib.hid d2'
  clear hcs d0 d1' d2' d3 d6
  obtain ⟨l3, hl3⟩ : ∃ l, l = geo x.d x.c x.s := ⟨_, rfl⟩
  rw [← hl3] at HS hg3
  clear hl3
  have hcap0 : IntKind.i64.wrap (x.c * x.s) = x.c * x.s := by
    obtain ⟨_, ⟨a1, a2⟩, ⟨a3, a4⟩⟩ := h
    have m0 : 0 ≤ x.c * x.s := Int.mul_nonneg (by omega) (by omega)
    have m1 : x.c * x.s ≤ 8 * 64 := Int.mul_le_mul (by omega) (by omega) (by omega) (by omega)
    rw [IntKind.wrap_i64]; omega
  obtain ⟨cap, hcap⟩ : ∃ cap, cap = x.c * x.s := ⟨_, rfl⟩
  have HCP := Lib.hid hcap
  rw [← hcap] at hn
  clear hcap h
  obtain ⟨d, c, s, k, arr, seq, m⟩ := x
  simp only at *
  go_enter Try.func24, Try.ntmps24
  go_wp2_with (first | (refine wpList_load_blk rfl 50 _ rfl w.heap.size 0 3 rfl 52 cs _ HB0.out Try.underlying50 rfl (by kernel_rfl) (by rw [hx7]; omega) l3 hg3 ?_))
  refine (HS.out _).mono ?_
  rintro e w1 ⟨rfl, hb⟩
  have L1 := Lib.hid (((Below.refl _ _).alloc (Nat.le_refl _) _).trans (hb.mono (by simp only [size_alloc]; omega)) : Below w.heap.size w w1)
  have B1 := Lib.hid (HB0.out.below hb (by simp only [size_alloc]; omega))
  have c0 := (B1.out.cell 0).trans D0.out
  have c3 := (B1.out.cell 3).trans D3.out
  have c6 := (B1.out.cell 6).trans D6.out
  have c1 := (B1.out.cell 1).trans D1.out
  have c2 := (B1.out.cell 2).trans D2.out
  clear hb
  have hh : k < 0 ∨ (0 ≤ k ∧ d ≤ k) ∨ (0 ≤ k ∧ k < d ∧ m < 0) ∨ (0 ≤ k ∧ k < d ∧ 0 ≤ m ∧ c * s < m) := by have := HCP.out; omega
  clear hn
  rcases hh with h1 | ⟨h1, h2⟩ | ⟨h1, h2, h3⟩ | ⟨h1, h2, h3, h4⟩
  all_goals
    go_wp2
    go_ret2
    exact ⟨rfl, L1.out⟩
set_option maxRecDepth 8000 in
set_option maxHeartbeats 1500000 in
theorem rpacksuper_yes {x : Su} (h : x.Good) (harr : x.arr < 4294967296) (hseq : x.seq < 18446744073709551616) (w : World) : Calls Try.prog 24 #[.agg x.cells.toArray] w fun e w' => ∃ p, e = .returned (.tuple #[p, .int .i64 0]) ∧ w'.ownsRow w.heap.size 5 1 p 45 (bv x.bytes) ∧ Below w.heap.size w w' := by
  have HB0 := Lib.hid (blk_at (w := w) (cs := x.cells) (t := 52) rfl rfl)
  obtain ⟨hso, hkk, hmm⟩ := h
  have HS := Lib.hid (fun w' => rcheck_yes hso w')
  have hg3 : (x.cells.drop 0).take 3 = geo x.d x.c x.s := rfl
  have hx7 : x.cells.length = 7 := rfl
  have d0 : x.cells[0]? = some (.int .i64 x.d) := rfl
  have d1 : x.cells[1]? = some (.int .i64 x.c) := rfl
  have d2 : x.cells[2]? = some (.int .i64 x.s) := rfl
  have d3 : x.cells[3]? = some (.int .i64 x.k) := rfl
  have d4 : x.cells[4]? = some (.int .u32 (x.arr : Int)) := rfl
  have d5 : x.cells[5]? = some (.int .u64 (x.seq : Int)) := rfl
  have d6 : x.cells[6]? = some (.int .i64 x.m) := rfl
  obtain ⟨cs, hcs⟩ : ∃ cs, cs = x.cells := ⟨_, rfl⟩
  rw [← hcs] at HB0 hg3 hx7 d0 d1 d2 d3 d4 d5 d6 ⊢
  have D0 := Lib.hid d0
  have D1 := Lib.hid d1
  have D2 := Lib.hid d2
  have D3 := Lib.hid d3
  have D4 := Lib.hid d4
  have D5 := Lib.hid d5
  have D6 := Lib.hid d6
  clear hcs d0 d1 d2 d3 d4 d5 d6
  obtain ⟨l3, hl3⟩ : ∃ l, l = geo x.d x.c x.s := ⟨_, rfl⟩
  rw [← hl3] at HS hg3
  clear hl3
  obtain ⟨q1, hq1⟩ : ∃ q, q = x.b41 := ⟨_, rfl⟩
  have hq1l : q1.length = 41 := by rw [hq1]; exact Su.b41_len x
  have HQ1 := Lib.hid hq1
  have HBY := Lib.hid (show x.bytes = q1 ++ be 4 (Crc.crc q1) from by rw [hq1]; rfl)
  obtain ⟨by45, hby⟩ : ∃ b, b = x.bytes := ⟨_, rfl⟩
  rw [← hby] at HBY ⊢
  clear hby hq1
  have hcap0 : IntKind.i64.wrap (x.c * x.s) = x.c * x.s := by
    obtain ⟨_, ⟨a1, a2⟩, ⟨a3, a4⟩⟩ := hso
    have m0 : 0 ≤ x.c * x.s := Int.mul_nonneg (by omega) (by omega)
    have m1 : x.c * x.s ≤ 8 * 64 := Int.mul_le_mul (by omega) (by omega) (by omega) (by omega)
    rw [IntKind.wrap_i64]; omega
  have hc1 : x.c * x.s ≤ 512 := by
    obtain ⟨_, ⟨a1, a2⟩, ⟨a3, a4⟩⟩ := hso
    exact Int.mul_le_mul (show x.c ≤ 8 by omega) (show x.s ≤ 64 by omega) (by omega) (by omega)
  obtain ⟨⟨g1, g2⟩, ⟨g3, g4⟩, ⟨g5, g6⟩⟩ := hso
  obtain ⟨d, c, s, k, arr, seq, m⟩ := x
  simp only at *
  obtain ⟨⟨k1, k2⟩, ⟨m1, m2⟩⟩ := (⟨hkk, hmm⟩ : _ ∧ _)
  obtain ⟨dn, rfl⟩ : ∃ n : Nat, d = n := ⟨d.toNat, by omega⟩
  obtain ⟨cn, rfl⟩ : ∃ n : Nat, c = n := ⟨c.toNat, by omega⟩
  obtain ⟨sn, rfl⟩ : ∃ n : Nat, s = n := ⟨s.toNat, by omega⟩
  obtain ⟨kn, rfl⟩ : ∃ n : Nat, k = n := ⟨k.toNat, by omega⟩
  obtain ⟨mn, rfl⟩ : ∃ n : Nat, m = n := ⟨m.toNat, by omega⟩
  clear hkk hmm
  have hwd : IntKind.u64.wrap (dn : Int) = (dn : Int) := by rw [IntKind.wrap_u64]; omega
  have hwc : IntKind.u64.wrap (cn : Int) = (cn : Int) := by rw [IntKind.wrap_u64]; omega
  have hws : IntKind.u64.wrap (sn : Int) = (sn : Int) := by rw [IntKind.wrap_u64]; omega
  have hwk : IntKind.u64.wrap (kn : Int) = (kn : Int) := by rw [IntKind.wrap_u64]; omega
  have hwm : IntKind.u64.wrap (mn : Int) = (mn : Int) := by rw [IntKind.wrap_u64]; omega
  have hwa : IntKind.u64.wrap (arr : Int) = (arr : Int) := by rw [IntKind.wrap_u64]; omega
  have hwr : IntKind.u64.wrap ((Crc.crc q1 : Nat) : Int) = ((Crc.crc q1 : Nat) : Int) := by have := Crc.crc_lt q1; rw [IntKind.wrap_u64]; omega
  go_enter Try.func24, Try.ntmps24
  go_wp2_with (first | (refine wpList_load_blk rfl 50 _ rfl w.heap.size 0 3 rfl 52 cs _ HB0.out Try.underlying50 rfl (by kernel_rfl) (by rw [hx7]; omega) l3 hg3 ?_))
  refine (HS.out _).mono ?_
  rintro e w1 ⟨rfl, hb⟩
  have L1 := Lib.hid (((Below.refl _ _).alloc (Nat.le_refl _) _).trans (hb.mono (by simp only [size_alloc]; omega)) : Below w.heap.size w w1)
  have B1 := Lib.hid (HB0.out.below hb (by simp only [size_alloc]; omega))
  have c0 := (B1.out.cell 0).trans D0.out
  have c3 := (B1.out.cell 3).trans D3.out
  have c6 := (B1.out.cell 6).trans D6.out
  have c1 := (B1.out.cell 1).trans D1.out
  have c2 := (B1.out.cell 2).trans D2.out
  have hs1 := L1.out.size
  have hlt1 := B1.out.lt
  clear hb
  go_upto_region 5 with (fail)
  have m1 := World.ownsRow_lit (e := 5) (size := 1) (base := w.heap.size + 1) w1 #[.int .u8 82, .int .u8 65, .int .u8 86, .int .u8 69] 4 (by omega) (by decide) rfl
  have M1 := Lib.hid m1
  have B2 := Lib.hid (B1.out.alloc (.cells #[.int .u8 82, .int .u8 65, .int .u8 86, .int .u8 69] 5))
  have L2 := Lib.hid (L1.out.alloc hs1 (.cells #[.int .u8 82, .int .u8 65, .int .u8 86, .int .u8 69] 5))
  have O2 := Lib.hid (show (w1.alloc (.cells #[.int .u8 82, .int .u8 65, .int .u8 86, .int .u8 69] 5)).ownsRow (w.heap.size + 1) 5 1 (.slice (some ⟨w1.heap.size, 0, none⟩) 4 4) 4 (bv rave) from M1.out)
  clear m1 M1 c0 c1 c2 c3 c6 L1 B1 HB0 HS hg3
  have c0 := (B2.out.cell 0).trans D0.out
  go_wp2_with fail
  refine (put_any (w.heap.size + 1) _ (4) 2 dn (rave) (by omega) (by omega) (by omega) _ (by simp only [size_alloc]; omega) O2.out).mono ?_
  rintro e v3 ⟨p3, rfl, ho2, hb2⟩
  have B3 := Lib.hid (B2.out.below hb2 (by omega))
  have L3 := Lib.hid (L2.out.trans (hb2.mono (by omega)))
  have O3 := Lib.hid ho2
  clear ho2 hb2 B2 L2 O2 c0
  have hlt3 := B3.out.lt
  have c1 := (B3.out.cell 1).trans D1.out
  go_wp2_with fail
  refine (put_any (w.heap.size + 1) _ (4 + 2) 2 cn (rave ++ be 2 dn) (by omega) (by omega) (by omega) _ (by omega) O3.out).mono ?_
  rintro e v4 ⟨p4, rfl, ho2, hb2⟩
  have B4 := Lib.hid (B3.out.below hb2 (by omega))
  have L4 := Lib.hid (L3.out.trans (hb2.mono (by omega)))
  have O4 := Lib.hid ho2
  clear ho2 hb2 B3 L3 O3 c1
  have hlt4 := B4.out.lt
  have c2 := (B4.out.cell 2).trans D2.out
  go_wp2_with fail
  refine (put_any (w.heap.size + 1) _ (4 + 2 + 2) 2 sn (rave ++ be 2 dn ++ be 2 cn) (by omega) (by omega) (by omega) _ (by omega) O4.out).mono ?_
  rintro e v5 ⟨p5, rfl, ho2, hb2⟩
  have B5 := Lib.hid (B4.out.below hb2 (by omega))
  have L5 := Lib.hid (L4.out.trans (hb2.mono (by omega)))
  have O5 := Lib.hid ho2
  clear ho2 hb2 B4 L4 O4 c2
  have hlt5 := B5.out.lt
  have c3 := (B5.out.cell 3).trans D3.out
  go_wp2_with fail
  refine (put_any (w.heap.size + 1) _ (4 + 2 + 2 + 2) 2 kn (rave ++ be 2 dn ++ be 2 cn ++ be 2 sn) (by omega) (by omega) (by omega) _ (by omega) O5.out).mono ?_
  rintro e v6 ⟨p6, rfl, ho2, hb2⟩
  have B6 := Lib.hid (B5.out.below hb2 (by omega))
  have L6 := Lib.hid (L5.out.trans (hb2.mono (by omega)))
  have O6 := Lib.hid ho2
  clear ho2 hb2 B5 L5 O5 c3
  have hlt6 := B6.out.lt
  have c4 := (B6.out.cell 4).trans D4.out
  go_wp2_with fail
  refine (put_any (w.heap.size + 1) _ (4 + 2 + 2 + 2 + 2) 4 arr (rave ++ be 2 dn ++ be 2 cn ++ be 2 sn ++ be 2 kn) (by omega) (by omega) (by omega) _ (by omega) O6.out).mono ?_
  rintro e v7 ⟨p7, rfl, ho2, hb2⟩
  have B7 := Lib.hid (B6.out.below hb2 (by omega))
  have L7 := Lib.hid (L6.out.trans (hb2.mono (by omega)))
  have O7 := Lib.hid ho2
  clear ho2 hb2 B6 L6 O6 c4
  have hlt7 := B7.out.lt
  have c5 := (B7.out.cell 5).trans D5.out
  go_wp2_with fail
  refine (put_any (w.heap.size + 1) _ (4 + 2 + 2 + 2 + 2 + 4) 8 seq (rave ++ be 2 dn ++ be 2 cn ++ be 2 sn ++ be 2 kn ++ be 4 arr) (by omega) (by omega) (by omega) _ (by omega) O7.out).mono ?_
  rintro e v8 ⟨p8, rfl, ho2, hb2⟩
  have B8 := Lib.hid (B7.out.below hb2 (by omega))
  have L8 := Lib.hid (L7.out.trans (hb2.mono (by omega)))
  have O8 := Lib.hid ho2
  clear ho2 hb2 B7 L7 O7 c5
  have hlt8 := B8.out.lt
  have c6 := (B8.out.cell 6).trans D6.out
  go_wp2_with fail
  refine (put_any (w.heap.size + 1) _ (4 + 2 + 2 + 2 + 2 + 4 + 8) 8 mn (rave ++ be 2 dn ++ be 2 cn ++ be 2 sn ++ be 2 kn ++ be 4 arr ++ be 8 seq) (by omega) (by omega) (by omega) _ (by omega) O8.out).mono ?_
  rintro e v9 ⟨p9, rfl, ho2, hb2⟩
  have B9 := Lib.hid (B8.out.below hb2 (by omega))
  have L9 := Lib.hid (L8.out.trans (hb2.mono (by omega)))
  have O9 := Lib.hid ho2
  clear ho2 hb2 B8 L8 O8 c6
  have hlt9 := B9.out.lt
  go_wp2_with fail
  refine (put_any (w.heap.size + 1) _ (4 + 2 + 2 + 2 + 2 + 4 + 8 + 8) 8 0 (rave ++ be 2 dn ++ be 2 cn ++ be 2 sn ++ be 2 kn ++ be 4 arr ++ be 8 seq ++ be 8 mn) (by omega) (by omega) (by omega) _ (by omega) O9.out).mono ?_
  rintro e v10 ⟨p10, rfl, ho2, hb2⟩
  have B10 := Lib.hid (B9.out.below hb2 (by omega))
  have L10 := Lib.hid (L9.out.trans (hb2.mono (by omega)))
  have O10 := Lib.hid ho2
  clear ho2 hb2 B9 L9 O9
  have hlt10 := B10.out.lt
  go_wp2_with fail
  refine (put_any (w.heap.size + 1) _ (4 + 2 + 2 + 2 + 2 + 4 + 8 + 8 + 8) 1 0 (rave ++ be 2 dn ++ be 2 cn ++ be 2 sn ++ be 2 kn ++ be 4 arr ++ be 8 seq ++ be 8 mn ++ be 8 0) (by omega) (by omega) (by omega) _ (by omega) O10.out).mono ?_
  rintro e v11 ⟨p11, rfl, ho2, hb2⟩
  have B11 := Lib.hid (B10.out.below hb2 (by omega))
  have L11 := Lib.hid (L10.out.trans (hb2.mono (by omega)))
  have O11 := Lib.hid ho2
  clear ho2 hb2 B10 L10 O10
  have hlt11 := B11.out.lt
  have e41 : rave ++ be 2 dn ++ be 2 cn ++ be 2 sn ++ be 2 kn ++ be 4 arr ++ be 8 seq ++ be 8 mn ++ be 8 0 ++ be 1 0 = q1 := by
    rw [HQ1.out]
    unfold Su.b41
    simp only [Int.toNat_natCast, List.append_assoc]
    rfl
  rw [e41] at O11
  obtain ⟨va, vcap, rfl, hbt⟩ := OwnB.bts_own hq1l O11.out
  have HC := Lib.hid (RefSumW.crc_any va 41 vcap q1 v11 hbt)
  have hcr := Crc.crc_lt q1
  clear hbt e41
  go_wp2_with fail
  refine HC.out.mono ?_
  rintro e v12 ⟨rfl, rfl⟩
  go_wp2_with fail
  refine (put_any (w.heap.size + 1) _ 41 4 (Crc.crc q1) q1 (by omega) (by omega) (by omega) _ (by omega) O11.out).mono ?_
  rintro e v13 ⟨p13, rfl, ho2, hb2⟩
  go_wp2
  go_ret2
  exact ⟨p13, rfl, by rw [HBY.out]; exact own_base ho2 (by omega), L11.out.trans (hb2.mono (by omega))⟩
end Go.Proofs.Ytmmgejlfcehipaa.Codec
