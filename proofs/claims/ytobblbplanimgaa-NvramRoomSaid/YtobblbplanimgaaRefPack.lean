/-
  Pack of the reference by contract. Helper text; no statement is proved here.
-/
import Derived.Test.YtobblbplanimgaaRefPut
set_option linter.unusedVariables false
set_option maxRecDepth 20000
set_option linter.unusedSimpArgs false
namespace Go.Proofs.Ytobblbplanimgaa.Codec
open Go.RowKit Go.Proofs.Ytobblbplanimgaa.Base Go.Proofs.Ytobblbplanimgaa.Laws Go.Proofs.Ytobblbplanimgaa.Inv
set_option maxHeartbeats 1000000 in
theorem rok_no {k : Int} {v : Nat} {a : Int} {l : List UInt8} (h : ¬ Ok k a) (w : World) : Calls Try.prog 13 #[.agg (recV k v a l).toArray] w fun e w' => e = .returned (.bool false) ∧ Below w.heap.size w w' := by
  have HB0 := Lib.hid (blk_at (w := w) (cs := recV k v a l) (t := 27) rfl rfl)
  have c0 := HB0.out.cell 0
  have c2 := HB0.out.cell 2
  change _ = some (Value.int .i64 k) at c0
  change _ = some (Value.int .i64 a) at c2
  obtain ⟨cs, hcs⟩ : ∃ cs, cs = recV k v a l := ⟨_, rfl⟩
  rw [← hcs] at HB0 c0 c2 ⊢
  clear hcs
  unfold Ok at h
  have hh : k < 1 ∨ (1 ≤ k ∧ 6 < k) ∨ (1 ≤ k ∧ k ≤ 6 ∧ a < 0) ∨ (1 ≤ k ∧ k ≤ 6 ∧ 0 ≤ a ∧ 2147483647 < a) := by omega
  clear h
  rcases hh with h1 | ⟨h1, h2⟩ | ⟨h1, h2, h3⟩ | ⟨h1, h2, h3, h4⟩
  all_goals
    go_enter Try.func13, Try.ntmps13
    go_wp2
    go_ret
    refine ⟨by first | rfl | exact ret_bool (decide_eq_false (by omega)), (Below.refl _ _).alloc (Nat.le_refl _) _⟩
set_option maxHeartbeats 1000000 in
theorem rok_yes {k : Int} {v : Nat} {a : Int} {l : List UInt8} (h : Ok k a) (w : World) : Calls Try.prog 13 #[.agg (recV k v a l).toArray] w fun e w' => e = .returned (.bool true) ∧ Below w.heap.size w w' := by
  have HB0 := Lib.hid (blk_at (w := w) (cs := recV k v a l) (t := 27) rfl rfl)
  have c0 := HB0.out.cell 0
  have c2 := HB0.out.cell 2
  change _ = some (Value.int .i64 k) at c0
  change _ = some (Value.int .i64 a) at c2
  obtain ⟨cs, hcs⟩ : ∃ cs, cs = recV k v a l := ⟨_, rfl⟩
  rw [← hcs] at HB0 c0 c2 ⊢
  clear hcs
  obtain ⟨⟨h1, h2⟩, ⟨h3, h4⟩⟩ := h
  go_enter Try.func13, Try.ntmps13
  go_wp2
  go_ret
  exact ⟨by first | rfl | exact ret_bool (decide_eq_true (by omega)), (Below.refl _ _).alloc (Nat.le_refl _) _⟩
set_option maxHeartbeats 1000000 in
theorem rpack_no {k : Int} {v : Nat} {a : Int} {l : List UInt8} (hl : l.length = 16) (h : ¬ Ok k a) (w : World) : Calls Try.prog 38 #[.agg (recV k v a l).toArray] w fun e w' => e = .returned (.tuple #[.slice none 0 0, .int .i64 2]) ∧ Below w.heap.size w w' := by
  have HB0 := Lib.hid (blk_at (w := w) (cs := recV k v a l) (t := 27) rfl rfl)
  have HO := Lib.hid (fun w => rok_no (v := v) (l := l) h w)
  have h19 := recV_len k v a l hl
  obtain ⟨cs, hcs⟩ : ∃ cs, cs = recV k v a l := ⟨_, rfl⟩
  rw [← hcs] at HB0 HO h19 ⊢
  clear hcs
  go_enter Try.func38, Try.ntmps38
  go_wp2_with (first | (refine wpList_load_blk rfl 27 _ rfl w.heap.size 0 19 rfl 27 cs _ HB0.out Try.underlying27 rfl (by kernel_rfl) (by rw [h19]; omega) cs (by rw [List.drop_zero, List.take_of_length_le (by rw [h19]; omega)]) ?_))
  refine (HO.out _).mono ?_
  rintro e w1 ⟨rfl, hb⟩
  go_wp2
  go_ret2
  exact ⟨rfl, ((Below.refl _ _).alloc (Nat.le_refl _) _).trans (hb.mono (by simp only [size_alloc]; omega))⟩
theorem own_base {w : World} {b b' : Nat} {e : TypeId} {size : Nat} {v : Value} {n : Nat} {xs : List Value} (h : w.ownsRow b e size v n xs) (hb : b' ≤ b) : w.ownsRow b' e size v n xs := by
  obtain ⟨h1, h2⟩ := h
  refine ⟨h1, ?_⟩
  rcases h2 with h2 | ⟨g, cap, cur, e1, hbg, hg, h3⟩
  · exact .inl h2
  · exact .inr ⟨g, cap, cur, e1, by omega, hg, h3⟩
set_option maxRecDepth 4000 in
set_option maxHeartbeats 2000000 in
theorem rpack_yes {k : Int} {v a : Nat} {l : List UInt8} (hl : l.length = 16) (hv : v < 18446744073709551616) (h : Ok k a) (w : World) : Calls Try.prog 38 #[.agg (recV k v a l).toArray] w fun e w' => ∃ p, e = .returned (.tuple #[p, .int .i64 0]) ∧ w'.ownsRow w.heap.size 5 1 p 37 (bv (rec33 k v a l ++ be 4 (Crc.crc (rec33 k v a l)))) ∧ Below w.heap.size w w' := by
  have HB0 := Lib.hid (blk_at (w := w) (cs := recV k v a l) (t := 27) rfl rfl)
  have HO := Lib.hid (fun w => rok_yes (v := v) (l := l) h w)
  have h19 := recV_len k v a l hl
  obtain ⟨cs, hcs⟩ : ∃ cs, cs = recV k v a l := ⟨_, rfl⟩
  have HCS := Lib.hid hcs
  rw [← hcs] at HB0 HO h19 ⊢
  clear hcs
  have h0 := h
  obtain ⟨⟨h1, h2⟩, ⟨h3, h4⟩⟩ := h
  have d0 : cs[0]? = some (Value.int .i64 k) := by rw [HCS.out]; rfl
  have d1 : cs[1]? = some (Value.int .u64 v) := by rw [HCS.out]; rfl
  have d2 : cs[2]? = some (Value.int .i64 a) := by rw [HCS.out]; rfl
  have D0 := Lib.hid d0
  have D1 := Lib.hid d1
  have D2 := Lib.hid d2
  clear d0 d1 d2
  obtain ⟨kn, rfl⟩ : ∃ kn : Nat, k = kn := ⟨k.toNat, by omega⟩
  have h33 := rec33_len (kn : Int) v a l hl
  obtain ⟨r33, hr⟩ : ∃ r, r = rec33 (kn : Int) v a l := ⟨_, rfl⟩
  rw [← hr] at h33 ⊢
  have HR := Lib.hid hr
  clear hr
  have hcr := Crc.crc_lt r33
  obtain ⟨cr, hcr2⟩ : ∃ c, c = Crc.crc r33 := ⟨_, rfl⟩
  rw [← hcr2] at hcr ⊢
  have HCR := Lib.hid hcr2
  clear hcr2
  go_enter Try.func38, Try.ntmps38
  go_wp2_with (first | (refine wpList_load_blk rfl 27 _ rfl w.heap.size 0 19 rfl 27 cs _ HB0.out Try.underlying27 rfl (by kernel_rfl) (by rw [h19]; omega) cs (by rw [List.drop_zero, List.take_of_length_le (by rw [h19]; omega)]) ?_))
  refine (HO.out _).mono ?_
  rintro e w1 ⟨rfl, hb⟩
  have B1 := Lib.hid (HB0.out.below hb (by simp only [size_alloc]; omega))
  have L1 := Lib.hid (((Below.refl _ _).alloc (Nat.le_refl _) _).trans (hb.mono (by simp only [size_alloc]; omega)) : Below w.heap.size w w1)
  clear hb HB0 HO
  have c0 := ((B1.out.alloc (.cells #[] 5)).cell 0).trans D0.out
  have hs1 := L1.out.size
  have hmade := World.ownsRow_made (e := 5) (size := 1) (base := w.heap.size + 1) w1 #[] 0 B1.out.lt (Nat.zero_le _) rfl
  have M1 := Lib.hid hmade
  have hlt1 := B1.out.lt
  clear hmade
  go_wp2_with fail
  refine (put_any (w.heap.size + 1) _ 0 1 kn [] (by omega) (by omega) (by omega) _ (by simp only [size_alloc]; omega) M1.out).mono ?_
  rintro e w2 ⟨p2, rfl, ho2, hb2⟩
  have B2 := Lib.hid ((B1.out.alloc (.cells #[] 5)).below hb2 (by omega))
  have L2 := Lib.hid ((L1.out.alloc hs1 (.cells #[] 5)).trans (hb2.mono (by omega)))
  have O2 := Lib.hid ho2
  clear ho2 hb2 c0
  have c1 := (B2.out.cell 1).trans D1.out
  have hlt2 := B2.out.lt
  go_wp2_with fail
  refine (put_any (w.heap.size + 1) _ (0 + 1) 8 v ([] ++ be 1 kn) (by omega) (by omega) (by omega) _ (by omega) O2.out).mono ?_
  rintro e w3 ⟨p3, rfl, ho2, hb2⟩
  have B3 := Lib.hid (B2.out.below hb2 (by omega))
  have L3 := Lib.hid (L2.out.trans (hb2.mono (by omega)))
  have O3 := Lib.hid ho2
  clear ho2 hb2 c1
  have c2 := (B3.out.cell 2).trans D2.out
  have hlt3 := B3.out.lt
  go_wp2_with fail
  refine (put_any (w.heap.size + 1) _ (0 + 1 + 8) 8 a ([] ++ be 1 kn ++ be 8 v) (by omega) (by omega) (by omega) _ (by omega) O3.out).mono ?_
  rintro e w4 ⟨p4, rfl, ho2, hb2⟩
  have B4 := Lib.hid (B3.out.below hb2 (by omega))
  have L4 := Lib.hid (L3.out.trans (hb2.mono (by omega)))
  have O4 := Lib.hid ho2
  clear ho2 hb2 c2
  have hlt4 := B4.out.lt
  obtain ⟨p17, hp⟩ : ∃ p, p = ([] ++ be 1 kn ++ be 8 v ++ be 8 a) := ⟨_, rfl⟩
  have HP := Lib.hid hp
  rw [← hp] at O4
  have h17 : p17.length = 17 := by rw [hp]; simp [be_len]
  clear hp M1 B1 L1 B2 L2 O2 B3 L3 O3 hlt1 hlt2 hlt3 hs1
  have HLB := Lib.hid (show ∀ (j : Nat) (u : UInt8), l[j]? = some u → cs[3 + j]? = some (Base.u8 u) from fun j u hu => by
    rw [HCS.out]
    unfold recV
    rw [List.getElem?_append_right (by simp)]
    simpa [bv_get, show 3 + j - 3 = j from by omega] using ⟨u, hu, rfl⟩)
  go_wp2
  go_loopw [4, 5] (fun x i wr => ∃ j : Nat, j ≤ 16 ∧ i = .int .i64 (j : Int) ∧ Blk wr w.heap.size cs 27 ∧ wr.ownsRow (w.heap.size + 1) 5 1 x (17 + j) (bv (p17 ++ l.take j)) ∧ Below w.heap.size w wr) (fun _ i _ => 16 - (intOf i).toNat)
  case atStart => exact ⟨0, by omega, rfl, B4.out, by simpa using O4.out, L4.out⟩
  case round =>
    obtain ⟨j, hj, rfl, B, hown, hb⟩ := hrel
    have HB := Lib.hid B
    have HO := Lib.hid hown
    have HL := Lib.hid hb
    have hlt := B.lt
    clear B hown hb B4 O4 L4
    by_cases hj16 : j < 16
    · obtain ⟨u, hu⟩ : ∃ u, l[j]? = some u := ⟨l[j]'(by omega), List.getElem?_eq_getElem (by omega)⟩
      have hc : wr.cell? ⟨w.heap.size, 3 + j, none⟩ = some (Base.u8 u) := (HB.out.cell _).trans (HLB.out j u hu)
      have HU := Lib.hid (take_snoc l j u hu)
      clear hu
      unfold Base.u8 at hc
      go_wp2_with (first | (at_builtin; refine wpList_append_any _ rfl _ _ 46 rfl (w.heap.size + 1) 5 (.int .u8 0) 1 1 Try.underlying46 OwnB.infou8 rfl (by decide) _ _ _ rfl (HO.out.alloc _) _ 1 1 _ rfl (src_one rfl) ?d1 ?d2 ?d3 ?_))
      case d1 => omega
      case d2 => unfold maxLen; omega
      case d3 => simp only [size_alloc]; omega
      intro v' w5 hown2 hgrow
      have eu : bv (p17 ++ l.take j) ++ [Value.int .u8 (u.toNat : Int)] = bv (p17 ++ l.take (j + 1)) := by
        rw [HU.out, ← List.append_assoc, ← bv_snoc]
        rfl
      rw [eu] at hown2
      have HL' := Lib.hid ((HL.out.alloc (by omega) _).grown hgrow (by simp only [size_alloc]; omega) (fun k hk => by have := (HO.out.lt k hk).1; omega))
      have HB' := Lib.hid ((HB.out.alloc _).grownO hgrow (fun k hk => by have := (HO.out.lt k hk).1; omega))
      have HO' := Lib.hid hown2
      clear hown2 hgrow eu
      go_wp2
      go_roundw
      case rel => first | exact ⟨j + 1, by omega, by go_num, HB'.out, by have := HO'.out; rwa [Nat.add_assoc] at this, HL'.out⟩ | ((repeat apply Exists.intro); exact ⟨⟨j + 1, by omega, by go_num, HB'.out, by have := HO'.out; rwa [Nat.add_assoc] at this, HL'.out⟩, rfl⟩)
      case measure => simp [intOf]; omega
    · obtain rfl : j = 16 := by omega
      rw [List.take_of_length_le (by omega)] at HO
      have e33 : p17 ++ l = r33 := by
        rw [HP.out, HR.out]
        unfold rec33
        rw [List.nil_append, Int.toNat_natCast]
        congr 3
        unfold be be byteOf
        simp
      rw [e33] at HO
      clear e33 HP HR
      obtain ⟨a', cap', rfl, hbt⟩ := OwnB.bts_own h33 HO.out
      have HC := Lib.hid (RefSumW.crc_any a' (17 + 16) cap' r33 wr hbt)
      rw [← HCR.out] at HC
      clear hbt HCR
      go_wp2_with fail
      refine HC.out.mono ?_
      rintro e w5 ⟨rfl, rfl⟩
      go_wp2_with fail
      refine (put_any (w.heap.size + 1) _ (17 + 16) 4 cr r33 (by omega) (by omega) (by omega) _ (by omega) HO.out).mono ?_
      rintro e w6 ⟨p6, rfl, ho2, hb2⟩
      go_wp2
      go_ret2
      exact ⟨p6, rfl, own_base ho2 (by omega), HL.out.trans (hb2.mono (by omega))⟩
end Go.Proofs.Ytobblbplanimgaa.Codec
