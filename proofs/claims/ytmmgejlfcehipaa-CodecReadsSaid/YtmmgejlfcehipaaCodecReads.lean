/-
  The walk of CodecReads. Helper text; no statement is proved here.
-/
import Derived.Test.YtmmgejlfcehipaaRefUnpack
import Derived.Test.YtmmgejlfcehipaaRefUnpackSuper
import Derived.Test.YtmmgejlfcehipaaRefUnpackMsg
import Derived.Test.YtmmgejlfcehipaaUnpackMsg
import Derived.Test.YtmmgejlfcehipaaSupIn
import Derived.Test.YtmmgejlfcehipaaScanPlain
import Derived.Test.YtmmgejlfcehipaaAwake4
import Derived.Test.YtmmgejlfcehipaaBulk
set_option linter.unusedVariables false
set_option linter.unusedSimpArgs false
namespace Go.Proofs.Ytmmgejlfcehipaa.Codec
open Go.RowKit Go.Proofs.Ytmmgejlfcehipaa.Base Go.Proofs.Ytmmgejlfcehipaa.Laws Go.Proofs.Ytmmgejlfcehipaa.InvM
theorem cellsu8 : Try.prog.cellsOf 5 = 1 := by kernel_rfl
theorem bytesu8 : Try.prog.bytesOf 5 = 1 := by kernel_rfl
/-- bytes that came in -/
theorem bytes_in {H : Type} {enc : TypeId × Value → H} {base : Nat} {spare : Nat → Bool} {held : Bool} {W : World} {a : Option Addr} {len cap : Nat} (h : Opens.LfOk enc Try.prog W base spare held (.slice 5) (.slice a len cap)) : ∃ l, Bts W a len cap l ∧ len ≤ 140737488351232 := by
  obtain ⟨l, h1, h2, h3, h4, h5⟩ := Opens.bytes_of_lf Try.underlying5 cellsu8 bytesu8 h
  exact ⟨l, ⟨h1, h2, h3, h5⟩, h4⟩
theorem rec_same (l : List UInt8) : ∃ rc : List Value, recOut l = rc ∧ rc.length = 19 ∧ (∀ u ∈ rc, u.oneCell' = true) ∧ ∀ w, (Op.equalIn 10000 26 (.agg rc.toArray) (.agg rc.toArray)).run Try.prog w = .ok true w := by
  have key : ∃ r : Rc, r.Valid ∧ recOut l = r.cells := by
    by_cases h : IsRec l
    · exact ⟨recOf l, recOf_valid h, (out_yes h).1⟩
    · refine ⟨⟨0, 0, 0, List.replicate 16 0⟩, ⟨rfl, by decide, by unfold I64; decide, by unfold I64; decide⟩, ?_⟩
      unfold recOut
      rw [if_neg h]
      rfl
  obtain ⟨r, hv, e⟩ := key
  refine ⟨r.cells, e, Rc.len hv, Rc.one r, fun w => ?_⟩
  rw [Rc.eq hv hv w, decide_eq_true rfl]
theorem sup_same (l : List UInt8) : ∃ rc : List Value, (sOut l).cells = rc ∧ rc.length = 7 ∧ (∀ u ∈ rc, u.oneCell' = true) ∧ ∀ w, (Op.equalIn 10000 52 (.agg rc.toArray) (.agg rc.toArray)).run Try.prog w = .ok true w := by
  have hv : (sOut l).Valid := by
    unfold sOut
    split
    · have h4 : val ((l.drop 4).take 2) < 65536 := val_bd (l.drop 4) 2 65536 (by decide)
      have h6 : val ((l.drop 6).take 2) < 65536 := val_bd (l.drop 6) 2 65536 (by decide)
      have h8 : val ((l.drop 8).take 2) < 65536 := val_bd (l.drop 8) 2 65536 (by decide)
      have h10 : val ((l.drop 10).take 2) < 65536 := val_bd (l.drop 10) 2 65536 (by decide)
      have h12 : val ((l.drop 12).take 4) < 4294967296 := val_bd (l.drop 12) 4 4294967296 (by decide)
      have h16 : val ((l.drop 16).take 8) < 18446744073709551616 := val_bd (l.drop 16) 8 18446744073709551616 (by decide)
      unfold supOf Su.Valid I64
      dsimp only
      refine ⟨?_, ?_, ?_, ?_, h12, h16, ?_⟩
      · exact ⟨by omega, by omega⟩
      · exact ⟨by omega, by omega⟩
      · exact ⟨by omega, by omega⟩
      · exact ⟨by omega, by omega⟩
      · rw [IntKind.wrap_i64]
        exact ⟨by omega, by omega⟩
    · unfold zSu Su.Valid I64
      decide
  refine ⟨_, rfl, rfl, fun u hu => ?_, fun w => ?_⟩
  · simp [Su.cells] at hu
    rcases hu with rfl | rfl | rfl | rfl | rfl | rfl | rfl <;> rfl
  · rw [Su.eq hv hv w, decide_eq_true rfl]
theorem unpackmsg_mc (a : Option Addr) (len cap : Nat) (l : List UInt8) (w : World) (h : Bts w a len cap l) (hbig : len ≤ 140737488355328) :
    Calls Try.prog 21 #[.slice a len cap] w fun x w' => ∃ mc ba bn bc, x = .returned (.tuple #[.agg mc.toArray, .int .i64 (mErr l)]) ∧ mc = msgV (mOut l).e (mOut l).s (mOut l).a (.slice ba bn bc) ∧ Bts w' ba bn bc (mOut l).l ∧ Below w.heap.size w w' :=
  (unpackmsg_any a len cap l w h hbig).mono fun x w' ⟨ba, bn, bc, h1, h2, h3⟩ => ⟨_, ba, bn, bc, h1, rfl, h2, h3⟩
theorem runpackmsg_mc (a : Option Addr) (len cap : Nat) (l : List UInt8) (w : World) (h : Bts w a len cap l) (hbig : len ≤ 140737488355328) :
    Calls Try.prog 28 #[.slice a len cap] w fun x w' => ∃ mc ba bn bc, x = .returned (.tuple #[.agg mc.toArray, .int .i64 (mErr l)]) ∧ mc = msgV (mOut l).e (mOut l).s (mOut l).a (.slice ba bn bc) ∧ Bts w' ba bn bc (mOut l).l ∧ Below w.heap.size w w' :=
  (runpackmsg_any a len cap l w h hbig).mono fun x w' ⟨ba, bn, bc, h1, h2, h3⟩ => ⟨_, ba, bn, bc, h1, rfl, h2, h3⟩
set_option maxRecDepth 8000 in
set_option maxHeartbeats 2000000 in
theorem reads_walk (a : Option Addr) (len cap : Nat) (l : List UInt8) (w : World) (ha : Bts w a len cap l) (hs : len ≤ 140737488351232) :
    Calls Try.prog 9 #[.slice a len cap] w fun e w' => e = .returned (.bool true) ∧ Below w.heap.size w w' := by
  have HA := Lib.hid ha
  have HW := Lib.hid awake_any
  have hcap := ha.2.2.1
  have hlc := ha.2.1
  have hal := ha.1
  unfold maxLen at hcap
  have hmade := World.ownsRow_made (e := 5) (size := 1) (base := w.heap.size) w #[] 0 (Nat.le_refl _) (Nat.zero_le _) rfl
  have M1 := Lib.hid hmade
  have SA := Lib.hid (OwnB.src_bts (bts_alloc ha (.cells #[] 5)))
  have U1 := Lib.hid (fun a' cap' w' (h : Bts w' a' len cap' l) => unpack_any a' len cap' l w' h)
  have U2 := Lib.hid (fun a' cap' w' (h : Bts w' a' len cap' l) => runpack_any a' len cap' l w' h)
  have U3 := Lib.hid (fun a' cap' w' (h : Bts w' a' len cap' l) => unpacksuper_any a' len cap' l w' h)
  have U4 := Lib.hid (fun a' cap' w' (h : Bts w' a' len cap' l) => runpacksuper_any a' len cap' l w' h)
  have U5 := Lib.hid (fun a' cap' w' (h : Bts w' a' len cap' l) => unpackmsg_mc a' len cap' l w' h (by omega))
  have U6 := Lib.hid (fun a' cap' w' (h : Bts w' a' len cap' l) => runpackmsg_mc a' len cap' l w' h (by omega))
  have ZR := Lib.hid (fun w' => blk_at (w := w') (g := w'.heap.size) (cs := zrec) (t := 26) (arr := #[.int .i64 0, .int .u64 0, .int .i64 0, .int .u8 0, .int .u8 0, .int .u8 0, .int .u8 0, .int .u8 0, .int .u8 0, .int .u8 0, .int .u8 0, .int .u8 0, .int .u8 0, .int .u8 0, .int .u8 0, .int .u8 0, .int .u8 0, .int .u8 0, .int .u8 0]) rfl rfl)
  have ZS := Lib.hid (fun w' => blk_at (w := w') (g := w'.heap.size) (cs := zsup) (t := 52) (arr := #[.int .i64 0, .int .i64 0, .int .i64 0, .int .i64 0, .int .u32 0, .int .u64 0, .int .i64 0]) rfl rfl)
  have ZM := Lib.hid (fun w' => blk_at (w := w') (g := w'.heap.size) (cs := zmsg) (t := 43) (arr := #[.int .u32 0, .int .u32 0, .int .u32 0, .slice none 0 0]) rfl rfl)
  obtain ⟨rc, e1, r19, rone, req⟩ := rec_same l
  rw [e1] at U1 U2
  obtain ⟨re, e2⟩ : ∃ re, re = recErr l := ⟨_, rfl⟩
  rw [← e2] at U1 U2
  obtain ⟨sc, e3, s7, sone, seq⟩ := sup_same l
  rw [e3] at U3 U4
  obtain ⟨se, e4⟩ : ∃ se, se = sErr l := ⟨_, rfl⟩
  rw [← e4] at U3 U4
  obtain ⟨mo, e5⟩ : ∃ mo, mo = mOut l := ⟨_, rfl⟩
  rw [← e5] at U5 U6
  obtain ⟨me, e6⟩ : ∃ me, me = mErr l := ⟨_, rfl⟩
  rw [← e6] at U5 U6
  have EQ1 := Lib.hid req
  have EQ2 := Lib.hid seq
  clear ha hmade e1 e2 e3 e4 e5 e6 req seq
  go_enter Try.func9, Try.ntmps9
  go_wp2_with (first | (at_builtin; refine wpList_append_any _ rfl _ _ 27 rfl w.heap.size 5 (.int .u8 0) 1 1 Try.underlying27 OwnB.infou8 rfl (by decide) _ 0 [] rfl M1.out a len cap (bv l) rfl SA.out ?a1 ?a2 ?a3 ?_))
  case a1 => omega
  case a2 => unfold maxLen; omega
  case a3 => simp only [size_alloc]; omega
  intro v1 w1 ho1 hg1
  have L1 := Lib.hid (((Below.refl w.heap.size w).alloc (Nat.le_refl _) _).grown hg1 (by simp only [size_alloc]; omega) (fun q hq => (M1.out.lt q hq).1))
  have hs1 := L1.out.size
  have ho1' : w1.ownsRow w.heap.size 5 1 v1 len (bv l) := by simpa using ho1
  obtain ⟨oa, ocap, rfl, hot⟩ := OwnB.bts_own hal ho1'
  have O1 := Lib.hid hot
  have A1 := Lib.hid (HA.out.below L1.out (Nat.le_refl _))
  have C1 := Lib.hid (U1.out oa ocap w1 hot)
  clear ho1 hg1 ho1' hot M1 SA HA
  go_wp2_with fail
  refine C1.out.mono ?_
  rintro e w2 ⟨rfl, hb⟩
  have L2 := Lib.hid (L1.out.trans (hb.mono hs1))
  have hs2 := L2.out.size
  have O2 := Lib.hid (O1.out.below hb (Nat.le_refl _))
  have A2 := Lib.hid (A1.out.below hb (Nat.le_refl _))
  clear hb C1 O1 A1 L1 
  go_wp2_with (first | (refine wpList_store_blk rfl 26 _ _ rfl w2.heap.size 0 19 rfl 26 zrec rc rfl (ZR.out w2) (by kernel_rfl) r19 (by decide) rone ?_; intro w3 z3 g3; rw [put_all _ _ (by rw [r19]; rfl)] at z3; have B3 := Lib.hid (show Below w2.heap.size w2 w3 from below_grown ((Below.refl w2.heap.size w2).alloc (Nat.le_refl _) _) g3 (by simp only [size_alloc]; omega) (Nat.le_refl _)); have R1_3 := Lib.hid z3; clear z3 g3))
  have L3 := Lib.hid (L2.out.trans (B3.out.mono hs2))
  have hs3 := L3.out.size
  have O3 := Lib.hid (O2.out.below B3.out (Nat.le_refl _))
  have A3 := Lib.hid (A2.out.below B3.out (Nat.le_refl _))
  obtain ⟨g1, hg1⟩ : ∃ g, g = w2.heap.size := ⟨_, rfl⟩
  rw [← hg1] at R1_3 ⊢
  clear hg1
  clear B3 O2 A2 L2 
  have C2 := Lib.hid (U2.out a cap w3 A3.out)
  clear U2
  refine C2.out.mono ?_
  rintro e w4 ⟨rfl, hb⟩
  have L4 := Lib.hid (L3.out.trans (hb.mono hs3))
  have hs4 := L4.out.size
  have O4 := Lib.hid (O3.out.below hb (Nat.le_refl _))
  have A4 := Lib.hid (A3.out.below hb (Nat.le_refl _))
  have R1_4 := Lib.hid (R1_3.out.below hb R1_3.out.lt)
  clear hb C2 O3 A3 L3 R1_3
  go_wp2_with (first | (refine wpList_store_blk rfl 26 _ _ rfl w4.heap.size 0 19 rfl 26 zrec rc rfl (ZR.out w4) (by kernel_rfl) r19 (by decide) rone ?_; intro w5 z5 g5; rw [put_all _ _ (by rw [r19]; rfl)] at z5; have B5 := Lib.hid (show Below w4.heap.size w4 w5 from below_grown ((Below.refl w4.heap.size w4).alloc (Nat.le_refl _) _) g5 (by simp only [size_alloc]; omega) (Nat.le_refl _)); have R2_5 := Lib.hid z5; clear z5 g5))
  have L5 := Lib.hid (L4.out.trans (B5.out.mono hs4))
  have hs5 := L5.out.size
  have O5 := Lib.hid (O4.out.below B5.out (Nat.le_refl _))
  have A5 := Lib.hid (A4.out.below B5.out (Nat.le_refl _))
  have R1_5 := Lib.hid (R1_4.out.below B5.out R1_4.out.lt)
  obtain ⟨g2, hg2⟩ : ∃ g, g = w4.heap.size := ⟨_, rfl⟩
  rw [← hg2] at R2_5 ⊢
  clear hg2
  clear B5 O4 A4 L4 R1_4
  have C3 := Lib.hid (U3.out oa ocap w5 O5.out)
  clear U3
  refine C3.out.mono ?_
  rintro e w6 ⟨rfl, hb⟩
  have L6 := Lib.hid (L5.out.trans (hb.mono hs5))
  have hs6 := L6.out.size
  have O6 := Lib.hid (O5.out.below hb (Nat.le_refl _))
  have A6 := Lib.hid (A5.out.below hb (Nat.le_refl _))
  have R1_6 := Lib.hid (R1_5.out.below hb R1_5.out.lt)
  have R2_6 := Lib.hid (R2_5.out.below hb R2_5.out.lt)
  clear hb C3 O5 A5 L5 R1_5 R2_5
  go_wp2_with (first | (refine wpList_store_blk rfl 52 _ _ rfl w6.heap.size 0 7 rfl 52 zsup sc rfl (ZS.out w6) (by kernel_rfl) s7 (by decide) sone ?_; intro w7 z7 g7; rw [put_all _ _ (by rw [s7]; rfl)] at z7; have B7 := Lib.hid (show Below w6.heap.size w6 w7 from below_grown ((Below.refl w6.heap.size w6).alloc (Nat.le_refl _) _) g7 (by simp only [size_alloc]; omega) (Nat.le_refl _)); have R3_7 := Lib.hid z7; clear z7 g7))
  have L7 := Lib.hid (L6.out.trans (B7.out.mono hs6))
  have hs7 := L7.out.size
  have O7 := Lib.hid (O6.out.below B7.out (Nat.le_refl _))
  have A7 := Lib.hid (A6.out.below B7.out (Nat.le_refl _))
  have R1_7 := Lib.hid (R1_6.out.below B7.out R1_6.out.lt)
  have R2_7 := Lib.hid (R2_6.out.below B7.out R2_6.out.lt)
  obtain ⟨g3, hg3⟩ : ∃ g, g = w6.heap.size := ⟨_, rfl⟩
  rw [← hg3] at R3_7 ⊢
  clear hg3
  clear B7 O6 A6 L6 R1_6 R2_6
  have C4 := Lib.hid (U4.out a cap w7 A7.out)
  clear U4
  refine C4.out.mono ?_
  rintro e w8 ⟨rfl, hb⟩
  have L8 := Lib.hid (L7.out.trans (hb.mono hs7))
  have hs8 := L8.out.size
  have O8 := Lib.hid (O7.out.below hb (Nat.le_refl _))
  have A8 := Lib.hid (A7.out.below hb (Nat.le_refl _))
  have R1_8 := Lib.hid (R1_7.out.below hb R1_7.out.lt)
  have R2_8 := Lib.hid (R2_7.out.below hb R2_7.out.lt)
  have R3_8 := Lib.hid (R3_7.out.below hb R3_7.out.lt)
  clear hb C4 O7 A7 L7 R1_7 R2_7 R3_7
  go_wp2_with (first | (refine wpList_store_blk rfl 52 _ _ rfl w8.heap.size 0 7 rfl 52 zsup sc rfl (ZS.out w8) (by kernel_rfl) s7 (by decide) sone ?_; intro w9 z9 g9; rw [put_all _ _ (by rw [s7]; rfl)] at z9; have B9 := Lib.hid (show Below w8.heap.size w8 w9 from below_grown ((Below.refl w8.heap.size w8).alloc (Nat.le_refl _) _) g9 (by simp only [size_alloc]; omega) (Nat.le_refl _)); have R4_9 := Lib.hid z9; clear z9 g9))
  have L9 := Lib.hid (L8.out.trans (B9.out.mono hs8))
  have hs9 := L9.out.size
  have O9 := Lib.hid (O8.out.below B9.out (Nat.le_refl _))
  have A9 := Lib.hid (A8.out.below B9.out (Nat.le_refl _))
  have R1_9 := Lib.hid (R1_8.out.below B9.out R1_8.out.lt)
  have R2_9 := Lib.hid (R2_8.out.below B9.out R2_8.out.lt)
  have R3_9 := Lib.hid (R3_8.out.below B9.out R3_8.out.lt)
  obtain ⟨g4, hg4⟩ : ∃ g, g = w8.heap.size := ⟨_, rfl⟩
  rw [← hg4] at R4_9 ⊢
  clear hg4
  clear B9 O8 A8 L8 R1_8 R2_8 R3_8
  have C5 := Lib.hid (U5.out oa ocap w9 O9.out)
  clear U5
  refine C5.out.mono ?_
  rintro e w10 ⟨mc, ma, mn, mcap, rfl, mdef, mbt, hb⟩
  have m4 : mc.length = 4 := by rw [mdef]; rfl
  have mone : ∀ u ∈ mc, u.oneCell' = true := by rw [mdef]; intro u hu; simp [msgV] at hu; rcases hu with rfl | rfl | rfl | rfl <;> rfl
  have MDEF := Lib.hid mdef
  have MBT10 := Lib.hid mbt
  clear mdef mbt
  have L10 := Lib.hid (L9.out.trans (hb.mono hs9))
  have hs10 := L10.out.size
  have O10 := Lib.hid (O9.out.below hb (Nat.le_refl _))
  have A10 := Lib.hid (A9.out.below hb (Nat.le_refl _))
  have R1_10 := Lib.hid (R1_9.out.below hb R1_9.out.lt)
  have R2_10 := Lib.hid (R2_9.out.below hb R2_9.out.lt)
  have R3_10 := Lib.hid (R3_9.out.below hb R3_9.out.lt)
  have R4_10 := Lib.hid (R4_9.out.below hb R4_9.out.lt)
  clear hb C5 O9 A9 L9 R1_9 R2_9 R3_9 R4_9
  go_wp2_with (first | (refine wpList_store_blk rfl 43 _ _ rfl w10.heap.size 0 4 rfl 43 zmsg mc rfl (ZM.out w10) (by kernel_rfl) m4 (by decide) mone ?_; intro w11 z11 g11; rw [put_all _ _ (by rw [m4]; rfl)] at z11; have B11 := Lib.hid (show Below w10.heap.size w10 w11 from below_grown ((Below.refl w10.heap.size w10).alloc (Nat.le_refl _) _) g11 (by simp only [size_alloc]; omega) (Nat.le_refl _)); have R5_11 := Lib.hid z11; clear z11 g11))
  have L11 := Lib.hid (L10.out.trans (B11.out.mono hs10))
  have hs11 := L11.out.size
  have O11 := Lib.hid (O10.out.below B11.out (Nat.le_refl _))
  have A11 := Lib.hid (A10.out.below B11.out (Nat.le_refl _))
  have R1_11 := Lib.hid (R1_10.out.below B11.out R1_10.out.lt)
  have R2_11 := Lib.hid (R2_10.out.below B11.out R2_10.out.lt)
  have R3_11 := Lib.hid (R3_10.out.below B11.out R3_10.out.lt)
  have R4_11 := Lib.hid (R4_10.out.below B11.out R4_10.out.lt)
  have MBT11 := Lib.hid (MBT10.out.below B11.out (Nat.le_refl _))
  obtain ⟨g5, hg5⟩ : ∃ g, g = w10.heap.size := ⟨_, rfl⟩
  rw [← hg5] at R5_11 ⊢
  clear hg5
  clear B11 O10 A10 L10 R1_10 R2_10 R3_10 R4_10
  have C6 := Lib.hid (U6.out a cap w11 A11.out)
  clear U6
  refine C6.out.mono ?_
  rintro e w12 ⟨nc, na, nn, ncap, rfl, ndef, nbt, hb⟩
  have n4 : nc.length = 4 := by rw [ndef]; rfl
  have none : ∀ u ∈ nc, u.oneCell' = true := by rw [ndef]; intro u hu; simp [msgV] at hu; rcases hu with rfl | rfl | rfl | rfl <;> rfl
  have NDEF := Lib.hid ndef
  have NBT12 := Lib.hid nbt
  clear ndef nbt
  have L12 := Lib.hid (L11.out.trans (hb.mono hs11))
  have hs12 := L12.out.size
  have O12 := Lib.hid (O11.out.below hb (Nat.le_refl _))
  have A12 := Lib.hid (A11.out.below hb (Nat.le_refl _))
  have R1_12 := Lib.hid (R1_11.out.below hb R1_11.out.lt)
  have R2_12 := Lib.hid (R2_11.out.below hb R2_11.out.lt)
  have R3_12 := Lib.hid (R3_11.out.below hb R3_11.out.lt)
  have R4_12 := Lib.hid (R4_11.out.below hb R4_11.out.lt)
  have R5_12 := Lib.hid (R5_11.out.below hb R5_11.out.lt)
  have MBT12 := Lib.hid (MBT11.out.below hb (Nat.le_refl _))
  clear hb C6 O11 A11 L11 R1_11 R2_11 R3_11 R4_11 R5_11
  go_wp2_with (first | (refine wpList_store_blk rfl 43 _ _ rfl w12.heap.size 0 4 rfl 43 zmsg nc rfl (ZM.out w12) (by kernel_rfl) n4 (by decide) none ?_; intro w13 z13 g13; rw [put_all _ _ (by rw [n4]; rfl)] at z13; have B13 := Lib.hid (show Below w12.heap.size w12 w13 from below_grown ((Below.refl w12.heap.size w12).alloc (Nat.le_refl _) _) g13 (by simp only [size_alloc]; omega) (Nat.le_refl _)); have R6_13 := Lib.hid z13; clear z13 g13))
  have L13 := Lib.hid (L12.out.trans (B13.out.mono hs12))
  have hs13 := L13.out.size
  have O13 := Lib.hid (O12.out.below B13.out (Nat.le_refl _))
  have A13 := Lib.hid (A12.out.below B13.out (Nat.le_refl _))
  have R1_13 := Lib.hid (R1_12.out.below B13.out R1_12.out.lt)
  have R2_13 := Lib.hid (R2_12.out.below B13.out R2_12.out.lt)
  have R3_13 := Lib.hid (R3_12.out.below B13.out R3_12.out.lt)
  have R4_13 := Lib.hid (R4_12.out.below B13.out R4_12.out.lt)
  have R5_13 := Lib.hid (R5_12.out.below B13.out R5_12.out.lt)
  have MBT13 := Lib.hid (MBT12.out.below B13.out (Nat.le_refl _))
  have NBT13 := Lib.hid (NBT12.out.below B13.out (Nat.le_refl _))
  obtain ⟨g6, hg6⟩ : ∃ g, g = w12.heap.size := ⟨_, rfl⟩
  rw [← hg6] at R6_13 ⊢
  clear hg6
  clear B13 O12 A12 L12 R1_12 R2_12 R3_12 R4_12 R5_12
  refine (HW.out _).mono ?_
  rintro e w14 ⟨rfl, hb⟩
  have L14 := Lib.hid (L13.out.trans (hb.mono hs13))
  have hs14 := L14.out.size
  have O14 := Lib.hid (O13.out.below hb (Nat.le_refl _))
  have A14 := Lib.hid (A13.out.below hb (Nat.le_refl _))
  have R1_14 := Lib.hid (R1_13.out.below hb R1_13.out.lt)
  have R2_14 := Lib.hid (R2_13.out.below hb R2_13.out.lt)
  have R3_14 := Lib.hid (R3_13.out.below hb R3_13.out.lt)
  have R4_14 := Lib.hid (R4_13.out.below hb R4_13.out.lt)
  have R5_14 := Lib.hid (R5_13.out.below hb R5_13.out.lt)
  have R6_14 := Lib.hid (R6_13.out.below hb R6_13.out.lt)
  have MBT14 := Lib.hid (MBT13.out.below hb (Nat.le_refl _))
  have NBT14 := Lib.hid (NBT13.out.below hb (Nat.le_refl _))
  clear hb L13 O13 A13 MBT13 NBT13 R1_13 R2_13 R3_13 R4_13 R5_13 R6_13
  have SM := Lib.hid (samemsg_any mo.e mo.s mo.a ma mn mcap mo.l mo.e mo.s mo.a na nn ncap mo.l w14 MBT14.out NBT14.out)
  rw [decide_eq_true ⟨rfl, rfl, rfl, rfl⟩] at SM
  have em : (#[.int .u32 (mo.e : Int), .int .u32 (mo.s : Int), .int .u32 (mo.a : Int), .slice ma mn mcap] : Array Value) = mc.toArray := by rw [MDEF.out]; rfl
  have en : (#[.int .u32 (mo.e : Int), .int .u32 (mo.s : Int), .int .u32 (mo.a : Int), .slice na nn ncap] : Array Value) = nc.toArray := by rw [NDEF.out]; rfl
  rw [em, en] at SM
  clear em en
  go_wp2_with (first | (refine wpList_load_g rfl 26 _ rfl g1 19 rfl 26 rc _ R1_14.out Try.underlying26 rfl (by kernel_rfl) r19 ?_) | (refine wpList_load_g rfl 26 _ rfl g2 19 rfl 26 rc _ R2_14.out Try.underlying26 rfl (by kernel_rfl) r19 ?_) | (refine wpList_load_g rfl 52 _ rfl g3 7 rfl 52 sc _ R3_14.out Try.underlying52 rfl (by kernel_rfl) s7 ?_) | (refine wpList_load_g rfl 52 _ rfl g4 7 rfl 52 sc _ R4_14.out Try.underlying52 rfl (by kernel_rfl) s7 ?_) | (refine wpList_load_g rfl 43 _ rfl g5 4 rfl 43 mc _ R5_14.out Try.underlying43 rfl (by kernel_rfl) m4 ?_) | (refine wpList_load_g rfl 43 _ rfl g6 4 rfl 43 nc _ R6_14.out Try.underlying43 rfl (by kernel_rfl) n4 ?_) | (refine wpList_value_g rfl (.bool true) (exec_eql rfl rfl rfl (by kernel_rfl) (EQ1.out _)) ?_) | (refine wpList_value_g rfl (.bool true) (exec_eql rfl rfl rfl (by kernel_rfl) (EQ2.out _)) ?_))
  refine SM.out.mono ?_
  rintro e w15 ⟨rfl, hb⟩
  have L15 := Lib.hid (L14.out.trans (hb.mono hs14))
  have HS := Lib.hid (Same.same_any oa len ocap l a len cap l w15 (O14.out.below hb (Nat.le_refl _)) (A14.out.below hb (Nat.le_refl _)))
  rw [decide_eq_true rfl] at HS
  clear hb SM
  go_wp2_with fail
  refine HS.out.mono ?_
  rintro e w16 ⟨rfl, nd, rfl⟩
  go_wp2_with fail
  go_ret
  exact ⟨rfl, below_drewN L15.out nd⟩
section
variable {H : Type} {enc : TypeId × Value → H} {base : Nat} {spare : Nat → Bool} {held : Bool} {W : World}
theorem reads_in (a : Option Addr) (n ca : Nat) (lf : Opens.LfOk enc Try.prog W base spare held (.slice 5) (.slice a n ca)) :
    Calls Try.prog 9 #[.slice a n ca] W fun e w' => e = .returned (.bool true) ∧ Below W.heap.size W w' := by
  obtain ⟨l, ha, hs⟩ := bytes_in lf
  exact reads_walk a n ca l W ha hs
end
end Go.Proofs.Ytmmgejlfcehipaa.Codec
