/-
  PackMsg of the reference, sameMsg by contract. Helper text; no statement is proved here.
-/
import Derived.Test.YtmmgejlfcehipaaPackMsg
import Derived.Test.YtmmgejlfcehipaaRefPack
import Derived.Test.YtmmgejlfcehipaaSame
set_option linter.unusedVariables false
set_option linter.unusedSimpArgs false
namespace Go.Proofs.Ytmmgejlfcehipaa.Codec
open Go.RowKit Go.Proofs.Ytmmgejlfcehipaa.Base Go.Proofs.Ytmmgejlfcehipaa.Laws Go.Proofs.Ytmmgejlfcehipaa.Inv
set_option maxHeartbeats 1000000 in
theorem rpackmsg_no (e s a : Nat) (b : Option Addr) (n cb : Nat) (hn : 64 < n) (w : World) : Calls Try.prog 20 #[.agg #[.int .u32 (e : Int), .int .u32 (s : Int), .int .u32 (a : Int), .slice b n cb]] w fun x w' => x = .returned (.tuple #[.slice none 0 0, .int .i64 2]) ∧ Below w.heap.size w w' := by
  have hn' : (64 : Int) < n := by omega
  go_enter Try.func20, Try.ntmps20
  go_wp2
  go_ret2
  exact ⟨rfl, (Below.refl _ _).alloc (Nat.le_refl _) _⟩
set_option maxHeartbeats 2000000 in
theorem rpackmsg_yes (e s a : Nat) (he : e < 4294967296) (hs : s < 4294967296) (ha : a < 4294967296) (b : Option Addr) (n cb : Nat) (l : List UInt8) (w : World) (h : Bts w b n cb l) (hn : n ≤ 64) :
    Calls Try.prog 20 #[.agg #[.int .u32 (e : Int), .int .u32 (s : Int), .int .u32 (a : Int), .slice b n cb]] w fun x w' => ∃ p, x = .returned (.tuple #[p, .int .i64 0]) ∧ w'.ownsRow w.heap.size 5 1 p (17 + n) (bv (msgAll e s a l)) ∧ Below w.heap.size w w' := by
  have hl := h.1
  have hlc := h.2.1
  have hm := h.2.2.1
  unfold maxLen at hm
  have HB := Lib.hid h
  obtain ⟨cs, hcs⟩ : ∃ cs, cs = msgV e s a (.slice b n cb) := ⟨_, rfl⟩
  have HCS := Lib.hid hcs
  have hnn : (n : Int) ≤ 64 := by omega
  have B0 := Lib.hid (blk_at (w := w) (g := w.heap.size) (cs := cs) (t := 43) (arr := #[.int .u32 (e : Int), .int .u32 (s : Int), .int .u32 (a : Int), .slice b n cb]) rfl (by rw [hcs]; rfl))
  have L0 := Lib.hid (show Below w.heap.size w (w.alloc (.cells #[.int .u32 (e : Int), .int .u32 (s : Int), .int .u32 (a : Int), .slice b n cb] 43)) from (Below.refl _ _).alloc (Nat.le_refl _) _)
  have c0 := (B0.out.alloc (.cells #[] 5)).cell 0
  have c3 := B0.out.cell 3
  rw [HCS.out] at c0 c3
  change _ = some (Value.int .u32 (e : Int)) at c0
  change _ = some (Value.slice b n cb) at c3
  have m1 := World.ownsRow_made (e := 5) (size := 1) (base := w.heap.size + 1) (w.alloc (.cells #[.int .u32 (e : Int), .int .u32 (s : Int), .int .u32 (a : Int), .slice b n cb] 43)) #[] 0 (by simp only [size_alloc]; omega) (Nat.zero_le _) rfl
  simp only [size_alloc] at m1
  have M1 := Lib.hid m1
  clear m1
  have hw0 : IntKind.u64.wrap (e : Int) = (e : Int) := by rw [IntKind.wrap_u64]; omega
  have hws : IntKind.u64.wrap (s : Int) = (s : Int) := by rw [IntKind.wrap_u64]; omega
  have hwa : IntKind.u64.wrap (a : Int) = (a : Int) := by rw [IntKind.wrap_u64]; omega
  have hwn : IntKind.u64.wrap (n : Int) = (n : Int) := by rw [IntKind.wrap_u64]; omega
  clear h hcs
  go_enter Try.func20, Try.ntmps20
  go_wp2_with fail
  refine (put_any (w.heap.size + 1) _ 0 4 e [] (by omega) (by omega) (by omega) _ (by simp only [size_alloc]; omega) M1.out).mono ?_
  rintro x w2 ⟨p2, rfl, ho2, hb2⟩
  have B2 := Lib.hid ((B0.out.alloc (.cells #[] 5)).below hb2 (by omega))
  have L2 := Lib.hid ((L0.out.alloc (by simp only [size_alloc]; omega) (.cells #[] 5)).trans (hb2.mono (by omega)))
  have O2 := Lib.hid ho2
  clear ho2 hb2 c0 c3 B0 L0 M1
  have c1 := B2.out.cell 1
  rw [HCS.out] at c1
  change _ = some (Value.int .u32 (s : Int)) at c1
  have hlt2 := B2.out.lt
  go_wp2_with fail
  refine (put_any (w.heap.size + 1) _ (0 + 4) 4 s ([] ++ be 4 e) (by omega) (by omega) (by omega) _ (by omega) O2.out).mono ?_
  rintro x w3 ⟨p3, rfl, ho2, hb2⟩
  have B3 := Lib.hid (B2.out.below hb2 (by omega))
  have L3 := Lib.hid (L2.out.trans (hb2.mono (by omega)))
  have O3 := Lib.hid ho2
  clear ho2 hb2 c1 B2 L2 O2
  have c2 := B3.out.cell 2
  rw [HCS.out] at c2
  change _ = some (Value.int .u32 (a : Int)) at c2
  have hlt3 := B3.out.lt
  go_wp2_with fail
  refine (put_any (w.heap.size + 1) _ (0 + 4 + 4) 4 a ([] ++ be 4 e ++ be 4 s) (by omega) (by omega) (by omega) _ (by omega) O3.out).mono ?_
  rintro x w4 ⟨p4, rfl, ho2, hb2⟩
  have B4 := Lib.hid (B3.out.below hb2 (by omega))
  have L4 := Lib.hid (L3.out.trans (hb2.mono (by omega)))
  have O4 := Lib.hid ho2
  clear ho2 hb2 c2 B3 L3 O3
  have c3 := B4.out.cell 3
  rw [HCS.out] at c3
  change _ = some (Value.slice b n cb) at c3
  have hlt4 := B4.out.lt
  go_wp2_with fail
  refine (put_any (w.heap.size + 1) _ (0 + 4 + 4 + 4) 1 n ([] ++ be 4 e ++ be 4 s ++ be 4 a) (by omega) (by omega) (by omega) _ (by omega) O4.out).mono ?_
  rintro x w5 ⟨p5, rfl, ho2, hb2⟩
  have B5 := Lib.hid (B4.out.below hb2 (by omega))
  have L5 := Lib.hid (L4.out.trans (hb2.mono (by omega)))
  have O5 := Lib.hid ho2
  clear ho2 hb2 c3 B4 L4 O4
  have c3 := B5.out.cell 3
  rw [HCS.out] at c3
  change _ = some (Value.slice b n cb) at c3
  have hlt5 := B5.out.lt
  have hs5 := L5.out.size
  have S5 := Lib.hid (OwnB.src_bts (HB.out.below L5.out (Nat.le_refl _)))
  go_wp2_with (first | (at_builtin; refine wpList_append_any _ rfl _ _ 27 rfl (w.heap.size + 1) 5 (.int .u8 0) 1 1 Try.underlying27 OwnB.infou8 rfl (by decide) _ (0 + 4 + 4 + 4 + 1) _ rfl O5.out b n cb (bv l) rfl S5.out ?c1 ?c2 ?c3 ?_))
  case c1 => omega
  case c2 => unfold maxLen; omega
  case c3 => omega
  intro v6 w6 ho6 hg6
  rw [← bv_append] at ho6
  have hbn : be 1 n = [UInt8.ofNat n] := by
    unfold be be byteOf
    simp
  have ho7 : w6.ownsRow (w.heap.size + 1) 5 1 v6 (13 + n) (bv (msgB e s a l)) := by
    unfold msgB
    rw [hl]
    simpa [List.append_assoc, hbn] using ho6
  have L6 := Lib.hid (L5.out.grown hg6 hs5 (fun q hq => by have := (O5.out.lt q hq).1; omega))
  have hs6 := L6.out.size
  have hlt6 : w.heap.size + 1 ≤ w6.heap.size := by have := hg6.size; omega
  have hbl := msgB_len e s a l
  obtain ⟨va, vcap, rfl, hbt⟩ := OwnB.bts_own (by rw [hbl, hl]) ho7
  have HC := Lib.hid (RefSumW.crc_any va (13 + n) vcap (msgB e s a l) w6 hbt)
  have hcr := Crc.crc_lt (msgB e s a l)
  have O6 := Lib.hid ho7
  clear ho6 ho7 hg6 O5 S5 B5 L5 c3 hbt hbn
  go_wp2_with fail
  refine HC.out.mono ?_
  rintro x w7 ⟨rfl, rfl⟩
  have hwc : IntKind.u64.wrap ((Crc.crc (msgB e s a l) : Nat) : Int) = ((Crc.crc (msgB e s a l) : Nat) : Int) := by rw [IntKind.wrap_u64]; omega
  go_wp2_with fail
  refine (put_any (w.heap.size + 1) _ (13 + n) 4 (Crc.crc (msgB e s a l)) (msgB e s a l) (by omega) (by omega) (by omega) _ (by omega) O6.out).mono ?_
  rintro x w8 ⟨p8, rfl, ho8, hb8⟩
  go_wp2
  go_ret2
  exact ⟨p8, rfl, by rw [show 17 + n = 13 + n + 4 from by omega]; exact own_base ho8 (by omega), L6.out.trans (hb8.mono (by omega))⟩
end Go.Proofs.Ytmmgejlfcehipaa.Codec
