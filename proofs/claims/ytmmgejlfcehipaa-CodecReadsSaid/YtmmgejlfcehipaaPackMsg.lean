/-
  PackMsg of the codec by contract. Helper text; no statement is proved here.
-/
import Derived.Test.YtmmgejlfcehipaaUnpack
import Derived.Deep.Cut
set_option linter.unusedVariables false
set_option linter.unusedSimpArgs false
namespace Go.Proofs.Ytmmgejlfcehipaa.Codec
open Go.RowKit Go.Proofs.Ytmmgejlfcehipaa.Base Go.Proofs.Ytmmgejlfcehipaa.Laws Go.Proofs.Ytmmgejlfcehipaa.Inv
/-- a message's cells -/
def msgV (e s a : Nat) (v : Value) : List Value := [.int .u32 (e : Int), .int .u32 (s : Int), .int .u32 (a : Int), v]
/-- a message's bytes ahead of the sum, and with it -/
def msgB (e s a : Nat) (l : List UInt8) : List UInt8 := be 4 e ++ be 4 s ++ be 4 a ++ [UInt8.ofNat l.length] ++ l
def msgAll (e s a : Nat) (l : List UInt8) : List UInt8 := msgB e s a l ++ be 4 (Crc.crc (msgB e s a l))
theorem msgB_len (e s a : Nat) (l : List UInt8) : (msgB e s a l).length = 13 + l.length := by simp [msgB, be_len]; omega
theorem msgAll_len (e s a : Nat) (l : List UInt8) : (msgAll e s a l).length = 17 + l.length := by simp [msgAll, msgB_len, be_len]; omega
theorem msg_laid (E S A : List UInt8) (x : UInt8) (n : Nat) (hE : E.length = 4) (hS : S.length = 4) (hA : A.length = 4) : (put (put (put (OwnB.zs (17 + n)) 0 E) 4 S) 8 A).set 12 x = (E ++ S ++ A ++ [x]) ++ OwnB.zs (4 + n) := by
  have e0 : OwnB.zs (17 + n) = [] ++ (OwnB.zs 4 ++ (OwnB.zs 4 ++ (OwnB.zs 4 ++ OwnB.zs (5 + n)))) := by
    rw [List.nil_append, ← zs_add 4 (5 + n), ← zs_add 4 (4 + (5 + n)), ← zs_add 4 (4 + (4 + (5 + n)))]
    congr 1
    omega
  rw [e0]
  have h1 := put_next ([] : List UInt8) (OwnB.zs 4) (OwnB.zs 4 ++ (OwnB.zs 4 ++ OwnB.zs (5 + n))) E (by rw [zs_len, hE])
  rw [show ([] : List UInt8).length = 0 from rfl] at h1
  rw [h1]
  have h2 := put_next ([] ++ E) (OwnB.zs 4) (OwnB.zs 4 ++ OwnB.zs (5 + n)) S (by rw [zs_len, hS])
  rw [show ([] ++ E : List UInt8).length = 4 from by simp [hE]] at h2
  rw [h2]
  have h3 := put_next ([] ++ E ++ S) (OwnB.zs 4) (OwnB.zs (5 + n)) A (by rw [zs_len, hA])
  rw [show ([] ++ E ++ S : List UInt8).length = 8 from by simp [hE, hS]] at h3
  rw [h3, show 5 + n = 1 + (4 + n) from by omega, zs_add, show OwnB.zs 1 = [0] from rfl]
  rw [show [(0 : UInt8)] ++ OwnB.zs (4 + n) = 0 :: OwnB.zs (4 + n) from rfl, set_mid _ _ _ _ 12 (by simp [hE, hS, hA])]
  simp
set_option maxHeartbeats 1000000 in
theorem packmsg_no (e s a : Nat) (b : Option Addr) (n cb : Nat) (hn : 64 < n) (w : World) : Calls Try.prog 19 #[.agg #[.int .u32 (e : Int), .int .u32 (s : Int), .int .u32 (a : Int), .slice b n cb]] w fun x w' => x = .returned (.tuple #[.slice none 0 0, .int .i64 2]) ∧ Below w.heap.size w w' := by
  have hn' : (64 : Int) < n := by omega
  go_enter Try.func19, Try.ntmps19
  go_wp2
  go_ret2
  exact ⟨rfl, (Below.refl _ _).alloc (Nat.le_refl _) _⟩
set_option maxHeartbeats 2000000 in
theorem packmsg_yes (e s a : Nat) (he : e < 4294967296) (hs : s < 4294967296) (ha : a < 4294967296) (b : Option Addr) (n cb : Nat) (l : List UInt8) (w : World) (h : Bts w b n cb l) (hn : n ≤ 64) :
    Calls Try.prog 19 #[.agg #[.int .u32 (e : Int), .int .u32 (s : Int), .int .u32 (a : Int), .slice b n cb]] w fun x w' => ∃ p, x = .returned (.tuple #[p, .int .i64 0]) ∧ w'.ownsRow w.heap.size 5 1 p (17 + n) (bv (msgAll e s a l)) ∧ Below w.heap.size w w' := by
  have hl := h.1
  have hlc := h.2.1
  have hm := h.2.2.1
  unfold maxLen at hm
  have HB := Lib.hid h
  obtain ⟨cs, hcs⟩ : ∃ cs, cs = msgV e s a (.slice b n cb) := ⟨_, rfl⟩
  have HCS := Lib.hid hcs
  obtain ⟨cp, hcp⟩ : ∃ cp, cp = 17 + n := ⟨_, rfl⟩
  have hcpi : (17 : Int) + n = (cp : Int) := by omega
  have hnn : (n : Int) ≤ 64 := by omega
  have B0 := Lib.hid (blk_at (w := w) (g := w.heap.size) (cs := cs) (t := 43) (arr := #[.int .u32 (e : Int), .int .u32 (s : Int), .int .u32 (a : Int), .slice b n cb]) rfl (by rw [hcs]; rfl))
  have c3 := B0.out.cell 3
  rw [HCS.out] at c3
  change _ = some (Value.slice b n cb) at c3
  have HCP := Lib.hid hcp
  clear h hcs hcp
  go_enter Try.func19, Try.ntmps19
  go_wp2_with (first | (at_make; refine OwnB.wpList_make_bytes rfl _ _ rfl .i64 .i64 _ _ 13 cp rfl rfl rfl rfl (by have := HCP.out; omega) (by have := HCP.out; omega) ?_))
  obtain ⟨w1, hw1⟩ : ∃ w1, w1 = (w.alloc (.cells #[.int .u32 (e : Int), .int .u32 (s : Int), .int .u32 (a : Int), .slice b n cb] 43)).alloc (.cells (bv (OwnB.zs cp)).toArray 5) := ⟨_, rfl⟩
  have B1 := Lib.hid (show Blk w1 w.heap.size cs 43 from hw1 ▸ B0.out.alloc _)
  have Z1 := Lib.hid (show Blk w1 (w.heap.size + 1) (bv (OwnB.zs cp)) 5 from by
    rw [hw1]
    exact blk_at (by simp only [size_alloc]) rfl)
  have L1 := Lib.hid (show Below w.heap.size w w1 from hw1 ▸ ((Below.refl _ _).alloc (Nat.le_refl _) _).alloc (by simp only [size_alloc]; omega) _)
  have hzl : (OwnB.zs cp).length = cp := zs_len cp
  have hcp13 : 17 ≤ cp := by have := HCP.out; omega
  have hcp81 : cp ≤ 81 := by have := HCP.out; omega
  have i4 : (4 : Int) ≤ cp := by omega
  have i8 : (8 : Int) ≤ cp := by omega
  have i12 : (12 : Int) ≤ cp := by omega
  have n0 : ¬ cp = 0 := by omega
  have n4 : ¬ cp = 4 := by omega
  have n8 : ¬ cp = 8 := by omega
  rw [← hw1]
  clear hw1 c3 B0
  have d2 := (B1.out.cell 0).trans (show cs[0]? = some (Value.int .u32 e) from by rw [HCS.out]; rfl)
  refine wp_region_still_tail 5 (by kernel_rfl) (by kernel_rfl) ?_
  simp only [List.take_succ_cons, List.take_zero, List.drop_succ_cons, List.drop_zero]
  repeat still_step
  refine wpStill_nil ?_
  change wpList _ _ _ _ _ w1.drew
  go_wp2_with fail
  refine (number_any (w.heap.size + 1) 0 4 cp e _ 5 (by omega) (by rw [hzl]; omega) (by rw [hzl]; omega) (by decide) (by omega) (by omega) w1.drew Z1.out.drew).mono ?_
  rintro x w2 ⟨rfl, z2, g2⟩
  have B2 := Lib.hid (B1.out.drew.grown g2 (by omega))
  have Z2 := Lib.hid z2
  have L2 := Lib.hid (below_grown L1.out.drew g2 (by have := L1.out.size; have := B1.out.lt; simp; omega) (by omega))
  clear z2 g2 d2
  go_wp2
  have d3 := (B2.out.cell 1).trans (show cs[1]? = some (Value.int .u32 s) from by rw [HCS.out]; rfl)
  refine wp_region_still_tail 5 (by kernel_rfl) (by kernel_rfl) ?_
  simp only [List.take_succ_cons, List.take_zero, List.drop_succ_cons, List.drop_zero]
  repeat still_step
  refine wpStill_nil ?_
  change wpList _ _ _ _ _ w2.drew
  go_wp2_with fail
  refine (number_any (w.heap.size + 1) 4 4 (cp - 4) s _ 5 (by omega) (by rw [put_len _ _ _ (by rw [be_len, hzl]; omega), hzl]; omega) (by rw [put_len _ _ _ (by rw [be_len, hzl]; omega), hzl]; omega) (by decide) (by omega) (by omega) w2.drew Z2.out.drew).mono ?_
  rintro x w3 ⟨rfl, z3, g3⟩
  have B3 := Lib.hid (B2.out.drew.grown g3 (by omega))
  have Z3 := Lib.hid z3
  have L3 := Lib.hid (below_grown L2.out.drew g3 (by have := L2.out.size; have := B2.out.lt; simp; omega) (by omega))
  clear z3 g3 d3
  go_wp2
  have d4 := (B3.out.cell 2).trans (show cs[2]? = some (Value.int .u32 a) from by rw [HCS.out]; rfl)
  refine wp_region_still_tail 5 (by kernel_rfl) (by kernel_rfl) ?_
  simp only [List.take_succ_cons, List.take_zero, List.drop_succ_cons, List.drop_zero]
  repeat still_step
  refine wpStill_nil ?_
  change wpList _ _ _ _ _ w3.drew
  go_wp2_with fail
  refine (number_any (w.heap.size + 1) 8 4 (cp - 8) a _ 5 (by omega) (by rw [put_len _ _ _ (by rw [be_len, put_len _ _ _ (by rw [be_len, hzl]; omega), hzl]; omega), put_len _ _ _ (by rw [be_len, hzl]; omega), hzl]; omega) (by rw [put_len _ _ _ (by rw [be_len, put_len _ _ _ (by rw [be_len, hzl]; omega), hzl]; omega), put_len _ _ _ (by rw [be_len, hzl]; omega), hzl]; omega) (by decide) (by omega) (by omega) w3.drew Z3.out.drew).mono ?_
  rintro x w4 ⟨rfl, z4, g4⟩
  have B4 := Lib.hid (B3.out.drew.grown g4 (by omega))
  have Z4 := Lib.hid z4
  have L4 := Lib.hid (below_grown L3.out.drew g4 (by have := L3.out.size; have := B3.out.lt; simp; omega) (by omega))
  have hx : Value.int .u8 (n : Int) = Base.u8 (UInt8.ofNat l.length) := by
    unfold Base.u8
    rw [UInt8.toNat_ofNat', hl]
    congr 1
    omega
  have c3 := B4.out.cell 3
  rw [HCS.out] at c3
  change _ = some (Value.slice b n cb) at c3
  have zf := Z4.out.frozen 12
  obtain ⟨y, zc⟩ : ∃ y, w4.cell? ⟨w.heap.size + 1, 12, none⟩ = some y := ⟨_, (Z4.out.cell 12).trans (List.getElem?_eq_getElem (by rw [bv_len, put_len _ _ _ (by rw [be_len, put_len _ _ _ (by rw [be_len, put_len _ _ _ (by rw [be_len, hzl]; omega), hzl]; omega), put_len _ _ _ (by rw [be_len, hzl]; omega), hzl]; omega), put_len _ _ _ (by rw [be_len, put_len _ _ _ (by rw [be_len, hzl]; omega), hzl]; omega), put_len _ _ _ (by rw [be_len, hzl]; omega), hzl]; omega))⟩
  have hw8 : IntKind.u8.wrap (n : Int) = (n : Int) := by rw [IntKind.wrap_u8]; omega
  have HX := Lib.hid hx
  clear z4 g4 d4 hx
  go_upto_region 8 with (fail)
  obtain ⟨w5, hw5⟩ : ∃ w5, w5 = w4.setCell ⟨w.heap.size + 1, 12, none⟩ (Value.int .u8 (n : Int)) := ⟨_, rfl⟩
  rw [← hw5]
  rw [HX.out] at hw5
  have hz5 := Z4.out.setCell 12 (Base.u8 (UInt8.ofNat l.length))
  rw [← hw5, bv_set, HCP.out, msg_laid _ _ _ _ n (be_len _ _) (be_len _ _) (be_len _ _)] at hz5
  have hg5 := grown_setCell w4 (w.heap.size + 1) 12 (Base.u8 (UInt8.ofNat l.length))
  rw [← hw5] at hg5
  have B5 := Lib.hid (show Blk w5 w.heap.size cs 43 from B4.out.grown hg5 (by omega))
  have L5 := Lib.hid (below_grown L4.out hg5 L4.out.size (by omega))
  have O5 := Lib.hid (own_blk (n := 13) (cap := cp) hz5 (by omega : w.heap.size ≤ w.heap.size + 1) (by simp [be_len]) (by rw [zs_len]; have := HCP.out; omega) (by unfold maxLen; omega))
  have hs5 := L5.out.size
  have hb5 := B5.out.lt
  have S5 := Lib.hid (OwnB.src_bts (HB.out.below L5.out (Nat.le_refl _)))
  have c3 := B5.out.cell 3
  rw [HCS.out] at c3
  change _ = some (Value.slice b n cb) at c3
  clear hw5 hz5 hg5 Z4 B4 L4 zf zc
  go_wp2_with (first | (at_builtin; refine wpList_append_any _ rfl _ _ 27 rfl w.heap.size 5 (.int .u8 0) 1 1 Try.underlying27 OwnB.infou8 rfl (by decide) _ 13 _ rfl O5.out b n cb (bv l) rfl S5.out ?c1 ?c2 ?c3 ?_))
  case c1 => omega
  case c2 => unfold maxLen; omega
  case c3 => omega
  intro v6 w6 ho6 hg6
  rw [← bv_append] at ho6
  have ho7 : w6.ownsRow w.heap.size 5 1 v6 (13 + n) (bv (msgB e s a l)) := by
    unfold msgB
    rw [hl] at *
    simpa [List.append_assoc] using ho6
  have L6 := Lib.hid (L5.out.grown hg6 hs5 (fun q hq => (O5.out.lt q hq).1))
  have hs6 := L6.out.size
  have hbl := msgB_len e s a l
  have HS := Lib.hid (seal_any w.heap.size v6 (13 + n) (msgB e s a l) (by rw [hbl, hl]) (by omega) w6 (by omega) ho7)
  clear ho6 ho7 hg6 O5 S5 B5 L5 c3
  go_wp2_with (go_at_call 31; refine HS.out.mono ?_; rintro x w7 ⟨p, rfl, ho, hb⟩)
  go_ret2
  exact ⟨p, rfl, by rw [show 17 + n = 13 + n + 4 from by omega]; exact ho, L6.out.trans hb⟩
end Go.Proofs.Ytmmgejlfcehipaa.Codec
