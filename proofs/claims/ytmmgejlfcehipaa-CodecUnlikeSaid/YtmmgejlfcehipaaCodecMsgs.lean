/-
  The walk of CodecMsgs. Helper text; no statement is proved here.
-/
import Derived.Test.YtmmgejlfcehipaaUnpackMsg
import Derived.Test.YtmmgejlfcehipaaAwake4
import Derived.Test.YtmmgejlfcehipaaOpens
set_option linter.unusedVariables false
set_option linter.unusedSimpArgs false
namespace Go.Proofs.Ytmmgejlfcehipaa.Codec
open Go.RowKit Go.Proofs.Ytmmgejlfcehipaa.Base Go.Proofs.Ytmmgejlfcehipaa.Laws Go.Proofs.Ytmmgejlfcehipaa.InvM
theorem bts_none (w : World) : Bts w none 0 0 [] := ⟨rfl, Nat.le_refl _, by unfold maxLen; omega, .inl rfl⟩
set_option maxRecDepth 4000 in
set_option maxHeartbeats 2000000 in
theorem msgs_no (e s a : Nat) (he : e < 4294967296) (hs : s < 4294967296) (ha : a < 4294967296) (b : Option Addr) (n cb : Nat) (l : List UInt8) (w : World) (h : Bts w b n cb l) (hbig : n ≤ 140737488351232) (hn : 64 < n) :
    Calls Try.prog 6 #[.agg #[.int .u32 (e : Int), .int .u32 (s : Int), .int .u32 (a : Int), .slice b n cb]] w fun x w' => x = .returned (.bool true) ∧ Below w.heap.size w w' := by
  have hl := h.1
  have hlc := h.2.1
  have hm := h.2.2.1
  unfold maxLen at hm
  have HB := Lib.hid h
  have HW := Lib.hid awake_any
  obtain ⟨mc, hmc⟩ : ∃ mc, mc = msgV e s a (.slice b n cb) := ⟨_, rfl⟩
  have hmc4 : mc.length = 4 := by rw [hmc]; rfl
  have HMC := Lib.hid hmc
  obtain ⟨w1, hw1⟩ : ∃ w1, w1 = w.alloc (.cells #[.int .u32 (e : Int), .int .u32 (s : Int), .int .u32 (a : Int), .slice b n cb] 43) := ⟨_, rfl⟩
  have B1 := Lib.hid (show Blk w1 w.heap.size mc 43 from hw1 ▸ (blk_at (w := w) (g := w.heap.size) (cs := mc) (t := 43) (arr := #[.int .u32 (e : Int), .int .u32 (s : Int), .int .u32 (a : Int), .slice b n cb]) rfl (by rw [hmc]; rfl)))
  have L1 := Lib.hid (show Below w.heap.size w w1 from hw1 ▸ ((Below.refl _ _).alloc (Nat.le_refl _) _))
  have hN1 : w1.heap.size = w.heap.size + 1 := by rw [hw1]; simp only [size_alloc]
  clear h hmc
  go_enter Try.func6, Try.ntmps6
  go_upto_region 1 with (fail)
  rw [← hw1]
  have hN1' : w.heap.size + 1 ≤ w1.heap.size := by omega
  clear hw1 hN1
  have M1 := Lib.hid (World.ownsRow_made (e := 5) (size := 1) (base := w.heap.size + 1) w1 #[] 0 (by omega) (Nat.zero_le _) rfl)
  have S1 := Lib.hid (OwnB.src_bts (bts_alloc (HB.out.below L1.out (Nat.le_refl _)) (.cells #[] 5)))
  have c3 := (B1.out.alloc (.cells #[] 5)).cell 3
  rw [HMC.out] at c3
  change _ = some (Value.slice b n cb) at c3
  go_wp2_with (first | (at_builtin; refine wpList_append_any _ rfl _ _ 27 rfl (w.heap.size + 1) 5 (.int .u8 0) 1 1 Try.underlying27 OwnB.infou8 rfl (by decide) _ 0 [] rfl M1.out b n cb (bv l) rfl S1.out ?a1 ?a2 ?a3 ?_))
  case a1 => omega
  case a2 => unfold maxLen; omega
  case a3 => simp only [size_alloc]; omega
  intro v2 w2 ho2 hg2
  have L2 := Lib.hid ((L1.out.alloc (by omega) _).grown hg2 (by simp only [size_alloc]; omega) (fun q hq => by have := (M1.out.lt q hq).1; omega))
  have B2 := Lib.hid ((B1.out.alloc (.cells #[] 5)).grownO hg2 (fun q hq => by have := (M1.out.lt q hq).1; omega))
  have ho2' : w2.ownsRow (w.heap.size + 1) 5 1 v2 n (bv l) := by simpa using ho2
  obtain ⟨oa, ocap, rfl, hot⟩ := OwnB.bts_own hl ho2'
  have O2 := Lib.hid hot
  have hs2 := L2.out.size
  have hlt2 := B2.out.lt
  clear ho2 ho2' hot hg2 M1 S1 c3 L1 B1
  have c0 := B2.out.cell 0
  have c1 := B2.out.cell 1
  have c2 := B2.out.cell 2
  rw [HMC.out] at c0 c1 c2
  change _ = some (Value.int .u32 (e : Int)) at c0
  change _ = some (Value.int .u32 (s : Int)) at c1
  change _ = some (Value.int .u32 (a : Int)) at c2
  have P2 := Lib.hid (packmsg_no e s a oa n ocap hn w2)
  go_wp2_with fail
  refine P2.out.mono ?_
  rintro x w3 ⟨rfl, hb⟩
  have L3 := Lib.hid (L2.out.trans (hb.mono hs2))
  have B3 := Lib.hid (B2.out.below hb hlt2)
  have O3 := Lib.hid (O2.out.below hb (Nat.le_refl _))
  have hs3 := L3.out.size
  have hlt3 := B3.out.lt
  clear hb P2 L2 B2 O2 c0 c1 c2
  have Q3 := Lib.hid (rpackmsg_no e s a b n cb hn w3)
  have e4 : (#[.int .u32 (e : Int), .int .u32 (s : Int), .int .u32 (a : Int), .slice b n cb] : Array Value) = mc.toArray := by rw [HMC.out]; rfl
  rw [e4] at Q3
  clear e4
  go_wp2_with (first | (refine wpList_load_g rfl 43 _ rfl w.heap.size 4 rfl 43 mc _ B3.out Try.underlying43 rfl (by kernel_rfl) hmc4 ?_))
  refine Q3.out.mono ?_
  rintro x w4 ⟨rfl, hb⟩
  have L4 := Lib.hid (L3.out.trans (hb.mono hs3))
  have B4 := Lib.hid (B3.out.below hb hlt3)
  have O4 := Lib.hid (O3.out.below hb (Nat.le_refl _))
  have hs4 := L4.out.size
  have hlt4 := B4.out.lt
  clear hb Q3 L3 B3 O3
  go_wp2_with fail
  refine (HW.out _).mono ?_
  rintro x w5 ⟨rfl, hb⟩
  have L5 := Lib.hid (L4.out.trans (hb.mono hs4))
  have B5 := Lib.hid (B4.out.below hb hlt4)
  have O5 := Lib.hid (O4.out.below hb (Nat.le_refl _))
  have hs5 := L5.out.size
  have hlt5 := B5.out.lt
  have HS := Lib.hid (Same.same_any none 0 0 [] none 0 0 [] w5 (bts_none w5) (bts_none w5))
  rw [decide_eq_true rfl] at HS
  clear hb L4 B4 O4
  have c3 := (B5.out.cell 3)
  rw [HMC.out] at c3
  change _ = some (Value.slice b n cb) at c3
  have HB5 := Lib.hid (HB.out.below L5.out (Nat.le_refl _))
  have HS2 := Lib.hid (fun nd => Same.same_any oa n ocap l b n cb l (w5.drewN nd) O5.out HB5.out)
  rw [decide_eq_true rfl] at HS2
  go_wp2_with fail
  refine HS.out.mono ?_
  rintro x w6 ⟨rfl, nd, rfl⟩
  go_wp2_with fail
  refine (HS2.out nd).mono ?_
  rintro x w6 ⟨rfl, nd2, rfl⟩
  obtain ⟨w7, hw7⟩ : ∃ w7, w7 = (w5.drewN nd).drewN nd2 := ⟨_, rfl⟩
  have L7 := Lib.hid (show Below w.heap.size w w7 from hw7 ▸ below_drewN (below_drewN L5.out nd) nd2)
  have B7 := Lib.hid (show Blk w7 w.heap.size mc 43 from hw7 ▸ (B5.out.drewN nd).drewN nd2)
  rw [← hw7]
  clear hw7 c3 HS HS2 HB5 L5 B5 O5
  have hs7 := L7.out.size
  have hlt7 := B7.out.lt
  have HU := Lib.hid (unpackmsg_any none 0 0 [] w7 (bts_none w7) (by omega))
  rw [(mOut_short (by decide)).1, (mOut_short (by decide)).2] at HU
  go_wp2_with fail
  refine HU.out.mono ?_
  rintro x w8 ⟨ya, yn, yc, rfl, hyt, hb⟩
  have L8 := Lib.hid (L7.out.trans (hb.mono hs7))
  have B8 := Lib.hid (B7.out.below hb hlt7)
  have Y8 := Lib.hid hyt
  have hs8 := L8.out.size
  have hlt8 := B8.out.lt
  have Z8 := Lib.hid (blk_at (w := w8) (g := w8.heap.size) (cs := zmsg) (t := 43) (arr := #[.int .u32 0, .int .u32 0, .int .u32 0, .slice none 0 0]) rfl rfl)
  have hyl := hyt.1
  clear hb hyt HU L7 B7
  go_wp2_with (first | (refine wpList_store_blk rfl 43 _ _ rfl w8.heap.size 0 4 rfl 43 zmsg (msgV (0:Nat) (0:Nat) (0:Nat) (.slice ya yn yc)) rfl Z8.out (by kernel_rfl) rfl (by decide) (by intro u hu; simp [msgV] at hu; rcases hu with rfl | rfl | rfl | rfl <;> rfl) ?_; intro w9 z9 g9; have L9 := Lib.hid (below_grown (L8.out.alloc hs8 _) g9 (by simp only [size_alloc]; omega) hs8); clear z9 g9))
  go_ret
  exact ⟨rfl, L9.out⟩
set_option maxRecDepth 4000 in
set_option maxHeartbeats 2000000 in
theorem msgs_yes (e s a : Nat) (he : e < 4294967296) (hs : s < 4294967296) (ha : a < 4294967296) (b : Option Addr) (n cb : Nat) (l : List UInt8) (w : World) (h : Bts w b n cb l) (hbig : n ≤ 140737488351232) (hn : n ≤ 64) :
    Calls Try.prog 6 #[.agg #[.int .u32 (e : Int), .int .u32 (s : Int), .int .u32 (a : Int), .slice b n cb]] w fun x w' => x = .returned (.bool true) ∧ Below w.heap.size w w' := by
  have hl := h.1
  have hlc := h.2.1
  have hm := h.2.2.1
  unfold maxLen at hm
  have HB := Lib.hid h
  have HW := Lib.hid awake_any
  obtain ⟨mc, hmc⟩ : ∃ mc, mc = msgV e s a (.slice b n cb) := ⟨_, rfl⟩
  have hmc4 : mc.length = 4 := by rw [hmc]; rfl
  have HMC := Lib.hid hmc
  obtain ⟨w1, hw1⟩ : ∃ w1, w1 = w.alloc (.cells #[.int .u32 (e : Int), .int .u32 (s : Int), .int .u32 (a : Int), .slice b n cb] 43) := ⟨_, rfl⟩
  have B1 := Lib.hid (show Blk w1 w.heap.size mc 43 from hw1 ▸ (blk_at (w := w) (g := w.heap.size) (cs := mc) (t := 43) (arr := #[.int .u32 (e : Int), .int .u32 (s : Int), .int .u32 (a : Int), .slice b n cb]) rfl (by rw [hmc]; rfl)))
  have L1 := Lib.hid (show Below w.heap.size w w1 from hw1 ▸ ((Below.refl _ _).alloc (Nat.le_refl _) _))
  have hN1 : w1.heap.size = w.heap.size + 1 := by rw [hw1]; simp only [size_alloc]
  clear h hmc
  go_enter Try.func6, Try.ntmps6
  go_upto_region 1 with (fail)
  rw [← hw1]
  have hN1' : w.heap.size + 1 ≤ w1.heap.size := by omega
  clear hw1 hN1
  have M1 := Lib.hid (World.ownsRow_made (e := 5) (size := 1) (base := w.heap.size + 1) w1 #[] 0 (by omega) (Nat.zero_le _) rfl)
  have S1 := Lib.hid (OwnB.src_bts (bts_alloc (HB.out.below L1.out (Nat.le_refl _)) (.cells #[] 5)))
  have c3 := (B1.out.alloc (.cells #[] 5)).cell 3
  rw [HMC.out] at c3
  change _ = some (Value.slice b n cb) at c3
  go_wp2_with (first | (at_builtin; refine wpList_append_any _ rfl _ _ 27 rfl (w.heap.size + 1) 5 (.int .u8 0) 1 1 Try.underlying27 OwnB.infou8 rfl (by decide) _ 0 [] rfl M1.out b n cb (bv l) rfl S1.out ?a1 ?a2 ?a3 ?_))
  case a1 => omega
  case a2 => unfold maxLen; omega
  case a3 => simp only [size_alloc]; omega
  intro v2 w2 ho2 hg2
  have L2 := Lib.hid ((L1.out.alloc (by omega) _).grown hg2 (by simp only [size_alloc]; omega) (fun q hq => by have := (M1.out.lt q hq).1; omega))
  have B2 := Lib.hid ((B1.out.alloc (.cells #[] 5)).grownO hg2 (fun q hq => by have := (M1.out.lt q hq).1; omega))
  have ho2' : w2.ownsRow (w.heap.size + 1) 5 1 v2 n (bv l) := by simpa using ho2
  obtain ⟨oa, ocap, rfl, hot⟩ := OwnB.bts_own hl ho2'
  have O2 := Lib.hid hot
  have hs2 := L2.out.size
  have hlt2 := B2.out.lt
  clear ho2 ho2' hot hg2 M1 S1 c3 L1 B1
  have c0 := B2.out.cell 0
  have c1 := B2.out.cell 1
  have c2 := B2.out.cell 2
  rw [HMC.out] at c0 c1 c2
  change _ = some (Value.int .u32 (e : Int)) at c0
  change _ = some (Value.int .u32 (s : Int)) at c1
  change _ = some (Value.int .u32 (a : Int)) at c2
  have P2 := Lib.hid (packmsg_yes e s a he hs ha oa n ocap l w2 O2.out hn)
  go_wp2_with fail
  refine P2.out.mono ?_
  rintro x w3 ⟨p, rfl, ho, hb⟩
  have hml : (msgAll e s a l).length = 17 + n := by rw [msgAll_len, hl]
  obtain ⟨pa, pcap, rfl, hbt⟩ := OwnB.bts_own hml ho
  have PT3 := Lib.hid hbt
  have L3 := Lib.hid (L2.out.trans (hb.mono hs2))
  have B3 := Lib.hid (B2.out.below hb hlt2)
  have O3 := Lib.hid (O2.out.below hb (Nat.le_refl _))
  have hs3 := L3.out.size
  have hlt3 := B3.out.lt
  clear ho hbt
  clear hb P2 L2 B2 O2 c0 c1 c2
  have Q3 := Lib.hid (rpackmsg_yes e s a he hs ha b n cb l w3 (HB.out.below L3.out (Nat.le_refl _)) hn)
  have e4 : (#[.int .u32 (e : Int), .int .u32 (s : Int), .int .u32 (a : Int), .slice b n cb] : Array Value) = mc.toArray := by rw [HMC.out]; rfl
  rw [e4] at Q3
  clear e4
  go_wp2_with (first | (refine wpList_load_g rfl 43 _ rfl w.heap.size 4 rfl 43 mc _ B3.out Try.underlying43 rfl (by kernel_rfl) hmc4 ?_))
  refine Q3.out.mono ?_
  rintro x w4 ⟨q, rfl, ho, hb⟩
  obtain ⟨qa, qcap, rfl, hbt⟩ := OwnB.bts_own hml ho
  have QT4 := Lib.hid hbt
  have PT4 := Lib.hid (PT3.out.below hb (Nat.le_refl _))
  have L4 := Lib.hid (L3.out.trans (hb.mono hs3))
  have B4 := Lib.hid (B3.out.below hb hlt3)
  have O4 := Lib.hid (O3.out.below hb (Nat.le_refl _))
  have hs4 := L4.out.size
  have hlt4 := B4.out.lt
  clear ho hbt PT3
  clear hb Q3 L3 B3 O3
  go_wp2_with fail
  refine (HW.out _).mono ?_
  rintro x w5 ⟨rfl, hb⟩
  have L5 := Lib.hid (L4.out.trans (hb.mono hs4))
  have B5 := Lib.hid (B4.out.below hb hlt4)
  have O5 := Lib.hid (O4.out.below hb (Nat.le_refl _))
  have hs5 := L5.out.size
  have hlt5 := B5.out.lt
  have PT5 := Lib.hid (PT4.out.below hb (Nat.le_refl _))
  have QT5 := Lib.hid (QT4.out.below hb (Nat.le_refl _))
  have HS := Lib.hid (Same.same_any pa (17 + n) pcap (msgAll e s a l) qa (17 + n) qcap (msgAll e s a l) w5 PT5.out QT5.out)
  clear PT4 QT4
  rw [decide_eq_true rfl] at HS
  clear hb L4 B4 O4
  have c3 := (B5.out.cell 3)
  rw [HMC.out] at c3
  change _ = some (Value.slice b n cb) at c3
  have HB5 := Lib.hid (HB.out.below L5.out (Nat.le_refl _))
  have HS2 := Lib.hid (fun nd => Same.same_any oa n ocap l b n cb l (w5.drewN nd) O5.out HB5.out)
  rw [decide_eq_true rfl] at HS2
  go_wp2_with fail
  refine HS.out.mono ?_
  rintro x w6 ⟨rfl, nd, rfl⟩
  go_wp2_with fail
  refine (HS2.out nd).mono ?_
  rintro x w6 ⟨rfl, nd2, rfl⟩
  obtain ⟨w7, hw7⟩ : ∃ w7, w7 = (w5.drewN nd).drewN nd2 := ⟨_, rfl⟩
  have L7 := Lib.hid (show Below w.heap.size w w7 from hw7 ▸ below_drewN (below_drewN L5.out nd) nd2)
  have B7 := Lib.hid (show Blk w7 w.heap.size mc 43 from hw7 ▸ (B5.out.drewN nd).drewN nd2)
  have PT7 := Lib.hid (show Bts w7 pa (17 + n) pcap (msgAll e s a l) from hw7 ▸ PT5.out)
  rw [← hw7]
  clear hw7 c3 HS HS2 HB5 L5 B5 O5
  have hs7 := L7.out.size
  have hlt7 := B7.out.lt
  have HU := Lib.hid (unpackmsg_any pa (17 + n) pcap (msgAll e s a l) w7 PT7.out (by omega))
  rw [(msg_back he hs ha (by omega)).1, (msg_back he hs ha (by omega)).2] at HU
  clear PT5 QT5
  go_wp2_with fail
  refine HU.out.mono ?_
  rintro x w8 ⟨ya, yn, yc, rfl, hyt, hb⟩
  have L8 := Lib.hid (L7.out.trans (hb.mono hs7))
  have B8 := Lib.hid (B7.out.below hb hlt7)
  have Y8 := Lib.hid hyt
  have hs8 := L8.out.size
  have hlt8 := B8.out.lt
  have Z8 := Lib.hid (blk_at (w := w8) (g := w8.heap.size) (cs := zmsg) (t := 43) (arr := #[.int .u32 0, .int .u32 0, .int .u32 0, .slice none 0 0]) rfl rfl)
  have hyl := hyt.1
  clear hb hyt HU L7 B7
  go_wp2_with (first | (refine wpList_store_blk rfl 43 _ _ rfl w8.heap.size 0 4 rfl 43 zmsg (msgV e s a (.slice ya yn yc)) rfl Z8.out (by kernel_rfl) rfl (by decide) (by intro u hu; simp [msgV] at hu; rcases hu with rfl | rfl | rfl | rfl <;> rfl) ?_; intro w9 z9 g9; have L9 := Lib.hid (below_grown (L8.out.alloc hs8 _) g9 (by simp only [size_alloc]; omega) hs8); have Z9 := Lib.hid (show Blk w9 w8.heap.size (msgV e s a (.slice ya yn yc)) 43 from z9); have B9 := Lib.hid ((B8.out.alloc _).grown g9 (by omega)); have HSM := Lib.hid (samemsg_any e s a ya yn yc l e s a b n cb l w9 (Y8.out.below (below_grown ((Below.refl w8.heap.size w8).alloc (Nat.le_refl _) _) g9 (by simp only [size_alloc]; omega) (Nat.le_refl _)) (Nat.le_refl _)) (HB.out.below L9.out (Nat.le_refl _))); have e5 : (#[.int .u32 (e : Int), .int .u32 (s : Int), .int .u32 (a : Int), .slice b n cb] : Array Value) = mc.toArray := by { rw [HMC.out]; rfl }; rw [e5] at HSM; clear z9 g9 e5) | (refine wpList_load_g rfl 43 _ rfl w8.heap.size 4 rfl 43 (msgV e s a (.slice ya yn yc)) _ Z9.out Try.underlying43 rfl (by kernel_rfl) rfl ?_) | (refine wpList_load_g rfl 43 _ rfl w.heap.size 4 rfl 43 mc _ B9.out Try.underlying43 rfl (by kernel_rfl) hmc4 ?_))
  refine HSM.out.mono ?_
  rintro x w10 ⟨rfl, hb⟩
  go_wp2
  go_ret
  exact ⟨ret_bool (by simp), L9.out.trans (hb.mono L9.out.size)⟩
section
variable {H : Type} {enc : TypeId × Value → H} {base : Nat} {spare : Nat → Bool} {held : Bool} {W : World}
theorem cellsu8' : Try.prog.cellsOf 5 = 1 := by kernel_rfl
theorem bytesu8' : Try.prog.bytesOf 5 = 1 := by kernel_rfl
/-- a message that came in -/
theorem msg_in {c : List Value} (hl : c.length = 4) (h : Opens.Fits enc Try.prog W base spare held ([.int .u32, .int .u32, .int .u32] ++ [.slice 5]) c) : ∃ e s a b n cb l, e < 4294967296 ∧ s < 4294967296 ∧ a < 4294967296 ∧ c = [.int .u32 (e : Nat), .int .u32 (s : Nat), .int .u32 (a : Nat), .slice b n cb] ∧ Bts W b n cb l ∧ n ≤ 140737488351232 := by
  have h' : Opens.Fits enc Try.prog W base spare held (.int .u32 :: .int .u32 :: .int .u32 :: .slice 5 :: []) c := by simpa using h
  obtain ⟨e, c1, rfl, he, h1⟩ := h'.int
  obtain ⟨s, c2, rfl, hs, h2⟩ := h1.int
  obtain ⟨a, c3, rfl, ha, h3⟩ := h2.int
  obtain ⟨v, c4, rfl, hv, _⟩ := h3.next
  obtain rfl : c4 = [] := List.eq_nil_of_length_eq_zero (by simpa using hl)
  obtain ⟨e', he', rfl⟩ := Opens.wf_u32 he
  obtain ⟨s', hs', rfl⟩ := Opens.wf_u32 hs
  obtain ⟨a', ha', rfl⟩ := Opens.wf_u32 ha
  obtain ⟨b, n, cb, rfl⟩ : ∃ b n cb, v = .slice b n cb := by
    rcases hv with rfl | ⟨b, n, cb, rfl, _⟩
    · exact ⟨_, _, _, rfl⟩
    · exact ⟨_, _, _, rfl⟩
  obtain ⟨l, g1, g2, g3, g4, g5⟩ := Opens.bytes_of_lf Try.underlying5 cellsu8' bytesu8' hv
  exact ⟨e', s', a', b, n, cb, l, he', hs', ha', rfl, ⟨g1, g2, g3, g5⟩, g4⟩
theorem msgs_in (c : List Value) (hl : c.length = 4) (h : Opens.Fits enc Try.prog W base spare held ([.int .u32, .int .u32, .int .u32] ++ [.slice 5]) c) :
    Calls Try.prog 6 #[.agg c.toArray] W fun e w' => e = .returned (.bool true) ∧ Below W.heap.size W w' := by
  obtain ⟨e, s, a, b, n, cb, l, he, hs, ha, rfl, hb, hn⟩ := msg_in hl h
  by_cases h64 : n ≤ 64
  · exact msgs_yes e s a he hs ha b n cb l W hb hn h64
  · exact msgs_no e s a he hs ha b n cb l W hb hn (by omega)
end
end Go.Proofs.Ytmmgejlfcehipaa.Codec
