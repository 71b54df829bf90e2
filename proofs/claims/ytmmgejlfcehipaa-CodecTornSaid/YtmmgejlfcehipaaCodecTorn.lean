/-
  The walk of CodecTorn. Helper text; no statement is proved here.
-/
import Derived.Test.YtmmgejlfcehipaaTornPlain
import Derived.Test.YtmmgejlfcehipaaAwake4
import Derived.Test.YtmmgejlfcehipaaRcPack
import Derived.Test.YtmmgejlfcehipaaCodecMsgs
set_option linter.unusedVariables false
set_option linter.unusedSimpArgs false
namespace Go.Proofs.Ytmmgejlfcehipaa.Codec
open Go.RowKit Go.Proofs.Ytmmgejlfcehipaa.Base Go.Proofs.Ytmmgejlfcehipaa.Laws Go.Proofs.Ytmmgejlfcehipaa.InvM Go.Proofs.Ytmmgejlfcehipaa.Lay
theorem pk_rec {r : Rc} (hv : r.Valid) (w : World) : Calls Try.prog 11 #[.agg r.cells.toArray] w fun e w' => ∃ v er, e = .returned (.tuple #[v, .int .i64 er]) ∧ Pk w' w.heap.size v er 33 (Sealed 33) ∧ Below w.heap.size w w' := by
  by_cases hg : r.Good
  · refine (rc_pack_yes hv hg w.heap.size w (Nat.le_refl _)).mono ?_
    rintro e w' ⟨p, he, ho, hb⟩
    refine ⟨p, 0, he, pk_of_own ho ?_, hb⟩
    exact sealed_of (rec33_len _ _ _ _ hv.1)
  · refine (rc_pack_no hv hg w).mono ?_
    rintro e w' ⟨he, hb⟩
    exact ⟨_, 2, he, .inr ⟨by decide, rfl⟩, hb⟩
theorem pk_sup {x : Su} (hv : x.Valid) (w : World) : Calls Try.prog 23 #[.agg x.cells.toArray] w fun e w' => ∃ v er, e = .returned (.tuple #[v, .int .i64 er]) ∧ Pk w' w.heap.size v er 41 (Sealed 41) ∧ Below w.heap.size w w' := by
  by_cases hg : x.Good
  · refine (packsuper_yes hg hv.2.2.2.2.1 hv.2.2.2.2.2.1 w).mono ?_
    rintro e w' ⟨p, he, ho, hb⟩
    exact ⟨p, 0, he, pk_of_own ho (sealed_of (Su.b41_len x)), hb⟩
  · by_cases hso : Sound x.d x.c x.s
    · exact (packsuper_arg hso (fun h => hg ⟨hso, h⟩) w).mono fun e w' ⟨he, hb⟩ => ⟨_, 2, he, .inr ⟨by decide, rfl⟩, hb⟩
    · exact (packsuper_form hso w).mono fun e w' ⟨he, hb⟩ => ⟨_, 1, he, .inr ⟨by decide, rfl⟩, hb⟩
theorem pk_msg {e s a : Nat} (he : e < 4294967296) (hs : s < 4294967296) (ha : a < 4294967296) {b : Option Addr} {n cb : Nat} {l : List UInt8} (w : World) (h : Bts w b n cb l) : Calls Try.prog 19 #[.agg #[.int .u32 (e : Int), .int .u32 (s : Int), .int .u32 (a : Int), .slice b n cb]] w fun x w' => ∃ v er, x = .returned (.tuple #[v, .int .i64 er]) ∧ (∃ N, 13 ≤ N ∧ N ≤ 77 ∧ Pk w' w.heap.size v er N (Sealed N)) ∧ Below w.heap.size w w' := by
  by_cases hn : n ≤ 64
  · refine (packmsg_yes e s a he hs ha b n cb l w h hn).mono ?_
    rintro x w' ⟨p, hx, ho, hb⟩
    refine ⟨p, 0, hx, ⟨13 + n, by omega, by omega, pk_of_own (by rw [show 13 + n + 4 = 17 + n from by omega]; exact ho) (sealed_of ?_)⟩, hb⟩
    rw [msgB_len, h.1]
  · refine (packmsg_no e s a b n cb (by omega) w).mono ?_
    rintro x w' ⟨hx, hb⟩
    exact ⟨_, 2, hx, ⟨13, by omega, by omega, .inr ⟨by decide, rfl⟩⟩, hb⟩
theorem pk_bts {w : World} {base : Nat} {v : Value} {N : Nat} {P : List UInt8 → Prop} (h : Pk w base v 0 N P) (hP : ∀ l, P l → l.length = N + 4) : ∃ a cap l, v = .slice a (N + 4) cap ∧ Bts w a (N + 4) cap l ∧ P l := by
  rcases h with ⟨_, g, cap, l, rfl, _, h4, h5⟩ | ⟨h, _⟩
  · obtain ⟨a, cap', e, hb⟩ := OwnB.bts_own (hP l h5) h4
    exact ⟨a, cap', l, e, hb, h5⟩
  · exact absurd rfl h
theorem untorn_rec {w : World} {base : Nat} {v : Value} (h : Pk w base v 0 33 (Torn 33)) : Calls Try.prog 15 #[v] w fun e w' => e = .returned (.tuple #[.agg zrec.toArray, .int .i64 7]) ∧ Below w.heap.size w w' := by
  obtain ⟨a, cap, l, rfl, hb, ht⟩ := pk_bts h fun l h => h.1
  have := unpack_any a (33 + 4) cap l w hb
  rwa [(out_no (by have := ht.1; omega) (torn_rec ht)).1, (out_no (by have := ht.1; omega) (torn_rec ht)).2] at this
theorem untorn_sup {w : World} {base : Nat} {v : Value} (h : Pk w base v 0 41 (Torn 41)) : Calls Try.prog 25 #[v] w fun e w' => e = .returned (.tuple #[.agg zsup.toArray, .int .i64 7]) ∧ Below w.heap.size w w' := by
  obtain ⟨a, cap, l, rfl, hb, ht⟩ := pk_bts h fun l h => h.1
  have := unpacksuper_any a (41 + 4) cap l w hb
  rwa [(sOut_no (by rw [ht.1]) (torn_sup ht)).1, (sOut_no (by rw [ht.1]) (torn_sup ht)).2] at this
theorem untorn_msg {w : World} {base N : Nat} {v : Value} (h13 : 13 ≤ N) (hN : N ≤ 77) (h : Pk w base v 0 N (Torn N)) : Calls Try.prog 21 #[v] w fun x w' => ∃ ba bn bc, x = .returned (.tuple #[.agg (msgV 0 0 0 (.slice ba bn bc)).toArray, .int .i64 7]) ∧ Below w.heap.size w w' := by
  obtain ⟨a, cap, l, rfl, hb, ht⟩ := pk_bts h fun l h => h.1
  have := unpackmsg_any a (N + 4) cap l w hb (by omega)
  rw [(mOut_no (by rw [ht.1]; omega) (torn_msg ht (by rw [ht.1]; omega))).1, (mOut_no (by rw [ht.1]; omega) (torn_msg ht (by rw [ht.1]; omega))).2] at this
  refine this.mono ?_
  rintro x w' ⟨ba, bn, bc, hx, _, hbl⟩
  exact ⟨ba, bn, bc, hx, hbl⟩
set_option maxRecDepth 8000 in
set_option maxHeartbeats 4000000 in
theorem torn_walk {r : Rc} (hr : r.Valid) {x : Su} (hx : x.Valid) {e s a : Nat} (he : e < 4294967296) (hs : s < 4294967296) (ha : a < 4294967296) {b : Option Addr} {n cb : Nat} {l : List UInt8} (row fr : Nat) (hrow : row < 4294967296) (hfr : fr < 65536) (w : World) (h : Bts w b n cb l) :
    Calls Try.prog 10 #[.agg r.cells.toArray, .agg x.cells.toArray, .agg #[.int .u32 (e : Int), .int .u32 (s : Int), .int .u32 (a : Int), .slice b n cb], .int .u32 (row : Int), .int .u16 (fr : Int)] w fun y w' => y = .returned (.bool true) ∧ Below w.heap.size w w' := by
  have HB := Lib.hid h
  have HW := Lib.hid awake_any
  have PR := Lib.hid (fun w' => pk_rec hr w')
  have PS := Lib.hid (fun w' => pk_sup hx w')
  have PM := Lib.hid (fun w' (hb : Below w.heap.size w w') => pk_msg he hs ha w' (HB.out.below hb (Nat.le_refl _)))
  have hr19 := Rc.len hr
  have hx7 : x.cells.length = 7 := rfl
  have e4 : (#[.int .u32 (e : Int), .int .u32 (s : Int), .int .u32 (a : Int), .slice b n cb] : Array Value) = (msgV e s a (.slice b n cb)).toArray := rfl
  have hm4 : (msgV e s a (.slice b n cb)).length = 4 := rfl
  obtain ⟨rc, hrc⟩ : ∃ rc, rc = r.cells := ⟨_, rfl⟩
  obtain ⟨xc, hxc⟩ : ∃ xc, xc = x.cells := ⟨_, rfl⟩
  obtain ⟨mc, hmc⟩ : ∃ mc, mc = msgV e s a (.slice b n cb) := ⟨_, rfl⟩
  rw [e4] at PM ⊢
  rw [← hrc] at PR hr19 ⊢
  rw [← hxc] at PS hx7 ⊢
  rw [← hmc] at PM hm4 ⊢
  clear hrc hxc hmc e4 h
  have hwf : IntKind.i64.wrap (fr : Int) = (fr : Int) := by rw [IntKind.wrap_i64]; omega
  obtain ⟨w1, hw1⟩ : ∃ w1, w1 = ((w.alloc (.cells rc.toArray 26)).alloc (.cells xc.toArray 52)).alloc (.cells mc.toArray 43) := ⟨_, rfl⟩
  have R1 := Lib.hid (show Blk w1 w.heap.size rc 26 from hw1 ▸ ((blk_new w rc _).alloc _).alloc _)
  have X1 := Lib.hid (show Blk w1 (w.heap.size + 1) xc 52 from hw1 ▸ ((blk_at (by simp only [size_alloc]) rfl).alloc _))
  have M1 := Lib.hid (show Blk w1 (w.heap.size + 1 + 1) mc 43 from hw1 ▸ (blk_at (by simp only [size_alloc]) rfl))
  have L1 := Lib.hid (show Below w.heap.size w w1 from hw1 ▸ ((((Below.refl _ _).alloc (Nat.le_refl _) _).alloc (by simp only [size_alloc]; omega) _).alloc (by simp only [size_alloc]; omega) _))
  go_enter Try.func10, Try.ntmps10
  go_upto_region 1 with (fail)
  rw [← hw1]
  clear hw1
  have hs1 := L1.out.size
  go_wp2_with fail
  refine (HW.out _).mono ?_
  rintro y w2 ⟨rfl, hb⟩
  have R2 := Lib.hid (R1.out.below hb R1.out.lt)
  have X2 := Lib.hid (X1.out.below hb X1.out.lt)
  have M2 := Lib.hid (M1.out.below hb M1.out.lt)
  have L2 := Lib.hid (L1.out.trans (hb.mono hs1))
  have hs2 := L2.out.size
  clear hb R1 X1 M1 L1
  go_wp2_with (first | (refine wpList_load_g rfl 26 _ rfl w.heap.size 19 rfl 26 rc _ R2.out Try.underlying26 rfl (by kernel_rfl) hr19 ?_))
  refine (PR.out _).mono ?_
  rintro y w3 ⟨va, ea, rfl, pa, hb⟩
  have X3 := Lib.hid (X2.out.below hb X2.out.lt)
  have M3 := Lib.hid (M2.out.below hb M2.out.lt)
  have L3 := Lib.hid (L2.out.trans (hb.mono hs2))
  have A3 := Lib.hid pa
  have hs3 := L3.out.size
  have hm23 : w2.heap.size ≤ w3.heap.size := hb.size
  clear hb pa R2 X2 M2 L2
  go_wp2_with (first | (refine wpList_load_g rfl 52 _ rfl (w.heap.size + 1) 7 rfl 52 xc _ X3.out Try.underlying52 rfl (by kernel_rfl) hx7 ?_))
  refine (PS.out _).mono ?_
  rintro y w4 ⟨vb, eb, rfl, pb, hb⟩
  have M4 := Lib.hid (M3.out.below hb M3.out.lt)
  have L4 := Lib.hid (L3.out.trans (hb.mono hs3))
  have A4 := Lib.hid (A3.out.below hb)
  have B4 := Lib.hid pb
  have hab := Lib.hid (show ∀ k, va.ownBlock = some k → k < w3.heap.size from fun k hk => (A3.out.lt k hk).2)
  have hs4 := L4.out.size
  have hm34 : w3.heap.size ≤ w4.heap.size := hb.size
  clear hb pb X3 M3 L3 A3
  have PM4 := Lib.hid (PM.out w4 L4.out)
  go_wp2_with (first | (refine wpList_load_g rfl 43 _ rfl (w.heap.size + 1 + 1) 4 rfl 43 mc _ M4.out Try.underlying43 rfl (by kernel_rfl) hm4 ?_))
  refine PM4.out.mono ?_
  rintro y w5 ⟨vc, ec, rfl, ⟨N, hN1, hN2, pc⟩, hb⟩
  have L5 := Lib.hid (L4.out.trans (hb.mono hs4))
  have A5 := Lib.hid (A4.out.below hb)
  have B5 := Lib.hid (B4.out.below hb)
  have C5 := Lib.hid pc
  have hac := Lib.hid (show ∀ k, va.ownBlock = some k → k < w4.heap.size from fun k hk => by have := hab.out k hk; omega)
  have hbc := Lib.hid (show ∀ k, vb.ownBlock = some k → w3.heap.size ≤ k ∧ k < w4.heap.size from fun k hk => B4.out.lt k hk)
  have hcc := Lib.hid (show ∀ k, vc.ownBlock = some k → w4.heap.size ≤ k from fun k hk => (pc.lt k hk).1)
  have hs5 := L5.out.size
  clear hb pc M4 L4 A4 B4 PM4 PM PR PS
  by_cases h0 : row = 0
  · subst h0
    go_wp2
    go_ret
    exact ⟨rfl, L5.out⟩
  · have h0' : ¬ (row : Int) = 0 := by omega
    have nab : va.ownBlock = none ∨ va.ownBlock ≠ vb.ownBlock := by
      cases hv : va.ownBlock with
      | none => exact .inl rfl
      | some k => exact .inr fun e => by have := hab.out k hv; have := (hbc.out k e.symm).1; omega
    have nac : va.ownBlock = none ∨ va.ownBlock ≠ vc.ownBlock := by
      cases hv : va.ownBlock with
      | none => exact .inl rfl
      | some k => exact .inr fun e => by have := hac.out k hv; have := hcc.out k e.symm; omega
    have nbc : vb.ownBlock = none ∨ vb.ownBlock ≠ vc.ownBlock := by
      cases hv : vb.ownBlock with
      | none => exact .inl rfl
      | some k => exact .inr fun e => by have := (hbc.out k hv).2; have := hcc.out k e.symm; omega
    have nba : vb.ownBlock = none ∨ vb.ownBlock ≠ va.ownBlock := by
      cases hv : vb.ownBlock with
      | none => exact .inl rfl
      | some k => exact .inr fun e => by have := hab.out k e.symm; have := (hbc.out k hv).1; omega
    have nca : vc.ownBlock = none ∨ vc.ownBlock ≠ va.ownBlock := by
      cases hv : vc.ownBlock with
      | none => exact .inl rfl
      | some k => exact .inr fun e => by have := hac.out k e.symm; have := hcc.out k hv; omega
    have ncb : vc.ownBlock = none ∨ vc.ownBlock ≠ vb.ownBlock := by
      cases hv : vc.ownBlock with
      | none => exact .inl rfl
      | some k => exact .inr fun e => by have := (hbc.out k e.symm).2; have := hcc.out k hv; omega
    have NAB := Lib.hid nab
    have NAC := Lib.hid nac
    have NBC := Lib.hid nbc
    have NBA := Lib.hid nba
    have NCA := Lib.hid nca
    have NCB := Lib.hid ncb
    clear nab nac nbc nba nca ncb
    have TA := Lib.hid (turn_pk (fr := fr) hrow h0 hfr (by omega) (by omega) A5.out)
    go_wp2_with fail
    refine TA.out.mono ?_
    rintro y w6 ⟨rfl, pa, hg⟩
    have A6 := Lib.hid pa
    have B6 := Lib.hid (B5.out.kept hg NBA.out)
    have C6 := Lib.hid (C5.out.kept hg NCA.out)
    have L6 := Lib.hid (L5.out.grown hg hs5 (fun k hk => by have := (A5.out.lt k hk).1; omega))
    have hs6 := L6.out.size
    clear pa hg A5 B5 C5 L5 TA
    have TB := Lib.hid (turn_pk (fr := fr) hrow h0 hfr (by omega) (by omega) B6.out)
    go_wp2_with fail
    refine TB.out.mono ?_
    rintro y w7 ⟨rfl, pb, hg⟩
    have A7 := Lib.hid (A6.out.kept hg NAB.out)
    have B7 := Lib.hid pb
    have C7 := Lib.hid (C6.out.kept hg NCB.out)
    have L7 := Lib.hid (L6.out.grown hg hs6 (fun k hk => by have := (B6.out.lt k hk).1; omega))
    have hs7 := L7.out.size
    clear pb hg A6 B6 C6 L6 TB
    have TC := Lib.hid (turn_pk (fr := fr) hrow h0 hfr hN1 (by omega) C7.out)
    go_wp2_with fail
    refine TC.out.mono ?_
    rintro y w8 ⟨rfl, pc, hg⟩
    have A8 := Lib.hid (A7.out.kept hg NAC.out)
    have B8 := Lib.hid (B7.out.kept hg NBC.out)
    have C8 := Lib.hid pc
    have L8 := Lib.hid (L7.out.grown hg hs7 (fun k hk => by have := (C7.out.lt k hk).1; omega))
    have hs8 := L8.out.size
    clear pc hg A7 B7 C7 L7 TC NAB NAC NBC NBA NCA NCB hab hac hbc hcc
    by_cases haz : ea = 0
    · subst haz
      have UA := Lib.hid (untorn_rec A8.out)
      go_wp2_with fail
      refine UA.out.mono ?_
      rintro y w9 ⟨rfl, hb⟩
      have L9 := Lib.hid (L8.out.trans (hb.mono hs8))
      have B9 := Lib.hid (B8.out.below hb)
      have C9 := Lib.hid (C8.out.below hb)
      have hs9 := L9.out.size
      have Za := Lib.hid (blk_at (w := w9) (g := w9.heap.size) (cs := zrec) (t := 26) (arr := #[.int .i64 0, .int .u64 0, .int .i64 0, .int .u8 0, .int .u8 0, .int .u8 0, .int .u8 0, .int .u8 0, .int .u8 0, .int .u8 0, .int .u8 0, .int .u8 0, .int .u8 0, .int .u8 0, .int .u8 0, .int .u8 0, .int .u8 0, .int .u8 0, .int .u8 0]) rfl rfl)
      clear hb UA
      go_upto_region 13 with (refine wpList_store_blk rfl 26 _ _ rfl w9.heap.size 0 19 rfl 26 zrec zrec rfl Za.out (by kernel_rfl) rfl (by decide) (recV_one _ _ _ _) ?_; intro w10 z10 g10; have L10 := Lib.hid (below_grown (L9.out.alloc hs9 _) g10 (by simp only [size_alloc]; omega) hs9); have B10 := Lib.hid (B9.out.below (below_grown ((Below.refl w9.heap.size w9).alloc (Nat.le_refl _) _) g10 (by simp only [size_alloc]; omega) (Nat.le_refl _))); have C10 := Lib.hid (C9.out.below (below_grown ((Below.refl w9.heap.size w9).alloc (Nat.le_refl _) _) g10 (by simp only [size_alloc]; omega) (Nat.le_refl _))); have hs10 := L10.out.size; clear z10 g10)
      by_cases hbz : eb = 0
      · subst hbz
        have UB := Lib.hid (untorn_sup B10.out)
        go_wp2_with fail
        refine UB.out.mono ?_
        rintro y w11 ⟨rfl, hb⟩
        have L11 := Lib.hid (L10.out.trans (hb.mono hs10))
        have C11 := Lib.hid (C10.out.below hb)
        have hs11 := L11.out.size
        have Zb := Lib.hid (blk_at (w := w11) (g := w11.heap.size) (cs := zsup) (t := 52) (arr := #[.int .i64 0, .int .i64 0, .int .i64 0, .int .i64 0, .int .u32 0, .int .u64 0, .int .i64 0]) rfl rfl)
        clear hb UB
        go_upto_region 17 with (refine wpList_store_blk rfl 52 _ _ rfl w11.heap.size 0 7 rfl 52 zsup zsup rfl Zb.out (by kernel_rfl) rfl (by decide) (by decide) ?_; intro w12 z12 g12; have L12 := Lib.hid (below_grown (L11.out.alloc hs11 _) g12 (by simp only [size_alloc]; omega) hs11); have C12 := Lib.hid (C11.out.below (below_grown ((Below.refl w11.heap.size w11).alloc (Nat.le_refl _) _) g12 (by simp only [size_alloc]; omega) (Nat.le_refl _))); have hs12 := L12.out.size; clear z12 g12)
        by_cases hc : ec = 0
        · subst hc
          have UC := Lib.hid (untorn_msg hN1 hN2 C12.out)
          go_wp2_with fail
          refine UC.out.mono ?_
          rintro y w13 ⟨ba, bn, bc, rfl, hb⟩
          have L13 := Lib.hid (L12.out.trans (hb.mono hs12))
          have hs13 := L13.out.size
          have Zc := Lib.hid (blk_at (w := w13) (g := w13.heap.size) (cs := zmsg) (t := 43) (arr := #[.int .u32 0, .int .u32 0, .int .u32 0, .slice none 0 0]) rfl rfl)
          clear hb UC
          go_wp2_with (first | (refine wpList_store_blk rfl 43 _ _ rfl w13.heap.size 0 4 rfl 43 zmsg (msgV 0 0 0 (.slice ba bn bc)) rfl Zc.out (by kernel_rfl) rfl (by decide) (by intro u hu; simp [msgV] at hu; rcases hu with rfl | rfl | rfl | rfl <;> rfl) ?_; intro wz zz gz; have LZ := Lib.hid (below_grown (L13.out.alloc hs13 _) gz (by simp only [size_alloc]; omega) hs13); clear zz gz))
          go_ret
          exact ⟨rfl, LZ.out⟩
        · go_wp2
          go_ret
          exact ⟨rfl, L12.out⟩
      · by_cases hc : ec = 0
        · subst hc
          have UC := Lib.hid (untorn_msg hN1 hN2 C10.out)
          go_wp2_with fail
          refine UC.out.mono ?_
          rintro y w11 ⟨ba, bn, bc, rfl, hb⟩
          have L11 := Lib.hid (L10.out.trans (hb.mono hs10))
          have hs11 := L11.out.size
          have Zc := Lib.hid (blk_at (w := w11) (g := w11.heap.size) (cs := zmsg) (t := 43) (arr := #[.int .u32 0, .int .u32 0, .int .u32 0, .slice none 0 0]) rfl rfl)
          clear hb UC
          go_wp2_with (first | (refine wpList_store_blk rfl 43 _ _ rfl w11.heap.size 0 4 rfl 43 zmsg (msgV 0 0 0 (.slice ba bn bc)) rfl Zc.out (by kernel_rfl) rfl (by decide) (by intro u hu; simp [msgV] at hu; rcases hu with rfl | rfl | rfl | rfl <;> rfl) ?_; intro wz zz gz; have LZ := Lib.hid (below_grown (L11.out.alloc hs11 _) gz (by simp only [size_alloc]; omega) hs11); clear zz gz))
          go_ret
          exact ⟨rfl, LZ.out⟩
        · go_wp2
          go_ret
          exact ⟨rfl, L10.out⟩
    · by_cases hbz : eb = 0
      · subst hbz
        have UB := Lib.hid (untorn_sup B8.out)
        go_wp2_with fail
        refine UB.out.mono ?_
        rintro y w9 ⟨rfl, hb⟩
        have L9 := Lib.hid (L8.out.trans (hb.mono hs8))
        have C9 := Lib.hid (C8.out.below hb)
        have hs9 := L9.out.size
        have Zb := Lib.hid (blk_at (w := w9) (g := w9.heap.size) (cs := zsup) (t := 52) (arr := #[.int .i64 0, .int .i64 0, .int .i64 0, .int .i64 0, .int .u32 0, .int .u64 0, .int .i64 0]) rfl rfl)
        clear hb UB
        go_upto_region 17 with (refine wpList_store_blk rfl 52 _ _ rfl w9.heap.size 0 7 rfl 52 zsup zsup rfl Zb.out (by kernel_rfl) rfl (by decide) (by decide) ?_; intro w10 z10 g10; have L10 := Lib.hid (below_grown (L9.out.alloc hs9 _) g10 (by simp only [size_alloc]; omega) hs9); have C10 := Lib.hid (C9.out.below (below_grown ((Below.refl w9.heap.size w9).alloc (Nat.le_refl _) _) g10 (by simp only [size_alloc]; omega) (Nat.le_refl _))); have hs10 := L10.out.size; clear z10 g10)
        by_cases hc : ec = 0
        · subst hc
          have UC := Lib.hid (untorn_msg hN1 hN2 C10.out)
          go_wp2_with fail
          refine UC.out.mono ?_
          rintro y w11 ⟨ba, bn, bc, rfl, hb⟩
          have L11 := Lib.hid (L10.out.trans (hb.mono hs10))
          have hs11 := L11.out.size
          have Zc := Lib.hid (blk_at (w := w11) (g := w11.heap.size) (cs := zmsg) (t := 43) (arr := #[.int .u32 0, .int .u32 0, .int .u32 0, .slice none 0 0]) rfl rfl)
          clear hb UC
          go_wp2_with (first | (refine wpList_store_blk rfl 43 _ _ rfl w11.heap.size 0 4 rfl 43 zmsg (msgV 0 0 0 (.slice ba bn bc)) rfl Zc.out (by kernel_rfl) rfl (by decide) (by intro u hu; simp [msgV] at hu; rcases hu with rfl | rfl | rfl | rfl <;> rfl) ?_; intro wz zz gz; have LZ := Lib.hid (below_grown (L11.out.alloc hs11 _) gz (by simp only [size_alloc]; omega) hs11); clear zz gz))
          go_ret
          exact ⟨rfl, LZ.out⟩
        · go_wp2
          go_ret
          exact ⟨rfl, L10.out⟩
      · by_cases hc : ec = 0
        · subst hc
          have UC := Lib.hid (untorn_msg hN1 hN2 C8.out)
          go_wp2_with fail
          refine UC.out.mono ?_
          rintro y w9 ⟨ba, bn, bc, rfl, hb⟩
          have L9 := Lib.hid (L8.out.trans (hb.mono hs8))
          have hs9 := L9.out.size
          have Zc := Lib.hid (blk_at (w := w9) (g := w9.heap.size) (cs := zmsg) (t := 43) (arr := #[.int .u32 0, .int .u32 0, .int .u32 0, .slice none 0 0]) rfl rfl)
          clear hb UC
          go_wp2_with (first | (refine wpList_store_blk rfl 43 _ _ rfl w9.heap.size 0 4 rfl 43 zmsg (msgV 0 0 0 (.slice ba bn bc)) rfl Zc.out (by kernel_rfl) rfl (by decide) (by intro u hu; simp [msgV] at hu; rcases hu with rfl | rfl | rfl | rfl <;> rfl) ?_; intro wz zz gz; have LZ := Lib.hid (below_grown (L9.out.alloc hs9 _) gz (by simp only [size_alloc]; omega) hs9); clear zz gz))
          go_ret
          exact ⟨rfl, LZ.out⟩
        · go_wp2
          go_ret
          exact ⟨rfl, L8.out⟩
section
variable {H : Type} {enc : TypeId × Value → H} {base : Nat} {spare : Nat → Bool} {held : Bool} {W : World}
theorem torn_in (c : List Value) (hl : c.length = 19) (h : Opens.Fits enc Try.prog W base spare held ([.int .i64, .int .u64, .int .i64] ++ List.replicate 16 (.int .u8)) c)
    (c' : List Value) (hl' : c'.length = 7) (h' : Opens.Fits enc Try.prog W base spare held (List.replicate 4 (.int .i64) ++ [.int .u32, .int .u64, .int .i64]) c')
    (c'' : List Value) (hl'' : c''.length = 4) (h'' : Opens.Fits enc Try.prog W base spare held ([.int .u32, .int .u32, .int .u32] ++ [.slice 5]) c'')
    (row : Int) (wr : (Lit.int .u32 row).wf = true) (fr : Int) (wf : (Lit.int .u16 fr).wf = true) :
    Calls Try.prog 10 #[.agg c.toArray, .agg c'.toArray, .agg c''.toArray, .int .u32 row, .int .u16 fr] W fun e w' => e = .returned (.bool true) ∧ Below W.heap.size W w' := by
  obtain ⟨k, v, a, l, hl16, hv, hk, ha, rfl⟩ := rec_in hl rfl h
  obtain ⟨x, hx, rfl⟩ := sup_in hl' (show Opens.Fits enc Try.prog W base spare held [.int .i64, .int .i64, .int .i64, .int .i64, .int .u32, .int .u64, .int .i64] c' from h')
  obtain ⟨e, s, q, b, n, cb, m, he, hs, hq, rfl, hb, hn⟩ := msg_in hl'' h''
  obtain ⟨r, hr, rfl⟩ := Opens.wf_u32 wr
  obtain ⟨f, hf, rfl⟩ := Opens.wf_u16 wf
  exact torn_walk (r := ⟨k, v, a, l⟩) ⟨hl16, hv, hk, ha⟩ hx he hs hq r f hr hf W hb
end
end Go.Proofs.Ytmmgejlfcehipaa.Codec
