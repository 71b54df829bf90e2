/-
  UnpackMsg of the codec by contract. Helper text; no statement is proved here.
-/
import Derived.Test.YtmmgejlfcehipaaMsgPlain
set_option linter.unusedVariables false
set_option linter.unusedSimpArgs false
namespace Go.Proofs.Ytmmgejlfcehipaa.Codec
open Go.RowKit Go.Proofs.Ytmmgejlfcehipaa.Base Go.Proofs.Ytmmgejlfcehipaa.Laws Go.Proofs.Ytmmgejlfcehipaa.Inv Go.Proofs.Ytmmgejlfcehipaa.InvL Go.Proofs.Ytmmgejlfcehipaa.InvM
theorem built_msg (e s a : Nat) (b : Option Addr) (n c : Nat) : Try.prog.built 43 [(0, .int .u32 (e : Int)), (1, .int .u32 (s : Int)), (2, .int .u32 (a : Int)), (3, .slice b n c)] = some (msgV e s a (.slice b n c)).toArray := by kernel_rfl
theorem slice_three (w : World) (a : Option Addr) (len cap i j : Nat) (hi : i ≤ j) (hj : j ≤ cap) : (Instr.sliceAt 27 (.slice a len cap) (some (.int .i64 (i : Int))) (some (.int .i64 (j : Int))) (some (.int .i64 (j : Int)))).run Try.prog w = .ok (.slice (shifted a i j) (j - i) (j - i)) w := by
  have hu := run_underlying (P := Try.prog) (w := w) Try.underlying27
  have h1 := run_sliceBound (P := Try.prog) (w := w) .i64 j cap .slice3Acap (by omega) (by omega)
  have h2 := run_sliceBound (P := Try.prog) (w := w) .i64 j j .slice3B (by omega) (by omega)
  have h3 := run_sliceBound (P := Try.prog) (w := w) .i64 i j .slice3C (by omega) (by omega)
  simp only [Instr.sliceAt, Sem.run_bind, hu, Result.andThen_ok, Instr.slice, Instr.sliceBounds, Option.isSome_some, Sem.run_pure, sizeu8 w]
  simp [h1, h2, h3, shifted, sizeu8 w]
set_option maxHeartbeats 1000000 in
theorem unpackmsg_short (a : Option Addr) (len cap : Nat) (l : List UInt8) (w : World) (h : Bts w a len cap l) (hs : len < 17) :
    Calls Try.prog 21 #[.slice a len cap] w fun x w' => x = .returned (.tuple #[.agg zmsg.toArray, .int .i64 1]) ∧ Below w.heap.size w w' := by
  obtain ⟨hl, hlc, hm, ha⟩ := h
  unfold maxLen at hm
  clear ha
  have Z := Lib.hid (blk_at (w := w) (g := w.heap.size) (cs := zmsg) (t := 43) (arr := #[.int .u32 0, .int .u32 0, .int .u32 0, .slice none 0 0]) rfl rfl)
  go_enter Try.func21, Try.ntmps21
  go_upto_region 2 with (fail)
  obtain ⟨w1, hw1⟩ : ∃ w1, w1 = w.alloc (.cells #[.int .u32 0, .int .u32 0, .int .u32 0, .slice none 0 0] 43) := ⟨_, rfl⟩
  have L1 := Lib.hid (show Below w.heap.size w w1 from hw1 ▸ ((Below.refl w.heap.size w).alloc (Nat.le_refl _) _))
  rw [← hw1] at Z ⊢
  clear hw1
  go_wp2_with (first | (refine wpList_store_blk rfl 43 _ _ rfl w.heap.size 0 4 rfl 43 zmsg zmsg rfl Z.out (by kernel_rfl) rfl (by decide) (by decide) ?_; intro w2 z2 g2; have Z2 := Lib.hid (show Blk w2 w.heap.size zmsg 43 from z2); have L2 := Lib.hid (below_grown L1.out g2 L1.out.size (Nat.le_refl _)); clear z2 g2))
  exact bodyPost_ret (v := .tuple #[.agg zmsg.toArray, .int .i64 1]) (results_cell_two rfl _ _ w.heap.size 43 _ (0, 0) _ _ rfl rfl Z2.out Try.underlying43 rfl (by kernel_rfl)) rfl ⟨rfl, L2.out⟩
set_option maxRecDepth 4000 in
set_option maxHeartbeats 2000000 in
theorem unpackmsg_long (a : Option Addr) (len cap : Nat) (l : List UInt8) (w : World) (h : Bts w a len cap l) (hs : 17 ≤ len) (hbig : len ≤ 140737488355328) :
    Calls Try.prog 21 #[.slice a len cap] w fun x w' => ∃ ba bn bc, x = .returned (.tuple #[.agg #[.int .u32 ((mOut l).e : Int), .int .u32 ((mOut l).s : Int), .int .u32 ((mOut l).a : Int), .slice ba bn bc], .int .i64 (mErr l)]) ∧ Bts w' ba bn bc (mOut l).l ∧ Below w.heap.size w w' := by
  have h0 := h
  obtain ⟨hl, hlc, hm, ha⟩ := h
  rcases ha with ha | ⟨b, o, rfl, hc⟩
  · omega
  have hb : b < w.heap.size := by
    obtain ⟨x, hx⟩ : ∃ x, l[0]? = some x := ⟨_, List.getElem?_eq_getElem (by omega)⟩
    exact block_lt_of_cell (hc 0 x hx)
  have T0 := Lib.hid h0
  clear h0 hc
  have F0 := Lib.hid (fun w' (h : Bts w' (some ⟨b, o, none⟩) len cap l) => bts_sub h 0 4 cap (by omega) (by omega) (by omega))
  have F4 := Lib.hid (fun w' (h : Bts w' (some ⟨b, o, none⟩) len cap l) => bts_sub h 4 4 (cap - 4) (by omega) (by omega) (by omega))
  have F8 := Lib.hid (fun w' (h : Bts w' (some ⟨b, o, none⟩) len cap l) => bts_sub h 8 4 (cap - 8) (by omega) (by omega) (by omega))
  obtain ⟨n, hn⟩ : ∃ n, n = len - 17 := ⟨_, rfl⟩
  obtain ⟨q, hq⟩ : ∃ q, q = len - 4 := ⟨_, rfl⟩
  obtain ⟨ba, hba⟩ : ∃ ba, ba = shifted (some ⟨b, o, none⟩) 13 q := ⟨_, rfl⟩
  have BS := Lib.hid (show ∃ bx, ba = some bx by rw [hba]; unfold shifted; split <;> exact ⟨_, rfl⟩)
  have BB := Lib.hid (fun w' (h : Bts w' (some ⟨b, o, none⟩) len cap l) => (show Bts w' ba n n (bodyOf l) from by
    obtain ⟨g1, g2, g3, g4⟩ := h
    refine ⟨by rw [bodyOf_len (by omega)]; omega, Nat.le_refl _, by omega, ?_⟩
    rcases g4 with g4 | ⟨b', o', e, hc⟩
    · exact .inl (by omega)
    · simp only [Option.some.injEq, Addr.mk.injEq, and_true] at e
      obtain ⟨rfl, rfl⟩ := e
      by_cases h0 : n = 0
      · exact .inl h0
      · rw [hba]
        unfold shifted
        rw [if_neg (by omega)]
        refine .inr ⟨b, o + 13, by simp [Addr.add], fun i u hu => ?_⟩
        unfold bodyOf at hu
        rw [List.getElem?_take] at hu
        split at hu
        · rw [List.getElem?_drop] at hu
          rw [Nat.add_assoc]
          exact hc _ u hu
        · cases hu))
  have S3 := Lib.hid (fun w' => (show (Instr.sliceAt 27 (.slice (some ⟨b, o, none⟩) len cap) (some (.int .i64 13)) (some (.int .i64 (q : Int))) (some (.int .i64 (q : Int)))).run Try.prog w' = .ok (.slice ba n n) w' from by
    have := slice_three w' (some ⟨b, o, none⟩) len cap 13 q (by omega) (by omega)
    rw [← hba, show q - 13 = n from by omega] at this
    exact this))
  have WQ := Lib.hid (show IntKind.i64.wrap ((len : Int) - 4) = (q : Int) by unfold maxLen at hm; rw [IntKind.wrap_i64]; omega)
  have W0 := Lib.hid (show IntKind.u32.wrap (fieldOf l 0 : Nat) = (fieldOf l 0 : Nat) by have := fieldOf_lt l 0; rw [IntKind.wrap_u32]; omega)
  have W4 := Lib.hid (show IntKind.u32.wrap (fieldOf l 4 : Nat) = (fieldOf l 4 : Nat) by have := fieldOf_lt l 4; rw [IntKind.wrap_u32]; omega)
  have W8 := Lib.hid (show IntKind.u32.wrap (fieldOf l 8 : Nat) = (fieldOf l 8 : Nat) by have := fieldOf_lt l 8; rw [IntKind.wrap_u32]; omega)
  have hnl : n ≤ 140737488355328 := by omega
  have hln := bodyOf_len (l := l) (by omega)
  have NL := Lib.hid (show n = l.length - 17 by omega)
  unfold maxLen at hm
  obtain ⟨w1, hw1⟩ : ∃ w1, w1 = w.alloc (.cells #[.int .u32 0, .int .u32 0, .int .u32 0, .slice none 0 0] 43) := ⟨_, rfl⟩
  have Z := Lib.hid (show Blk w1 w.heap.size zmsg 43 from hw1 ▸ (blk_at (w := w) (g := w.heap.size) (cs := zmsg) (t := 43) (arr := #[.int .u32 0, .int .u32 0, .int .u32 0, .slice none 0 0]) rfl rfl))
  have L1 := Lib.hid (show Below w.heap.size w w1 from hw1 ▸ ((Below.refl w.heap.size w).alloc (Nat.le_refl _) _))
  have TT := Lib.hid (show Bts w1 (some ⟨b, o, none⟩) len cap l from hw1 ▸ bts_alloc T0.out _)
  have TP := Lib.hid (show w.tape = w1.drew.tape from by rw [hw1]; rfl)
  have hN1 : w1.heap.size = w.heap.size + 1 := by rw [hw1]; simp only [size_alloc]
  have m0 : ¬ cap = 0 := by omega
  have m4 : ¬ cap = 4 := by omega
  have m8 : ¬ cap = 8 := by omega
  have i4 : (4 : Int) ≤ cap := by omega
  have i8 : (8 : Int) ≤ cap := by omega
  have i12 : (12 : Int) ≤ cap := by omega
  have hs17 : (17 : Int) ≤ len := by omega
  clear hq hn hba hln
  go_enter Try.func21, Try.ntmps21
  go_wp2
  rw [← hw1]
  clear hw1 T0
  obtain ⟨N, hN⟩ : ∃ N, N = w1.heap.size := ⟨_, rfl⟩
  obtain ⟨D, hD⟩ : ∃ D, D = w1.drew.drawn := ⟨_, rfl⟩
  obtain ⟨cc, hcc⟩ : ∃ cc, cc = cloneCap w1.drew n := ⟨_, rfl⟩
  refine InvC.wp_region_two_tail (fun κ d w' => (Bts w' (some ⟨b, o, none⟩) len cap l ∧ Blk w' w.heap.size zmsg 43 ∧ Below w.heap.size w w') ∧ MsgSt N D (cloneOff n) n cc 22 20 (bodyOf l) κ d w') (fun i => [some (.slice (some ⟨b, o, none⟩) len cap), some (.slice (some ⟨b, o, none⟩) 4 cap), some (.int .u64 (fieldOf l 0 : Nat)), some (.int .u32 (fieldOf l 0 : Nat)), some (.slice (some ⟨b, o, none⟩) len cap), some (.slice (some ⟨b, o + 4, none⟩) 4 (cap - 4)), some (.int .u64 (fieldOf l 4 : Nat)), some (.int .u32 (fieldOf l 4 : Nat)), some (.slice (some ⟨b, o, none⟩) len cap), some (.slice (some ⟨b, o + 8, none⟩) 4 (cap - 8)), some (.int .u64 (fieldOf l 8 : Nat)), some (.int .u32 (fieldOf l 8 : Nat)), some (.slice (some ⟨b, o, none⟩) len cap), some (.slice (some ⟨b, o, none⟩) len cap), some (.int .i64 (len : Int)), some (.int .i64 (q : Int)), some (.slice (some ⟨b, o, none⟩) len cap), some (.int .i64 (len : Int)), some (.int .i64 (q : Int)), some (.slice ba n n), none, none, none].getD i none) 23 22 20 (by kernel_rfl) (by kernel_rfl) (by decide) (by decide) (by decide) (by kernel_rfl) (fun d w' h1 h2 => by unfold MsgSt; rw [h1, h2]) (fun κ => ⟨⟨TT.out, Z.out.drew, L1.out.drew⟩, by unfold MsgSt; exact ⟨hN.symm, hD.symm⟩⟩) (fun κ => ?_)
  have KV := Lib.hid (fun (i : Nat) (d : Array Bool) (w' : World) (h1 : i ≠ 22) (h2 : i ≠ 20) (h : (Bts w' (some ⟨b, o, none⟩) len cap l ∧ Blk w' w.heap.size zmsg 43 ∧ Below w.heap.size w w') ∧ MsgSt N D (cloneOff n) n cc 22 20 (bodyOf l) κ d w') => (⟨h.1, h.2.keep h1 h2⟩ : (Bts w' (some ⟨b, o, none⟩) len cap l ∧ Blk w' w.heap.size zmsg 43 ∧ Below w.heap.size w w') ∧ MsgSt N D (cloneOff n) n cc 22 20 (bodyOf l) κ (d.setIfInBounds i true) w'))
  obtain ⟨mc, hmc⟩ : ∃ mc, mc = msgV (fieldOf l 0) (fieldOf l 4) (fieldOf l 8) (.slice (some ⟨cB N κ + cloneOff n, 0, none⟩) n cc) := ⟨_, rfl⟩
  have HM := Lib.hid hmc
  have HD := Lib.hid hD
  have HN := Lib.hid hN
  have HCC := Lib.hid hcc
  have BM := Lib.hid (built_msg (fieldOf l 0) (fieldOf l 4) (fieldOf l 8) (some ⟨cB N κ + cloneOff n, 0, none⟩) n cc)
  rw [← hmc] at BM
  clear hmc hD hN hcc
  simp only [List.take_succ_cons, List.take_zero, List.drop_succ_cons, List.drop_zero]
  refine InvC.invc_value (.slice (some ⟨b, o, none⟩) len cap) (fun u hu => Option.some.inj hu) rfl (fun d w' _ _ h => by go_simp) (fun d w' _ _ h => KV.out _ d w' (by decide) (by decide) h) ?_
  simp only [Act.put, List.setIfInBounds_toArray, List.set_cons_zero, List.set_cons_succ]
  refine InvC.invc_value (.slice (some ⟨b, o, none⟩) 4 cap) (fun u hu => Option.some.inj hu) rfl (fun d w' _ _ h => by go_simp) (fun d w' _ _ h => KV.out _ d w' (by decide) (by decide) h) ?_
  simp only [Act.put, List.setIfInBounds_toArray, List.set_cons_zero, List.set_cons_succ]
  refine InvC.invc_call (.int .u64 (fieldOf l 0 : Nat)) (fun u hu => Option.some.inj hu) rfl 35 #[.slice (some ⟨b, o, none⟩) 4 cap] (fun d w' _ => by go_simp) (fun d w' _ _ h => (read_any _ _ _ ((l.drop 0).take 4) (by decide) w' (F0.out w' h.1.1)).mono fun e w'' ⟨he, hw⟩ => ⟨he, hw ▸ KV.out _ d w' (by decide) (by decide) h⟩) ?_
  simp only [Act.put, List.setIfInBounds_toArray, List.set_cons_zero, List.set_cons_succ]
  refine InvC.invc_value (.int .u32 (fieldOf l 0 : Nat)) (fun u hu => Option.some.inj hu) rfl (fun d w' _ _ h => by go_simp; all_goals exact W0.out) (fun d w' _ _ h => KV.out _ d w' (by decide) (by decide) h) ?_
  simp only [Act.put, List.setIfInBounds_toArray, List.set_cons_zero, List.set_cons_succ]
  refine InvC.invc_value (.slice (some ⟨b, o, none⟩) len cap) (fun u hu => Option.some.inj hu) rfl (fun d w' _ _ h => by go_simp) (fun d w' _ _ h => KV.out _ d w' (by decide) (by decide) h) ?_
  simp only [Act.put, List.setIfInBounds_toArray, List.set_cons_zero, List.set_cons_succ]
  refine InvC.invc_value (.slice (some ⟨b, o + 4, none⟩) 4 (cap - 4)) (fun u hu => Option.some.inj hu) rfl (fun d w' _ _ h => by go_simp) (fun d w' _ _ h => KV.out _ d w' (by decide) (by decide) h) ?_
  simp only [Act.put, List.setIfInBounds_toArray, List.set_cons_zero, List.set_cons_succ]
  refine InvC.invc_call (.int .u64 (fieldOf l 4 : Nat)) (fun u hu => Option.some.inj hu) rfl 35 #[.slice (some ⟨b, o + 4, none⟩) 4 (cap - 4)] (fun d w' _ => by go_simp) (fun d w' _ _ h => (read_any _ _ _ ((l.drop 4).take 4) (by decide) w' (F4.out w' h.1.1)).mono fun e w'' ⟨he, hw⟩ => ⟨he, hw ▸ KV.out _ d w' (by decide) (by decide) h⟩) ?_
  simp only [Act.put, List.setIfInBounds_toArray, List.set_cons_zero, List.set_cons_succ]
  refine InvC.invc_value (.int .u32 (fieldOf l 4 : Nat)) (fun u hu => Option.some.inj hu) rfl (fun d w' _ _ h => by go_simp; all_goals exact W4.out) (fun d w' _ _ h => KV.out _ d w' (by decide) (by decide) h) ?_
  simp only [Act.put, List.setIfInBounds_toArray, List.set_cons_zero, List.set_cons_succ]
  refine InvC.invc_value (.slice (some ⟨b, o, none⟩) len cap) (fun u hu => Option.some.inj hu) rfl (fun d w' _ _ h => by go_simp) (fun d w' _ _ h => KV.out _ d w' (by decide) (by decide) h) ?_
  simp only [Act.put, List.setIfInBounds_toArray, List.set_cons_zero, List.set_cons_succ]
  refine InvC.invc_value (.slice (some ⟨b, o + 8, none⟩) 4 (cap - 8)) (fun u hu => Option.some.inj hu) rfl (fun d w' _ _ h => by go_simp) (fun d w' _ _ h => KV.out _ d w' (by decide) (by decide) h) ?_
  simp only [Act.put, List.setIfInBounds_toArray, List.set_cons_zero, List.set_cons_succ]
  refine InvC.invc_call (.int .u64 (fieldOf l 8 : Nat)) (fun u hu => Option.some.inj hu) rfl 35 #[.slice (some ⟨b, o + 8, none⟩) 4 (cap - 8)] (fun d w' _ => by go_simp) (fun d w' _ _ h => (read_any _ _ _ ((l.drop 8).take 4) (by decide) w' (F8.out w' h.1.1)).mono fun e w'' ⟨he, hw⟩ => ⟨he, hw ▸ KV.out _ d w' (by decide) (by decide) h⟩) ?_
  simp only [Act.put, List.setIfInBounds_toArray, List.set_cons_zero, List.set_cons_succ]
  refine InvC.invc_value (.int .u32 (fieldOf l 8 : Nat)) (fun u hu => Option.some.inj hu) rfl (fun d w' _ _ h => by go_simp; all_goals exact W8.out) (fun d w' _ _ h => KV.out _ d w' (by decide) (by decide) h) ?_
  simp only [Act.put, List.setIfInBounds_toArray, List.set_cons_zero, List.set_cons_succ]
  refine InvC.invc_value (.slice (some ⟨b, o, none⟩) len cap) (fun u hu => Option.some.inj hu) rfl (fun d w' _ _ h => by go_simp) (fun d w' _ _ h => KV.out _ d w' (by decide) (by decide) h) ?_
  simp only [Act.put, List.setIfInBounds_toArray, List.set_cons_zero, List.set_cons_succ]
  refine InvC.invc_value (.slice (some ⟨b, o, none⟩) len cap) (fun u hu => Option.some.inj hu) rfl (fun d w' _ _ h => by go_simp) (fun d w' _ _ h => KV.out _ d w' (by decide) (by decide) h) ?_
  simp only [Act.put, List.setIfInBounds_toArray, List.set_cons_zero, List.set_cons_succ]
  refine InvC.invc_value (.int .i64 (len : Int)) (fun u hu => Option.some.inj hu) rfl (fun d w' _ _ h => by go_simp) (fun d w' _ _ h => KV.out _ d w' (by decide) (by decide) h) ?_
  simp only [Act.put, List.setIfInBounds_toArray, List.set_cons_zero, List.set_cons_succ]
  refine InvC.invc_value (.int .i64 (q : Int)) (fun u hu => Option.some.inj hu) rfl (fun d w' _ _ h => by go_simp; all_goals exact WQ.out) (fun d w' _ _ h => KV.out _ d w' (by decide) (by decide) h) ?_
  simp only [Act.put, List.setIfInBounds_toArray, List.set_cons_zero, List.set_cons_succ]
  refine InvC.invc_value (.slice (some ⟨b, o, none⟩) len cap) (fun u hu => Option.some.inj hu) rfl (fun d w' _ _ h => by go_simp) (fun d w' _ _ h => KV.out _ d w' (by decide) (by decide) h) ?_
  simp only [Act.put, List.setIfInBounds_toArray, List.set_cons_zero, List.set_cons_succ]
  refine InvC.invc_value (.int .i64 (len : Int)) (fun u hu => Option.some.inj hu) rfl (fun d w' _ _ h => by go_simp) (fun d w' _ _ h => KV.out _ d w' (by decide) (by decide) h) ?_
  simp only [Act.put, List.setIfInBounds_toArray, List.set_cons_zero, List.set_cons_succ]
  refine InvC.invc_value (.int .i64 (q : Int)) (fun u hu => Option.some.inj hu) rfl (fun d w' _ _ h => by go_simp; all_goals exact WQ.out) (fun d w' _ _ h => KV.out _ d w' (by decide) (by decide) h) ?_
  simp only [Act.put, List.setIfInBounds_toArray, List.set_cons_zero, List.set_cons_succ]
  refine InvC.invc_value (.slice ba n n) (fun u hu => Option.some.inj hu) rfl (fun d w' _ _ h => exec_slice rfl (S3.out w')) (fun d w' _ _ h => KV.out _ d w' (by decide) (by decide) h) ?_
  simp only [Act.put, List.setIfInBounds_toArray, List.set_cons_zero, List.set_cons_succ]
  refine InvC.invc_call (.slice (some ⟨cB N κ + cloneOff n, 0, none⟩) n cc) (fun u hu => by cases hu) rfl 37 #[.slice ba n n] (fun d w' _ => by go_simp) (fun d w' hd hG h => by
    obtain ⟨hs', hdr⟩ := h.2.at_c (by decide) hd hG
    obtain ⟨bx, hbx⟩ := BS.out
    have hcl := clone_any bx n n (bodyOf l) (by omega) w' w1.drew (h.1.2.2.tape.trans TP.out) (hdr.trans HD.out) (by rw [← hbx]; exact BB.out w' h.1.1)
    rw [← hbx, ← HCC.out] at hcl
    refine hcl.mono fun e w'' ⟨he, h2, h3, h4⟩ => ⟨by rw [he, hs'], ⟨h.1.1.below h4 (Nat.le_refl _), h.1.2.1.below h4 h.1.2.1.lt, h.1.2.2.trans (h4.mono h.1.2.2.size)⟩, h.2.cloned (by decide) hd hG h2 h3 h4⟩) ?_
  simp only [Act.put, List.setIfInBounds_toArray, List.set_cons_zero, List.set_cons_succ]
  refine InvC.invc_value (.agg mc.toArray) (fun u hu => by cases hu) rfl (fun d w' _ _ h => exec_build (vs := [(0, .int .u32 (fieldOf l 0 : Nat)), (1, .int .u32 (fieldOf l 4 : Nat)), (2, .int .u32 (fieldOf l 8 : Nat)), (3, .slice (some ⟨cB N κ + cloneOff n, 0, none⟩) n cc)]) rfl rfl BM.out) (fun d w' _ _ h => KV.out _ d w' (by decide) (by decide) h) ?_
  simp only [Act.put, List.setIfInBounds_toArray, List.set_cons_zero, List.set_cons_succ]
  refine InvC.invc_world (.pointer (some ⟨pB N (cloneOff n) κ, 0, none⟩)) (fun u hu => by cases hu) rfl (fun d w' hd hG h => ⟨w'.alloc (.cells #[.int .u32 0, .int .u32 0, .int .u32 0, .slice none 0 0] 43), by have hh := h.2.at_p (by decide) hd hG; go_simp, ⟨bts_alloc h.1.1 _, h.1.2.1.alloc _, h.1.2.2.alloc h.1.2.2.size _⟩, h.2.made (by decide) hd hG _ rfl⟩) ?_
  simp only [Act.put, List.setIfInBounds_toArray, List.set_cons_zero, List.set_cons_succ]
  refine InvC.invc_nil fun w2 hI => ?_
  obtain ⟨⟨bt, bz, bl⟩, hn⟩ := hI
  obtain ⟨hn, hcl⟩ := hn.done (by kernel_rfl) (by kernel_rfl)
  have hN2 := hn.lt
  have hs2 := bl.size
  have hNw : w.heap.size < N := by have := HN.out; omega
  have hpw : w.heap.size < pB N (cloneOff n) κ := by cases κ <;> simp only [pB] <;> omega
  have CW := Lib.hid (show cB N κ + cloneOff n ≠ w.heap.size by cases κ <;> simp only [cB] <;> omega)
  have hcp : cB N κ + cloneOff n ≠ pB N (cloneOff n) κ := by cases κ <;> simp only [pB, cB] <;> omega
  have hmc4 : mc.length = 4 := by rw [HM.out]; rfl
  have hmc1 : ∀ u ∈ mc, u.oneCell' = true := by rw [HM.out]; intro u hu; simp [msgV] at hu; rcases hu with rfl | rfl | rfl | rfl <;> rfl
  refine wpList_store_blk rfl 43 _ _ rfl (pB N (cloneOff n) κ) 0 4 rfl 43 zmsg mc rfl hn (by kernel_rfl) hmc4 (by decide) hmc1 ?_
  intro w3 n3 g3
  rw [put_all _ _ (by rw [hmc4]; rfl)] at n3
  have T3 := Lib.hid (bts_under bt (below_grown (Below.refl w.heap.size w2) g3 hs2 (by omega)) hb)
  have C3 := Lib.hid (bts_far hcl g3 hcp)
  have Z3 := Lib.hid (bz.grown g3 (by omega))
  have R3 := Lib.hid n3
  have L3 := Lib.hid (below_grown bl g3 hs2 (by omega))
  have hs3 := n3.lt
  have hs3' := L3.out.size
  have hz3 := Z3.out.lt
  clear bt bz bl hn hcl g3 n3 Z L1 TT KV F0 F4 F8 BB BS S3 BM HD HCC HN hN1 hN2 W0 W4 W8 WQ
  have f0 := fieldOf_lt l 0
  have f4 := fieldOf_lt l 4
  have f8 := fieldOf_lt l 8
  obtain ⟨pn, hpn⟩ : ∃ pn, pn = pB N (cloneOff n) κ := ⟨_, rfl⟩
  obtain ⟨cn, hcn⟩ : ∃ cn, cn = cB N κ + cloneOff n := ⟨_, rfl⟩
  rw [← hpn] at R3 hpw hs3 hcp ⊢
  rw [← hcn] at C3 HM hcp CW ⊢
  clear hpn hcn
  have finish : ∀ (w4 : World), Blk w4 w.heap.size zmsg 43 → Below w.heap.size w w4 → True := fun _ _ _ => trivial
  clear finish
  by_cases hn64 : n ≤ 64
  · have P := Lib.hid (fun w' (h : Bts w' (some ⟨cn, 0, none⟩) n cc (bodyOf l)) => packmsg_yes (fieldOf l 0) (fieldOf l 4) (fieldOf l 8) f0 f4 f8 (some ⟨cn, 0, none⟩) n cc (bodyOf l) w' h hn64)
    have e4 : (#[.int .u32 (fieldOf l 0 : Nat), .int .u32 (fieldOf l 4 : Nat), .int .u32 (fieldOf l 8 : Nat), .slice (some ⟨cn, 0, none⟩) n cc] : Array Value) = mc.toArray := by rw [HM.out]; rfl
    rw [e4] at P
    clear e4
    have P3 := Lib.hid (P.out w3 C3.out)
    go_wp2_with (first | (refine wpList_load_g rfl 43 _ rfl pn 4 rfl 43 mc _ R3.out Try.underlying43 rfl (by kernel_rfl) hmc4 ?_))
    refine P3.out.mono ?_
    rintro x w4 ⟨p, rfl, ho, hb4⟩
    obtain ⟨pa, pcap, rfl, hbt⟩ := OwnB.bts_own (by rw [msgAll_len, bodyOf_len (by omega)]; have := NL.out; omega) ho
    have T4 := Lib.hid (T3.out.below hb4 (Nat.le_refl _))
    have C4 := Lib.hid (C3.out.below hb4 (Nat.le_refl _))
    have Z4 := Lib.hid (Z3.out.below hb4 hz3)
    have R4 := Lib.hid (R3.out.below hb4 hs3)
    have L4 := Lib.hid (L3.out.trans (hb4.mono hs3'))
    have E := Lib.hid (Same.equal_any pa (17 + n) pcap _ (some ⟨b, o, none⟩) len cap l w4 hbt T4.out)
    have hs4 := R4.out.lt
    have hs4' := L4.out.size
    clear ho hbt T4 T3 Z3 R3 L3 hb4 P P3 C3
    by_cases heq : msgAll (fieldOf l 0) (fieldOf l 4) (fieldOf l 8) (bodyOf l) = l
    · have hrec : IsMsg l := ⟨by omega, by have := NL.out; omega, heq⟩
      rw [decide_eq_true heq] at E
      have HQ := Lib.hid hrec
      clear heq hrec
      go_wp2_with fail
      refine E.out.mono ?_
      rintro x w5 ⟨rfl, rfl⟩
      go_wp2_with (first | (refine wpList_load_g rfl 43 _ rfl pn 4 rfl 43 mc _ R4.out Try.underlying43 rfl (by kernel_rfl) hmc4 ?_) | (refine wpList_store_blk rfl 43 _ _ rfl w.heap.size 0 4 rfl 43 zmsg mc rfl Z4.out (by kernel_rfl) hmc4 (by decide) hmc1 ?_; intro w6 z6 g6; rw [put_all _ _ (by rw [hmc4]; rfl)] at z6; have Z6 := Lib.hid z6; have L6 := Lib.hid (below_grown L4.out g6 hs4' (Nat.le_refl _)); have C6 := Lib.hid (bts_far C4.out g6 (CW.out)); clear z6 g6))
      refine bodyPost_ret (v := .tuple #[.agg mc.toArray, .int .i64 0]) (results_cell_two rfl _ _ w.heap.size 43 _ (0, 0) _ _ rfl rfl Z6.out Try.underlying43 rfl (by rw [List.size_toArray, hmc4]; kernel_rfl)) rfl ?_
      rw [(mOut_yes HQ.out).1, (mOut_yes HQ.out).2]
      exact ⟨some ⟨cn, 0, none⟩, n, cc, by rw [HM.out]; rfl, C6.out, L6.out⟩
    · have hrec : ¬ IsMsg l := fun h => heq h.2.2
      rw [decide_eq_false heq] at E
      have HQ := Lib.hid hrec
      clear heq hrec
      go_wp2_with fail
      refine E.out.mono ?_
      rintro x w5 ⟨rfl, rfl⟩
      go_wp2_with (first | (refine wpList_store_blk rfl 43 _ _ rfl w.heap.size 0 4 rfl 43 zmsg zmsg rfl Z4.out (by kernel_rfl) rfl (by decide) (by decide) ?_; intro w6 z6 g6; have Z6 := Lib.hid (show Blk w6 w.heap.size zmsg 43 from z6); have L6 := Lib.hid (below_grown L4.out g6 hs4' (Nat.le_refl _)); clear z6 g6))
      refine bodyPost_ret (v := .tuple #[.agg zmsg.toArray, .int .i64 7]) (results_cell_two rfl _ _ w.heap.size 43 _ (0, 0) _ _ rfl rfl Z6.out Try.underlying43 rfl (by kernel_rfl)) rfl ?_
      rw [(mOut_no (by omega) HQ.out).1, (mOut_no (by omega) HQ.out).2]
      exact ⟨none, 0, 0, rfl, ⟨rfl, Nat.le_refl _, by unfold maxLen; omega, .inl rfl⟩, L6.out⟩
  · have hrec : ¬ IsMsg l := fun h => hn64 (by have := NL.out; have := h.2.1; omega)
    have P := Lib.hid (fun w' => packmsg_no (fieldOf l 0) (fieldOf l 4) (fieldOf l 8) (some ⟨cn, 0, none⟩) n cc (by omega) w')
    have e4 : (#[.int .u32 (fieldOf l 0 : Nat), .int .u32 (fieldOf l 4 : Nat), .int .u32 (fieldOf l 8 : Nat), .slice (some ⟨cn, 0, none⟩) n cc] : Array Value) = mc.toArray := by rw [HM.out]; rfl
    rw [e4] at P
    have HQ := Lib.hid hrec
    clear e4 hrec
    go_wp2_with (first | (refine wpList_load_g rfl 43 _ rfl pn 4 rfl 43 mc _ R3.out Try.underlying43 rfl (by kernel_rfl) hmc4 ?_))
    refine (P.out _).mono ?_
    rintro x w4 ⟨rfl, hb4⟩
    have Z4 := Lib.hid (Z3.out.below hb4 hz3)
    have L4 := Lib.hid (L3.out.trans (hb4.mono hs3'))
    have hs4' := L4.out.size
    clear T3 Z3 R3 L3 hb4 P C3
    go_wp2_with (first | (refine wpList_store_blk rfl 43 _ _ rfl w.heap.size 0 4 rfl 43 zmsg zmsg rfl Z4.out (by kernel_rfl) rfl (by decide) (by decide) ?_; intro w6 z6 g6; have Z6 := Lib.hid (show Blk w6 w.heap.size zmsg 43 from z6); have L6 := Lib.hid (below_grown L4.out g6 hs4' (Nat.le_refl _)); clear z6 g6))
    refine bodyPost_ret (v := .tuple #[.agg zmsg.toArray, .int .i64 7]) (results_cell_two rfl _ _ w.heap.size 43 _ (0, 0) _ _ rfl rfl Z6.out Try.underlying43 rfl (by kernel_rfl)) rfl ?_
    rw [(mOut_no (by omega) HQ.out).1, (mOut_no (by omega) HQ.out).2]
    exact ⟨none, 0, 0, rfl, ⟨rfl, Nat.le_refl _, by unfold maxLen; omega, .inl rfl⟩, L6.out⟩
theorem unpackmsg_any (a : Option Addr) (len cap : Nat) (l : List UInt8) (w : World) (h : Bts w a len cap l) (hbig : len ≤ 140737488355328) :
    Calls Try.prog 21 #[.slice a len cap] w fun x w' => ∃ ba bn bc, x = .returned (.tuple #[.agg #[.int .u32 ((mOut l).e : Int), .int .u32 ((mOut l).s : Int), .int .u32 ((mOut l).a : Int), .slice ba bn bc], .int .i64 (mErr l)]) ∧ Bts w' ba bn bc (mOut l).l ∧ Below w.heap.size w w' := by
  by_cases hs : len < 17
  · rw [(mOut_short (h.1 ▸ hs)).1, (mOut_short (h.1 ▸ hs)).2]
    exact (unpackmsg_short a len cap l w h hs).mono fun x w' ⟨h1, h2⟩ => ⟨none, 0, 0, h1, ⟨rfl, Nat.le_refl _, by unfold maxLen; omega, .inl rfl⟩, h2⟩
  · exact unpackmsg_long a len cap l w h (by omega) hbig
end Go.Proofs.Ytmmgejlfcehipaa.Codec
