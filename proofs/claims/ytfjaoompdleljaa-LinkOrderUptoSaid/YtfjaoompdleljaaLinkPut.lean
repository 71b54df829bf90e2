/-
  put of a link by contract. Helper text; no statement is proved here.
-/
import Derived.Test.YtfjaoompdleljaaLinkM
import Derived.Deep.Cut
set_option linter.unusedVariables false
set_option maxRecDepth 20000
set_option linter.unusedSimpArgs false
namespace Go.Proofs.Ytfjaoompdleljaa.Link
open Go.RowKit Go.Proofs.Ytfjaoompdleljaa.Base Go.Proofs.Ytfjaoompdleljaa.Laws Go.Proofs.Ytfjaoompdleljaa.Disk Go.Proofs.Ytfjaoompdleljaa.Row Go.Proofs.Ytfjaoompdleljaa.Flat Go.Proofs.Ytfjaoompdleljaa.InvM Go.Proofs.Ytfjaoompdleljaa.Inv Go.Proofs.Ytfjaoompdleljaa.InvL Go.Proofs.Ytfjaoompdleljaa.InvC Go.Proofs.Ytfjaoompdleljaa.InvG Go.Proofs.Ytfjaoompdleljaa.Codec
theorem mc_len (p : Mk × Value) : (mc p).length = 4 := rfl
theorem pc_len (p : Pk × Value) : (pc p).length = 5 := rfl
theorem slice_one (a : Option Addr) (n c : Nat) : (Value.slice a n c).oneCell' = true := rfl
theorem mc_one {p : Mk × Value} (h : p.2.oneCell' = true) : ∀ u ∈ mc p, u.oneCell' = true := by
  intro u hu
  simp only [mc, List.mem_cons, List.not_mem_nil, or_false] at hu
  rcases hu with rfl | rfl | rfl | rfl <;> first | rfl | exact h
theorem pc_one {p : Pk × Value} (h : p.2.oneCell' = true) : ∀ u ∈ pc p, u.oneCell' = true := by
  intro u hu
  simp only [pc, List.mem_cons, List.not_mem_nil, or_false] at hu
  rcases hu with rfl | rfl | rfl | rfl | rfl <;> first | rfl | exact h
theorem Body.one {w : World} {S : List Nat} {v : Value} {B : List UInt8} (h : Body w S v B) : v.oneCell' = true := by
  rcases h with ⟨_, rfl⟩ | ⟨g, o, c, rfl, _⟩ <;> rfl
theorem Body.slice {w : World} {S : List Nat} {v : Value} {B : List UInt8} (h : Body w S v B) : ∃ a c, v = .slice a B.length c ∧ Bts w a B.length c B ∧ B.length ≤ 64 := by
  rcases h with ⟨rfl, rfl⟩ | ⟨g, o, c, rfl, _, h2, h3, _⟩
  · exact ⟨none, 0, rfl, ⟨rfl, Nat.le_refl _, by unfold maxLen; omega, .inl rfl⟩, by simp⟩
  · exact ⟨_, c, rfl, h3, h2⟩
/-- a packet goes behind the others -/
theorem LinkAt.more {w : World} {bl : Nat} {V : Nat → Value} {A : List Nat} {k : Lk} (h : LinkAt w bl V A k) (x : Pk) (y : Value) (hy : Body w (reach bl V ++ A) y x.m.B) {g : Nat} (hz : Blk w g (pc (x, y)) 74) (hl : k.fl.length < 1024) :
    ∃ v' w', (Builtin.append_ #[29, 29] 29 #[V 4, .slice (some ⟨g, 0, none⟩) 1 1]).run Try.prog w = .ok v' w' ∧ Goes w bl V A (w'.setCell ⟨bl, 9, none⟩ v') (upd V 4 v') { k with fl := k.fl ++ [x] } ∧ w'.cell? ⟨bl, 9, none⟩ = some (V 4) ∧ w'.frozen? ⟨bl, 9, none⟩ = false ∧ w.grownBy w' (V 4).ownBlock ∧ (∃ a' c', v' = .slice a' (k.fl.length + 1) c') := by
  have hlt := h.head.lt
  obtain ⟨v', w', hr, hrow, hg, hv, hs⟩ := h.fl.append 29 29 (.agg #[.int .i64 0, .int .u32 0, .int .u32 0, .int .u32 0, .slice none 0 0]) 48 Try.underlying29 info_pk rfl (by decide) x y hy (src_blk hz rfl (pc_one hy.one)) (by omega) (by unfold maxLen; omega) (by omega) (fun g hg => List.mem_append_left _ (mem_reach.2 (.inr ⟨4, by decide, hg⟩)))
  have hhead := h.head.grownO hg (fun x hx => by have := h.row 4 (by decide) hx; omega)
  refine ⟨v', w', hr, h.turned 4 (by decide) v' 9 { k with fl := k.fl ++ [x] } hg ?_ rfl (fun n hn _ => by rfl) (fun n hn _ => by rfl) (fun e => absurd rfl e) (fun n hn e => by omega) (fun n hn e => by omega) (fun _ => hrow _ (fun x hx => ?_)), hhead.cell 9, hhead.frozen 9, hg, hs⟩
  · rcases hv with e | e
    · exact .inl e
    · exact .inr (.inl e)
  · rcases List.mem_append.1 hx with hx | hx
    · rcases mem_reach.1 hx with rfl | ⟨i, hi, e⟩
      · exact .inl (List.mem_append_left _ (mem_reach.2 (.inl rfl)))
      · by_cases e4 : i = 4
        · subst e4
          rw [upd_self] at e
          rcases hv with e' | e' <;> rw [e'] at e
          · exact .inl (List.mem_append_left _ (mem_reach.2 (.inr ⟨4, by decide, e⟩)))
          · cases e; exact .inr (Nat.le_refl _)
        · rw [upd_ne e4] at e
          exact .inl (List.mem_append_left _ (mem_reach.2 (.inr ⟨i, hi, e⟩)))
    · exact .inl (List.mem_append_right _ hx)
section
variable {w : World} {bl : Nat} {V : Nat → Value} {A : List Nat} {k : Lk}
set_option maxHeartbeats 2000000 in
theorem put_full0 (h : LinkAt w bl V A k) (s : Nat) (ad : Addr) (c bn : Nat) (B : List UInt8) (hbn : B.length = bn) (h0 : 0 < bn) (h64 : bn ≤ 64) (hb : Bts w (some ad) bn c B) (hfl : k.fl.length < 1024) : Calls Try.prog 34 #[.pointer (some ⟨bl, 0, none⟩), .int .i64 0, .int .u32 (s : Int), .slice (some ad) bn c] w fun e w' => e = .returned (.tuple #[]) ∧ ∃ v', Goes w bl V A w' (upd V 4 v') (k.put 0 s B) := by
  have hlt := h.head.lt
  obtain ⟨cm, hcm⟩ : ∃ cm, cm = (k.en 0).come := ⟨_, rfl⟩
  have H0 := Lib.hid h
  have C0 := Lib.hid (fun w' (hb : Below w.heap.size w w') => show w'.cell? ⟨bl, 0, none⟩ = some (.int .u32 (k.ep : Int)) from (h.below hb).cell 0)
  have C1 := Lib.hid (fun w' (hb : Below w.heap.size w w') => show w'.cell? ⟨bl, 3, none⟩ = some (.int .u32 (cm : Int)) from by rw [hcm]; exact (h.below hb).cell 3)
  have HB := Lib.hid hb
  have HCM := Lib.hid hcm
  have HBN := Lib.hid hbn
  clear h hb hcm hbn
  go_enter Try.func34, Try.ntmps34
  go_upto_region 0 with (fail)
  obtain ⟨N, hN⟩ : ∃ N, N = w.heap.size := ⟨_, rfl⟩
  obtain ⟨D, hD⟩ : ∃ D, D = w.drew.drawn := ⟨_, rfl⟩
  obtain ⟨cc, hcc⟩ : ∃ cc, cc = cloneCap w.drew bn := ⟨_, rfl⟩
  refine InvC.wp_region_two_tail (fun κ d w' => (Bts w' (some ad) bn c B ∧ Below w.heap.size w w') ∧ MkSt N D (cloneOff bn) bn cc 15 13 B κ d w') (fun i => [some (.pointer (some ⟨bl, 0, none⟩)), some (.pointer (some ⟨bl, 0, none⟩)), some (.pointer (some ⟨bl, 0, none⟩)), some (.int .u32 (k.ep : Int)), some (.int .u32 (s : Int)), some (.pointer (some ⟨bl, 0, none⟩)), some (.int .i64 0), some (.pointer (some ⟨bl, 0, none⟩)), some (.pointer (some ⟨bl, 1, none⟩)), some (.pointer (some ⟨bl, 1, none⟩)), some (.pointer (some ⟨bl, 3, none⟩)), some (.int .u32 (cm : Int)), some (.slice (some ad) bn c), none, none, none].getD i none) 16 15 13 (by kernel_rfl) (by kernel_rfl) (by decide) (by decide) (by decide) (by kernel_rfl) (fun d w' h1 h2 => by unfold MkSt; rw [h1, h2]) (fun κ => ⟨⟨HB.out, (Below.refl _ _).drew⟩, by unfold MkSt; exact ⟨hN.symm, hD.symm⟩⟩) (fun κ => ?_)
  have KV := Lib.hid (fun (i : Nat) (d : Array Bool) (w' : World) (h1 : i ≠ 15) (h2 : i ≠ 13) (h : (Bts w' (some ad) bn c B ∧ Below w.heap.size w w') ∧ MkSt N D (cloneOff bn) bn cc 15 13 B κ d w') => (⟨h.1, h.2.keep h1 h2⟩ : (Bts w' (some ad) bn c B ∧ Below w.heap.size w w') ∧ MkSt N D (cloneOff bn) bn cc 15 13 B κ (d.setIfInBounds i true) w'))
  obtain ⟨mv, hmv⟩ : ∃ mv, mv = mc (⟨k.ep, s, cm, B⟩, .slice (some ⟨cBk N κ + cloneOff bn, 0, none⟩) bn cc) := ⟨_, rfl⟩
  have HM := Lib.hid hmv
  have HD := Lib.hid hD
  have HN := Lib.hid hN
  have HCC := Lib.hid hcc
  have BM := Lib.hid (show Try.prog.built 71 [(0, .int .u32 (k.ep : Int)), (1, .int .u32 (s : Int)), (2, .int .u32 (cm : Int)), (3, .slice (some ⟨cBk N κ + cloneOff bn, 0, none⟩) bn cc)] = some mv.toArray from by rw [hmv]; exact built_mk k.ep s cm (some ⟨cBk N κ + cloneOff bn, 0, none⟩) bn cc)
  clear hmv hD hN hcc
  simp only [List.take_succ_cons, List.take_zero, List.drop_succ_cons, List.drop_zero]
  refine InvC.invc_value (.pointer (some ⟨bl, 0, none⟩)) (fun u hu => Option.some.inj hu) rfl (fun d w' _ _ h => by go_simp; all_goals rfl) (fun d w' _ _ h => KV.out _ d w' (by decide) (by decide) h) ?_
  simp only [Act.put, List.setIfInBounds_toArray, List.set_cons_zero, List.set_cons_succ]
  refine InvC.invc_value (.pointer (some ⟨bl, 0, none⟩)) (fun u hu => Option.some.inj hu) rfl (fun d w' _ _ h => by go_simp; all_goals rfl) (fun d w' _ _ h => KV.out _ d w' (by decide) (by decide) h) ?_
  simp only [Act.put, List.setIfInBounds_toArray, List.set_cons_zero, List.set_cons_succ]
  refine InvC.invc_value (.pointer (some ⟨bl, 0, none⟩)) (fun u hu => Option.some.inj hu) rfl (fun d w' _ _ h => by go_simp; all_goals rfl) (fun d w' _ _ h => KV.out _ d w' (by decide) (by decide) h) ?_
  simp only [Act.put, List.setIfInBounds_toArray, List.set_cons_zero, List.set_cons_succ]
  refine InvC.invc_value (.int .u32 (k.ep : Int)) (fun u hu => Option.some.inj hu) rfl (fun d w' _ _ h => by have c0 := C0.out w' h.1.2; go_simp) (fun d w' _ _ h => KV.out _ d w' (by decide) (by decide) h) ?_
  simp only [Act.put, List.setIfInBounds_toArray, List.set_cons_zero, List.set_cons_succ]
  refine InvC.invc_value (.int .u32 (s : Int)) (fun u hu => Option.some.inj hu) rfl (fun d w' _ _ h => by go_simp; all_goals rfl) (fun d w' _ _ h => KV.out _ d w' (by decide) (by decide) h) ?_
  simp only [Act.put, List.setIfInBounds_toArray, List.set_cons_zero, List.set_cons_succ]
  refine InvC.invc_value (.pointer (some ⟨bl, 0, none⟩)) (fun u hu => Option.some.inj hu) rfl (fun d w' _ _ h => by go_simp; all_goals rfl) (fun d w' _ _ h => KV.out _ d w' (by decide) (by decide) h) ?_
  simp only [Act.put, List.setIfInBounds_toArray, List.set_cons_zero, List.set_cons_succ]
  refine InvC.invc_value (.int .i64 0) (fun u hu => Option.some.inj hu) rfl (fun d w' _ _ h => by go_simp; all_goals rfl) (fun d w' _ _ h => KV.out _ d w' (by decide) (by decide) h) ?_
  simp only [Act.put, List.setIfInBounds_toArray, List.set_cons_zero, List.set_cons_succ]
  refine InvC.invc_value (.pointer (some ⟨bl, 0, none⟩)) (fun u hu => Option.some.inj hu) rfl (fun d w' _ _ h => by go_simp; all_goals rfl) (fun d w' _ _ h => KV.out _ d w' (by decide) (by decide) h) ?_
  simp only [Act.put, List.setIfInBounds_toArray, List.set_cons_zero, List.set_cons_succ]
  refine InvC.invc_value (.pointer (some ⟨bl, 1, none⟩)) (fun u hu => Option.some.inj hu) rfl (fun d w' _ _ h => by go_simp; all_goals rfl) (fun d w' _ _ h => KV.out _ d w' (by decide) (by decide) h) ?_
  simp only [Act.put, List.setIfInBounds_toArray, List.set_cons_zero, List.set_cons_succ]
  refine InvC.invc_value (.pointer (some ⟨bl, 1, none⟩)) (fun u hu => Option.some.inj hu) rfl (fun d w' _ _ h => by go_simp; all_goals rfl) (fun d w' _ _ h => KV.out _ d w' (by decide) (by decide) h) ?_
  simp only [Act.put, List.setIfInBounds_toArray, List.set_cons_zero, List.set_cons_succ]
  refine InvC.invc_value (.pointer (some ⟨bl, 3, none⟩)) (fun u hu => Option.some.inj hu) rfl (fun d w' _ _ h => by go_simp; all_goals rfl) (fun d w' _ _ h => KV.out _ d w' (by decide) (by decide) h) ?_
  simp only [Act.put, List.setIfInBounds_toArray, List.set_cons_zero, List.set_cons_succ]
  refine InvC.invc_value (.int .u32 (cm : Int)) (fun u hu => Option.some.inj hu) rfl (fun d w' _ _ h => by have c1 := C1.out w' h.1.2; go_simp) (fun d w' _ _ h => KV.out _ d w' (by decide) (by decide) h) ?_
  simp only [Act.put, List.setIfInBounds_toArray, List.set_cons_zero, List.set_cons_succ]
  refine InvC.invc_value (.slice (some ad) bn c) (fun u hu => Option.some.inj hu) rfl (fun d w' _ _ h => by go_simp; all_goals rfl) (fun d w' _ _ h => KV.out _ d w' (by decide) (by decide) h) ?_
  simp only [Act.put, List.setIfInBounds_toArray, List.set_cons_zero, List.set_cons_succ]
  refine InvC.invc_call (.slice (some ⟨cBk N κ + cloneOff bn, 0, none⟩) bn cc) (fun u hu => by cases hu) rfl 33 #[.slice (some ad) bn c] (fun d w' _ => by go_simp) (fun d w' hd hG h => by
    obtain ⟨hs', hdr⟩ := h.2.at_c (by decide) hd hG
    have hcl := clone_any ad bn c B (by omega) w' w.drew h.1.2.tape (hdr.trans HD.out) h.1.1
    rw [← HCC.out] at hcl
    refine hcl.mono fun e w'' ⟨he, h2, h3, h4⟩ => ⟨by rw [he, hs'], ⟨h.1.1.below h4 (Nat.le_refl _), h.1.2.trans (h4.mono h.1.2.size)⟩, h.2.cloned (by decide) hd hG h2 h3 h4⟩) ?_
  simp only [Act.put, List.setIfInBounds_toArray, List.set_cons_zero, List.set_cons_succ]
  refine InvC.invc_value (.agg mv.toArray) (fun u hu => by cases hu) rfl (fun d w' _ _ h => exec_build (vs := [(0, .int .u32 (k.ep : Int)), (1, .int .u32 (s : Int)), (2, .int .u32 (cm : Int)), (3, .slice (some ⟨cBk N κ + cloneOff bn, 0, none⟩) bn cc)]) rfl rfl BM.out) (fun d w' _ _ h => KV.out _ d w' (by decide) (by decide) h) ?_
  simp only [Act.put, List.setIfInBounds_toArray, List.set_cons_zero, List.set_cons_succ]
  refine InvC.invc_world (.pointer (some ⟨pBk N (cloneOff bn) κ, 0, none⟩)) (fun u hu => by cases hu) rfl (fun d w' hd hG h => ⟨w'.alloc (.cells #[.int .u32 0, .int .u32 0, .int .u32 0, .slice none 0 0] 71), by have hh := h.2.at_p (by decide) hd hG; go_simp, ⟨bts_alloc h.1.1 _, h.1.2.alloc h.1.2.size _⟩, h.2.made (by decide) hd hG _ rfl⟩) ?_
  simp only [Act.put, List.setIfInBounds_toArray, List.set_cons_zero, List.set_cons_succ]
  refine InvC.invc_nil fun w2 hI => ?_
  obtain ⟨⟨bt, bl2⟩, hn⟩ := hI
  obtain ⟨hn, hcl⟩ := hn.done (by kernel_rfl) (by kernel_rfl)
  have hN2 := hn.lt
  have hs2 := bl2.size
  have hpw : w.heap.size ≤ pBk N (cloneOff bn) κ := by have := HN.out; cases κ <;> simp only [pBk] <;> omega
  have hcw : w.heap.size ≤ cBk N κ + cloneOff bn := by have := HN.out; cases κ <;> simp only [cBk] <;> omega
  have hcp : cBk N κ + cloneOff bn ≠ pBk N (cloneOff bn) κ := by cases κ <;> simp only [pBk, cBk] <;> omega
  have hmc4 : mv.length = 4 := by rw [HM.out]; rfl
  have hmc1 : ∀ u ∈ mv, u.oneCell' = true := by rw [HM.out]; exact mc_one rfl
  refine wpList_store_blk rfl 71 _ _ rfl (pBk N (cloneOff bn) κ) 0 4 rfl 71 zmk mv rfl hn (by kernel_rfl) hmc4 (by decide) hmc1 ?_
  intro w3 n3 g3
  rw [put_all _ _ (by rw [hmc4]; rfl)] at n3
  obtain ⟨g8, hg8⟩ : ∃ g8, g8 = pBk N (cloneOff bn) κ := ⟨_, rfl⟩
  obtain ⟨cn, hcn⟩ : ∃ cn, cn = cBk N κ + cloneOff bn := ⟨_, rfl⟩
  rw [← hg8] at n3 g3 hpw hcp hN2 ⊢
  rw [← hcn] at hcl hcw hcp HM
  have B3 := Lib.hid (below_grown bl2 g3 hs2 hpw)
  have K3 := Lib.hid (H0.out.below B3.out)
  have c3 : Bts w3 (some ⟨cn, 0, none⟩) bn cc B := bts_only hcl (Only.of_grown g3) (by simpa using hcp)
  have Y3 := Lib.hid (show Body w3 (reach bl V ++ A) (.slice (some ⟨cn, 0, none⟩) bn cc) B from by
    have e := HBN.out
    subst e
    refine .inr ⟨cn, 0, cc, rfl, h0, h64, c3, fun hx => ?_⟩
    rcases List.mem_append.1 hx with hx | hx
    · have := H0.out.reach_lt hx; omega
    · have := H0.out.out cn hx; omega)
  have M3 := Lib.hid (show Blk w3 g8 (mc (⟨k.ep, s, (k.en 0).come, B⟩, .slice (some ⟨cn, 0, none⟩) bn cc)) 71 from by rw [← HCM.out, ← HM.out]; exact n3)
  have G8 := Lib.hid (show ∀ x, (V 4).ownBlock = some x → g8 ≠ x from fun x hx => by have := H0.out.row 4 (by decide) hx; omega)
  clear bt bl2 hn hcl g3 n3 KV BM HD HCC HN hN2 c3 hg8 hcn hcw hcp hmc4 hmc1 HM C0 C1 HB hpw hs2
  go_upto_region 1 with (fail)
  -- the packet goes behind the others
  obtain ⟨mv, hmv⟩ : ∃ mv, mv = mc (⟨k.ep, s, (k.en 0).come, B⟩, .slice (some ⟨cn, 0, none⟩) bn cc) := ⟨_, rfl⟩
  obtain ⟨pv, hpv⟩ : ∃ pv, pv = pc (⟨0, ⟨k.ep, s, (k.en 0).come, B⟩⟩, .slice (some ⟨cn, 0, none⟩) bn cc) := ⟨_, rfl⟩
  obtain ⟨w4, hw4⟩ : ∃ w4, w4 = w3.drew.alloc (.cells pv.toArray 74) := ⟨_, rfl⟩
  have b4 : Below w3.heap.size w3 w4 := hw4 ▸ ((Below.refl _ _).drew.alloc (Nat.le_refl _) _)
  have K4 := Lib.hid (K3.out.below b4)
  have Y4 := Lib.hid (Y3.out.move (Only.of_below (S := []) b4) (by simp) (fun x hx => .inl hx))
  have Z4 := Lib.hid (show Blk w4 w3.heap.size (pc (⟨0, ⟨k.ep, s, (k.en 0).come, B⟩⟩, .slice (some ⟨cn, 0, none⟩) bn cc)) 74 from by rw [hw4, hpv]; exact blk_at (w := w3.drew) rfl rfl)
  obtain ⟨v', w5, hr5, hg5, hc5, hf5, gr5, va, vc, rfl⟩ := K4.out.more ⟨0, ⟨k.ep, s, (k.en 0).come, B⟩⟩ (.slice (some ⟨cn, 0, none⟩) bn cc) Y4.out Z4.out hfl
  have HR5 := Lib.hid hr5
  have HG5 := Lib.hid hg5
  have M3' := Lib.hid (show Blk w3 g8 mv 71 from hmv ▸ M3.out)
  have M4' := Lib.hid (M3'.out.below b4 M3'.out.lt)
  have M5' := Lib.hid (M4'.out.grownO gr5 G8.out)
  have BP := Lib.hid (show Try.prog.built 74 [(0, .int .i64 0), (1, .agg mv.toArray)] = some pv.toArray from by rw [hmv, hpv]; exact built_pk 0 ⟨k.ep, s, (k.en 0).come, B⟩ (.slice (some ⟨cn, 0, none⟩) bn cc))
  have HP := Lib.hid (show pv.length = 5 from by rw [hpv]; rfl)
  have HW4 := Lib.hid hw4
  have hmv4 : mv.length = 4 := by rw [hmv]; rfl
  have L3C := Lib.hid (show w3.cell? ⟨bl, 9, none⟩ = some (V 4) from K3.out.cell 9)
  have L4C := Lib.hid (show w4.cell? ⟨bl, 9, none⟩ = some (V 4) from K4.out.cell 9)
  have B4 := Lib.hid (B3.out.trans (b4.mono B3.out.size))
  have hc5' : w5.cell? ⟨bl, 9, none⟩ = some (V 4) := hc5
  obtain ⟨v4, hv4⟩ : ∃ v4, v4 = V 4 := ⟨_, rfl⟩
  rw [← hv4] at L3C L4C hc5' HR5
  obtain ⟨hcl, hcl'⟩ : ∃ hcl : Nat, hcl = w3.heap.size := ⟨_, rfl⟩
  have HH := Lib.hid hcl'
  rw [← hcl'] at HR5
  obtain ⟨fn, hfn⟩ : ∃ fn, fn = k.fl.length + 1 := ⟨_, rfl⟩
  rw [← hfn] at HR5 HG5
  clear hr5 hg5 hc5 hmv hw4 hcl' hv4 hpv Z4 K4 Y4 K3 Y3 b4 M3 G8 gr5 hfl hfn
  refine wp_region_gate_tail (fun d w' => At2 8 9 (fun w' => w' = w3.drew) (fun w' => w' = w4) (fun w' => w' = w5) d w') 12 (by kernel_rfl) (by kernel_rfl) ?hI ?_
  case hI => exact At2.start (by rfl) (by rfl) rfl
  simp only [List.take_succ_cons, List.take_zero, List.drop_succ_cons, List.drop_zero]
  refine InvC.invc_value (.pointer (some ⟨bl, 0, none⟩)) (fun u hu => by cases hu) rfl (fun d w' _ _ h => by go_simp; all_goals rfl) (fun d w' _ _ h => At2.keep (by decide) (by decide) h) ?_
  simp only [Act.put, List.setIfInBounds_toArray, List.set_cons_zero, List.set_cons_succ]
  refine InvC.invc_value (.pointer (some ⟨bl, 0, none⟩)) (fun u hu => by cases hu) rfl (fun d w' _ _ h => by go_simp; all_goals rfl) (fun d w' _ _ h => At2.keep (by decide) (by decide) h) ?_
  simp only [Act.put, List.setIfInBounds_toArray, List.set_cons_zero, List.set_cons_succ]
  refine InvC.invc_value (.pointer (some ⟨bl, 0, none⟩)) (fun u hu => by cases hu) rfl (fun d w' _ _ h => by go_simp; all_goals rfl) (fun d w' _ _ h => At2.keep (by decide) (by decide) h) ?_
  simp only [Act.put, List.setIfInBounds_toArray, List.set_cons_zero, List.set_cons_succ]
  refine InvC.invc_value (.pointer (some ⟨bl, 9, none⟩)) (fun u hu => by cases hu) rfl (fun d w' _ _ h => by go_simp; all_goals rfl) (fun d w' _ _ h => At2.keep (by decide) (by decide) h) ?_
  simp only [Act.put, List.setIfInBounds_toArray, List.set_cons_zero, List.set_cons_succ]
  refine InvC.invc_value v4 (fun u hu => by cases hu) rfl (fun d w' _ _ h => by
    have c9 : w'.cell? ⟨bl, 9, none⟩ = some v4 := by
      rcases h.any with rfl | rfl | rfl
      · exact L3C.out
      · exact L4C.out
      · exact hc5'
    go_simp) (fun d w' _ _ h => At2.keep (by decide) (by decide) h) ?_
  simp only [Act.put, List.setIfInBounds_toArray, List.set_cons_zero, List.set_cons_succ]
  refine InvC.invc_value (.int .i64 0) (fun u hu => by cases hu) rfl (fun d w' _ _ h => by go_simp; all_goals rfl) (fun d w' _ _ h => At2.keep (by decide) (by decide) h) ?_
  simp only [Act.put, List.setIfInBounds_toArray, List.set_cons_zero, List.set_cons_succ]
  refine InvC.invc_value (.agg mv.toArray) (fun u hu => by cases hu) rfl (fun d w' _ _ h => by
    have c8 : Blk w' g8 mv 71 := by
      rcases h.any with rfl | rfl | rfl
      · exact M3'.out.drew
      · exact M4'.out
      · exact M5'.out
    exact exec_load rfl rfl c8 Try.underlying71 rfl (by kernel_rfl) hmv4) (fun d w' _ _ h => At2.keep (by decide) (by decide) h) ?_
  simp only [Act.put, List.setIfInBounds_toArray, List.set_cons_zero, List.set_cons_succ]
  refine InvC.invc_value (.agg pv.toArray) (fun u hu => by cases hu) rfl (fun d w' _ _ h => exec_build (vs := [(0, .int .i64 0), (1, .agg mv.toArray)]) rfl rfl BP.out) (fun d w' _ _ h => At2.keep (by decide) (by decide) h) ?_
  simp only [Act.put, List.setIfInBounds_toArray, List.set_cons_zero, List.set_cons_succ]
  refine InvC.invc_world (.slice (some ⟨hcl, 0, none⟩) 1 1) (fun u hu => by cases hu) rfl (fun d w' hd hG h => ⟨w4, by
    obtain ⟨e, _⟩ := h.at_p hd
    subst e
    rw [HH.out, HW4.out]
    exact exec_build_one rfl rfl Try.underlying29 info_pk HP.out (by decide) (by decide), At2.did_p (by decide) hd h rfl⟩) ?_
  simp only [Act.put, List.setIfInBounds_toArray, List.set_cons_zero, List.set_cons_succ]
  refine InvC.invc_world (.slice va fn vc) (fun u hu => by cases hu) rfl (fun d w' hd hG h => ⟨w5, by
    have e := h.at_q hd (hG.of (by kernel_rfl))
    subst e
    exact exec_append _ _ rfl rfl rfl HR5.out, At2.did_q (by decide) hd (hG.of (by kernel_rfl)) rfl⟩) ?_
  simp only [Act.put, List.setIfInBounds_toArray, List.set_cons_zero, List.set_cons_succ]
  refine InvC.invc_value (.pointer (some ⟨bl, 0, none⟩)) (fun u hu => by cases hu) rfl (fun d w' _ _ h => by go_simp; all_goals rfl) (fun d w' _ _ h => At2.keep (by decide) (by decide) h) ?_
  simp only [Act.put, List.setIfInBounds_toArray, List.set_cons_zero, List.set_cons_succ]
  refine InvC.invc_value (.pointer (some ⟨bl, 9, none⟩)) (fun u hu => by cases hu) rfl (fun d w' _ _ h => by go_simp; all_goals rfl) (fun d w' _ _ h => At2.keep (by decide) (by decide) h) ?_
  simp only [Act.put, List.setIfInBounds_toArray, List.set_cons_zero, List.set_cons_succ]
  refine InvC.invc_nil fun w6 hI => ?_
  have e6 := hI.done (by rfl)
  subst e6
  clear L3C L4C M3' M4' M5' BP HP HW4 HH HR5 hmv4
  go_wp2
  go_end0
  exact ⟨rfl, _, (Goes.of_below H0.out B4.out).trans HG5.out⟩
set_option maxHeartbeats 2000000 in
theorem put_full1 (h : LinkAt w bl V A k) (s : Nat) (ad : Addr) (c bn : Nat) (B : List UInt8) (hbn : B.length = bn) (h0 : 0 < bn) (h64 : bn ≤ 64) (hb : Bts w (some ad) bn c B) (hfl : k.fl.length < 1024) : Calls Try.prog 34 #[.pointer (some ⟨bl, 0, none⟩), .int .i64 1, .int .u32 (s : Int), .slice (some ad) bn c] w fun e w' => e = .returned (.tuple #[]) ∧ ∃ v', Goes w bl V A w' (upd V 4 v') (k.put 1 s B) := by
  have hlt := h.head.lt
  obtain ⟨cm, hcm⟩ : ∃ cm, cm = (k.en 1).come := ⟨_, rfl⟩
  have H0 := Lib.hid h
  have C0 := Lib.hid (fun w' (hb : Below w.heap.size w w') => show w'.cell? ⟨bl, 0, none⟩ = some (.int .u32 (k.ep : Int)) from (h.below hb).cell 0)
  have C1 := Lib.hid (fun w' (hb : Below w.heap.size w w') => show w'.cell? ⟨bl, 7, none⟩ = some (.int .u32 (cm : Int)) from by rw [hcm]; exact (h.below hb).cell 7)
  have HB := Lib.hid hb
  have HCM := Lib.hid hcm
  have HBN := Lib.hid hbn
  clear h hb hcm hbn
  go_enter Try.func34, Try.ntmps34
  go_upto_region 0 with (fail)
  obtain ⟨N, hN⟩ : ∃ N, N = w.heap.size := ⟨_, rfl⟩
  obtain ⟨D, hD⟩ : ∃ D, D = w.drew.drawn := ⟨_, rfl⟩
  obtain ⟨cc, hcc⟩ : ∃ cc, cc = cloneCap w.drew bn := ⟨_, rfl⟩
  refine InvC.wp_region_two_tail (fun κ d w' => (Bts w' (some ad) bn c B ∧ Below w.heap.size w w') ∧ MkSt N D (cloneOff bn) bn cc 15 13 B κ d w') (fun i => [some (.pointer (some ⟨bl, 0, none⟩)), some (.pointer (some ⟨bl, 0, none⟩)), some (.pointer (some ⟨bl, 0, none⟩)), some (.int .u32 (k.ep : Int)), some (.int .u32 (s : Int)), some (.pointer (some ⟨bl, 0, none⟩)), some (.int .i64 1), some (.pointer (some ⟨bl, 0, none⟩)), some (.pointer (some ⟨bl, 1, none⟩)), some (.pointer (some ⟨bl, 5, none⟩)), some (.pointer (some ⟨bl, 7, none⟩)), some (.int .u32 (cm : Int)), some (.slice (some ad) bn c), none, none, none].getD i none) 16 15 13 (by kernel_rfl) (by kernel_rfl) (by decide) (by decide) (by decide) (by kernel_rfl) (fun d w' h1 h2 => by unfold MkSt; rw [h1, h2]) (fun κ => ⟨⟨HB.out, (Below.refl _ _).drew⟩, by unfold MkSt; exact ⟨hN.symm, hD.symm⟩⟩) (fun κ => ?_)
  have KV := Lib.hid (fun (i : Nat) (d : Array Bool) (w' : World) (h1 : i ≠ 15) (h2 : i ≠ 13) (h : (Bts w' (some ad) bn c B ∧ Below w.heap.size w w') ∧ MkSt N D (cloneOff bn) bn cc 15 13 B κ d w') => (⟨h.1, h.2.keep h1 h2⟩ : (Bts w' (some ad) bn c B ∧ Below w.heap.size w w') ∧ MkSt N D (cloneOff bn) bn cc 15 13 B κ (d.setIfInBounds i true) w'))
  obtain ⟨mv, hmv⟩ : ∃ mv, mv = mc (⟨k.ep, s, cm, B⟩, .slice (some ⟨cBk N κ + cloneOff bn, 0, none⟩) bn cc) := ⟨_, rfl⟩
  have HM := Lib.hid hmv
  have HD := Lib.hid hD
  have HN := Lib.hid hN
  have HCC := Lib.hid hcc
  have BM := Lib.hid (show Try.prog.built 71 [(0, .int .u32 (k.ep : Int)), (1, .int .u32 (s : Int)), (2, .int .u32 (cm : Int)), (3, .slice (some ⟨cBk N κ + cloneOff bn, 0, none⟩) bn cc)] = some mv.toArray from by rw [hmv]; exact built_mk k.ep s cm (some ⟨cBk N κ + cloneOff bn, 0, none⟩) bn cc)
  clear hmv hD hN hcc
  simp only [List.take_succ_cons, List.take_zero, List.drop_succ_cons, List.drop_zero]
  refine InvC.invc_value (.pointer (some ⟨bl, 0, none⟩)) (fun u hu => Option.some.inj hu) rfl (fun d w' _ _ h => by go_simp; all_goals rfl) (fun d w' _ _ h => KV.out _ d w' (by decide) (by decide) h) ?_
  simp only [Act.put, List.setIfInBounds_toArray, List.set_cons_zero, List.set_cons_succ]
  refine InvC.invc_value (.pointer (some ⟨bl, 0, none⟩)) (fun u hu => Option.some.inj hu) rfl (fun d w' _ _ h => by go_simp; all_goals rfl) (fun d w' _ _ h => KV.out _ d w' (by decide) (by decide) h) ?_
  simp only [Act.put, List.setIfInBounds_toArray, List.set_cons_zero, List.set_cons_succ]
  refine InvC.invc_value (.pointer (some ⟨bl, 0, none⟩)) (fun u hu => Option.some.inj hu) rfl (fun d w' _ _ h => by go_simp; all_goals rfl) (fun d w' _ _ h => KV.out _ d w' (by decide) (by decide) h) ?_
  simp only [Act.put, List.setIfInBounds_toArray, List.set_cons_zero, List.set_cons_succ]
  refine InvC.invc_value (.int .u32 (k.ep : Int)) (fun u hu => Option.some.inj hu) rfl (fun d w' _ _ h => by have c0 := C0.out w' h.1.2; go_simp) (fun d w' _ _ h => KV.out _ d w' (by decide) (by decide) h) ?_
  simp only [Act.put, List.setIfInBounds_toArray, List.set_cons_zero, List.set_cons_succ]
  refine InvC.invc_value (.int .u32 (s : Int)) (fun u hu => Option.some.inj hu) rfl (fun d w' _ _ h => by go_simp; all_goals rfl) (fun d w' _ _ h => KV.out _ d w' (by decide) (by decide) h) ?_
  simp only [Act.put, List.setIfInBounds_toArray, List.set_cons_zero, List.set_cons_succ]
  refine InvC.invc_value (.pointer (some ⟨bl, 0, none⟩)) (fun u hu => Option.some.inj hu) rfl (fun d w' _ _ h => by go_simp; all_goals rfl) (fun d w' _ _ h => KV.out _ d w' (by decide) (by decide) h) ?_
  simp only [Act.put, List.setIfInBounds_toArray, List.set_cons_zero, List.set_cons_succ]
  refine InvC.invc_value (.int .i64 1) (fun u hu => Option.some.inj hu) rfl (fun d w' _ _ h => by go_simp; all_goals rfl) (fun d w' _ _ h => KV.out _ d w' (by decide) (by decide) h) ?_
  simp only [Act.put, List.setIfInBounds_toArray, List.set_cons_zero, List.set_cons_succ]
  refine InvC.invc_value (.pointer (some ⟨bl, 0, none⟩)) (fun u hu => Option.some.inj hu) rfl (fun d w' _ _ h => by go_simp; all_goals rfl) (fun d w' _ _ h => KV.out _ d w' (by decide) (by decide) h) ?_
  simp only [Act.put, List.setIfInBounds_toArray, List.set_cons_zero, List.set_cons_succ]
  refine InvC.invc_value (.pointer (some ⟨bl, 1, none⟩)) (fun u hu => Option.some.inj hu) rfl (fun d w' _ _ h => by go_simp; all_goals rfl) (fun d w' _ _ h => KV.out _ d w' (by decide) (by decide) h) ?_
  simp only [Act.put, List.setIfInBounds_toArray, List.set_cons_zero, List.set_cons_succ]
  refine InvC.invc_value (.pointer (some ⟨bl, 5, none⟩)) (fun u hu => Option.some.inj hu) rfl (fun d w' _ _ h => by go_simp; all_goals rfl) (fun d w' _ _ h => KV.out _ d w' (by decide) (by decide) h) ?_
  simp only [Act.put, List.setIfInBounds_toArray, List.set_cons_zero, List.set_cons_succ]
  refine InvC.invc_value (.pointer (some ⟨bl, 7, none⟩)) (fun u hu => Option.some.inj hu) rfl (fun d w' _ _ h => by go_simp; all_goals rfl) (fun d w' _ _ h => KV.out _ d w' (by decide) (by decide) h) ?_
  simp only [Act.put, List.setIfInBounds_toArray, List.set_cons_zero, List.set_cons_succ]
  refine InvC.invc_value (.int .u32 (cm : Int)) (fun u hu => Option.some.inj hu) rfl (fun d w' _ _ h => by have c1 := C1.out w' h.1.2; go_simp) (fun d w' _ _ h => KV.out _ d w' (by decide) (by decide) h) ?_
  simp only [Act.put, List.setIfInBounds_toArray, List.set_cons_zero, List.set_cons_succ]
  refine InvC.invc_value (.slice (some ad) bn c) (fun u hu => Option.some.inj hu) rfl (fun d w' _ _ h => by go_simp; all_goals rfl) (fun d w' _ _ h => KV.out _ d w' (by decide) (by decide) h) ?_
  simp only [Act.put, List.setIfInBounds_toArray, List.set_cons_zero, List.set_cons_succ]
  refine InvC.invc_call (.slice (some ⟨cBk N κ + cloneOff bn, 0, none⟩) bn cc) (fun u hu => by cases hu) rfl 33 #[.slice (some ad) bn c] (fun d w' _ => by go_simp) (fun d w' hd hG h => by
    obtain ⟨hs', hdr⟩ := h.2.at_c (by decide) hd hG
    have hcl := clone_any ad bn c B (by omega) w' w.drew h.1.2.tape (hdr.trans HD.out) h.1.1
    rw [← HCC.out] at hcl
    refine hcl.mono fun e w'' ⟨he, h2, h3, h4⟩ => ⟨by rw [he, hs'], ⟨h.1.1.below h4 (Nat.le_refl _), h.1.2.trans (h4.mono h.1.2.size)⟩, h.2.cloned (by decide) hd hG h2 h3 h4⟩) ?_
  simp only [Act.put, List.setIfInBounds_toArray, List.set_cons_zero, List.set_cons_succ]
  refine InvC.invc_value (.agg mv.toArray) (fun u hu => by cases hu) rfl (fun d w' _ _ h => exec_build (vs := [(0, .int .u32 (k.ep : Int)), (1, .int .u32 (s : Int)), (2, .int .u32 (cm : Int)), (3, .slice (some ⟨cBk N κ + cloneOff bn, 0, none⟩) bn cc)]) rfl rfl BM.out) (fun d w' _ _ h => KV.out _ d w' (by decide) (by decide) h) ?_
  simp only [Act.put, List.setIfInBounds_toArray, List.set_cons_zero, List.set_cons_succ]
  refine InvC.invc_world (.pointer (some ⟨pBk N (cloneOff bn) κ, 0, none⟩)) (fun u hu => by cases hu) rfl (fun d w' hd hG h => ⟨w'.alloc (.cells #[.int .u32 0, .int .u32 0, .int .u32 0, .slice none 0 0] 71), by have hh := h.2.at_p (by decide) hd hG; go_simp, ⟨bts_alloc h.1.1 _, h.1.2.alloc h.1.2.size _⟩, h.2.made (by decide) hd hG _ rfl⟩) ?_
  simp only [Act.put, List.setIfInBounds_toArray, List.set_cons_zero, List.set_cons_succ]
  refine InvC.invc_nil fun w2 hI => ?_
  obtain ⟨⟨bt, bl2⟩, hn⟩ := hI
  obtain ⟨hn, hcl⟩ := hn.done (by kernel_rfl) (by kernel_rfl)
  have hN2 := hn.lt
  have hs2 := bl2.size
  have hpw : w.heap.size ≤ pBk N (cloneOff bn) κ := by have := HN.out; cases κ <;> simp only [pBk] <;> omega
  have hcw : w.heap.size ≤ cBk N κ + cloneOff bn := by have := HN.out; cases κ <;> simp only [cBk] <;> omega
  have hcp : cBk N κ + cloneOff bn ≠ pBk N (cloneOff bn) κ := by cases κ <;> simp only [pBk, cBk] <;> omega
  have hmc4 : mv.length = 4 := by rw [HM.out]; rfl
  have hmc1 : ∀ u ∈ mv, u.oneCell' = true := by rw [HM.out]; exact mc_one rfl
  refine wpList_store_blk rfl 71 _ _ rfl (pBk N (cloneOff bn) κ) 0 4 rfl 71 zmk mv rfl hn (by kernel_rfl) hmc4 (by decide) hmc1 ?_
  intro w3 n3 g3
  rw [put_all _ _ (by rw [hmc4]; rfl)] at n3
  obtain ⟨g8, hg8⟩ : ∃ g8, g8 = pBk N (cloneOff bn) κ := ⟨_, rfl⟩
  obtain ⟨cn, hcn⟩ : ∃ cn, cn = cBk N κ + cloneOff bn := ⟨_, rfl⟩
  rw [← hg8] at n3 g3 hpw hcp hN2 ⊢
  rw [← hcn] at hcl hcw hcp HM
  have B3 := Lib.hid (below_grown bl2 g3 hs2 hpw)
  have K3 := Lib.hid (H0.out.below B3.out)
  have c3 : Bts w3 (some ⟨cn, 0, none⟩) bn cc B := bts_only hcl (Only.of_grown g3) (by simpa using hcp)
  have Y3 := Lib.hid (show Body w3 (reach bl V ++ A) (.slice (some ⟨cn, 0, none⟩) bn cc) B from by
    have e := HBN.out
    subst e
    refine .inr ⟨cn, 0, cc, rfl, h0, h64, c3, fun hx => ?_⟩
    rcases List.mem_append.1 hx with hx | hx
    · have := H0.out.reach_lt hx; omega
    · have := H0.out.out cn hx; omega)
  have M3 := Lib.hid (show Blk w3 g8 (mc (⟨k.ep, s, (k.en 1).come, B⟩, .slice (some ⟨cn, 0, none⟩) bn cc)) 71 from by rw [← HCM.out, ← HM.out]; exact n3)
  have G8 := Lib.hid (show ∀ x, (V 4).ownBlock = some x → g8 ≠ x from fun x hx => by have := H0.out.row 4 (by decide) hx; omega)
  clear bt bl2 hn hcl g3 n3 KV BM HD HCC HN hN2 c3 hg8 hcn hcw hcp hmc4 hmc1 HM C0 C1 HB hpw hs2
  go_upto_region 1 with (fail)
  -- the packet goes behind the others
  obtain ⟨mv, hmv⟩ : ∃ mv, mv = mc (⟨k.ep, s, (k.en 1).come, B⟩, .slice (some ⟨cn, 0, none⟩) bn cc) := ⟨_, rfl⟩
  obtain ⟨pv, hpv⟩ : ∃ pv, pv = pc (⟨1, ⟨k.ep, s, (k.en 1).come, B⟩⟩, .slice (some ⟨cn, 0, none⟩) bn cc) := ⟨_, rfl⟩
  obtain ⟨w4, hw4⟩ : ∃ w4, w4 = w3.drew.alloc (.cells pv.toArray 74) := ⟨_, rfl⟩
  have b4 : Below w3.heap.size w3 w4 := hw4 ▸ ((Below.refl _ _).drew.alloc (Nat.le_refl _) _)
  have K4 := Lib.hid (K3.out.below b4)
  have Y4 := Lib.hid (Y3.out.move (Only.of_below (S := []) b4) (by simp) (fun x hx => .inl hx))
  have Z4 := Lib.hid (show Blk w4 w3.heap.size (pc (⟨1, ⟨k.ep, s, (k.en 1).come, B⟩⟩, .slice (some ⟨cn, 0, none⟩) bn cc)) 74 from by rw [hw4, hpv]; exact blk_at (w := w3.drew) rfl rfl)
  obtain ⟨v', w5, hr5, hg5, hc5, hf5, gr5, va, vc, rfl⟩ := K4.out.more ⟨1, ⟨k.ep, s, (k.en 1).come, B⟩⟩ (.slice (some ⟨cn, 0, none⟩) bn cc) Y4.out Z4.out hfl
  have HR5 := Lib.hid hr5
  have HG5 := Lib.hid hg5
  have M3' := Lib.hid (show Blk w3 g8 mv 71 from hmv ▸ M3.out)
  have M4' := Lib.hid (M3'.out.below b4 M3'.out.lt)
  have M5' := Lib.hid (M4'.out.grownO gr5 G8.out)
  have BP := Lib.hid (show Try.prog.built 74 [(0, .int .i64 1), (1, .agg mv.toArray)] = some pv.toArray from by rw [hmv, hpv]; exact built_pk 1 ⟨k.ep, s, (k.en 1).come, B⟩ (.slice (some ⟨cn, 0, none⟩) bn cc))
  have HP := Lib.hid (show pv.length = 5 from by rw [hpv]; rfl)
  have HW4 := Lib.hid hw4
  have hmv4 : mv.length = 4 := by rw [hmv]; rfl
  have L3C := Lib.hid (show w3.cell? ⟨bl, 9, none⟩ = some (V 4) from K3.out.cell 9)
  have L4C := Lib.hid (show w4.cell? ⟨bl, 9, none⟩ = some (V 4) from K4.out.cell 9)
  have B4 := Lib.hid (B3.out.trans (b4.mono B3.out.size))
  have hc5' : w5.cell? ⟨bl, 9, none⟩ = some (V 4) := hc5
  obtain ⟨v4, hv4⟩ : ∃ v4, v4 = V 4 := ⟨_, rfl⟩
  rw [← hv4] at L3C L4C hc5' HR5
  obtain ⟨hcl, hcl'⟩ : ∃ hcl : Nat, hcl = w3.heap.size := ⟨_, rfl⟩
  have HH := Lib.hid hcl'
  rw [← hcl'] at HR5
  obtain ⟨fn, hfn⟩ : ∃ fn, fn = k.fl.length + 1 := ⟨_, rfl⟩
  rw [← hfn] at HR5 HG5
  clear hr5 hg5 hc5 hmv hw4 hcl' hv4 hpv Z4 K4 Y4 K3 Y3 b4 M3 G8 gr5 hfl hfn
  refine wp_region_gate_tail (fun d w' => At2 8 9 (fun w' => w' = w3.drew) (fun w' => w' = w4) (fun w' => w' = w5) d w') 12 (by kernel_rfl) (by kernel_rfl) ?hI ?_
  case hI => exact At2.start (by rfl) (by rfl) rfl
  simp only [List.take_succ_cons, List.take_zero, List.drop_succ_cons, List.drop_zero]
  refine InvC.invc_value (.pointer (some ⟨bl, 0, none⟩)) (fun u hu => by cases hu) rfl (fun d w' _ _ h => by go_simp; all_goals rfl) (fun d w' _ _ h => At2.keep (by decide) (by decide) h) ?_
  simp only [Act.put, List.setIfInBounds_toArray, List.set_cons_zero, List.set_cons_succ]
  refine InvC.invc_value (.pointer (some ⟨bl, 0, none⟩)) (fun u hu => by cases hu) rfl (fun d w' _ _ h => by go_simp; all_goals rfl) (fun d w' _ _ h => At2.keep (by decide) (by decide) h) ?_
  simp only [Act.put, List.setIfInBounds_toArray, List.set_cons_zero, List.set_cons_succ]
  refine InvC.invc_value (.pointer (some ⟨bl, 0, none⟩)) (fun u hu => by cases hu) rfl (fun d w' _ _ h => by go_simp; all_goals rfl) (fun d w' _ _ h => At2.keep (by decide) (by decide) h) ?_
  simp only [Act.put, List.setIfInBounds_toArray, List.set_cons_zero, List.set_cons_succ]
  refine InvC.invc_value (.pointer (some ⟨bl, 9, none⟩)) (fun u hu => by cases hu) rfl (fun d w' _ _ h => by go_simp; all_goals rfl) (fun d w' _ _ h => At2.keep (by decide) (by decide) h) ?_
  simp only [Act.put, List.setIfInBounds_toArray, List.set_cons_zero, List.set_cons_succ]
  refine InvC.invc_value v4 (fun u hu => by cases hu) rfl (fun d w' _ _ h => by
    have c9 : w'.cell? ⟨bl, 9, none⟩ = some v4 := by
      rcases h.any with rfl | rfl | rfl
      · exact L3C.out
      · exact L4C.out
      · exact hc5'
    go_simp) (fun d w' _ _ h => At2.keep (by decide) (by decide) h) ?_
  simp only [Act.put, List.setIfInBounds_toArray, List.set_cons_zero, List.set_cons_succ]
  refine InvC.invc_value (.int .i64 1) (fun u hu => by cases hu) rfl (fun d w' _ _ h => by go_simp; all_goals rfl) (fun d w' _ _ h => At2.keep (by decide) (by decide) h) ?_
  simp only [Act.put, List.setIfInBounds_toArray, List.set_cons_zero, List.set_cons_succ]
  refine InvC.invc_value (.agg mv.toArray) (fun u hu => by cases hu) rfl (fun d w' _ _ h => by
    have c8 : Blk w' g8 mv 71 := by
      rcases h.any with rfl | rfl | rfl
      · exact M3'.out.drew
      · exact M4'.out
      · exact M5'.out
    exact exec_load rfl rfl c8 Try.underlying71 rfl (by kernel_rfl) hmv4) (fun d w' _ _ h => At2.keep (by decide) (by decide) h) ?_
  simp only [Act.put, List.setIfInBounds_toArray, List.set_cons_zero, List.set_cons_succ]
  refine InvC.invc_value (.agg pv.toArray) (fun u hu => by cases hu) rfl (fun d w' _ _ h => exec_build (vs := [(0, .int .i64 1), (1, .agg mv.toArray)]) rfl rfl BP.out) (fun d w' _ _ h => At2.keep (by decide) (by decide) h) ?_
  simp only [Act.put, List.setIfInBounds_toArray, List.set_cons_zero, List.set_cons_succ]
  refine InvC.invc_world (.slice (some ⟨hcl, 0, none⟩) 1 1) (fun u hu => by cases hu) rfl (fun d w' hd hG h => ⟨w4, by
    obtain ⟨e, _⟩ := h.at_p hd
    subst e
    rw [HH.out, HW4.out]
    exact exec_build_one rfl rfl Try.underlying29 info_pk HP.out (by decide) (by decide), At2.did_p (by decide) hd h rfl⟩) ?_
  simp only [Act.put, List.setIfInBounds_toArray, List.set_cons_zero, List.set_cons_succ]
  refine InvC.invc_world (.slice va fn vc) (fun u hu => by cases hu) rfl (fun d w' hd hG h => ⟨w5, by
    have e := h.at_q hd (hG.of (by kernel_rfl))
    subst e
    exact exec_append _ _ rfl rfl rfl HR5.out, At2.did_q (by decide) hd (hG.of (by kernel_rfl)) rfl⟩) ?_
  simp only [Act.put, List.setIfInBounds_toArray, List.set_cons_zero, List.set_cons_succ]
  refine InvC.invc_value (.pointer (some ⟨bl, 0, none⟩)) (fun u hu => by cases hu) rfl (fun d w' _ _ h => by go_simp; all_goals rfl) (fun d w' _ _ h => At2.keep (by decide) (by decide) h) ?_
  simp only [Act.put, List.setIfInBounds_toArray, List.set_cons_zero, List.set_cons_succ]
  refine InvC.invc_value (.pointer (some ⟨bl, 9, none⟩)) (fun u hu => by cases hu) rfl (fun d w' _ _ h => by go_simp; all_goals rfl) (fun d w' _ _ h => At2.keep (by decide) (by decide) h) ?_
  simp only [Act.put, List.setIfInBounds_toArray, List.set_cons_zero, List.set_cons_succ]
  refine InvC.invc_nil fun w6 hI => ?_
  have e6 := hI.done (by rfl)
  subst e6
  clear L3C L4C M3' M4' M5' BP HP HW4 HH HR5 hmv4
  go_wp2
  go_end0
  exact ⟨rfl, _, (Goes.of_below H0.out B4.out).trans HG5.out⟩
set_option maxHeartbeats 2000000 in
theorem put_none0 (h : LinkAt w bl V A k) (s : Nat) (hfl : k.fl.length < 1024) : Calls Try.prog 34 #[.pointer (some ⟨bl, 0, none⟩), .int .i64 0, .int .u32 (s : Int), .slice none 0 0] w fun e w' => e = .returned (.tuple #[]) ∧ ∃ v', Goes w bl V A w' (upd V 4 v') (k.put 0 s []) := by
  have hlt := h.head.lt
  obtain ⟨B, hB⟩ : ∃ B : List UInt8, B = [] := ⟨_, rfl⟩
  rw [← hB]
  obtain ⟨cm, hcm⟩ : ∃ cm, cm = (k.en 0).come := ⟨_, rfl⟩
  have H0 := Lib.hid h
  have C0 := Lib.hid (fun w' (hb : Below w.heap.size w w') => show w'.cell? ⟨bl, 0, none⟩ = some (.int .u32 (k.ep : Int)) from (h.below hb).cell 0)
  have C1 := Lib.hid (fun w' (hb : Below w.heap.size w w') => show w'.cell? ⟨bl, 3, none⟩ = some (.int .u32 (cm : Int)) from by rw [hcm]; exact (h.below hb).cell 3)
  have HCM := Lib.hid hcm
  have HBN := Lib.hid hB
  obtain ⟨mv0, hmv0⟩ : ∃ mv0, mv0 = mc (⟨k.ep, s, cm, B⟩, .slice none 0 0) := ⟨_, rfl⟩
  have HM := Lib.hid hmv0
  have BM := Lib.hid (show Try.prog.built 71 [(0, .int .u32 (k.ep : Int)), (1, .int .u32 (s : Int)), (2, .int .u32 (cm : Int)), (3, .slice none 0 0)] = some mv0.toArray from by rw [hmv0]; exact built_mk k.ep s cm none 0 0)
  obtain ⟨w1, hw1⟩ : ∃ w1, w1 = w.drew.alloc (.cells #[.int .u32 0, .int .u32 0, .int .u32 0, .slice none 0 0] 71) := ⟨_, rfl⟩
  have HW1 := Lib.hid hw1
  have b1 : Below w.heap.size w w1 := hw1 ▸ ((Below.refl _ _).drew.alloc (Nat.le_refl _) _)
  have B0 := Lib.hid (show Below w.heap.size w w.drew from (Below.refl _ _).drew)
  have B1 := Lib.hid b1
  have Z1 := Lib.hid (show Blk w1 w.heap.size zmk 71 from hw1 ▸ blk_at (w := w.drew) rfl rfl)
  obtain ⟨g8, hg8⟩ : ∃ g8, g8 = w.heap.size := ⟨_, rfl⟩
  have HG8 := Lib.hid hg8
  rw [← hg8] at Z1
  clear h hcm hB hmv0 hw1 b1 hg8
  go_enter Try.func34, Try.ntmps34
  go_upto_region 0 with (fail)
  refine InvL.wp_region_inv_tail (fun d w' => At 15 (fun w' => w' = w.drew) (fun w' => w' = w1) d w') 16 (by kernel_rfl) (by kernel_rfl) ?hI ?_
  case hI => exact At.start (by rfl) rfl
  simp only [List.take_succ_cons, List.take_zero, List.drop_succ_cons, List.drop_zero]
  refine invl_value (.pointer (some ⟨bl, 0, none⟩)) rfl (fun d w' h => by go_simp; all_goals rfl) (fun d w' _ h => At.keep (by decide) id id h) ?_
  simp only [Act.put, List.setIfInBounds_toArray, List.set_cons_zero, List.set_cons_succ]
  refine invl_value (.pointer (some ⟨bl, 0, none⟩)) rfl (fun d w' h => by go_simp; all_goals rfl) (fun d w' _ h => At.keep (by decide) id id h) ?_
  simp only [Act.put, List.setIfInBounds_toArray, List.set_cons_zero, List.set_cons_succ]
  refine invl_value (.pointer (some ⟨bl, 0, none⟩)) rfl (fun d w' h => by go_simp; all_goals rfl) (fun d w' _ h => At.keep (by decide) id id h) ?_
  simp only [Act.put, List.setIfInBounds_toArray, List.set_cons_zero, List.set_cons_succ]
  refine invl_value (.int .u32 (k.ep : Int)) rfl (fun d w' h => by have c0 : w'.cell? ⟨bl, 0, none⟩ = some (.int .u32 (k.ep : Int)) := (by rcases at_or h with rfl | rfl; exact C0.out _ B0.out; exact C0.out _ B1.out); go_simp) (fun d w' _ h => At.keep (by decide) id id h) ?_
  simp only [Act.put, List.setIfInBounds_toArray, List.set_cons_zero, List.set_cons_succ]
  refine invl_value (.int .u32 (s : Int)) rfl (fun d w' h => by go_simp; all_goals rfl) (fun d w' _ h => At.keep (by decide) id id h) ?_
  simp only [Act.put, List.setIfInBounds_toArray, List.set_cons_zero, List.set_cons_succ]
  refine invl_value (.pointer (some ⟨bl, 0, none⟩)) rfl (fun d w' h => by go_simp; all_goals rfl) (fun d w' _ h => At.keep (by decide) id id h) ?_
  simp only [Act.put, List.setIfInBounds_toArray, List.set_cons_zero, List.set_cons_succ]
  refine invl_value (.int .i64 0) rfl (fun d w' h => by go_simp; all_goals rfl) (fun d w' _ h => At.keep (by decide) id id h) ?_
  simp only [Act.put, List.setIfInBounds_toArray, List.set_cons_zero, List.set_cons_succ]
  refine invl_value (.pointer (some ⟨bl, 0, none⟩)) rfl (fun d w' h => by go_simp; all_goals rfl) (fun d w' _ h => At.keep (by decide) id id h) ?_
  simp only [Act.put, List.setIfInBounds_toArray, List.set_cons_zero, List.set_cons_succ]
  refine invl_value (.pointer (some ⟨bl, 1, none⟩)) rfl (fun d w' h => by go_simp; all_goals rfl) (fun d w' _ h => At.keep (by decide) id id h) ?_
  simp only [Act.put, List.setIfInBounds_toArray, List.set_cons_zero, List.set_cons_succ]
  refine invl_value (.pointer (some ⟨bl, 1, none⟩)) rfl (fun d w' h => by go_simp; all_goals rfl) (fun d w' _ h => At.keep (by decide) id id h) ?_
  simp only [Act.put, List.setIfInBounds_toArray, List.set_cons_zero, List.set_cons_succ]
  refine invl_value (.pointer (some ⟨bl, 3, none⟩)) rfl (fun d w' h => by go_simp; all_goals rfl) (fun d w' _ h => At.keep (by decide) id id h) ?_
  simp only [Act.put, List.setIfInBounds_toArray, List.set_cons_zero, List.set_cons_succ]
  refine invl_value (.int .u32 (cm : Int)) rfl (fun d w' h => by have c0 : w'.cell? ⟨bl, 3, none⟩ = some (.int .u32 (cm : Int)) := (by rcases at_or h with rfl | rfl; exact C1.out _ B0.out; exact C1.out _ B1.out); go_simp) (fun d w' _ h => At.keep (by decide) id id h) ?_
  simp only [Act.put, List.setIfInBounds_toArray, List.set_cons_zero, List.set_cons_succ]
  refine invl_value (.slice none 0 0) rfl (fun d w' h => by go_simp; all_goals rfl) (fun d w' _ h => At.keep (by decide) id id h) ?_
  simp only [Act.put, List.setIfInBounds_toArray, List.set_cons_zero, List.set_cons_succ]
  refine invl_call (.slice none 0 0) rfl 33 #[.slice none 0 0] (fun d w' _ => by go_simp) (fun d w' hd h => (clone_none w').mono fun e w'' ⟨he, hw⟩ => ⟨he, hw ▸ At.keep (by decide) id id h⟩) ?_
  simp only [Act.put, List.setIfInBounds_toArray, List.set_cons_zero, List.set_cons_succ]
  refine invl_value (.agg mv0.toArray) rfl (fun d w' h => exec_build (vs := [(0, .int .u32 (k.ep : Int)), (1, .int .u32 (s : Int)), (2, .int .u32 (cm : Int)), (3, .slice none 0 0)]) rfl rfl BM.out) (fun d w' _ h => At.keep (by decide) id id h) ?_
  simp only [Act.put, List.setIfInBounds_toArray, List.set_cons_zero, List.set_cons_succ]
  refine invl_world (.pointer (some ⟨g8, 0, none⟩)) rfl (fun d w' hd h => ⟨w1, by
    have e := h.before hd
    subst e
    rw [HW1.out, HG8.out]
    go_simp
    all_goals rfl, At.now hd rfl⟩) ?_
  simp only [Act.put, List.setIfInBounds_toArray, List.set_cons_zero, List.set_cons_succ]
  refine invl_nil fun w2 hI => ?_
  have e2 := hI.done (by rfl)
  subst e2
  have hmc4 : mv0.length = 4 := by rw [HM.out]; rfl
  have hmc1 : ∀ u ∈ mv0, u.oneCell' = true := by rw [HM.out]; exact mc_one rfl
  refine wpList_store_blk rfl 71 _ _ rfl g8 0 4 rfl 71 zmk mv0 rfl Z1.out (by kernel_rfl) hmc4 (by decide) hmc1 ?_
  intro w3 n3 g3
  rw [put_all _ _ (by rw [hmc4]; rfl)] at n3
  have hg8 : w.heap.size ≤ g8 := by have := HG8.out; omega
  have B3 := Lib.hid (below_grown B1.out g3 B1.out.size hg8)
  have K3 := Lib.hid (H0.out.below B3.out)
  have Y3 := Lib.hid (show Body w3 (reach bl V ++ A) (.slice none 0 0) B from .inl ⟨HBN.out, rfl⟩)
  have M3 := Lib.hid (show Blk w3 g8 (mc (⟨k.ep, s, (k.en 0).come, B⟩, .slice none 0 0)) 71 from by rw [← HCM.out, ← HM.out]; exact n3)
  have G8 := Lib.hid (show ∀ x, (V 4).ownBlock = some x → g8 ≠ x from fun x hx => by have := H0.out.row 4 (by decide) hx; omega)
  clear n3 g3 BM HM C0 C1 hmc4 hmc1 B0 B1 Z1 HW1 HG8 hg8
  go_upto_region 1 with (fail)
  -- the packet goes behind the others
  obtain ⟨mv, hmv⟩ : ∃ mv, mv = mc (⟨k.ep, s, (k.en 0).come, B⟩, .slice none 0 0) := ⟨_, rfl⟩
  obtain ⟨pv, hpv⟩ : ∃ pv, pv = pc (⟨0, ⟨k.ep, s, (k.en 0).come, B⟩⟩, .slice none 0 0) := ⟨_, rfl⟩
  obtain ⟨w4, hw4⟩ : ∃ w4, w4 = w3.drew.alloc (.cells pv.toArray 74) := ⟨_, rfl⟩
  have b4 : Below w3.heap.size w3 w4 := hw4 ▸ ((Below.refl _ _).drew.alloc (Nat.le_refl _) _)
  have K4 := Lib.hid (K3.out.below b4)
  have Y4 := Lib.hid (Y3.out.move (Only.of_below (S := []) b4) (by simp) (fun x hx => .inl hx))
  have Z4 := Lib.hid (show Blk w4 w3.heap.size (pc (⟨0, ⟨k.ep, s, (k.en 0).come, B⟩⟩, .slice none 0 0)) 74 from by rw [hw4, hpv]; exact blk_at (w := w3.drew) rfl rfl)
  obtain ⟨v', w5, hr5, hg5, hc5, hf5, gr5, va, vc, rfl⟩ := K4.out.more ⟨0, ⟨k.ep, s, (k.en 0).come, B⟩⟩ (.slice none 0 0) Y4.out Z4.out hfl
  have HR5 := Lib.hid hr5
  have HG5 := Lib.hid hg5
  have M3' := Lib.hid (show Blk w3 g8 mv 71 from hmv ▸ M3.out)
  have M4' := Lib.hid (M3'.out.below b4 M3'.out.lt)
  have M5' := Lib.hid (M4'.out.grownO gr5 G8.out)
  have BP := Lib.hid (show Try.prog.built 74 [(0, .int .i64 0), (1, .agg mv.toArray)] = some pv.toArray from by rw [hmv, hpv]; exact built_pk 0 ⟨k.ep, s, (k.en 0).come, B⟩ (.slice none 0 0))
  have HP := Lib.hid (show pv.length = 5 from by rw [hpv]; rfl)
  have HW4 := Lib.hid hw4
  have hmv4 : mv.length = 4 := by rw [hmv]; rfl
  have L3C := Lib.hid (show w3.cell? ⟨bl, 9, none⟩ = some (V 4) from K3.out.cell 9)
  have L4C := Lib.hid (show w4.cell? ⟨bl, 9, none⟩ = some (V 4) from K4.out.cell 9)
  have B4 := Lib.hid (B3.out.trans (b4.mono B3.out.size))
  have hc5' : w5.cell? ⟨bl, 9, none⟩ = some (V 4) := hc5
  obtain ⟨v4, hv4⟩ : ∃ v4, v4 = V 4 := ⟨_, rfl⟩
  rw [← hv4] at L3C L4C hc5' HR5
  obtain ⟨hcl, hcl'⟩ : ∃ hcl : Nat, hcl = w3.heap.size := ⟨_, rfl⟩
  have HH := Lib.hid hcl'
  rw [← hcl'] at HR5
  obtain ⟨fn, hfn⟩ : ∃ fn, fn = k.fl.length + 1 := ⟨_, rfl⟩
  rw [← hfn] at HR5 HG5
  clear hr5 hg5 hc5 hmv hw4 hcl' hv4 hpv Z4 K4 Y4 K3 Y3 b4 M3 G8 gr5 hfl hfn
  refine wp_region_gate_tail (fun d w' => At2 8 9 (fun w' => w' = w3.drew) (fun w' => w' = w4) (fun w' => w' = w5) d w') 12 (by kernel_rfl) (by kernel_rfl) ?hI ?_
  case hI => exact At2.start (by rfl) (by rfl) rfl
  simp only [List.take_succ_cons, List.take_zero, List.drop_succ_cons, List.drop_zero]
  refine InvC.invc_value (.pointer (some ⟨bl, 0, none⟩)) (fun u hu => by cases hu) rfl (fun d w' _ _ h => by go_simp; all_goals rfl) (fun d w' _ _ h => At2.keep (by decide) (by decide) h) ?_
  simp only [Act.put, List.setIfInBounds_toArray, List.set_cons_zero, List.set_cons_succ]
  refine InvC.invc_value (.pointer (some ⟨bl, 0, none⟩)) (fun u hu => by cases hu) rfl (fun d w' _ _ h => by go_simp; all_goals rfl) (fun d w' _ _ h => At2.keep (by decide) (by decide) h) ?_
  simp only [Act.put, List.setIfInBounds_toArray, List.set_cons_zero, List.set_cons_succ]
  refine InvC.invc_value (.pointer (some ⟨bl, 0, none⟩)) (fun u hu => by cases hu) rfl (fun d w' _ _ h => by go_simp; all_goals rfl) (fun d w' _ _ h => At2.keep (by decide) (by decide) h) ?_
  simp only [Act.put, List.setIfInBounds_toArray, List.set_cons_zero, List.set_cons_succ]
  refine InvC.invc_value (.pointer (some ⟨bl, 9, none⟩)) (fun u hu => by cases hu) rfl (fun d w' _ _ h => by go_simp; all_goals rfl) (fun d w' _ _ h => At2.keep (by decide) (by decide) h) ?_
  simp only [Act.put, List.setIfInBounds_toArray, List.set_cons_zero, List.set_cons_succ]
  refine InvC.invc_value v4 (fun u hu => by cases hu) rfl (fun d w' _ _ h => by
    have c9 : w'.cell? ⟨bl, 9, none⟩ = some v4 := by
      rcases h.any with rfl | rfl | rfl
      · exact L3C.out
      · exact L4C.out
      · exact hc5'
    go_simp) (fun d w' _ _ h => At2.keep (by decide) (by decide) h) ?_
  simp only [Act.put, List.setIfInBounds_toArray, List.set_cons_zero, List.set_cons_succ]
  refine InvC.invc_value (.int .i64 0) (fun u hu => by cases hu) rfl (fun d w' _ _ h => by go_simp; all_goals rfl) (fun d w' _ _ h => At2.keep (by decide) (by decide) h) ?_
  simp only [Act.put, List.setIfInBounds_toArray, List.set_cons_zero, List.set_cons_succ]
  refine InvC.invc_value (.agg mv.toArray) (fun u hu => by cases hu) rfl (fun d w' _ _ h => by
    have c8 : Blk w' g8 mv 71 := by
      rcases h.any with rfl | rfl | rfl
      · exact M3'.out.drew
      · exact M4'.out
      · exact M5'.out
    exact exec_load rfl rfl c8 Try.underlying71 rfl (by kernel_rfl) hmv4) (fun d w' _ _ h => At2.keep (by decide) (by decide) h) ?_
  simp only [Act.put, List.setIfInBounds_toArray, List.set_cons_zero, List.set_cons_succ]
  refine InvC.invc_value (.agg pv.toArray) (fun u hu => by cases hu) rfl (fun d w' _ _ h => exec_build (vs := [(0, .int .i64 0), (1, .agg mv.toArray)]) rfl rfl BP.out) (fun d w' _ _ h => At2.keep (by decide) (by decide) h) ?_
  simp only [Act.put, List.setIfInBounds_toArray, List.set_cons_zero, List.set_cons_succ]
  refine InvC.invc_world (.slice (some ⟨hcl, 0, none⟩) 1 1) (fun u hu => by cases hu) rfl (fun d w' hd hG h => ⟨w4, by
    obtain ⟨e, _⟩ := h.at_p hd
    subst e
    rw [HH.out, HW4.out]
    exact exec_build_one rfl rfl Try.underlying29 info_pk HP.out (by decide) (by decide), At2.did_p (by decide) hd h rfl⟩) ?_
  simp only [Act.put, List.setIfInBounds_toArray, List.set_cons_zero, List.set_cons_succ]
  refine InvC.invc_world (.slice va fn vc) (fun u hu => by cases hu) rfl (fun d w' hd hG h => ⟨w5, by
    have e := h.at_q hd (hG.of (by kernel_rfl))
    subst e
    exact exec_append _ _ rfl rfl rfl HR5.out, At2.did_q (by decide) hd (hG.of (by kernel_rfl)) rfl⟩) ?_
  simp only [Act.put, List.setIfInBounds_toArray, List.set_cons_zero, List.set_cons_succ]
  refine InvC.invc_value (.pointer (some ⟨bl, 0, none⟩)) (fun u hu => by cases hu) rfl (fun d w' _ _ h => by go_simp; all_goals rfl) (fun d w' _ _ h => At2.keep (by decide) (by decide) h) ?_
  simp only [Act.put, List.setIfInBounds_toArray, List.set_cons_zero, List.set_cons_succ]
  refine InvC.invc_value (.pointer (some ⟨bl, 9, none⟩)) (fun u hu => by cases hu) rfl (fun d w' _ _ h => by go_simp; all_goals rfl) (fun d w' _ _ h => At2.keep (by decide) (by decide) h) ?_
  simp only [Act.put, List.setIfInBounds_toArray, List.set_cons_zero, List.set_cons_succ]
  refine InvC.invc_nil fun w6 hI => ?_
  have e6 := hI.done (by rfl)
  subst e6
  clear L3C L4C M3' M4' M5' BP HP HW4 HH HR5 hmv4
  go_wp2
  go_end0
  exact ⟨rfl, _, (Goes.of_below H0.out B4.out).trans HG5.out⟩
set_option maxHeartbeats 2000000 in
theorem put_none1 (h : LinkAt w bl V A k) (s : Nat) (hfl : k.fl.length < 1024) : Calls Try.prog 34 #[.pointer (some ⟨bl, 0, none⟩), .int .i64 1, .int .u32 (s : Int), .slice none 0 0] w fun e w' => e = .returned (.tuple #[]) ∧ ∃ v', Goes w bl V A w' (upd V 4 v') (k.put 1 s []) := by
  have hlt := h.head.lt
  obtain ⟨B, hB⟩ : ∃ B : List UInt8, B = [] := ⟨_, rfl⟩
  rw [← hB]
  obtain ⟨cm, hcm⟩ : ∃ cm, cm = (k.en 1).come := ⟨_, rfl⟩
  have H0 := Lib.hid h
  have C0 := Lib.hid (fun w' (hb : Below w.heap.size w w') => show w'.cell? ⟨bl, 0, none⟩ = some (.int .u32 (k.ep : Int)) from (h.below hb).cell 0)
  have C1 := Lib.hid (fun w' (hb : Below w.heap.size w w') => show w'.cell? ⟨bl, 7, none⟩ = some (.int .u32 (cm : Int)) from by rw [hcm]; exact (h.below hb).cell 7)
  have HCM := Lib.hid hcm
  have HBN := Lib.hid hB
  obtain ⟨mv0, hmv0⟩ : ∃ mv0, mv0 = mc (⟨k.ep, s, cm, B⟩, .slice none 0 0) := ⟨_, rfl⟩
  have HM := Lib.hid hmv0
  have BM := Lib.hid (show Try.prog.built 71 [(0, .int .u32 (k.ep : Int)), (1, .int .u32 (s : Int)), (2, .int .u32 (cm : Int)), (3, .slice none 0 0)] = some mv0.toArray from by rw [hmv0]; exact built_mk k.ep s cm none 0 0)
  obtain ⟨w1, hw1⟩ : ∃ w1, w1 = w.drew.alloc (.cells #[.int .u32 0, .int .u32 0, .int .u32 0, .slice none 0 0] 71) := ⟨_, rfl⟩
  have HW1 := Lib.hid hw1
  have b1 : Below w.heap.size w w1 := hw1 ▸ ((Below.refl _ _).drew.alloc (Nat.le_refl _) _)
  have B0 := Lib.hid (show Below w.heap.size w w.drew from (Below.refl _ _).drew)
  have B1 := Lib.hid b1
  have Z1 := Lib.hid (show Blk w1 w.heap.size zmk 71 from hw1 ▸ blk_at (w := w.drew) rfl rfl)
  obtain ⟨g8, hg8⟩ : ∃ g8, g8 = w.heap.size := ⟨_, rfl⟩
  have HG8 := Lib.hid hg8
  rw [← hg8] at Z1
  clear h hcm hB hmv0 hw1 b1 hg8
  go_enter Try.func34, Try.ntmps34
  go_upto_region 0 with (fail)
  refine InvL.wp_region_inv_tail (fun d w' => At 15 (fun w' => w' = w.drew) (fun w' => w' = w1) d w') 16 (by kernel_rfl) (by kernel_rfl) ?hI ?_
  case hI => exact At.start (by rfl) rfl
  simp only [List.take_succ_cons, List.take_zero, List.drop_succ_cons, List.drop_zero]
  refine invl_value (.pointer (some ⟨bl, 0, none⟩)) rfl (fun d w' h => by go_simp; all_goals rfl) (fun d w' _ h => At.keep (by decide) id id h) ?_
  simp only [Act.put, List.setIfInBounds_toArray, List.set_cons_zero, List.set_cons_succ]
  refine invl_value (.pointer (some ⟨bl, 0, none⟩)) rfl (fun d w' h => by go_simp; all_goals rfl) (fun d w' _ h => At.keep (by decide) id id h) ?_
  simp only [Act.put, List.setIfInBounds_toArray, List.set_cons_zero, List.set_cons_succ]
  refine invl_value (.pointer (some ⟨bl, 0, none⟩)) rfl (fun d w' h => by go_simp; all_goals rfl) (fun d w' _ h => At.keep (by decide) id id h) ?_
  simp only [Act.put, List.setIfInBounds_toArray, List.set_cons_zero, List.set_cons_succ]
  refine invl_value (.int .u32 (k.ep : Int)) rfl (fun d w' h => by have c0 : w'.cell? ⟨bl, 0, none⟩ = some (.int .u32 (k.ep : Int)) := (by rcases at_or h with rfl | rfl; exact C0.out _ B0.out; exact C0.out _ B1.out); go_simp) (fun d w' _ h => At.keep (by decide) id id h) ?_
  simp only [Act.put, List.setIfInBounds_toArray, List.set_cons_zero, List.set_cons_succ]
  refine invl_value (.int .u32 (s : Int)) rfl (fun d w' h => by go_simp; all_goals rfl) (fun d w' _ h => At.keep (by decide) id id h) ?_
  simp only [Act.put, List.setIfInBounds_toArray, List.set_cons_zero, List.set_cons_succ]
  refine invl_value (.pointer (some ⟨bl, 0, none⟩)) rfl (fun d w' h => by go_simp; all_goals rfl) (fun d w' _ h => At.keep (by decide) id id h) ?_
  simp only [Act.put, List.setIfInBounds_toArray, List.set_cons_zero, List.set_cons_succ]
  refine invl_value (.int .i64 1) rfl (fun d w' h => by go_simp; all_goals rfl) (fun d w' _ h => At.keep (by decide) id id h) ?_
  simp only [Act.put, List.setIfInBounds_toArray, List.set_cons_zero, List.set_cons_succ]
  refine invl_value (.pointer (some ⟨bl, 0, none⟩)) rfl (fun d w' h => by go_simp; all_goals rfl) (fun d w' _ h => At.keep (by decide) id id h) ?_
  simp only [Act.put, List.setIfInBounds_toArray, List.set_cons_zero, List.set_cons_succ]
  refine invl_value (.pointer (some ⟨bl, 1, none⟩)) rfl (fun d w' h => by go_simp; all_goals rfl) (fun d w' _ h => At.keep (by decide) id id h) ?_
  simp only [Act.put, List.setIfInBounds_toArray, List.set_cons_zero, List.set_cons_succ]
  refine invl_value (.pointer (some ⟨bl, 5, none⟩)) rfl (fun d w' h => by go_simp; all_goals rfl) (fun d w' _ h => At.keep (by decide) id id h) ?_
  simp only [Act.put, List.setIfInBounds_toArray, List.set_cons_zero, List.set_cons_succ]
  refine invl_value (.pointer (some ⟨bl, 7, none⟩)) rfl (fun d w' h => by go_simp; all_goals rfl) (fun d w' _ h => At.keep (by decide) id id h) ?_
  simp only [Act.put, List.setIfInBounds_toArray, List.set_cons_zero, List.set_cons_succ]
  refine invl_value (.int .u32 (cm : Int)) rfl (fun d w' h => by have c0 : w'.cell? ⟨bl, 7, none⟩ = some (.int .u32 (cm : Int)) := (by rcases at_or h with rfl | rfl; exact C1.out _ B0.out; exact C1.out _ B1.out); go_simp) (fun d w' _ h => At.keep (by decide) id id h) ?_
  simp only [Act.put, List.setIfInBounds_toArray, List.set_cons_zero, List.set_cons_succ]
  refine invl_value (.slice none 0 0) rfl (fun d w' h => by go_simp; all_goals rfl) (fun d w' _ h => At.keep (by decide) id id h) ?_
  simp only [Act.put, List.setIfInBounds_toArray, List.set_cons_zero, List.set_cons_succ]
  refine invl_call (.slice none 0 0) rfl 33 #[.slice none 0 0] (fun d w' _ => by go_simp) (fun d w' hd h => (clone_none w').mono fun e w'' ⟨he, hw⟩ => ⟨he, hw ▸ At.keep (by decide) id id h⟩) ?_
  simp only [Act.put, List.setIfInBounds_toArray, List.set_cons_zero, List.set_cons_succ]
  refine invl_value (.agg mv0.toArray) rfl (fun d w' h => exec_build (vs := [(0, .int .u32 (k.ep : Int)), (1, .int .u32 (s : Int)), (2, .int .u32 (cm : Int)), (3, .slice none 0 0)]) rfl rfl BM.out) (fun d w' _ h => At.keep (by decide) id id h) ?_
  simp only [Act.put, List.setIfInBounds_toArray, List.set_cons_zero, List.set_cons_succ]
  refine invl_world (.pointer (some ⟨g8, 0, none⟩)) rfl (fun d w' hd h => ⟨w1, by
    have e := h.before hd
    subst e
    rw [HW1.out, HG8.out]
    go_simp
    all_goals rfl, At.now hd rfl⟩) ?_
  simp only [Act.put, List.setIfInBounds_toArray, List.set_cons_zero, List.set_cons_succ]
  refine invl_nil fun w2 hI => ?_
  have e2 := hI.done (by rfl)
  subst e2
  have hmc4 : mv0.length = 4 := by rw [HM.out]; rfl
  have hmc1 : ∀ u ∈ mv0, u.oneCell' = true := by rw [HM.out]; exact mc_one rfl
  refine wpList_store_blk rfl 71 _ _ rfl g8 0 4 rfl 71 zmk mv0 rfl Z1.out (by kernel_rfl) hmc4 (by decide) hmc1 ?_
  intro w3 n3 g3
  rw [put_all _ _ (by rw [hmc4]; rfl)] at n3
  have hg8 : w.heap.size ≤ g8 := by have := HG8.out; omega
  have B3 := Lib.hid (below_grown B1.out g3 B1.out.size hg8)
  have K3 := Lib.hid (H0.out.below B3.out)
  have Y3 := Lib.hid (show Body w3 (reach bl V ++ A) (.slice none 0 0) B from .inl ⟨HBN.out, rfl⟩)
  have M3 := Lib.hid (show Blk w3 g8 (mc (⟨k.ep, s, (k.en 1).come, B⟩, .slice none 0 0)) 71 from by rw [← HCM.out, ← HM.out]; exact n3)
  have G8 := Lib.hid (show ∀ x, (V 4).ownBlock = some x → g8 ≠ x from fun x hx => by have := H0.out.row 4 (by decide) hx; omega)
  clear n3 g3 BM HM C0 C1 hmc4 hmc1 B0 B1 Z1 HW1 HG8 hg8
  go_upto_region 1 with (fail)
  -- the packet goes behind the others
  obtain ⟨mv, hmv⟩ : ∃ mv, mv = mc (⟨k.ep, s, (k.en 1).come, B⟩, .slice none 0 0) := ⟨_, rfl⟩
  obtain ⟨pv, hpv⟩ : ∃ pv, pv = pc (⟨1, ⟨k.ep, s, (k.en 1).come, B⟩⟩, .slice none 0 0) := ⟨_, rfl⟩
  obtain ⟨w4, hw4⟩ : ∃ w4, w4 = w3.drew.alloc (.cells pv.toArray 74) := ⟨_, rfl⟩
  have b4 : Below w3.heap.size w3 w4 := hw4 ▸ ((Below.refl _ _).drew.alloc (Nat.le_refl _) _)
  have K4 := Lib.hid (K3.out.below b4)
  have Y4 := Lib.hid (Y3.out.move (Only.of_below (S := []) b4) (by simp) (fun x hx => .inl hx))
  have Z4 := Lib.hid (show Blk w4 w3.heap.size (pc (⟨1, ⟨k.ep, s, (k.en 1).come, B⟩⟩, .slice none 0 0)) 74 from by rw [hw4, hpv]; exact blk_at (w := w3.drew) rfl rfl)
  obtain ⟨v', w5, hr5, hg5, hc5, hf5, gr5, va, vc, rfl⟩ := K4.out.more ⟨1, ⟨k.ep, s, (k.en 1).come, B⟩⟩ (.slice none 0 0) Y4.out Z4.out hfl
  have HR5 := Lib.hid hr5
  have HG5 := Lib.hid hg5
  have M3' := Lib.hid (show Blk w3 g8 mv 71 from hmv ▸ M3.out)
  have M4' := Lib.hid (M3'.out.below b4 M3'.out.lt)
  have M5' := Lib.hid (M4'.out.grownO gr5 G8.out)
  have BP := Lib.hid (show Try.prog.built 74 [(0, .int .i64 1), (1, .agg mv.toArray)] = some pv.toArray from by rw [hmv, hpv]; exact built_pk 1 ⟨k.ep, s, (k.en 1).come, B⟩ (.slice none 0 0))
  have HP := Lib.hid (show pv.length = 5 from by rw [hpv]; rfl)
  have HW4 := Lib.hid hw4
  have hmv4 : mv.length = 4 := by rw [hmv]; rfl
  have L3C := Lib.hid (show w3.cell? ⟨bl, 9, none⟩ = some (V 4) from K3.out.cell 9)
  have L4C := Lib.hid (show w4.cell? ⟨bl, 9, none⟩ = some (V 4) from K4.out.cell 9)
  have B4 := Lib.hid (B3.out.trans (b4.mono B3.out.size))
  have hc5' : w5.cell? ⟨bl, 9, none⟩ = some (V 4) := hc5
  obtain ⟨v4, hv4⟩ : ∃ v4, v4 = V 4 := ⟨_, rfl⟩
  rw [← hv4] at L3C L4C hc5' HR5
  obtain ⟨hcl, hcl'⟩ : ∃ hcl : Nat, hcl = w3.heap.size := ⟨_, rfl⟩
  have HH := Lib.hid hcl'
  rw [← hcl'] at HR5
  obtain ⟨fn, hfn⟩ : ∃ fn, fn = k.fl.length + 1 := ⟨_, rfl⟩
  rw [← hfn] at HR5 HG5
  clear hr5 hg5 hc5 hmv hw4 hcl' hv4 hpv Z4 K4 Y4 K3 Y3 b4 M3 G8 gr5 hfl hfn
  refine wp_region_gate_tail (fun d w' => At2 8 9 (fun w' => w' = w3.drew) (fun w' => w' = w4) (fun w' => w' = w5) d w') 12 (by kernel_rfl) (by kernel_rfl) ?hI ?_
  case hI => exact At2.start (by rfl) (by rfl) rfl
  simp only [List.take_succ_cons, List.take_zero, List.drop_succ_cons, List.drop_zero]
  refine InvC.invc_value (.pointer (some ⟨bl, 0, none⟩)) (fun u hu => by cases hu) rfl (fun d w' _ _ h => by go_simp; all_goals rfl) (fun d w' _ _ h => At2.keep (by decide) (by decide) h) ?_
  simp only [Act.put, List.setIfInBounds_toArray, List.set_cons_zero, List.set_cons_succ]
  refine InvC.invc_value (.pointer (some ⟨bl, 0, none⟩)) (fun u hu => by cases hu) rfl (fun d w' _ _ h => by go_simp; all_goals rfl) (fun d w' _ _ h => At2.keep (by decide) (by decide) h) ?_
  simp only [Act.put, List.setIfInBounds_toArray, List.set_cons_zero, List.set_cons_succ]
  refine InvC.invc_value (.pointer (some ⟨bl, 0, none⟩)) (fun u hu => by cases hu) rfl (fun d w' _ _ h => by go_simp; all_goals rfl) (fun d w' _ _ h => At2.keep (by decide) (by decide) h) ?_
  simp only [Act.put, List.setIfInBounds_toArray, List.set_cons_zero, List.set_cons_succ]
  refine InvC.invc_value (.pointer (some ⟨bl, 9, none⟩)) (fun u hu => by cases hu) rfl (fun d w' _ _ h => by go_simp; all_goals rfl) (fun d w' _ _ h => At2.keep (by decide) (by decide) h) ?_
  simp only [Act.put, List.setIfInBounds_toArray, List.set_cons_zero, List.set_cons_succ]
  refine InvC.invc_value v4 (fun u hu => by cases hu) rfl (fun d w' _ _ h => by
    have c9 : w'.cell? ⟨bl, 9, none⟩ = some v4 := by
      rcases h.any with rfl | rfl | rfl
      · exact L3C.out
      · exact L4C.out
      · exact hc5'
    go_simp) (fun d w' _ _ h => At2.keep (by decide) (by decide) h) ?_
  simp only [Act.put, List.setIfInBounds_toArray, List.set_cons_zero, List.set_cons_succ]
  refine InvC.invc_value (.int .i64 1) (fun u hu => by cases hu) rfl (fun d w' _ _ h => by go_simp; all_goals rfl) (fun d w' _ _ h => At2.keep (by decide) (by decide) h) ?_
  simp only [Act.put, List.setIfInBounds_toArray, List.set_cons_zero, List.set_cons_succ]
  refine InvC.invc_value (.agg mv.toArray) (fun u hu => by cases hu) rfl (fun d w' _ _ h => by
    have c8 : Blk w' g8 mv 71 := by
      rcases h.any with rfl | rfl | rfl
      · exact M3'.out.drew
      · exact M4'.out
      · exact M5'.out
    exact exec_load rfl rfl c8 Try.underlying71 rfl (by kernel_rfl) hmv4) (fun d w' _ _ h => At2.keep (by decide) (by decide) h) ?_
  simp only [Act.put, List.setIfInBounds_toArray, List.set_cons_zero, List.set_cons_succ]
  refine InvC.invc_value (.agg pv.toArray) (fun u hu => by cases hu) rfl (fun d w' _ _ h => exec_build (vs := [(0, .int .i64 1), (1, .agg mv.toArray)]) rfl rfl BP.out) (fun d w' _ _ h => At2.keep (by decide) (by decide) h) ?_
  simp only [Act.put, List.setIfInBounds_toArray, List.set_cons_zero, List.set_cons_succ]
  refine InvC.invc_world (.slice (some ⟨hcl, 0, none⟩) 1 1) (fun u hu => by cases hu) rfl (fun d w' hd hG h => ⟨w4, by
    obtain ⟨e, _⟩ := h.at_p hd
    subst e
    rw [HH.out, HW4.out]
    exact exec_build_one rfl rfl Try.underlying29 info_pk HP.out (by decide) (by decide), At2.did_p (by decide) hd h rfl⟩) ?_
  simp only [Act.put, List.setIfInBounds_toArray, List.set_cons_zero, List.set_cons_succ]
  refine InvC.invc_world (.slice va fn vc) (fun u hu => by cases hu) rfl (fun d w' hd hG h => ⟨w5, by
    have e := h.at_q hd (hG.of (by kernel_rfl))
    subst e
    exact exec_append _ _ rfl rfl rfl HR5.out, At2.did_q (by decide) hd (hG.of (by kernel_rfl)) rfl⟩) ?_
  simp only [Act.put, List.setIfInBounds_toArray, List.set_cons_zero, List.set_cons_succ]
  refine InvC.invc_value (.pointer (some ⟨bl, 0, none⟩)) (fun u hu => by cases hu) rfl (fun d w' _ _ h => by go_simp; all_goals rfl) (fun d w' _ _ h => At2.keep (by decide) (by decide) h) ?_
  simp only [Act.put, List.setIfInBounds_toArray, List.set_cons_zero, List.set_cons_succ]
  refine InvC.invc_value (.pointer (some ⟨bl, 9, none⟩)) (fun u hu => by cases hu) rfl (fun d w' _ _ h => by go_simp; all_goals rfl) (fun d w' _ _ h => At2.keep (by decide) (by decide) h) ?_
  simp only [Act.put, List.setIfInBounds_toArray, List.set_cons_zero, List.set_cons_succ]
  refine InvC.invc_nil fun w6 hI => ?_
  have e6 := hI.done (by rfl)
  subst e6
  clear L3C L4C M3' M4' M5' BP HP HW4 HH HR5 hmv4
  go_wp2
  go_end0
  exact ⟨rfl, _, (Goes.of_below H0.out B4.out).trans HG5.out⟩
theorem put_any4 (h : LinkAt w bl V A k) (n : Nat) (hn : n < 2) (s : Nat) {S : List Nat} {v : Value} {B : List UInt8} (hb : Body w S v B) (hfl : k.fl.length < 1024) : Calls Try.prog 34 #[.pointer (some ⟨bl, 0, none⟩), .int .i64 (n : Int), .int .u32 (s : Int), v] w fun e w' => e = .returned (.tuple #[]) ∧ ∃ v', Goes w bl V A w' (upd V 4 v') (k.put n s B) := by
  rcases hb with ⟨rfl, rfl⟩ | ⟨g, o, c, rfl, h1, h2, h3, _⟩
  · obtain rfl | rfl : n = 0 ∨ n = 1 := by omega
    · exact put_none0 h s hfl
    · exact put_none1 h s hfl
  · obtain rfl | rfl : n = 0 ∨ n = 1 := by omega
    · exact put_full0 h s _ c _ B rfl h1 h2 h3 hfl
    · exact put_full1 h s _ c _ B rfl h1 h2 h3 hfl
theorem put_any (h : LinkAt w bl V A k) (n : Nat) (hn : n < 2) (s : Nat) {S : List Nat} {v : Value} {B : List UInt8} (hb : Body w S v B) (hfl : k.fl.length < 1024) : Calls Try.prog 34 #[.pointer (some ⟨bl, 0, none⟩), .int .i64 (n : Int), .int .u32 (s : Int), v] w fun e w' => e = .returned (.tuple #[]) ∧ ∃ V', Goes w bl V A w' V' (k.put n s B) := by
  refine (put_any4 h n hn s hb hfl).mono ?_
  rintro e w' ⟨rfl, v', g⟩
  exact ⟨rfl, _, g⟩
end
end Go.Proofs.Ytfjaoompdleljaa.Link

