/-
  Helper texts, joined in build order; no statement is proved here.
-/
import Derived.Deep.Cut
import Derived.Deep.QuietTactic
import Derived.Test.YtfjaoompdleljaaPls1
/-
  put of a link by contract. Helper text; no statement is proved here.
-/
set_option linter.unusedVariables false
set_option maxRecDepth 20000
set_option linter.unusedSimpArgs false
namespace Go.Proofs.Ytfjaoompdleljaa.Link
open Go.RowKit Go.Proofs.Ytfjaoompdleljaa.Base Go.Proofs.Ytfjaoompdleljaa.Laws Go.Proofs.Ytfjaoompdleljaa.Disk Go.Proofs.Ytfjaoompdleljaa.Row Go.Proofs.Ytfjaoompdleljaa.Flat Go.Proofs.Ytfjaoompdleljaa.InvM Go.Proofs.Ytfjaoompdleljaa.Inv Go.Proofs.Ytfjaoompdleljaa.InvL Go.Proofs.Ytfjaoompdleljaa.InvC Go.Proofs.Ytfjaoompdleljaa.InvG Go.Proofs.Ytfjaoompdleljaa.Codec
theorem mc_len (p : Mk × Value) : (mc p).length = 4 := rfl
theorem pc_len (p : Pk × Value) : (pc p).length = 5 := rfl
theorem slice_one (a : Option Addr) (n c : Nat) : (Value.slice a n c).oneCell' = true := rfl
theorem mc_one {p : Mk × Value} (h : p.2.oneCell' = true) : ∀ u ∈ mc p, u.oneCell' = true := by
  intro u hu
  simp only [mc, List.mem_cons, List.not_mem_nil, or_false] at hu
  rcases hu with rfl | rfl | rfl | rfl <;> first | rfl | exact h
theorem pc_one {p : Pk × Value} (h : p.2.oneCell' = true) : ∀ u ∈ pc p, u.oneCell' = true := by
  intro u hu
  simp only [pc, List.mem_cons, List.not_mem_nil, or_false] at hu
  rcases hu with rfl | rfl | rfl | rfl | rfl <;> first | rfl | exact h
theorem Body.one {w : World} {S : List Nat} {v : Value} {B : List UInt8} (h : Body w S v B) : v.oneCell' = true := by
  rcases h with ⟨_, rfl⟩ | ⟨g, o, c, rfl, _⟩ <;> rfl
theorem Body.slice {w : World} {S : List Nat} {v : Value} {B : List UInt8} (h : Body w S v B) : ∃ a c, v = .slice a B.length c ∧ Bts w a B.length c B ∧ B.length ≤ 64 := by
  rcases h with ⟨rfl, rfl⟩ | ⟨g, o, c, rfl, _, h2, h3, _⟩
  · exact ⟨none, 0, rfl, ⟨rfl, Nat.le_refl _, by unfold maxLen; omega, .inl rfl⟩, by simp⟩
  · exact ⟨_, c, rfl, h3, h2⟩
/-- a packet goes behind the others -/
theorem LinkAt.more {w : World} {bl : Nat} {V : Nat → Value} {A : List Nat} {k : Lk} (h : LinkAt w bl V A k) (x : Pk) (y : Value) (hy : Body w (reach bl V ++ A) y x.m.B) {g : Nat} (hz : Blk w g (pc (x, y)) 74) (hl : k.fl.length < 1024) :
    ∃ v' w', (Builtin.append_ #[29, 29] 29 #[V 4, .slice (some ⟨g, 0, none⟩) 1 1]).run Try.prog w = .ok v' w' ∧ Goes w bl V A (w'.setCell ⟨bl, 9, none⟩ v') (upd V 4 v') { k with fl := k.fl ++ [x] } ∧ w'.cell? ⟨bl, 9, none⟩ = some (V 4) ∧ w'.frozen? ⟨bl, 9, none⟩ = false ∧ w.grownBy w' (V 4).ownBlock ∧ (∃ a' c', v' = .slice a' (k.fl.length + 1) c') := by
  have hlt := h.head.lt
  obtain ⟨v', w', hr, hrow, hg, hv, hs⟩ := h.fl.append 29 29 (.agg #[.int .i64 0, .int .u32 0, .int .u32 0, .int .u32 0, .slice none 0 0]) 48 Try.underlying29 info_pk rfl (by decide) x y hy (src_blk hz rfl (pc_one hy.one)) (by omega) (by unfold maxLen; omega) (by omega) (fun g hg => List.mem_append_left _ (mem_reach.2 (.inr ⟨4, by decide, hg⟩)))
  have hhead := h.head.grownO hg (fun x hx => by have := h.row 4 (by decide) hx; omega)
  refine ⟨v', w', hr, h.turned 4 (by decide) v' 9 { k with fl := k.fl ++ [x] } hg ?_ rfl (fun n hn _ => by rfl) (fun n hn _ => by rfl) (fun e => absurd rfl e) (fun n hn e => by omega) (fun n hn e => by omega) (fun _ => hrow _ (fun x hx => ?_)), hhead.cell 9, hhead.frozen 9, hg, hs⟩
  · rcases hv with e | e
    · exact .inl e
    · exact .inr (.inl e)
  · rcases List.mem_append.1 hx with hx | hx
    · rcases mem_reach.1 hx with rfl | ⟨i, hi, e⟩
      · exact .inl (List.mem_append_left _ (mem_reach.2 (.inl rfl)))
      · by_cases e4 : i = 4
        · subst e4
          rw [upd_self] at e
          rcases hv with e' | e' <;> rw [e'] at e
          · exact .inl (List.mem_append_left _ (mem_reach.2 (.inr ⟨4, by decide, e⟩)))
          · cases e; exact .inr (Nat.le_refl _)
        · rw [upd_ne e4] at e
          exact .inl (List.mem_append_left _ (mem_reach.2 (.inr ⟨i, hi, e⟩)))
    · exact .inl (List.mem_append_right _ hx)
section
variable {w : World} {bl : Nat} {V : Nat → Value} {A : List Nat} {k : Lk}
set_option maxHeartbeats 2000000 in
theorem put_full0 (h : LinkAt w bl V A k) (s : Nat) (ad : Addr) (c bn : Nat) (B : List UInt8) (hbn : B.length = bn) (h0 : 0 < bn) (h64 : bn ≤ 64) (hb : Bts w (some ad) bn c B) (hfl : k.fl.length < 1024) : Calls Try.prog 34 #[.pointer (some ⟨bl, 0, none⟩), .int .i64 0, .int .u32 (s : Int), .slice (some ad) bn c] w fun e w' => e = .returned (.tuple #[]) ∧ ∃ v', Goes w bl V A w' (upd V 4 v') (k.put 0 s B) := by
  have hlt := h.head.lt
  obtain ⟨cm, hcm⟩ : ∃ cm, cm = (k.en 0).come := ⟨_, rfl⟩
  have H0 := Lib.hid h
  have C0 := Lib.hid (fun w' (hb : Below w.heap.size w w') => show w'.cell? ⟨bl, 0, none⟩ = some (.int .u32 (k.ep : Int)) from (h.below hb).cell 0)
  have C1 := Lib.hid (fun w' (hb : Below w.heap.size w w') => show w'.cell? ⟨bl, 3, none⟩ = some (.int .u32 (cm : Int)) from by rw [hcm]; exact (h.below hb).cell 3)
  have HB := Lib.hid hb
  have HCM := Lib.hid hcm
  have HBN := Lib.hid hbn
  clear h hb hcm hbn
  go_enter Try.func34, Try.ntmps34
  go_upto_region 0 with (fail)
  obtain ⟨N, hN⟩ : ∃ N, N = w.heap.size := ⟨_, rfl⟩
  obtain ⟨D, hD⟩ : ∃ D, D = w.drew.drawn := ⟨_, rfl⟩
  obtain ⟨cc, hcc⟩ : ∃ cc, cc = cloneCap w.drew bn := ⟨_, rfl⟩
  refine InvC.wp_region_two_tail (fun κ d w' => (Bts w' (some ad) bn c B ∧ Below w.heap.size w w') ∧ MkSt N D (cloneOff bn) bn cc 15 13 B κ d w') (fun i => [some (.pointer (some ⟨bl, 0, none⟩)), some (.pointer (some ⟨bl, 0, none⟩)), some (.pointer (some ⟨bl, 0, none⟩)), some (.int .u32 (k.ep : Int)), some (.int .u32 (s : Int)), some (.pointer (some ⟨bl, 0, none⟩)), some (.int .i64 0), some (.pointer (some ⟨bl, 0, none⟩)), some (.pointer (some ⟨bl, 1, none⟩)), some (.pointer (some ⟨bl, 1, none⟩)), some (.pointer (some ⟨bl, 3, none⟩)), some (.int .u32 (cm : Int)), some (.slice (some ad) bn c), none, none, none].getD i none) 16 15 13 (by kernel_rfl) (by kernel_rfl) (by decide) (by decide) (by decide) (by kernel_rfl) (fun d w' h1 h2 => by unfold MkSt; rw [h1, h2]) (fun κ => ⟨⟨HB.out, (Below.refl _ _).drew⟩, by unfold MkSt; exact ⟨hN.symm, hD.symm⟩⟩) (fun κ => ?_)
  have KV := Lib.hid (fun (i : Nat) (d : Array Bool) (w' : World) (h1 : i ≠ 15) (h2 : i ≠ 13) (h : (Bts w' (some ad) bn c B ∧ Below w.heap.size w w') ∧ MkSt N D (cloneOff bn) bn cc 15 13 B κ d w') => (⟨h.1, h.2.keep h1 h2⟩ : (Bts w' (some ad) bn c B ∧ Below w.heap.size w w') ∧ MkSt N D (cloneOff bn) bn cc 15 13 B κ (d.setIfInBounds i true) w'))
  obtain ⟨mv, hmv⟩ : ∃ mv, mv = mc (⟨k.ep, s, cm, B⟩, .slice (some ⟨cBk N κ + cloneOff bn, 0, none⟩) bn cc) := ⟨_, rfl⟩
  have HM := Lib.hid hmv
  have HD := Lib.hid hD
  have HN := Lib.hid hN
  have HCC := Lib.hid hcc
  have BM := Lib.hid (show Try.prog.built 71 [(0, .int .u32 (k.ep : Int)), (1, .int .u32 (s : Int)), (2, .int .u32 (cm : Int)), (3, .slice (some ⟨cBk N κ + cloneOff bn, 0, none⟩) bn cc)] = some mv.toArray from by rw [hmv]; exact built_mk k.ep s cm (some ⟨cBk N κ + cloneOff bn, 0, none⟩) bn cc)
  clear hmv hD hN hcc
  simp only [List.take_succ_cons, List.take_zero, List.drop_succ_cons, List.drop_zero]
  refine InvC.invc_value (.pointer (some ⟨bl, 0, none⟩)) (fun u hu => Option.some.inj hu) rfl (fun d w' _ _ h => by go_simp; all_goals rfl) (fun d w' _ _ h => KV.out _ d w' (by decide) (by decide) h) ?_
  simp only [Act.put, List.setIfInBounds_toArray, List.set_cons_zero, List.set_cons_succ]
  refine InvC.invc_value (.pointer (some ⟨bl, 0, none⟩)) (fun u hu => Option.some.inj hu) rfl (fun d w' _ _ h => by go_simp; all_goals rfl) (fun d w' _ _ h => KV.out _ d w' (by decide) (by decide) h) ?_
  simp only [Act.put, List.setIfInBounds_toArray, List.set_cons_zero, List.set_cons_succ]
  refine InvC.invc_value (.pointer (some ⟨bl, 0, none⟩)) (fun u hu => Option.some.inj hu) rfl (fun d w' _ _ h => by go_simp; all_goals rfl) (fun d w' _ _ h => KV.out _ d w' (by decide) (by decide) h) ?_
  simp only [Act.put, List.setIfInBounds_toArray, List.set_cons_zero, List.set_cons_succ]
  refine InvC.invc_value (.int .u32 (k.ep : Int)) (fun u hu => Option.some.inj hu) rfl (fun d w' _ _ h => by have c0 := C0.out w' h.1.2; go_simp) (fun d w' _ _ h => KV.out _ d w' (by decide) (by decide) h) ?_
  simp only [Act.put, List.setIfInBounds_toArray, List.set_cons_zero, List.set_cons_succ]
  refine InvC.invc_value (.int .u32 (s : Int)) (fun u hu => Option.some.inj hu) rfl (fun d w' _ _ h => by go_simp; all_goals rfl) (fun d w' _ _ h => KV.out _ d w' (by decide) (by decide) h) ?_
  simp only [Act.put, List.setIfInBounds_toArray, List.set_cons_zero, List.set_cons_succ]
  refine InvC.invc_value (.pointer (some ⟨bl, 0, none⟩)) (fun u hu => Option.some.inj hu) rfl (fun d w' _ _ h => by go_simp; all_goals rfl) (fun d w' _ _ h => KV.out _ d w' (by decide) (by decide) h) ?_
  simp only [Act.put, List.setIfInBounds_toArray, List.set_cons_zero, List.set_cons_succ]
  refine InvC.invc_value (.int .i64 0) (fun u hu => Option.some.inj hu) rfl (fun d w' _ _ h => by go_simp; all_goals rfl) (fun d w' _ _ h => KV.out _ d w' (by decide) (by decide) h) ?_
  simp only [Act.put, List.setIfInBounds_toArray, List.set_cons_zero, List.set_cons_succ]
  refine InvC.invc_value (.pointer (some ⟨bl, 0, none⟩)) (fun u hu => Option.some.inj hu) rfl (fun d w' _ _ h => by go_simp; all_goals rfl) (fun d w' _ _ h => KV.out _ d w' (by decide) (by decide) h) ?_
  simp only [Act.put, List.setIfInBounds_toArray, List.set_cons_zero, List.set_cons_succ]
  refine InvC.invc_value (.pointer (some ⟨bl, 1, none⟩)) (fun u hu => Option.some.inj hu) rfl (fun d w' _ _ h => by go_simp; all_goals rfl) (fun d w' _ _ h => KV.out _ d w' (by decide) (by decide) h) ?_
  simp only [Act.put, List.setIfInBounds_toArray, List.set_cons_zero, List.set_cons_succ]
  refine InvC.invc_value (.pointer (some ⟨bl, 1, none⟩)) (fun u hu => Option.some.inj hu) rfl (fun d w' _ _ h => by go_simp; all_goals rfl) (fun d w' _ _ h => KV.out _ d w' (by decide) (by decide) h) ?_
  simp only [Act.put, List.setIfInBounds_toArray, List.set_cons_zero, List.set_cons_succ]
  refine InvC.invc_value (.pointer (some ⟨bl, 3, none⟩)) (fun u hu => Option.some.inj hu) rfl (fun d w' _ _ h => by go_simp; all_goals rfl) (fun d w' _ _ h => KV.out _ d w' (by decide) (by decide) h) ?_
  simp only [Act.put, List.setIfInBounds_toArray, List.set_cons_zero, List.set_cons_succ]
  refine InvC.invc_value (.int .u32 (cm : Int)) (fun u hu => Option.some.inj hu) rfl (fun d w' _ _ h => by have c1 := C1.out w' h.1.2; go_simp) (fun d w' _ _ h => KV.out _ d w' (by decide) (by decide) h) ?_
  simp only [Act.put, List.setIfInBounds_toArray, List.set_cons_zero, List.set_cons_succ]
  refine InvC.invc_value (.slice (some ad) bn c) (fun u hu => Option.some.inj hu) rfl (fun d w' _ _ h => by go_simp; all_goals rfl) (fun d w' _ _ h => KV.out _ d w' (by decide) (by decide) h) ?_
  simp only [Act.put, List.setIfInBounds_toArray, List.set_cons_zero, List.set_cons_succ]
  refine InvC.invc_call (.slice (some ⟨cBk N κ + cloneOff bn, 0, none⟩) bn cc) (fun u hu => by cases hu) rfl 33 #[.slice (some ad) bn c] (fun d w' _ => by go_simp) (fun d w' hd hG h => by
    obtain ⟨hs', hdr⟩ := h.2.at_c (by decide) hd hG
    have hcl := clone_any ad bn c B (by omega) w' w.drew h.1.2.tape (hdr.trans HD.out) h.1.1
    rw [← HCC.out] at hcl
    refine hcl.mono fun e w'' ⟨he, h2, h3, h4⟩ => ⟨by rw [he, hs'], ⟨h.1.1.below h4 (Nat.le_refl _), h.1.2.trans (h4.mono h.1.2.size)⟩, h.2.cloned (by decide) hd hG h2 h3 h4⟩) ?_
  simp only [Act.put, List.setIfInBounds_toArray, List.set_cons_zero, List.set_cons_succ]
  refine InvC.invc_value (.agg mv.toArray) (fun u hu => by cases hu) rfl (fun d w' _ _ h => exec_build (vs := [(0, .int .u32 (k.ep : Int)), (1, .int .u32 (s : Int)), (2, .int .u32 (cm : Int)), (3, .slice (some ⟨cBk N κ + cloneOff bn, 0, none⟩) bn cc)]) rfl rfl BM.out) (fun d w' _ _ h => KV.out _ d w' (by decide) (by decide) h) ?_
  simp only [Act.put, List.setIfInBounds_toArray, List.set_cons_zero, List.set_cons_succ]
  refine InvC.invc_world (.pointer (some ⟨pBk N (cloneOff bn) κ, 0, none⟩)) (fun u hu => by cases hu) rfl (fun d w' hd hG h => ⟨w'.alloc (.cells #[.int .u32 0, .int .u32 0, .int .u32 0, .slice none 0 0] 71), by have hh := h.2.at_p (by decide) hd hG; go_simp, ⟨bts_alloc h.1.1 _, h.1.2.alloc h.1.2.size _⟩, h.2.made (by decide) hd hG _ rfl⟩) ?_
  simp only [Act.put, List.setIfInBounds_toArray, List.set_cons_zero, List.set_cons_succ]
  refine InvC.invc_nil fun w2 hI => ?_
  obtain ⟨⟨bt, bl2⟩, hn⟩ := hI
  obtain ⟨hn, hcl⟩ := hn.done (by kernel_rfl) (by kernel_rfl)
  have hN2 := hn.lt
  have hs2 := bl2.size
  have hpw : w.heap.size ≤ pBk N (cloneOff bn) κ := by have := HN.out; cases κ <;> simp only [pBk] <;> omega
  have hcw : w.heap.size ≤ cBk N κ + cloneOff bn := by have := HN.out; cases κ <;> simp only [cBk] <;> omega
  have hcp : cBk N κ + cloneOff bn ≠ pBk N (cloneOff bn) κ := by cases κ <;> simp only [pBk, cBk] <;> omega
  have hmc4 : mv.length = 4 := by rw [HM.out]; rfl
  have hmc1 : ∀ u ∈ mv, u.oneCell' = true := by rw [HM.out]; exact mc_one rfl
  refine wpList_store_blk rfl 71 _ _ rfl (pBk N (cloneOff bn) κ) 0 4 rfl 71 zmk mv rfl hn (by kernel_rfl) hmc4 (by decide) hmc1 ?_
  intro w3 n3 g3
  rw [put_all _ _ (by rw [hmc4]; rfl)] at n3
  obtain ⟨g8, hg8⟩ : ∃ g8, g8 = pBk N (cloneOff bn) κ := ⟨_, rfl⟩
  obtain ⟨cn, hcn⟩ : ∃ cn, cn = cBk N κ + cloneOff bn := ⟨_, rfl⟩
  rw [← hg8] at n3 g3 hpw hcp hN2 ⊢
  rw [← hcn] at hcl hcw hcp HM
  have B3 := Lib.hid (below_grown bl2 g3 hs2 hpw)
  have K3 := Lib.hid (H0.out.below B3.out)
  have c3 : Bts w3 (some ⟨cn, 0, none⟩) bn cc B := bts_only hcl (Only.of_grown g3) (by simpa using hcp)
  have Y3 := Lib.hid (show Body w3 (reach bl V ++ A) (.slice (some ⟨cn, 0, none⟩) bn cc) B from by
    have e := HBN.out
    subst e
    refine .inr ⟨cn, 0, cc, rfl, h0, h64, c3, fun hx => ?_⟩
    rcases List.mem_append.1 hx with hx | hx
    · have := H0.out.reach_lt hx; omega
    · have := H0.out.out cn hx; omega)
  have M3 := Lib.hid (show Blk w3 g8 (mc (⟨k.ep, s, (k.en 0).come, B⟩, .slice (some ⟨cn, 0, none⟩) bn cc)) 71 from by rw [← HCM.out, ← HM.out]; exact n3)
  have G8 := Lib.hid (show ∀ x, (V 4).ownBlock = some x → g8 ≠ x from fun x hx => by have := H0.out.row 4 (by decide) hx; omega)
  clear bt bl2 hn hcl g3 n3 KV BM HD HCC HN hN2 c3 hg8 hcn hcw hcp hmc4 hmc1 HM C0 C1 HB hpw hs2
  go_upto_region 1 with (fail)
  -- the packet goes behind the others
  obtain ⟨mv, hmv⟩ : ∃ mv, mv = mc (⟨k.ep, s, (k.en 0).come, B⟩, .slice (some ⟨cn, 0, none⟩) bn cc) := ⟨_, rfl⟩
  obtain ⟨pv, hpv⟩ : ∃ pv, pv = pc (⟨0, ⟨k.ep, s, (k.en 0).come, B⟩⟩, .slice (some ⟨cn, 0, none⟩) bn cc) := ⟨_, rfl⟩
  obtain ⟨w4, hw4⟩ : ∃ w4, w4 = w3.drew.alloc (.cells pv.toArray 74) := ⟨_, rfl⟩
  have b4 : Below w3.heap.size w3 w4 := hw4 ▸ ((Below.refl _ _).drew.alloc (Nat.le_refl _) _)
  have K4 := Lib.hid (K3.out.below b4)
  have Y4 := Lib.hid (Y3.out.move (Only.of_below (S := []) b4) (by simp) (fun x hx => .inl hx))
  have Z4 := Lib.hid (show Blk w4 w3.heap.size (pc (⟨0, ⟨k.ep, s, (k.en 0).come, B⟩⟩, .slice (some ⟨cn, 0, none⟩) bn cc)) 74 from by rw [hw4, hpv]; exact blk_at (w := w3.drew) rfl rfl)
  obtain ⟨v', w5, hr5, hg5, hc5, hf5, gr5, va, vc, rfl⟩ := K4.out.more ⟨0, ⟨k.ep, s, (k.en 0).come, B⟩⟩ (.slice (some ⟨cn, 0, none⟩) bn cc) Y4.out Z4.out hfl
  have HR5 := Lib.hid hr5
  have HG5 := Lib.hid hg5
  have M3' := Lib.hid (show Blk w3 g8 mv 71 from hmv ▸ M3.out)
  have M4' := Lib.hid (M3'.out.below b4 M3'.out.lt)
  have M5' := Lib.hid (M4'.out.grownO gr5 G8.out)
  have BP := Lib.hid (show Try.prog.built 74 [(0, .int .i64 0), (1, .agg mv.toArray)] = some pv.toArray from by rw [hmv, hpv]; exact built_pk 0 ⟨k.ep, s, (k.en 0).come, B⟩ (.slice (some ⟨cn, 0, none⟩) bn cc))
  have HP := Lib.hid (show pv.length = 5 from by rw [hpv]; rfl)
  have HW4 := Lib.hid hw4
  have hmv4 : mv.length = 4 := by rw [hmv]; rfl
  have L3C := Lib.hid (show w3.cell? ⟨bl, 9, none⟩ = some (V 4) from K3.out.cell 9)
  have L4C := Lib.hid (show w4.cell? ⟨bl, 9, none⟩ = some (V 4) from K4.out.cell 9)
  have B4 := Lib.hid (B3.out.trans (b4.mono B3.out.size))
  have hc5' : w5.cell? ⟨bl, 9, none⟩ = some (V 4) := hc5
  obtain ⟨v4, hv4⟩ : ∃ v4, v4 = V 4 := ⟨_, rfl⟩
  rw [← hv4] at L3C L4C hc5' HR5
  obtain ⟨hcl, hcl'⟩ : ∃ hcl : Nat, hcl = w3.heap.size := ⟨_, rfl⟩
  have HH := Lib.hid hcl'
  rw [← hcl'] at HR5
  obtain ⟨fn, hfn⟩ : ∃ fn, fn = k.fl.length + 1 := ⟨_, rfl⟩
  rw [← hfn] at HR5 HG5
  clear hr5 hg5 hc5 hmv hw4 hcl' hv4 hpv Z4 K4 Y4 K3 Y3 b4 M3 G8 gr5 hfl hfn
  refine wp_region_gate_tail (fun d w' => At2 8 9 (fun w' => w' = w3.drew) (fun w' => w' = w4) (fun w' => w' = w5) d w') 12 (by kernel_rfl) (by kernel_rfl) ?hI ?_
  case hI => exact At2.start (by rfl) (by rfl) rfl
  simp only [List.take_succ_cons, List.take_zero, List.drop_succ_cons, List.drop_zero]
  refine InvC.invc_value (.pointer (some ⟨bl, 0, none⟩)) (fun u hu => by cases hu) rfl (fun d w' _ _ h => by go_simp; all_goals rfl) (fun d w' _ _ h => At2.keep (by decide) (by decide) h) ?_
  simp only [Act.put, List.setIfInBounds_toArray, List.set_cons_zero, List.set_cons_succ]
  refine InvC.invc_value (.pointer (some ⟨bl, 0, none⟩)) (fun u hu => by cases hu) rfl (fun d w' _ _ h => by go_simp; all_goals rfl) (fun d w' _ _ h => At2.keep (by decide) (by decide) h) ?_
  simp only [Act.put, List.setIfInBounds_toArray, List.set_cons_zero, List.set_cons_succ]
  refine InvC.invc_value (.pointer (some ⟨bl, 0, none⟩)) (fun u hu => by cases hu) rfl (fun d w' _ _ h => by go_simp; all_goals rfl) (fun d w' _ _ h => At2.keep (by decide) (by decide) h) ?_
  simp only [Act.put, List.setIfInBounds_toArray, List.set_cons_zero, List.set_cons_succ]
  refine InvC.invc_value (.pointer (some ⟨bl, 9, none⟩)) (fun u hu => by cases hu) rfl (fun d w' _ _ h => by go_simp; all_goals rfl) (fun d w' _ _ h => At2.keep (by decide) (by decide) h) ?_
  simp only [Act.put, List.setIfInBounds_toArray, List.set_cons_zero, List.set_cons_succ]
  refine InvC.invc_value v4 (fun u hu => by cases hu) rfl (fun d w' _ _ h => by
    have c9 : w'.cell? ⟨bl, 9, none⟩ = some v4 := by
      rcases h.any with rfl | rfl | rfl
      · exact L3C.out
      · exact L4C.out
      · exact hc5'
    go_simp) (fun d w' _ _ h => At2.keep (by decide) (by decide) h) ?_
  simp only [Act.put, List.setIfInBounds_toArray, List.set_cons_zero, List.set_cons_succ]
  refine InvC.invc_value (.int .i64 0) (fun u hu => by cases hu) rfl (fun d w' _ _ h => by go_simp; all_goals rfl) (fun d w' _ _ h => At2.keep (by decide) (by decide) h) ?_
  simp only [Act.put, List.setIfInBounds_toArray, List.set_cons_zero, List.set_cons_succ]
  refine InvC.invc_value (.agg mv.toArray) (fun u hu => by cases hu) rfl (fun d w' _ _ h => by
    have c8 : Blk w' g8 mv 71 := by
      rcases h.any with rfl | rfl | rfl
      · exact M3'.out.drew
      · exact M4'.out
      · exact M5'.out
    exact exec_load rfl rfl c8 Try.underlying71 rfl (by kernel_rfl) hmv4) (fun d w' _ _ h => At2.keep (by decide) (by decide) h) ?_
  simp only [Act.put, List.setIfInBounds_toArray, List.set_cons_zero, List.set_cons_succ]
  refine InvC.invc_value (.agg pv.toArray) (fun u hu => by cases hu) rfl (fun d w' _ _ h => exec_build (vs := [(0, .int .i64 0), (1, .agg mv.toArray)]) rfl rfl BP.out) (fun d w' _ _ h => At2.keep (by decide) (by decide) h) ?_
  simp only [Act.put, List.setIfInBounds_toArray, List.set_cons_zero, List.set_cons_succ]
  refine InvC.invc_world (.slice (some ⟨hcl, 0, none⟩) 1 1) (fun u hu => by cases hu) rfl (fun d w' hd hG h => ⟨w4, by
    obtain ⟨e, _⟩ := h.at_p hd
    subst e
    rw [HH.out, HW4.out]
    exact exec_build_one rfl rfl Try.underlying29 info_pk HP.out (by decide) (by decide), At2.did_p (by decide) hd h rfl⟩) ?_
  simp only [Act.put, List.setIfInBounds_toArray, List.set_cons_zero, List.set_cons_succ]
  refine InvC.invc_world (.slice va fn vc) (fun u hu => by cases hu) rfl (fun d w' hd hG h => ⟨w5, by
    have e := h.at_q hd (hG.of (by kernel_rfl))
    subst e
    exact exec_append _ _ rfl rfl rfl HR5.out, At2.did_q (by decide) hd (hG.of (by kernel_rfl)) rfl⟩) ?_
  simp only [Act.put, List.setIfInBounds_toArray, List.set_cons_zero, List.set_cons_succ]
  refine InvC.invc_value (.pointer (some ⟨bl, 0, none⟩)) (fun u hu => by cases hu) rfl (fun d w' _ _ h => by go_simp; all_goals rfl) (fun d w' _ _ h => At2.keep (by decide) (by decide) h) ?_
  simp only [Act.put, List.setIfInBounds_toArray, List.set_cons_zero, List.set_cons_succ]
  refine InvC.invc_value (.pointer (some ⟨bl, 9, none⟩)) (fun u hu => by cases hu) rfl (fun d w' _ _ h => by go_simp; all_goals rfl) (fun d w' _ _ h => At2.keep (by decide) (by decide) h) ?_
  simp only [Act.put, List.setIfInBounds_toArray, List.set_cons_zero, List.set_cons_succ]
  refine InvC.invc_nil fun w6 hI => ?_
  have e6 := hI.done (by rfl)
  subst e6
  clear L3C L4C M3' M4' M5' BP HP HW4 HH HR5 hmv4
  go_wp2
  go_end0
  exact ⟨rfl, _, (Goes.of_below H0.out B4.out).trans HG5.out⟩
set_option maxHeartbeats 2000000 in
theorem put_full1 (h : LinkAt w bl V A k) (s : Nat) (ad : Addr) (c bn : Nat) (B : List UInt8) (hbn : B.length = bn) (h0 : 0 < bn) (h64 : bn ≤ 64) (hb : Bts w (some ad) bn c B) (hfl : k.fl.length < 1024) : Calls Try.prog 34 #[.pointer (some ⟨bl, 0, none⟩), .int .i64 1, .int .u32 (s : Int), .slice (some ad) bn c] w fun e w' => e = .returned (.tuple #[]) ∧ ∃ v', Goes w bl V A w' (upd V 4 v') (k.put 1 s B) := by
  have hlt := h.head.lt
  obtain ⟨cm, hcm⟩ : ∃ cm, cm = (k.en 1).come := ⟨_, rfl⟩
  have H0 := Lib.hid h
  have C0 := Lib.hid (fun w' (hb : Below w.heap.size w w') => show w'.cell? ⟨bl, 0, none⟩ = some (.int .u32 (k.ep : Int)) from (h.below hb).cell 0)
  have C1 := Lib.hid (fun w' (hb : Below w.heap.size w w') => show w'.cell? ⟨bl, 7, none⟩ = some (.int .u32 (cm : Int)) from by rw [hcm]; exact (h.below hb).cell 7)
  have HB := Lib.hid hb
  have HCM := Lib.hid hcm
  have HBN := Lib.hid hbn
  clear h hb hcm hbn
  go_enter Try.func34, Try.ntmps34
  go_upto_region 0 with (fail)
  obtain ⟨N, hN⟩ : ∃ N, N = w.heap.size := ⟨_, rfl⟩
  obtain ⟨D, hD⟩ : ∃ D, D = w.drew.drawn := ⟨_, rfl⟩
  obtain ⟨cc, hcc⟩ : ∃ cc, cc = cloneCap w.drew bn := ⟨_, rfl⟩
  refine InvC.wp_region_two_tail (fun κ d w' => (Bts w' (some ad) bn c B ∧ Below w.heap.size w w') ∧ MkSt N D (cloneOff bn) bn cc 15 13 B κ d w') (fun i => [some (.pointer (some ⟨bl, 0, none⟩)), some (.pointer (some ⟨bl, 0, none⟩)), some (.pointer (some ⟨bl, 0, none⟩)), some (.int .u32 (k.ep : Int)), some (.int .u32 (s : Int)), some (.pointer (some ⟨bl, 0, none⟩)), some (.int .i64 1), some (.pointer (some ⟨bl, 0, none⟩)), some (.pointer (some ⟨bl, 1, none⟩)), some (.pointer (some ⟨bl, 5, none⟩)), some (.pointer (some ⟨bl, 7, none⟩)), some (.int .u32 (cm : Int)), some (.slice (some ad) bn c), none, none, none].getD i none) 16 15 13 (by kernel_rfl) (by kernel_rfl) (by decide) (by decide) (by decide) (by kernel_rfl) (fun d w' h1 h2 => by unfold MkSt; rw [h1, h2]) (fun κ => ⟨⟨HB.out, (Below.refl _ _).drew⟩, by unfold MkSt; exact ⟨hN.symm, hD.symm⟩⟩) (fun κ => ?_)
  have KV := Lib.hid (fun (i : Nat) (d : Array Bool) (w' : World) (h1 : i ≠ 15) (h2 : i ≠ 13) (h : (Bts w' (some ad) bn c B ∧ Below w.heap.size w w') ∧ MkSt N D (cloneOff bn) bn cc 15 13 B κ d w') => (⟨h.1, h.2.keep h1 h2⟩ : (Bts w' (some ad) bn c B ∧ Below w.heap.size w w') ∧ MkSt N D (cloneOff bn) bn cc 15 13 B κ (d.setIfInBounds i true) w'))
  obtain ⟨mv, hmv⟩ : ∃ mv, mv = mc (⟨k.ep, s, cm, B⟩, .slice (some ⟨cBk N κ + cloneOff bn, 0, none⟩) bn cc) := ⟨_, rfl⟩
  have HM := Lib.hid hmv
  have HD := Lib.hid hD
  have HN := Lib.hid hN
  have HCC := Lib.hid hcc
  have BM := Lib.hid (show Try.prog.built 71 [(0, .int .u32 (k.ep : Int)), (1, .int .u32 (s : Int)), (2, .int .u32 (cm : Int)), (3, .slice (some ⟨cBk N κ + cloneOff bn, 0, none⟩) bn cc)] = some mv.toArray from by rw [hmv]; exact built_mk k.ep s cm (some ⟨cBk N κ + cloneOff bn, 0, none⟩) bn cc)
  clear hmv hD hN hcc
  simp only [List.take_succ_cons, List.take_zero, List.drop_succ_cons, List.drop_zero]
  refine InvC.invc_value (.pointer (some ⟨bl, 0, none⟩)) (fun u hu => Option.some.inj hu) rfl (fun d w' _ _ h => by go_simp; all_goals rfl) (fun d w' _ _ h => KV.out _ d w' (by decide) (by decide) h) ?_
  simp only [Act.put, List.setIfInBounds_toArray, List.set_cons_zero, List.set_cons_succ]
  refine InvC.invc_value (.pointer (some ⟨bl, 0, none⟩)) (fun u hu => Option.some.inj hu) rfl (fun d w' _ _ h => by go_simp; all_goals rfl) (fun d w' _ _ h => KV.out _ d w' (by decide) (by decide) h) ?_
  simp only [Act.put, List.setIfInBounds_toArray, List.set_cons_zero, List.set_cons_succ]
  refine InvC.invc_value (.pointer (some ⟨bl, 0, none⟩)) (fun u hu => Option.some.inj hu) rfl (fun d w' _ _ h => by go_simp; all_goals rfl) (fun d w' _ _ h => KV.out _ d w' (by decide) (by decide) h) ?_
  simp only [Act.put, List.setIfInBounds_toArray, List.set_cons_zero, List.set_cons_succ]
  refine InvC.invc_value (.int .u32 (k.ep : Int)) (fun u hu => Option.some.inj hu) rfl (fun d w' _ _ h => by have c0 := C0.out w' h.1.2; go_simp) (fun d w' _ _ h => KV.out _ d w' (by decide) (by decide) h) ?_
  simp only [Act.put, List.setIfInBounds_toArray, List.set_cons_zero, List.set_cons_succ]
  refine InvC.invc_value (.int .u32 (s : Int)) (fun u hu => Option.some.inj hu) rfl (fun d w' _ _ h => by go_simp; all_goals rfl) (fun d w' _ _ h => KV.out _ d w' (by decide) (by decide) h) ?_
  simp only [Act.put, List.setIfInBounds_toArray, List.set_cons_zero, List.set_cons_succ]
  refine InvC.invc_value (.pointer (some ⟨bl, 0, none⟩)) (fun u hu => Option.some.inj hu) rfl (fun d w' _ _ h => by go_simp; all_goals rfl) (fun d w' _ _ h => KV.out _ d w' (by decide) (by decide) h) ?_
  simp only [Act.put, List.setIfInBounds_toArray, List.set_cons_zero, List.set_cons_succ]
  refine InvC.invc_value (.int .i64 1) (fun u hu => Option.some.inj hu) rfl (fun d w' _ _ h => by go_simp; all_goals rfl) (fun d w' _ _ h => KV.out _ d w' (by decide) (by decide) h) ?_
  simp only [Act.put, List.setIfInBounds_toArray, List.set_cons_zero, List.set_cons_succ]
  refine InvC.invc_value (.pointer (some ⟨bl, 0, none⟩)) (fun u hu => Option.some.inj hu) rfl (fun d w' _ _ h => by go_simp; all_goals rfl) (fun d w' _ _ h => KV.out _ d w' (by decide) (by decide) h) ?_
  simp only [Act.put, List.setIfInBounds_toArray, List.set_cons_zero, List.set_cons_succ]
  refine InvC.invc_value (.pointer (some ⟨bl, 1, none⟩)) (fun u hu => Option.some.inj hu) rfl (fun d w' _ _ h => by go_simp; all_goals rfl) (fun d w' _ _ h => KV.out _ d w' (by decide) (by decide) h) ?_
  simp only [Act.put, List.setIfInBounds_toArray, List.set_cons_zero, List.set_cons_succ]
  refine InvC.invc_value (.pointer (some ⟨bl, 5, none⟩)) (fun u hu => Option.some.inj hu) rfl (fun d w' _ _ h => by go_simp; all_goals rfl) (fun d w' _ _ h => KV.out _ d w' (by decide) (by decide) h) ?_
  simp only [Act.put, List.setIfInBounds_toArray, List.set_cons_zero, List.set_cons_succ]
  refine InvC.invc_value (.pointer (some ⟨bl, 7, none⟩)) (fun u hu => Option.some.inj hu) rfl (fun d w' _ _ h => by go_simp; all_goals rfl) (fun d w' _ _ h => KV.out _ d w' (by decide) (by decide) h) ?_
  simp only [Act.put, List.setIfInBounds_toArray, List.set_cons_zero, List.set_cons_succ]
  refine InvC.invc_value (.int .u32 (cm : Int)) (fun u hu => Option.some.inj hu) rfl (fun d w' _ _ h => by have c1 := C1.out w' h.1.2; go_simp) (fun d w' _ _ h => KV.out _ d w' (by decide) (by decide) h) ?_
  simp only [Act.put, List.setIfInBounds_toArray, List.set_cons_zero, List.set_cons_succ]
  refine InvC.invc_value (.slice (some ad) bn c) (fun u hu => Option.some.inj hu) rfl (fun d w' _ _ h => by go_simp; all_goals rfl) (fun d w' _ _ h => KV.out _ d w' (by decide) (by decide) h) ?_
  simp only [Act.put, List.setIfInBounds_toArray, List.set_cons_zero, List.set_cons_succ]
  refine InvC.invc_call (.slice (some ⟨cBk N κ + cloneOff bn, 0, none⟩) bn cc) (fun u hu => by cases hu) rfl 33 #[.slice (some ad) bn c] (fun d w' _ => by go_simp) (fun d w' hd hG h => by
    obtain ⟨hs', hdr⟩ := h.2.at_c (by decide) hd hG
    have hcl := clone_any ad bn c B (by omega) w' w.drew h.1.2.tape (hdr.trans HD.out) h.1.1
    rw [← HCC.out] at hcl
    refine hcl.mono fun e w'' ⟨he, h2, h3, h4⟩ => ⟨by rw [he, hs'], ⟨h.1.1.below h4 (Nat.le_refl _), h.1.2.trans (h4.mono h.1.2.size)⟩, h.2.cloned (by decide) hd hG h2 h3 h4⟩) ?_
  simp only [Act.put, List.setIfInBounds_toArray, List.set_cons_zero, List.set_cons_succ]
  refine InvC.invc_value (.agg mv.toArray) (fun u hu => by cases hu) rfl (fun d w' _ _ h => exec_build (vs := [(0, .int .u32 (k.ep : Int)), (1, .int .u32 (s : Int)), (2, .int .u32 (cm : Int)), (3, .slice (some ⟨cBk N κ + cloneOff bn, 0, none⟩) bn cc)]) rfl rfl BM.out) (fun d w' _ _ h => KV.out _ d w' (by decide) (by decide) h) ?_
  simp only [Act.put, List.setIfInBounds_toArray, List.set_cons_zero, List.set_cons_succ]
  refine InvC.invc_world (.pointer (some ⟨pBk N (cloneOff bn) κ, 0, none⟩)) (fun u hu => by cases hu) rfl (fun d w' hd hG h => ⟨w'.alloc (.cells #[.int .u32 0, .int .u32 0, .int .u32 0, .slice none 0 0] 71), by have hh := h.2.at_p (by decide) hd hG; go_simp, ⟨bts_alloc h.1.1 _, h.1.2.alloc h.1.2.size _⟩, h.2.made (by decide) hd hG _ rfl⟩) ?_
  simp only [Act.put, List.setIfInBounds_toArray, List.set_cons_zero, List.set_cons_succ]
  refine InvC.invc_nil fun w2 hI => ?_
  obtain ⟨⟨bt, bl2⟩, hn⟩ := hI
  obtain ⟨hn, hcl⟩ := hn.done (by kernel_rfl) (by kernel_rfl)
  have hN2 := hn.lt
  have hs2 := bl2.size
  have hpw : w.heap.size ≤ pBk N (cloneOff bn) κ := by have := HN.out; cases κ <;> simp only [pBk] <;> omega
  have hcw : w.heap.size ≤ cBk N κ + cloneOff bn := by have := HN.out; cases κ <;> simp only [cBk] <;> omega
  have hcp : cBk N κ + cloneOff bn ≠ pBk N (cloneOff bn) κ := by cases κ <;> simp only [pBk, cBk] <;> omega
  have hmc4 : mv.length = 4 := by rw [HM.out]; rfl
  have hmc1 : ∀ u ∈ mv, u.oneCell' = true := by rw [HM.out]; exact mc_one rfl
  refine wpList_store_blk rfl 71 _ _ rfl (pBk N (cloneOff bn) κ) 0 4 rfl 71 zmk mv rfl hn (by kernel_rfl) hmc4 (by decide) hmc1 ?_
  intro w3 n3 g3
  rw [put_all _ _ (by rw [hmc4]; rfl)] at n3
  obtain ⟨g8, hg8⟩ : ∃ g8, g8 = pBk N (cloneOff bn) κ := ⟨_, rfl⟩
  obtain ⟨cn, hcn⟩ : ∃ cn, cn = cBk N κ + cloneOff bn := ⟨_, rfl⟩
  rw [← hg8] at n3 g3 hpw hcp hN2 ⊢
  rw [← hcn] at hcl hcw hcp HM
  have B3 := Lib.hid (below_grown bl2 g3 hs2 hpw)
  have K3 := Lib.hid (H0.out.below B3.out)
  have c3 : Bts w3 (some ⟨cn, 0, none⟩) bn cc B := bts_only hcl (Only.of_grown g3) (by simpa using hcp)
  have Y3 := Lib.hid (show Body w3 (reach bl V ++ A) (.slice (some ⟨cn, 0, none⟩) bn cc) B from by
    have e := HBN.out
    subst e
    refine .inr ⟨cn, 0, cc, rfl, h0, h64, c3, fun hx => ?_⟩
    rcases List.mem_append.1 hx with hx | hx
    · have := H0.out.reach_lt hx; omega
    · have := H0.out.out cn hx; omega)
  have M3 := Lib.hid (show Blk w3 g8 (mc (⟨k.ep, s, (k.en 1).come, B⟩, .slice (some ⟨cn, 0, none⟩) bn cc)) 71 from by rw [← HCM.out, ← HM.out]; exact n3)
  have G8 := Lib.hid (show ∀ x, (V 4).ownBlock = some x → g8 ≠ x from fun x hx => by have := H0.out.row 4 (by decide) hx; omega)
  clear bt bl2 hn hcl g3 n3 KV BM HD HCC HN hN2 c3 hg8 hcn hcw hcp hmc4 hmc1 HM C0 C1 HB hpw hs2
  go_upto_region 1 with (fail)
  -- the packet goes behind the others
  obtain ⟨mv, hmv⟩ : ∃ mv, mv = mc (⟨k.ep, s, (k.en 1).come, B⟩, .slice (some ⟨cn, 0, none⟩) bn cc) := ⟨_, rfl⟩
  obtain ⟨pv, hpv⟩ : ∃ pv, pv = pc (⟨1, ⟨k.ep, s, (k.en 1).come, B⟩⟩, .slice (some ⟨cn, 0, none⟩) bn cc) := ⟨_, rfl⟩
  obtain ⟨w4, hw4⟩ : ∃ w4, w4 = w3.drew.alloc (.cells pv.toArray 74) := ⟨_, rfl⟩
  have b4 : Below w3.heap.size w3 w4 := hw4 ▸ ((Below.refl _ _).drew.alloc (Nat.le_refl _) _)
  have K4 := Lib.hid (K3.out.below b4)
  have Y4 := Lib.hid (Y3.out.move (Only.of_below (S := []) b4) (by simp) (fun x hx => .inl hx))
  have Z4 := Lib.hid (show Blk w4 w3.heap.size (pc (⟨1, ⟨k.ep, s, (k.en 1).come, B⟩⟩, .slice (some ⟨cn, 0, none⟩) bn cc)) 74 from by rw [hw4, hpv]; exact blk_at (w := w3.drew) rfl rfl)
  obtain ⟨v', w5, hr5, hg5, hc5, hf5, gr5, va, vc, rfl⟩ := K4.out.more ⟨1, ⟨k.ep, s, (k.en 1).come, B⟩⟩ (.slice (some ⟨cn, 0, none⟩) bn cc) Y4.out Z4.out hfl
  have HR5 := Lib.hid hr5
  have HG5 := Lib.hid hg5
  have M3' := Lib.hid (show Blk w3 g8 mv 71 from hmv ▸ M3.out)
  have M4' := Lib.hid (M3'.out.below b4 M3'.out.lt)
  have M5' := Lib.hid (M4'.out.grownO gr5 G8.out)
  have BP := Lib.hid (show Try.prog.built 74 [(0, .int .i64 1), (1, .agg mv.toArray)] = some pv.toArray from by rw [hmv, hpv]; exact built_pk 1 ⟨k.ep, s, (k.en 1).come, B⟩ (.slice (some ⟨cn, 0, none⟩) bn cc))
  have HP := Lib.hid (show pv.length = 5 from by rw [hpv]; rfl)
  have HW4 := Lib.hid hw4
  have hmv4 : mv.length = 4 := by rw [hmv]; rfl
  have L3C := Lib.hid (show w3.cell? ⟨bl, 9, none⟩ = some (V 4) from K3.out.cell 9)
  have L4C := Lib.hid (show w4.cell? ⟨bl, 9, none⟩ = some (V 4) from K4.out.cell 9)
  have B4 := Lib.hid (B3.out.trans (b4.mono B3.out.size))
  have hc5' : w5.cell? ⟨bl, 9, none⟩ = some (V 4) := hc5
  obtain ⟨v4, hv4⟩ : ∃ v4, v4 = V 4 := ⟨_, rfl⟩
  rw [← hv4] at L3C L4C hc5' HR5
  obtain ⟨hcl, hcl'⟩ : ∃ hcl : Nat, hcl = w3.heap.size := ⟨_, rfl⟩
  have HH := Lib.hid hcl'
  rw [← hcl'] at HR5
  obtain ⟨fn, hfn⟩ : ∃ fn, fn = k.fl.length + 1 := ⟨_, rfl⟩
  rw [← hfn] at HR5 HG5
  clear hr5 hg5 hc5 hmv hw4 hcl' hv4 hpv Z4 K4 Y4 K3 Y3 b4 M3 G8 gr5 hfl hfn
  refine wp_region_gate_tail (fun d w' => At2 8 9 (fun w' => w' = w3.drew) (fun w' => w' = w4) (fun w' => w' = w5) d w') 12 (by kernel_rfl) (by kernel_rfl) ?hI ?_
  case hI => exact At2.start (by rfl) (by rfl) rfl
  simp only [List.take_succ_cons, List.take_zero, List.drop_succ_cons, List.drop_zero]
  refine InvC.invc_value (.pointer (some ⟨bl, 0, none⟩)) (fun u hu => by cases hu) rfl (fun d w' _ _ h => by go_simp; all_goals rfl) (fun d w' _ _ h => At2.keep (by decide) (by decide) h) ?_
  simp only [Act.put, List.setIfInBounds_toArray, List.set_cons_zero, List.set_cons_succ]
  refine InvC.invc_value (.pointer (some ⟨bl, 0, none⟩)) (fun u hu => by cases hu) rfl (fun d w' _ _ h => by go_simp; all_goals rfl) (fun d w' _ _ h => At2.keep (by decide) (by decide) h) ?_
  simp only [Act.put, List.setIfInBounds_toArray, List.set_cons_zero, List.set_cons_succ]
  refine InvC.invc_value (.pointer (some ⟨bl, 0, none⟩)) (fun u hu => by cases hu) rfl (fun d w' _ _ h => by go_simp; all_goals rfl) (fun d w' _ _ h => At2.keep (by decide) (by decide) h) ?_
  simp only [Act.put, List.setIfInBounds_toArray, List.set_cons_zero, List.set_cons_succ]
  refine InvC.invc_value (.pointer (some ⟨bl, 9, none⟩)) (fun u hu => by cases hu) rfl (fun d w' _ _ h => by go_simp; all_goals rfl) (fun d w' _ _ h => At2.keep (by decide) (by decide) h) ?_
  simp only [Act.put, List.setIfInBounds_toArray, List.set_cons_zero, List.set_cons_succ]
  refine InvC.invc_value v4 (fun u hu => by cases hu) rfl (fun d w' _ _ h => by
    have c9 : w'.cell? ⟨bl, 9, none⟩ = some v4 := by
      rcases h.any with rfl | rfl | rfl
      · exact L3C.out
      · exact L4C.out
      · exact hc5'
    go_simp) (fun d w' _ _ h => At2.keep (by decide) (by decide) h) ?_
  simp only [Act.put, List.setIfInBounds_toArray, List.set_cons_zero, List.set_cons_succ]
  refine InvC.invc_value (.int .i64 1) (fun u hu => by cases hu) rfl (fun d w' _ _ h => by go_simp; all_goals rfl) (fun d w' _ _ h => At2.keep (by decide) (by decide) h) ?_
  simp only [Act.put, List.setIfInBounds_toArray, List.set_cons_zero, List.set_cons_succ]
  refine InvC.invc_value (.agg mv.toArray) (fun u hu => by cases hu) rfl (fun d w' _ _ h => by
    have c8 : Blk w' g8 mv 71 := by
      rcases h.any with rfl | rfl | rfl
      · exact M3'.out.drew
      · exact M4'.out
      · exact M5'.out
    exact exec_load rfl rfl c8 Try.underlying71 rfl (by kernel_rfl) hmv4) (fun d w' _ _ h => At2.keep (by decide) (by decide) h) ?_
  simp only [Act.put, List.setIfInBounds_toArray, List.set_cons_zero, List.set_cons_succ]
  refine InvC.invc_value (.agg pv.toArray) (fun u hu => by cases hu) rfl (fun d w' _ _ h => exec_build (vs := [(0, .int .i64 1), (1, .agg mv.toArray)]) rfl rfl BP.out) (fun d w' _ _ h => At2.keep (by decide) (by decide) h) ?_
  simp only [Act.put, List.setIfInBounds_toArray, List.set_cons_zero, List.set_cons_succ]
  refine InvC.invc_world (.slice (some ⟨hcl, 0, none⟩) 1 1) (fun u hu => by cases hu) rfl (fun d w' hd hG h => ⟨w4, by
    obtain ⟨e, _⟩ := h.at_p hd
    subst e
    rw [HH.out, HW4.out]
    exact exec_build_one rfl rfl Try.underlying29 info_pk HP.out (by decide) (by decide), At2.did_p (by decide) hd h rfl⟩) ?_
  simp only [Act.put, List.setIfInBounds_toArray, List.set_cons_zero, List.set_cons_succ]
  refine InvC.invc_world (.slice va fn vc) (fun u hu => by cases hu) rfl (fun d w' hd hG h => ⟨w5, by
    have e := h.at_q hd (hG.of (by kernel_rfl))
    subst e
    exact exec_append _ _ rfl rfl rfl HR5.out, At2.did_q (by decide) hd (hG.of (by kernel_rfl)) rfl⟩) ?_
  simp only [Act.put, List.setIfInBounds_toArray, List.set_cons_zero, List.set_cons_succ]
  refine InvC.invc_value (.pointer (some ⟨bl, 0, none⟩)) (fun u hu => by cases hu) rfl (fun d w' _ _ h => by go_simp; all_goals rfl) (fun d w' _ _ h => At2.keep (by decide) (by decide) h) ?_
  simp only [Act.put, List.setIfInBounds_toArray, List.set_cons_zero, List.set_cons_succ]
  refine InvC.invc_value (.pointer (some ⟨bl, 9, none⟩)) (fun u hu => by cases hu) rfl (fun d w' _ _ h => by go_simp; all_goals rfl) (fun d w' _ _ h => At2.keep (by decide) (by decide) h) ?_
  simp only [Act.put, List.setIfInBounds_toArray, List.set_cons_zero, List.set_cons_succ]
  refine InvC.invc_nil fun w6 hI => ?_
  have e6 := hI.done (by rfl)
  subst e6
  clear L3C L4C M3' M4' M5' BP HP HW4 HH HR5 hmv4
  go_wp2
  go_end0
  exact ⟨rfl, _, (Goes.of_below H0.out B4.out).trans HG5.out⟩
set_option maxHeartbeats 2000000 in
theorem put_none0 (h : LinkAt w bl V A k) (s : Nat) (hfl : k.fl.length < 1024) : Calls Try.prog 34 #[.pointer (some ⟨bl, 0, none⟩), .int .i64 0, .int .u32 (s : Int), .slice none 0 0] w fun e w' => e = .returned (.tuple #[]) ∧ ∃ v', Goes w bl V A w' (upd V 4 v') (k.put 0 s []) := by
  have hlt := h.head.lt
  obtain ⟨B, hB⟩ : ∃ B : List UInt8, B = [] := ⟨_, rfl⟩
  rw [← hB]
  obtain ⟨cm, hcm⟩ : ∃ cm, cm = (k.en 0).come := ⟨_, rfl⟩
  have H0 := Lib.hid h
  have C0 := Lib.hid (fun w' (hb : Below w.heap.size w w') => show w'.cell? ⟨bl, 0, none⟩ = some (.int .u32 (k.ep : Int)) from (h.below hb).cell 0)
  have C1 := Lib.hid (fun w' (hb : Below w.heap.size w w') => show w'.cell? ⟨bl, 3, none⟩ = some (.int .u32 (cm : Int)) from by rw [hcm]; exact (h.below hb).cell 3)
  have HCM := Lib.hid hcm
  have HBN := Lib.hid hB
  obtain ⟨mv0, hmv0⟩ : ∃ mv0, mv0 = mc (⟨k.ep, s, cm, B⟩, .slice none 0 0) := ⟨_, rfl⟩
  have HM := Lib.hid hmv0
  have BM := Lib.hid (show Try.prog.built 71 [(0, .int .u32 (k.ep : Int)), (1, .int .u32 (s : Int)), (2, .int .u32 (cm : Int)), (3, .slice none 0 0)] = some mv0.toArray from by rw [hmv0]; exact built_mk k.ep s cm none 0 0)
  obtain ⟨w1, hw1⟩ : ∃ w1, w1 = w.drew.alloc (.cells #[.int .u32 0, .int .u32 0, .int .u32 0, .slice none 0 0] 71) := ⟨_, rfl⟩
  have HW1 := Lib.hid hw1
  have b1 : Below w.heap.size w w1 := hw1 ▸ ((Below.refl _ _).drew.alloc (Nat.le_refl _) _)
  have B0 := Lib.hid (show Below w.heap.size w w.drew from (Below.refl _ _).drew)
  have B1 := Lib.hid b1
  have Z1 := Lib.hid (show Blk w1 w.heap.size zmk 71 from hw1 ▸ blk_at (w := w.drew) rfl rfl)
  obtain ⟨g8, hg8⟩ : ∃ g8, g8 = w.heap.size := ⟨_, rfl⟩
  have HG8 := Lib.hid hg8
  rw [← hg8] at Z1
  clear h hcm hB hmv0 hw1 b1 hg8
  go_enter Try.func34, Try.ntmps34
  go_upto_region 0 with (fail)
  refine InvL.wp_region_inv_tail (fun d w' => At 15 (fun w' => w' = w.drew) (fun w' => w' = w1) d w') 16 (by kernel_rfl) (by kernel_rfl) ?hI ?_
  case hI => exact At.start (by rfl) rfl
  simp only [List.take_succ_cons, List.take_zero, List.drop_succ_cons, List.drop_zero]
  refine invl_value (.pointer (some ⟨bl, 0, none⟩)) rfl (fun d w' h => by go_simp; all_goals rfl) (fun d w' _ h => At.keep (by decide) id id h) ?_
  simp only [Act.put, List.setIfInBounds_toArray, List.set_cons_zero, List.set_cons_succ]
  refine invl_value (.pointer (some ⟨bl, 0, none⟩)) rfl (fun d w' h => by go_simp; all_goals rfl) (fun d w' _ h => At.keep (by decide) id id h) ?_
  simp only [Act.put, List.setIfInBounds_toArray, List.set_cons_zero, List.set_cons_succ]
  refine invl_value (.pointer (some ⟨bl, 0, none⟩)) rfl (fun d w' h => by go_simp; all_goals rfl) (fun d w' _ h => At.keep (by decide) id id h) ?_
  simp only [Act.put, List.setIfInBounds_toArray, List.set_cons_zero, List.set_cons_succ]
  refine invl_value (.int .u32 (k.ep : Int)) rfl (fun d w' h => by have c0 : w'.cell? ⟨bl, 0, none⟩ = some (.int .u32 (k.ep : Int)) := (by rcases at_or h with rfl | rfl; exact C0.out _ B0.out; exact C0.out _ B1.out); go_simp) (fun d w' _ h => At.keep (by decide) id id h) ?_
  simp only [Act.put, List.setIfInBounds_toArray, List.set_cons_zero, List.set_cons_succ]
  refine invl_value (.int .u32 (s : Int)) rfl (fun d w' h => by go_simp; all_goals rfl) (fun d w' _ h => At.keep (by decide) id id h) ?_
  simp only [Act.put, List.setIfInBounds_toArray, List.set_cons_zero, List.set_cons_succ]
  refine invl_value (.pointer (some ⟨bl, 0, none⟩)) rfl (fun d w' h => by go_simp; all_goals rfl) (fun d w' _ h => At.keep (by decide) id id h) ?_
  simp only [Act.put, List.setIfInBounds_toArray, List.set_cons_zero, List.set_cons_succ]
  refine invl_value (.int .i64 0) rfl (fun d w' h => by go_simp; all_goals rfl) (fun d w' _ h => At.keep (by decide) id id h) ?_
  simp only [Act.put, List.setIfInBounds_toArray, List.set_cons_zero, List.set_cons_succ]
  refine invl_value (.pointer (some ⟨bl, 0, none⟩)) rfl (fun d w' h => by go_simp; all_goals rfl) (fun d w' _ h => At.keep (by decide) id id h) ?_
  simp only [Act.put, List.setIfInBounds_toArray, List.set_cons_zero, List.set_cons_succ]
  refine invl_value (.pointer (some ⟨bl, 1, none⟩)) rfl (fun d w' h => by go_simp; all_goals rfl) (fun d w' _ h => At.keep (by decide) id id h) ?_
  simp only [Act.put, List.setIfInBounds_toArray, List.set_cons_zero, List.set_cons_succ]
  refine invl_value (.pointer (some ⟨bl, 1, none⟩)) rfl (fun d w' h => by go_simp; all_goals rfl) (fun d w' _ h => At.keep (by decide) id id h) ?_
  simp only [Act.put, List.setIfInBounds_toArray, List.set_cons_zero, List.set_cons_succ]
  refine invl_value (.pointer (some ⟨bl, 3, none⟩)) rfl (fun d w' h => by go_simp; all_goals rfl) (fun d w' _ h => At.keep (by decide) id id h) ?_
  simp only [Act.put, List.setIfInBounds_toArray, List.set_cons_zero, List.set_cons_succ]
  refine invl_value (.int .u32 (cm : Int)) rfl (fun d w' h => by have c0 : w'.cell? ⟨bl, 3, none⟩ = some (.int .u32 (cm : Int)) := (by rcases at_or h with rfl | rfl; exact C1.out _ B0.out; exact C1.out _ B1.out); go_simp) (fun d w' _ h => At.keep (by decide) id id h) ?_
  simp only [Act.put, List.setIfInBounds_toArray, List.set_cons_zero, List.set_cons_succ]
  refine invl_value (.slice none 0 0) rfl (fun d w' h => by go_simp; all_goals rfl) (fun d w' _ h => At.keep (by decide) id id h) ?_
  simp only [Act.put, List.setIfInBounds_toArray, List.set_cons_zero, List.set_cons_succ]
  refine invl_call (.slice none 0 0) rfl 33 #[.slice none 0 0] (fun d w' _ => by go_simp) (fun d w' hd h => (clone_none w').mono fun e w'' ⟨he, hw⟩ => ⟨he, hw ▸ At.keep (by decide) id id h⟩) ?_
  simp only [Act.put, List.setIfInBounds_toArray, List.set_cons_zero, List.set_cons_succ]
  refine invl_value (.agg mv0.toArray) rfl (fun d w' h => exec_build (vs := [(0, .int .u32 (k.ep : Int)), (1, .int .u32 (s : Int)), (2, .int .u32 (cm : Int)), (3, .slice none 0 0)]) rfl rfl BM.out) (fun d w' _ h => At.keep (by decide) id id h) ?_
  simp only [Act.put, List.setIfInBounds_toArray, List.set_cons_zero, List.set_cons_succ]
  refine invl_world (.pointer (some ⟨g8, 0, none⟩)) rfl (fun d w' hd h => ⟨w1, by
    have e := h.before hd
    subst e
    rw [HW1.out, HG8.out]
    go_simp
    all_goals rfl, At.now hd rfl⟩) ?_
  simp only [Act.put, List.setIfInBounds_toArray, List.set_cons_zero, List.set_cons_succ]
  refine invl_nil fun w2 hI => ?_
  have e2 := hI.done (by rfl)
  subst e2
  have hmc4 : mv0.length = 4 := by rw [HM.out]; rfl
  have hmc1 : ∀ u ∈ mv0, u.oneCell' = true := by rw [HM.out]; exact mc_one rfl
  refine wpList_store_blk rfl 71 _ _ rfl g8 0 4 rfl 71 zmk mv0 rfl Z1.out (by kernel_rfl) hmc4 (by decide) hmc1 ?_
  intro w3 n3 g3
  rw [put_all _ _ (by rw [hmc4]; rfl)] at n3
  have hg8 : w.heap.size ≤ g8 := by have := HG8.out; omega
  have B3 := Lib.hid (below_grown B1.out g3 B1.out.size hg8)
  have K3 := Lib.hid (H0.out.below B3.out)
  have Y3 := Lib.hid (show Body w3 (reach bl V ++ A) (.slice none 0 0) B from .inl ⟨HBN.out, rfl⟩)
  have M3 := Lib.hid (show Blk w3 g8 (mc (⟨k.ep, s, (k.en 0).come, B⟩, .slice none 0 0)) 71 from by rw [← HCM.out, ← HM.out]; exact n3)
  have G8 := Lib.hid (show ∀ x, (V 4).ownBlock = some x → g8 ≠ x from fun x hx => by have := H0.out.row 4 (by decide) hx; omega)
  clear n3 g3 BM HM C0 C1 hmc4 hmc1 B0 B1 Z1 HW1 HG8 hg8
  go_upto_region 1 with (fail)
  -- the packet goes behind the others
  obtain ⟨mv, hmv⟩ : ∃ mv, mv = mc (⟨k.ep, s, (k.en 0).come, B⟩, .slice none 0 0) := ⟨_, rfl⟩
  obtain ⟨pv, hpv⟩ : ∃ pv, pv = pc (⟨0, ⟨k.ep, s, (k.en 0).come, B⟩⟩, .slice none 0 0) := ⟨_, rfl⟩
  obtain ⟨w4, hw4⟩ : ∃ w4, w4 = w3.drew.alloc (.cells pv.toArray 74) := ⟨_, rfl⟩
  have b4 : Below w3.heap.size w3 w4 := hw4 ▸ ((Below.refl _ _).drew.alloc (Nat.le_refl _) _)
  have K4 := Lib.hid (K3.out.below b4)
  have Y4 := Lib.hid (Y3.out.move (Only.of_below (S := []) b4) (by simp) (fun x hx => .inl hx))
  have Z4 := Lib.hid (show Blk w4 w3.heap.size (pc (⟨0, ⟨k.ep, s, (k.en 0).come, B⟩⟩, .slice none 0 0)) 74 from by rw [hw4, hpv]; exact blk_at (w := w3.drew) rfl rfl)
  obtain ⟨v', w5, hr5, hg5, hc5, hf5, gr5, va, vc, rfl⟩ := K4.out.more ⟨0, ⟨k.ep, s, (k.en 0).come, B⟩⟩ (.slice none 0 0) Y4.out Z4.out hfl
  have HR5 := Lib.hid hr5
  have HG5 := Lib.hid hg5
  have M3' := Lib.hid (show Blk w3 g8 mv 71 from hmv ▸ M3.out)
  have M4' := Lib.hid (M3'.out.below b4 M3'.out.lt)
  have M5' := Lib.hid (M4'.out.grownO gr5 G8.out)
  have BP := Lib.hid (show Try.prog.built 74 [(0, .int .i64 0), (1, .agg mv.toArray)] = some pv.toArray from by rw [hmv, hpv]; exact built_pk 0 ⟨k.ep, s, (k.en 0).come, B⟩ (.slice none 0 0))
  have HP := Lib.hid (show pv.length = 5 from by rw [hpv]; rfl)
  have HW4 := Lib.hid hw4
  have hmv4 : mv.length = 4 := by rw [hmv]; rfl
  have L3C := Lib.hid (show w3.cell? ⟨bl, 9, none⟩ = some (V 4) from K3.out.cell 9)
  have L4C := Lib.hid (show w4.cell? ⟨bl, 9, none⟩ = some (V 4) from K4.out.cell 9)
  have B4 := Lib.hid (B3.out.trans (b4.mono B3.out.size))
  have hc5' : w5.cell? ⟨bl, 9, none⟩ = some (V 4) := hc5
  obtain ⟨v4, hv4⟩ : ∃ v4, v4 = V 4 := ⟨_, rfl⟩
  rw [← hv4] at L3C L4C hc5' HR5
  obtain ⟨hcl, hcl'⟩ : ∃ hcl : Nat, hcl = w3.heap.size := ⟨_, rfl⟩
  have HH := Lib.hid hcl'
  rw [← hcl'] at HR5
  obtain ⟨fn, hfn⟩ : ∃ fn, fn = k.fl.length + 1 := ⟨_, rfl⟩
  rw [← hfn] at HR5 HG5
  clear hr5 hg5 hc5 hmv hw4 hcl' hv4 hpv Z4 K4 Y4 K3 Y3 b4 M3 G8 gr5 hfl hfn
  refine wp_region_gate_tail (fun d w' => At2 8 9 (fun w' => w' = w3.drew) (fun w' => w' = w4) (fun w' => w' = w5) d w') 12 (by kernel_rfl) (by kernel_rfl) ?hI ?_
  case hI => exact At2.start (by rfl) (by rfl) rfl
  simp only [List.take_succ_cons, List.take_zero, List.drop_succ_cons, List.drop_zero]
  refine InvC.invc_value (.pointer (some ⟨bl, 0, none⟩)) (fun u hu => by cases hu) rfl (fun d w' _ _ h => by go_simp; all_goals rfl) (fun d w' _ _ h => At2.keep (by decide) (by decide) h) ?_
  simp only [Act.put, List.setIfInBounds_toArray, List.set_cons_zero, List.set_cons_succ]
  refine InvC.invc_value (.pointer (some ⟨bl, 0, none⟩)) (fun u hu => by cases hu) rfl (fun d w' _ _ h => by go_simp; all_goals rfl) (fun d w' _ _ h => At2.keep (by decide) (by decide) h) ?_
  simp only [Act.put, List.setIfInBounds_toArray, List.set_cons_zero, List.set_cons_succ]
  refine InvC.invc_value (.pointer (some ⟨bl, 0, none⟩)) (fun u hu => by cases hu) rfl (fun d w' _ _ h => by go_simp; all_goals rfl) (fun d w' _ _ h => At2.keep (by decide) (by decide) h) ?_
  simp only [Act.put, List.setIfInBounds_toArray, List.set_cons_zero, List.set_cons_succ]
  refine InvC.invc_value (.pointer (some ⟨bl, 9, none⟩)) (fun u hu => by cases hu) rfl (fun d w' _ _ h => by go_simp; all_goals rfl) (fun d w' _ _ h => At2.keep (by decide) (by decide) h) ?_
  simp only [Act.put, List.setIfInBounds_toArray, List.set_cons_zero, List.set_cons_succ]
  refine InvC.invc_value v4 (fun u hu => by cases hu) rfl (fun d w' _ _ h => by
    have c9 : w'.cell? ⟨bl, 9, none⟩ = some v4 := by
      rcases h.any with rfl | rfl | rfl
      · exact L3C.out
      · exact L4C.out
      · exact hc5'
    go_simp) (fun d w' _ _ h => At2.keep (by decide) (by decide) h) ?_
  simp only [Act.put, List.setIfInBounds_toArray, List.set_cons_zero, List.set_cons_succ]
  refine InvC.invc_value (.int .i64 0) (fun u hu => by cases hu) rfl (fun d w' _ _ h => by go_simp; all_goals rfl) (fun d w' _ _ h => At2.keep (by decide) (by decide) h) ?_
  simp only [Act.put, List.setIfInBounds_toArray, List.set_cons_zero, List.set_cons_succ]
  refine InvC.invc_value (.agg mv.toArray) (fun u hu => by cases hu) rfl (fun d w' _ _ h => by
    have c8 : Blk w' g8 mv 71 := by
      rcases h.any with rfl | rfl | rfl
      · exact M3'.out.drew
      · exact M4'.out
      · exact M5'.out
    exact exec_load rfl rfl c8 Try.underlying71 rfl (by kernel_rfl) hmv4) (fun d w' _ _ h => At2.keep (by decide) (by decide) h) ?_
  simp only [Act.put, List.setIfInBounds_toArray, List.set_cons_zero, List.set_cons_succ]
  refine InvC.invc_value (.agg pv.toArray) (fun u hu => by cases hu) rfl (fun d w' _ _ h => exec_build (vs := [(0, .int .i64 0), (1, .agg mv.toArray)]) rfl rfl BP.out) (fun d w' _ _ h => At2.keep (by decide) (by decide) h) ?_
  simp only [Act.put, List.setIfInBounds_toArray, List.set_cons_zero, List.set_cons_succ]
  refine InvC.invc_world (.slice (some ⟨hcl, 0, none⟩) 1 1) (fun u hu => by cases hu) rfl (fun d w' hd hG h => ⟨w4, by
    obtain ⟨e, _⟩ := h.at_p hd
    subst e
    rw [HH.out, HW4.out]
    exact exec_build_one rfl rfl Try.underlying29 info_pk HP.out (by decide) (by decide), At2.did_p (by decide) hd h rfl⟩) ?_
  simp only [Act.put, List.setIfInBounds_toArray, List.set_cons_zero, List.set_cons_succ]
  refine InvC.invc_world (.slice va fn vc) (fun u hu => by cases hu) rfl (fun d w' hd hG h => ⟨w5, by
    have e := h.at_q hd (hG.of (by kernel_rfl))
    subst e
    exact exec_append _ _ rfl rfl rfl HR5.out, At2.did_q (by decide) hd (hG.of (by kernel_rfl)) rfl⟩) ?_
  simp only [Act.put, List.setIfInBounds_toArray, List.set_cons_zero, List.set_cons_succ]
  refine InvC.invc_value (.pointer (some ⟨bl, 0, none⟩)) (fun u hu => by cases hu) rfl (fun d w' _ _ h => by go_simp; all_goals rfl) (fun d w' _ _ h => At2.keep (by decide) (by decide) h) ?_
  simp only [Act.put, List.setIfInBounds_toArray, List.set_cons_zero, List.set_cons_succ]
  refine InvC.invc_value (.pointer (some ⟨bl, 9, none⟩)) (fun u hu => by cases hu) rfl (fun d w' _ _ h => by go_simp; all_goals rfl) (fun d w' _ _ h => At2.keep (by decide) (by decide) h) ?_
  simp only [Act.put, List.setIfInBounds_toArray, List.set_cons_zero, List.set_cons_succ]
  refine InvC.invc_nil fun w6 hI => ?_
  have e6 := hI.done (by rfl)
  subst e6
  clear L3C L4C M3' M4' M5' BP HP HW4 HH HR5 hmv4
  go_wp2
  go_end0
  exact ⟨rfl, _, (Goes.of_below H0.out B4.out).trans HG5.out⟩
set_option maxHeartbeats 2000000 in
theorem put_none1 (h : LinkAt w bl V A k) (s : Nat) (hfl : k.fl.length < 1024) : Calls Try.prog 34 #[.pointer (some ⟨bl, 0, none⟩), .int .i64 1, .int .u32 (s : Int), .slice none 0 0] w fun e w' => e = .returned (.tuple #[]) ∧ ∃ v', Goes w bl V A w' (upd V 4 v') (k.put 1 s []) := by
  have hlt := h.head.lt
  obtain ⟨B, hB⟩ : ∃ B : List UInt8, B = [] := ⟨_, rfl⟩
  rw [← hB]
  obtain ⟨cm, hcm⟩ : ∃ cm, cm = (k.en 1).come := ⟨_, rfl⟩
  have H0 := Lib.hid h
  have C0 := Lib.hid (fun w' (hb : Below w.heap.size w w') => show w'.cell? ⟨bl, 0, none⟩ = some (.int .u32 (k.ep : Int)) from (h.below hb).cell 0)
  have C1 := Lib.hid (fun w' (hb : Below w.heap.size w w') => show w'.cell? ⟨bl, 7, none⟩ = some (.int .u32 (cm : Int)) from by rw [hcm]; exact (h.below hb).cell 7)
  have HCM := Lib.hid hcm
  have HBN := Lib.hid hB
  obtain ⟨mv0, hmv0⟩ : ∃ mv0, mv0 = mc (⟨k.ep, s, cm, B⟩, .slice none 0 0) := ⟨_, rfl⟩
  have HM := Lib.hid hmv0
  have BM := Lib.hid (show Try.prog.built 71 [(0, .int .u32 (k.ep : Int)), (1, .int .u32 (s : Int)), (2, .int .u32 (cm : Int)), (3, .slice none 0 0)] = some mv0.toArray from by rw [hmv0]; exact built_mk k.ep s cm none 0 0)
  obtain ⟨w1, hw1⟩ : ∃ w1, w1 = w.drew.alloc (.cells #[.int .u32 0, .int .u32 0, .int .u32 0, .slice none 0 0] 71) := ⟨_, rfl⟩
  have HW1 := Lib.hid hw1
  have b1 : Below w.heap.size w w1 := hw1 ▸ ((Below.refl _ _).drew.alloc (Nat.le_refl _) _)
  have B0 := Lib.hid (show Below w.heap.size w w.drew from (Below.refl _ _).drew)
  have B1 := Lib.hid b1
  have Z1 := Lib.hid (show Blk w1 w.heap.size zmk 71 from hw1 ▸ blk_at (w := w.drew) rfl rfl)
  obtain ⟨g8, hg8⟩ : ∃ g8, g8 = w.heap.size := ⟨_, rfl⟩
  have HG8 := Lib.hid hg8
  rw [← hg8] at Z1
  clear h hcm hB hmv0 hw1 b1 hg8
  go_enter Try.func34, Try.ntmps34
  go_upto_region 0 with (fail)
  refine InvL.wp_region_inv_tail (fun d w' => At 15 (fun w' => w' = w.drew) (fun w' => w' = w1) d w') 16 (by kernel_rfl) (by kernel_rfl) ?hI ?_
  case hI => exact At.start (by rfl) rfl
  simp only [List.take_succ_cons, List.take_zero, List.drop_succ_cons, List.drop_zero]
  refine invl_value (.pointer (some ⟨bl, 0, none⟩)) rfl (fun d w' h => by go_simp; all_goals rfl) (fun d w' _ h => At.keep (by decide) id id h) ?_
  simp only [Act.put, List.setIfInBounds_toArray, List.set_cons_zero, List.set_cons_succ]
  refine invl_value (.pointer (some ⟨bl, 0, none⟩)) rfl (fun d w' h => by go_simp; all_goals rfl) (fun d w' _ h => At.keep (by decide) id id h) ?_
  simp only [Act.put, List.setIfInBounds_toArray, List.set_cons_zero, List.set_cons_succ]
  refine invl_value (.pointer (some ⟨bl, 0, none⟩)) rfl (fun d w' h => by go_simp; all_goals rfl) (fun d w' _ h => At.keep (by decide) id id h) ?_
  simp only [Act.put, List.setIfInBounds_toArray, List.set_cons_zero, List.set_cons_succ]
  refine invl_value (.int .u32 (k.ep : Int)) rfl (fun d w' h => by have c0 : w'.cell? ⟨bl, 0, none⟩ = some (.int .u32 (k.ep : Int)) := (by rcases at_or h with rfl | rfl; exact C0.out _ B0.out; exact C0.out _ B1.out); go_simp) (fun d w' _ h => At.keep (by decide) id id h) ?_
  simp only [Act.put, List.setIfInBounds_toArray, List.set_cons_zero, List.set_cons_succ]
  refine invl_value (.int .u32 (s : Int)) rfl (fun d w' h => by go_simp; all_goals rfl) (fun d w' _ h => At.keep (by decide) id id h) ?_
  simp only [Act.put, List.setIfInBounds_toArray, List.set_cons_zero, List.set_cons_succ]
  refine invl_value (.pointer (some ⟨bl, 0, none⟩)) rfl (fun d w' h => by go_simp; all_goals rfl) (fun d w' _ h => At.keep (by decide) id id h) ?_
  simp only [Act.put, List.setIfInBounds_toArray, List.set_cons_zero, List.set_cons_succ]
  refine invl_value (.int .i64 1) rfl (fun d w' h => by go_simp; all_goals rfl) (fun d w' _ h => At.keep (by decide) id id h) ?_
  simp only [Act.put, List.setIfInBounds_toArray, List.set_cons_zero, List.set_cons_succ]
  refine invl_value (.pointer (some ⟨bl, 0, none⟩)) rfl (fun d w' h => by go_simp; all_goals rfl) (fun d w' _ h => At.keep (by decide) id id h) ?_
  simp only [Act.put, List.setIfInBounds_toArray, List.set_cons_zero, List.set_cons_succ]
  refine invl_value (.pointer (some ⟨bl, 1, none⟩)) rfl (fun d w' h => by go_simp; all_goals rfl) (fun d w' _ h => At.keep (by decide) id id h) ?_
  simp only [Act.put, List.setIfInBounds_toArray, List.set_cons_zero, List.set_cons_succ]
  refine invl_value (.pointer (some ⟨bl, 5, none⟩)) rfl (fun d w' h => by go_simp; all_goals rfl) (fun d w' _ h => At.keep (by decide) id id h) ?_
  simp only [Act.put, List.setIfInBounds_toArray, List.set_cons_zero, List.set_cons_succ]
  refine invl_value (.pointer (some ⟨bl, 7, none⟩)) rfl (fun d w' h => by go_simp; all_goals rfl) (fun d w' _ h => At.keep (by decide) id id h) ?_
  simp only [Act.put, List.setIfInBounds_toArray, List.set_cons_zero, List.set_cons_succ]
  refine invl_value (.int .u32 (cm : Int)) rfl (fun d w' h => by have c0 : w'.cell? ⟨bl, 7, none⟩ = some (.int .u32 (cm : Int)) := (by rcases at_or h with rfl | rfl; exact C1.out _ B0.out; exact C1.out _ B1.out); go_simp) (fun d w' _ h => At.keep (by decide) id id h) ?_
  simp only [Act.put, List.setIfInBounds_toArray, List.set_cons_zero, List.set_cons_succ]
  refine invl_value (.slice none 0 0) rfl (fun d w' h => by go_simp; all_goals rfl) (fun d w' _ h => At.keep (by decide) id id h) ?_
  simp only [Act.put, List.setIfInBounds_toArray, List.set_cons_zero, List.set_cons_succ]
  refine invl_call (.slice none 0 0) rfl 33 #[.slice none 0 0] (fun d w' _ => by go_simp) (fun d w' hd h => (clone_none w').mono fun e w'' ⟨he, hw⟩ => ⟨he, hw ▸ At.keep (by decide) id id h⟩) ?_
  simp only [Act.put, List.setIfInBounds_toArray, List.set_cons_zero, List.set_cons_succ]
  refine invl_value (.agg mv0.toArray) rfl (fun d w' h => exec_build (vs := [(0, .int .u32 (k.ep : Int)), (1, .int .u32 (s : Int)), (2, .int .u32 (cm : Int)), (3, .slice none 0 0)]) rfl rfl BM.out) (fun d w' _ h => At.keep (by decide) id id h) ?_
  simp only [Act.put, List.setIfInBounds_toArray, List.set_cons_zero, List.set_cons_succ]
  refine invl_world (.pointer (some ⟨g8, 0, none⟩)) rfl (fun d w' hd h => ⟨w1, by
    have e := h.before hd
    subst e
    rw [HW1.out, HG8.out]
    go_simp
    all_goals rfl, At.now hd rfl⟩) ?_
  simp only [Act.put, List.setIfInBounds_toArray, List.set_cons_zero, List.set_cons_succ]
  refine invl_nil fun w2 hI => ?_
  have e2 := hI.done (by rfl)
  subst e2
  have hmc4 : mv0.length = 4 := by rw [HM.out]; rfl
  have hmc1 : ∀ u ∈ mv0, u.oneCell' = true := by rw [HM.out]; exact mc_one rfl
  refine wpList_store_blk rfl 71 _ _ rfl g8 0 4 rfl 71 zmk mv0 rfl Z1.out (by kernel_rfl) hmc4 (by decide) hmc1 ?_
  intro w3 n3 g3
  rw [put_all _ _ (by rw [hmc4]; rfl)] at n3
  have hg8 : w.heap.size ≤ g8 := by have := HG8.out; omega
  have B3 := Lib.hid (below_grown B1.out g3 B1.out.size hg8)
  have K3 := Lib.hid (H0.out.below B3.out)
  have Y3 := Lib.hid (show Body w3 (reach bl V ++ A) (.slice none 0 0) B from .inl ⟨HBN.out, rfl⟩)
  have M3 := Lib.hid (show Blk w3 g8 (mc (⟨k.ep, s, (k.en 1).come, B⟩, .slice none 0 0)) 71 from by rw [← HCM.out, ← HM.out]; exact n3)
  have G8 := Lib.hid (show ∀ x, (V 4).ownBlock = some x → g8 ≠ x from fun x hx => by have := H0.out.row 4 (by decide) hx; omega)
  clear n3 g3 BM HM C0 C1 hmc4 hmc1 B0 B1 Z1 HW1 HG8 hg8
  go_upto_region 1 with (fail)
  -- the packet goes behind the others
  obtain ⟨mv, hmv⟩ : ∃ mv, mv = mc (⟨k.ep, s, (k.en 1).come, B⟩, .slice none 0 0) := ⟨_, rfl⟩
  obtain ⟨pv, hpv⟩ : ∃ pv, pv = pc (⟨1, ⟨k.ep, s, (k.en 1).come, B⟩⟩, .slice none 0 0) := ⟨_, rfl⟩
  obtain ⟨w4, hw4⟩ : ∃ w4, w4 = w3.drew.alloc (.cells pv.toArray 74) := ⟨_, rfl⟩
  have b4 : Below w3.heap.size w3 w4 := hw4 ▸ ((Below.refl _ _).drew.alloc (Nat.le_refl _) _)
  have K4 := Lib.hid (K3.out.below b4)
  have Y4 := Lib.hid (Y3.out.move (Only.of_below (S := []) b4) (by simp) (fun x hx => .inl hx))
  have Z4 := Lib.hid (show Blk w4 w3.heap.size (pc (⟨1, ⟨k.ep, s, (k.en 1).come, B⟩⟩, .slice none 0 0)) 74 from by rw [hw4, hpv]; exact blk_at (w := w3.drew) rfl rfl)
  obtain ⟨v', w5, hr5, hg5, hc5, hf5, gr5, va, vc, rfl⟩ := K4.out.more ⟨1, ⟨k.ep, s, (k.en 1).come, B⟩⟩ (.slice none 0 0) Y4.out Z4.out hfl
  have HR5 := Lib.hid hr5
  have HG5 := Lib.hid hg5
  have M3' := Lib.hid (show Blk w3 g8 mv 71 from hmv ▸ M3.out)
  have M4' := Lib.hid (M3'.out.below b4 M3'.out.lt)
  have M5' := Lib.hid (M4'.out.grownO gr5 G8.out)
  have BP := Lib.hid (show Try.prog.built 74 [(0, .int .i64 1), (1, .agg mv.toArray)] = some pv.toArray from by rw [hmv, hpv]; exact built_pk 1 ⟨k.ep, s, (k.en 1).come, B⟩ (.slice none 0 0))
  have HP := Lib.hid (show pv.length = 5 from by rw [hpv]; rfl)
  have HW4 := Lib.hid hw4
  have hmv4 : mv.length = 4 := by rw [hmv]; rfl
  have L3C := Lib.hid (show w3.cell? ⟨bl, 9, none⟩ = some (V 4) from K3.out.cell 9)
  have L4C := Lib.hid (show w4.cell? ⟨bl, 9, none⟩ = some (V 4) from K4.out.cell 9)
  have B4 := Lib.hid (B3.out.trans (b4.mono B3.out.size))
  have hc5' : w5.cell? ⟨bl, 9, none⟩ = some (V 4) := hc5
  obtain ⟨v4, hv4⟩ : ∃ v4, v4 = V 4 := ⟨_, rfl⟩
  rw [← hv4] at L3C L4C hc5' HR5
  obtain ⟨hcl, hcl'⟩ : ∃ hcl : Nat, hcl = w3.heap.size := ⟨_, rfl⟩
  have HH := Lib.hid hcl'
  rw [← hcl'] at HR5
  obtain ⟨fn, hfn⟩ : ∃ fn, fn = k.fl.length + 1 := ⟨_, rfl⟩
  rw [← hfn] at HR5 HG5
  clear hr5 hg5 hc5 hmv hw4 hcl' hv4 hpv Z4 K4 Y4 K3 Y3 b4 M3 G8 gr5 hfl hfn
  refine wp_region_gate_tail (fun d w' => At2 8 9 (fun w' => w' = w3.drew) (fun w' => w' = w4) (fun w' => w' = w5) d w') 12 (by kernel_rfl) (by kernel_rfl) ?hI ?_
  case hI => exact At2.start (by rfl) (by rfl) rfl
  simp only [List.take_succ_cons, List.take_zero, List.drop_succ_cons, List.drop_zero]
  refine InvC.invc_value (.pointer (some ⟨bl, 0, none⟩)) (fun u hu => by cases hu) rfl (fun d w' _ _ h => by go_simp; all_goals rfl) (fun d w' _ _ h => At2.keep (by decide) (by decide) h) ?_
  simp only [Act.put, List.setIfInBounds_toArray, List.set_cons_zero, List.set_cons_succ]
  refine InvC.invc_value (.pointer (some ⟨bl, 0, none⟩)) (fun u hu => by cases hu) rfl (fun d w' _ _ h => by go_simp; all_goals rfl) (fun d w' _ _ h => At2.keep (by decide) (by decide) h) ?_
  simp only [Act.put, List.setIfInBounds_toArray, List.set_cons_zero, List.set_cons_succ]
  refine InvC.invc_value (.pointer (some ⟨bl, 0, none⟩)) (fun u hu => by cases hu) rfl (fun d w' _ _ h => by go_simp; all_goals rfl) (fun d w' _ _ h => At2.keep (by decide) (by decide) h) ?_
  simp only [Act.put, List.setIfInBounds_toArray, List.set_cons_zero, List.set_cons_succ]
  refine InvC.invc_value (.pointer (some ⟨bl, 9, none⟩)) (fun u hu => by cases hu) rfl (fun d w' _ _ h => by go_simp; all_goals rfl) (fun d w' _ _ h => At2.keep (by decide) (by decide) h) ?_
  simp only [Act.put, List.setIfInBounds_toArray, List.set_cons_zero, List.set_cons_succ]
  refine InvC.invc_value v4 (fun u hu => by cases hu) rfl (fun d w' _ _ h => by
    have c9 : w'.cell? ⟨bl, 9, none⟩ = some v4 := by
      rcases h.any with rfl | rfl | rfl
      · exact L3C.out
      · exact L4C.out
      · exact hc5'
    go_simp) (fun d w' _ _ h => At2.keep (by decide) (by decide) h) ?_
  simp only [Act.put, List.setIfInBounds_toArray, List.set_cons_zero, List.set_cons_succ]
  refine InvC.invc_value (.int .i64 1) (fun u hu => by cases hu) rfl (fun d w' _ _ h => by go_simp; all_goals rfl) (fun d w' _ _ h => At2.keep (by decide) (by decide) h) ?_
  simp only [Act.put, List.setIfInBounds_toArray, List.set_cons_zero, List.set_cons_succ]
  refine InvC.invc_value (.agg mv.toArray) (fun u hu => by cases hu) rfl (fun d w' _ _ h => by
    have c8 : Blk w' g8 mv 71 := by
      rcases h.any with rfl | rfl | rfl
      · exact M3'.out.drew
      · exact M4'.out
      · exact M5'.out
    exact exec_load rfl rfl c8 Try.underlying71 rfl (by kernel_rfl) hmv4) (fun d w' _ _ h => At2.keep (by decide) (by decide) h) ?_
  simp only [Act.put, List.setIfInBounds_toArray, List.set_cons_zero, List.set_cons_succ]
  refine InvC.invc_value (.agg pv.toArray) (fun u hu => by cases hu) rfl (fun d w' _ _ h => exec_build (vs := [(0, .int .i64 1), (1, .agg mv.toArray)]) rfl rfl BP.out) (fun d w' _ _ h => At2.keep (by decide) (by decide) h) ?_
  simp only [Act.put, List.setIfInBounds_toArray, List.set_cons_zero, List.set_cons_succ]
  refine InvC.invc_world (.slice (some ⟨hcl, 0, none⟩) 1 1) (fun u hu => by cases hu) rfl (fun d w' hd hG h => ⟨w4, by
    obtain ⟨e, _⟩ := h.at_p hd
    subst e
    rw [HH.out, HW4.out]
    exact exec_build_one rfl rfl Try.underlying29 info_pk HP.out (by decide) (by decide), At2.did_p (by decide) hd h rfl⟩) ?_
  simp only [Act.put, List.setIfInBounds_toArray, List.set_cons_zero, List.set_cons_succ]
  refine InvC.invc_world (.slice va fn vc) (fun u hu => by cases hu) rfl (fun d w' hd hG h => ⟨w5, by
    have e := h.at_q hd (hG.of (by kernel_rfl))
    subst e
    exact exec_append _ _ rfl rfl rfl HR5.out, At2.did_q (by decide) hd (hG.of (by kernel_rfl)) rfl⟩) ?_
  simp only [Act.put, List.setIfInBounds_toArray, List.set_cons_zero, List.set_cons_succ]
  refine InvC.invc_value (.pointer (some ⟨bl, 0, none⟩)) (fun u hu => by cases hu) rfl (fun d w' _ _ h => by go_simp; all_goals rfl) (fun d w' _ _ h => At2.keep (by decide) (by decide) h) ?_
  simp only [Act.put, List.setIfInBounds_toArray, List.set_cons_zero, List.set_cons_succ]
  refine InvC.invc_value (.pointer (some ⟨bl, 9, none⟩)) (fun u hu => by cases hu) rfl (fun d w' _ _ h => by go_simp; all_goals rfl) (fun d w' _ _ h => At2.keep (by decide) (by decide) h) ?_
  simp only [Act.put, List.setIfInBounds_toArray, List.set_cons_zero, List.set_cons_succ]
  refine InvC.invc_nil fun w6 hI => ?_
  have e6 := hI.done (by rfl)
  subst e6
  clear L3C L4C M3' M4' M5' BP HP HW4 HH HR5 hmv4
  go_wp2
  go_end0
  exact ⟨rfl, _, (Goes.of_below H0.out B4.out).trans HG5.out⟩
theorem put_any4 (h : LinkAt w bl V A k) (n : Nat) (hn : n < 2) (s : Nat) {S : List Nat} {v : Value} {B : List UInt8} (hb : Body w S v B) (hfl : k.fl.length < 1024) : Calls Try.prog 34 #[.pointer (some ⟨bl, 0, none⟩), .int .i64 (n : Int), .int .u32 (s : Int), v] w fun e w' => e = .returned (.tuple #[]) ∧ ∃ v', Goes w bl V A w' (upd V 4 v') (k.put n s B) := by
  rcases hb with ⟨rfl, rfl⟩ | ⟨g, o, c, rfl, h1, h2, h3, _⟩
  · obtain rfl | rfl : n = 0 ∨ n = 1 := by omega
    · exact put_none0 h s hfl
    · exact put_none1 h s hfl
  · obtain rfl | rfl : n = 0 ∨ n = 1 := by omega
    · exact put_full0 h s _ c _ B rfl h1 h2 h3 hfl
    · exact put_full1 h s _ c _ B rfl h1 h2 h3 hfl
theorem put_any (h : LinkAt w bl V A k) (n : Nat) (hn : n < 2) (s : Nat) {S : List Nat} {v : Value} {B : List UInt8} (hb : Body w S v B) (hfl : k.fl.length < 1024) : Calls Try.prog 34 #[.pointer (some ⟨bl, 0, none⟩), .int .i64 (n : Int), .int .u32 (s : Int), v] w fun e w' => e = .returned (.tuple #[]) ∧ ∃ V', Goes w bl V A w' V' (k.put n s B) := by
  refine (put_any4 h n hn s hb hfl).mono ?_
  rintro e w' ⟨rfl, v', g⟩
  exact ⟨rfl, _, g⟩
end
end Go.Proofs.Ytfjaoompdleljaa.Link
/-
  A clone told exactly; three makings one behind the other; appends to a link's rows. Helper text; no statement is proved here.
-/
set_option linter.unusedVariables false
set_option maxRecDepth 20000
set_option linter.unusedSimpArgs false
namespace Go.Proofs.Ytfjaoompdleljaa.Link
open Go.RowKit Go.Proofs.Ytfjaoompdleljaa.Base Go.Proofs.Ytfjaoompdleljaa.Laws Go.Proofs.Ytfjaoompdleljaa.Disk Go.Proofs.Ytfjaoompdleljaa.Row Go.Proofs.Ytfjaoompdleljaa.Flat Go.Proofs.Ytfjaoompdleljaa.InvM Go.Proofs.Ytfjaoompdleljaa.Inv Go.Proofs.Ytfjaoompdleljaa.InvL Go.Proofs.Ytfjaoompdleljaa.InvC Go.Proofs.Ytfjaoompdleljaa.InvG Go.Proofs.Ytfjaoompdleljaa.Codec
def cloneC (w : World) (n : Nat) : Nat := grownCap (w.alloc (.cells #[] 5)) n 0 5
def cloneW (w : World) (n : Nat) (l : List UInt8) : World := ((w.alloc (.cells #[] 5)).alloc (.cells ((bv l).toArray ++ Builtin.zeroCells #[.int .u8 0] (grownCap (w.alloc (.cells #[] 5)) n 0 5 - n)) 5)).drew
theorem clone_exact (ad : Addr) (n c : Nat) (l : List UInt8) (hn0 : 0 < n) (hn : n ≤ 140737488355328) (w : World) (h : Bts w (some ad) n c l) :
    Calls Try.prog 33 #[.slice (some ad) n c] w fun x w' => x = .returned (.slice (some ⟨w.heap.size + 1, 0, none⟩) n (cloneC w n)) ∧ w' = cloneW w n l := by
  have hl := h.1
  have HT := Lib.hid (OwnB.src_bts (bts_alloc h (.cells #[] 5)))
  have hq := fun w' => run_eql_slice_nil' w' ad n c
  clear h
  go_enter Try.func33, Try.ntmps33
  go_wp2_with (first | (at_builtin; refine wpList_append_grow rfl _ _ rfl w.heap.size rfl ad n c (bv l) rfl HT.out hn0 hn ?_))
  have e1 : cloneC w n = grownCap (w.alloc (.cells #[] 5)) n 0 5 := rfl
  have e2 : cloneW w n l = ((w.alloc (.cells #[] 5)).alloc (.cells ((bv l).toArray ++ Builtin.zeroCells #[.int .u8 0] (grownCap (w.alloc (.cells #[] 5)) n 0 5 - n)) 5)).drew := rfl
  rw [← e2, ← e1]
  clear e1 e2
  go_ret
  exact ⟨rfl, rfl⟩
theorem cloneW_is (w : World) (n : Nat) (l : List UInt8) (hl : l.length = n) (hn : n ≤ 140737488355328) : Bts (cloneW w n l) (some ⟨w.heap.size + 1, 0, none⟩) n (cloneC w n) l ∧ Below w.heap.size w (cloneW w n l) ∧ (cloneW w n l).heap.size = w.heap.size + 2 := by
  have h2 := grownCap_ge (w.alloc (.cells #[] 5)) n 0 5
  have h3 := grownCap_le_maxLen (w.alloc (.cells #[] 5)) n 0 5 (by unfold maxLen; omega)
  refine ⟨?_, ?_, ?_⟩
  · exact (show Bts ((w.alloc (.cells #[] 5)).alloc (.cells ((bv l).toArray ++ Builtin.zeroCells #[.int .u8 0] (grownCap (w.alloc (.cells #[] 5)) n 0 5 - n)) 5)).drew _ _ _ _ from bts_grown (w := w.alloc (.cells #[] 5)) (g := w.heap.size + 1) (z := Builtin.zeroCells #[.int .u8 0] (grownCap (w.alloc (.cells #[] 5)) n 0 5 - n)) (by simp) hl h2 h3)
  · exact (((Below.refl w.heap.size w).alloc (Nat.le_refl _) (.cells #[] 5)).alloc (by simp) _).drew
  · show ((w.alloc (.cells #[] 5)).alloc _).heap.size = _
    simp
/-- A, then B behind p, then C behind q, then D behind r -/
def At3 (p q r : Nat) (A B C D : World → Prop) (d : Array Bool) (w : World) : Prop := if d.getD r false = true then d.getD q false = true ∧ d.getD p false = true ∧ D w else At2 p q A B C d w
section
variable {p q r i : Nat} {A B C D : World → Prop} {d : Array Bool} {w w' : World}
theorem At3.keep (h1 : i ≠ p) (h2 : i ≠ q) (h3 : i ≠ r) (h : At3 p q r A B C D d w) : At3 p q r A B C D (d.setIfInBounds i true) w := by
  unfold At3 at *
  rw [getD_set_ne false h3]
  split at h
  · rename_i e
    rw [if_pos e, getD_set_ne false h1, getD_set_ne false h2]
    exact h
  · rename_i e
    rw [if_neg e]
    exact At2.keep h1 h2 h
theorem At3.start (h1 : d.getD p false = false) (h2 : d.getD q false = false) (h3 : d.getD r false = false) (h : A w) : At3 p q r A B C D d w := by
  unfold At3
  rw [if_neg (by rw [h3]; simp)]
  exact At2.start h1 h2 h
theorem At3.two (hd : d.getD p true = false ∨ d.getD q true = false ∨ d.getD r true = false) (h : At3 p q r A B C D d w) : At2 p q A B C d w ∧ d.getD r false = false := by
  unfold At3 at h
  split at h
  · rcases hd with hd | hd | hd <;> have := getD_true_of hd
    · rw [this] at h; simp at h
    · rw [this] at h; simp at h
    · rename_i e; rw [this] at e; cases e
  · rename_i e
    exact ⟨h, by simpa using e⟩
theorem At3.at_p (hd : d.getD p true = false) (h : At3 p q r A B C D d w) : A w := ((h.two (.inl hd)).1.at_p hd).1
theorem At3.did_p (hpq : p ≠ q) (hpr : p ≠ r) (hd : d.getD p true = false) (h : At3 p q r A B C D d w) (h' : B w') : At3 p q r A B C D (d.setIfInBounds p true) w' := by
  obtain ⟨h2, h3⟩ := h.two (.inl hd)
  unfold At3
  rw [getD_set_ne false hpr, if_neg (by rw [h3]; simp)]
  exact h2.did_p hpq hd h'
theorem At3.at_q (hd : d.getD q true = false) (hp : d.getD p false = true) (h : At3 p q r A B C D d w) : B w := (h.two (.inr (.inl hd))).1.at_q hd hp
theorem At3.did_q (hpq : p ≠ q) (hqr : q ≠ r) (hd : d.getD q true = false) (hp : d.getD p false = true) (h : At3 p q r A B C D d w) (h' : C w') : At3 p q r A B C D (d.setIfInBounds q true) w' := by
  obtain ⟨h2, h3⟩ := h.two (.inr (.inl hd))
  unfold At3
  rw [getD_set_ne false hqr, if_neg (by rw [h3]; simp)]
  exact At2.did_q hpq hd hp h'
theorem At3.at_r (hd : d.getD r true = false) (hq : d.getD q false = true) (h : At3 p q r A B C D d w) : C w := (h.two (.inr (.inr hd))).1.done hq
theorem At3.did_r (hpr : p ≠ r) (hqr : q ≠ r) (hd : d.getD r true = false) (hq : d.getD q false = true) (h : At3 p q r A B C D d w) (h' : D w') : At3 p q r A B C D (d.setIfInBounds r true) w' := by
  have h2 := (h.two (.inr (.inr hd))).1
  unfold At2 at h2
  rw [if_pos hq] at h2
  unfold At3
  rw [now hd, if_pos rfl, getD_set_ne false (Ne.symm hpr), getD_set_ne false (Ne.symm hqr)]
  exact ⟨hq, h2.1, h'⟩
theorem At3.done (hd : d.getD r false = true) (h : At3 p q r A B C D d w) : D w := by
  unfold At3 at h
  rw [if_pos hd] at h
  exact h.2.2
theorem At3.any (h : At3 p q r A B C D d w) : A w ∨ B w ∨ C w ∨ D w := by
  unfold At3 at h
  split at h
  · exact .inr (.inr (.inr h.2.2))
  · rcases h.any with h | h | h
    · exact .inl h
    · exact .inr (.inl h)
    · exact .inr (.inr (.inl h))
end
theorem gc_one {p : List UInt8 × Value} (h : p.2.oneCell' = true) : ∀ u ∈ gc p, u.oneCell' = true := by
  intro u hu
  simp only [gc, List.mem_cons, List.not_mem_nil, or_false] at hu
  rw [hu]; exact h
def Lk.bump (k : Lk) (n : Nat) : Lk := k.with n { k.en n with sent := ((k.en n).sent + 1) % 4294967296 }
def Lk.addOpen (k : Lk) (n : Nat) (x : Mk) : Lk := k.with n { k.en n with op := (k.en n).op ++ [x] }
def Lk.addGot (k : Lk) (n : Nat) (B : List UInt8) : Lk := k.with n { k.en n with got := (k.en n).got ++ [B] }
def Lk.send (k : Lk) (n : Nat) (B : List UInt8) : Lk := ((k.bump n).addOpen n ⟨0, ((k.en n).sent + 1) % 4294967296, 0, B⟩).put n (((k.en n).sent + 1) % 4294967296) B
section
variable {w : World} {bl : Nat} {V : Nat → Value} {A : List Nat} {k : Lk}
theorem reach_upd {i : Nat} (hi : i < 5) {v' : Value} (hv : v'.ownBlock = (V i).ownBlock ∨ v'.ownBlock = some w.heap.size ∨ v'.ownBlock = none) : ∀ x ∈ reach bl (upd V i v') ++ A, x ∈ reach bl V ++ A ∨ w.heap.size ≤ x := by
  intro x hx
  rcases List.mem_append.1 hx with hx | hx
  · rcases mem_reach.1 hx with rfl | ⟨j, hj, e⟩
    · exact .inl (List.mem_append_left _ (mem_reach.2 (.inl rfl)))
    · by_cases e4 : j = i
      · subst e4
        rw [upd_self] at e
        rcases hv with e' | e' | e' <;> rw [e'] at e
        · exact .inl (List.mem_append_left _ (mem_reach.2 (.inr ⟨j, hj, e⟩)))
        · cases e; exact .inr (Nat.le_refl _)
        · cases e
      · rw [upd_ne e4] at e
        exact .inl (List.mem_append_left _ (mem_reach.2 (.inr ⟨j, hj, e⟩)))
  · exact .inl (List.mem_append_right _ hx)
/-- a message is open -/
theorem LinkAt.moreOpen (h : LinkAt w bl V A k) (n : Nat) (hn : n < 2) (x : Mk) (y : Value) (hy : Body w (reach bl V ++ A) y x.B) {g : Nat} (hz : Blk w g (mc (x, y)) 71) (hl : (k.en n).op.length < 1024) :
    ∃ v' w', (Builtin.append_ #[48, 48] 48 #[V (2 * n), .slice (some ⟨g, 0, none⟩) 1 1]).run Try.prog w = .ok v' w' ∧ Goes w bl V A (w'.setCell ⟨bl, 1 + 4 * n, none⟩ v') (upd V (2 * n) v') (k.addOpen n x) ∧ w'.cell? ⟨bl, 1 + 4 * n, none⟩ = some (V (2 * n)) ∧ w'.frozen? ⟨bl, 1 + 4 * n, none⟩ = false ∧ w.grownBy w' (V (2 * n)).ownBlock ∧ (∃ a' c', v' = .slice a' ((k.en n).op.length + 1) c') := by
  have hlt := h.head.lt
  obtain ⟨v', w', hr, hrow, hg, hv, hs⟩ := (h.o n hn).append 48 48 (.agg #[.int .u32 0, .int .u32 0, .int .u32 0, .slice none 0 0]) 40 Try.underlying48 info_mk rfl (by decide) x y hy (src_blk hz rfl (mc_one hy.one)) (by omega) (by unfold maxLen; omega) (by omega) (fun g hg => List.mem_append_left _ (mem_reach.2 (.inr ⟨2 * n, by omega, hg⟩)))
  have hhead := h.head.grownO hg (fun x hx => by have := h.row (2 * n) (by omega) hx; omega)
  have hv' : v'.ownBlock = (V (2 * n)).ownBlock ∨ v'.ownBlock = some w.heap.size ∨ v'.ownBlock = none := by rcases hv with e | e; exact .inl e; exact .inr (.inl e)
  refine ⟨v', w', hr, h.turned (2 * n) (by omega) v' (1 + 4 * n) (k.addOpen n x) hg hv' ?_ (fun m hm hne => ?_) (fun m hm _ => ?_) (fun _ => ?_) (fun m hm e => ?_) (fun m hm e => by omega) (fun e => by omega), ?_, hhead.frozen _, hg, hs⟩
  · obtain rfl | rfl : n = 0 ∨ n = 1 := by omega
    · rfl
    · rfl
  · obtain ⟨rfl, rfl⟩ | ⟨rfl, rfl⟩ : (n = 0 ∧ m = 1) ∨ (n = 1 ∧ m = 0) := by omega
    · rfl
    · rfl
  · obtain rfl | rfl : n = 0 ∨ n = 1 := by omega
    · obtain rfl | rfl : m = 0 ∨ m = 1 := by omega
      · rfl
      · rfl
    · obtain rfl | rfl : m = 0 ∨ m = 1 := by omega
      · rfl
      · rfl
  · obtain rfl | rfl : n = 0 ∨ n = 1 := by omega
    · rfl
    · rfl
  · obtain rfl : m = n := by omega
    have e : ((k.addOpen m x).en m).op = (k.en m).op ++ [x] := by
      obtain rfl | rfl : m = 0 ∨ m = 1 := by omega
      · rfl
      · rfl
    rw [e]
    exact hrow _ (reach_upd (by omega) hv')
  · rw [hhead.cell]
    obtain rfl | rfl : n = 0 ∨ n = 1 := by omega
    · rfl
    · rfl
/-- a body has come -/
theorem LinkAt.moreGot (h : LinkAt w bl V A k) (n : Nat) (hn : n < 2) (B : List UInt8) (y : Value) (hy : Body w (reach bl V ++ A) y B) {g : Nat} (hz : Blk w g [y] 23) (hl : ((k.en n).got.length + 1) * 24 ≤ 140737488355328) :
    ∃ v' w', (Builtin.append_ #[22, 22] 22 #[V (2 * n + 1), .slice (some ⟨g, 0, none⟩) 1 1]).run Try.prog w = .ok v' w' ∧ Goes w bl V A (w'.setCell ⟨bl, 4 + 4 * n, none⟩ v') (upd V (2 * n + 1) v') (k.addGot n B) ∧ w'.cell? ⟨bl, 4 + 4 * n, none⟩ = some (V (2 * n + 1)) ∧ w'.frozen? ⟨bl, 4 + 4 * n, none⟩ = false ∧ w.grownBy w' (V (2 * n + 1)).ownBlock ∧ (∃ a' c', v' = .slice a' ((k.en n).got.length + 1) c') := by
  have hlt := h.head.lt
  obtain ⟨v', w', hr, hrow, hg, hv, hs⟩ := (h.g n hn).append 22 22 (.slice none 0 0) 24 Try.underlying22 info_bs rfl (by decide) B y hy (src_blk hz rfl (gc_one hy.one)) hl (by unfold maxLen; omega) (by omega) (fun g hg => List.mem_append_left _ (mem_reach.2 (.inr ⟨2 * n + 1, by omega, hg⟩)))
  have hhead := h.head.grownO hg (fun x hx => by have := h.row (2 * n + 1) (by omega) hx; omega)
  have hv' : v'.ownBlock = (V (2 * n + 1)).ownBlock ∨ v'.ownBlock = some w.heap.size ∨ v'.ownBlock = none := by rcases hv with e | e; exact .inl e; exact .inr (.inl e)
  refine ⟨v', w', hr, h.turned (2 * n + 1) (by omega) v' (4 + 4 * n) (k.addGot n B) hg hv' ?_ (fun m hm _ => ?_) (fun m hm hne => ?_) (fun _ => ?_) (fun m hm e => by omega) (fun m hm e => ?_) (fun e => by omega), ?_, hhead.frozen _, hg, hs⟩
  · obtain rfl | rfl : n = 0 ∨ n = 1 := by omega
    · rfl
    · rfl
  · obtain rfl | rfl : n = 0 ∨ n = 1 := by omega
    · obtain rfl | rfl : m = 0 ∨ m = 1 := by omega
      · rfl
      · rfl
    · obtain rfl | rfl : m = 0 ∨ m = 1 := by omega
      · rfl
      · rfl
  · obtain ⟨rfl, rfl⟩ | ⟨rfl, rfl⟩ : (n = 0 ∧ m = 1) ∨ (n = 1 ∧ m = 0) := by omega
    · rfl
    · rfl
  · obtain rfl | rfl : n = 0 ∨ n = 1 := by omega
    · rfl
    · rfl
  · obtain rfl : m = n := by omega
    have e : ((k.addGot m B).en m).got = (k.en m).got ++ [B] := by
      obtain rfl | rfl : m = 0 ∨ m = 1 := by omega
      · rfl
      · rfl
    rw [e]
    exact hrow _ (reach_upd (by omega) hv')
  · rw [hhead.cell]
    obtain rfl | rfl : n = 0 ∨ n = 1 := by omega
    · rfl
    · rfl
end
end Go.Proofs.Ytfjaoompdleljaa.Link
/-
  Calls of a nil link by contract; New. Helper text; no statement is proved here.
-/
set_option linter.unusedVariables false
set_option maxRecDepth 20000
set_option linter.unusedSimpArgs false
namespace Go.Proofs.Ytfjaoompdleljaa.Link
open Go.RowKit Go.Proofs.Ytfjaoompdleljaa.Base Go.Proofs.Ytfjaoompdleljaa.Laws Go.Proofs.Ytfjaoompdleljaa.Disk Go.Proofs.Ytfjaoompdleljaa.Row Go.Proofs.Ytfjaoompdleljaa.Flat Go.Proofs.Ytfjaoompdleljaa.InvM
def zpk : List Value := [.int .i64 0, .int .u32 0, .int .u32 0, .int .u32 0, .slice none 0 0]
theorem new_any (w : World) : Calls Try.prog 10 #[] w fun e w' => e = .returned (.pointer (some ⟨w.heap.size, 0, none⟩)) ∧ LinkAt w' w.heap.size (fun _ => .slice none 0 0) [] ⟨0, ⟨[], 0, 0, []⟩, ⟨[], 0, 0, []⟩, []⟩ ∧ Below w.heap.size w w' := by
  have Z := Lib.hid (blk_at (w := w) (g := w.heap.size) (cs := lcells ⟨0, ⟨[], 0, 0, []⟩, ⟨[], 0, 0, []⟩, []⟩ (fun _ => .slice none 0 0)) (t := 67) (arr := #[.int .u32 0, .slice none 0 0, .int .u32 0, .int .u32 0, .slice none 0 0, .slice none 0 0, .int .u32 0, .int .u32 0, .slice none 0 0, .slice none 0 0]) rfl rfl)
  go_enter Try.func10, Try.ntmps10
  go_wp2_with fail
  go_ret
  refine ⟨rfl, ⟨Z.out, fun n hn => ?_, fun n hn => ?_, RowOf.nil, (fun i j _ _ _ g hg => by cases hg), (fun x hx => by cases hx)⟩, (Below.refl _ _).alloc (Nat.le_refl _) _⟩
  · obtain rfl | rfl : n = 0 ∨ n = 1 := by omega
    · exact RowOf.nil
    · exact RowOf.nil
  · obtain rfl | rfl : n = 0 ∨ n = 1 := by omega
    · exact RowOf.nil
    · exact RowOf.nil
theorem send_nil (n : Int) (a : Option Addr) (l c : Nat) (w : World) : Calls Try.prog 11 #[.pointer none, .int .i64 n, .slice a l c] w fun e w' => e = .returned (.int .i64 2) ∧ w = w' := by
  go_enter Try.func11, Try.ntmps11
  go_wp2_with fail
  go_ret
  exact ⟨rfl, rfl⟩
theorem flight_nil (w : World) : Calls Try.prog 12 #[.pointer none] w fun e w' => e = .returned (.slice none 0 0) ∧ w = w' := by
  go_enter Try.func12, Try.ntmps12
  go_wp2_with fail
  go_ret
  exact ⟨rfl, rfl⟩
theorem tick_nil (w : World) : Calls Try.prog 18 #[.pointer none] w fun e w' => e = .returned (.int .i64 0) ∧ w = w' := by
  go_enter Try.func18, Try.ntmps18
  go_wp2_with fail
  go_ret
  exact ⟨rfl, rfl⟩
theorem got_nil (n : Int) (w : World) : Calls Try.prog 16 #[.pointer none, .int .i64 n] w fun e w' => e = .returned (.slice none 0 0) ∧ w = w' := by
  go_enter Try.func16, Try.ntmps16
  go_wp2_with fail
  go_ret
  exact ⟨rfl, rfl⟩
theorem open_nil (n : Int) (w : World) : Calls Try.prog 14 #[.pointer none, .int .i64 n] w fun e w' => e = .returned (.int .i64 0) ∧ w = w' := by
  go_enter Try.func14, Try.ntmps14
  go_wp2_with fail
  go_ret
  exact ⟨rfl, rfl⟩
theorem renew_nil (n : Int) (w : World) : Calls Try.prog 13 #[.pointer none, .int .u32 n] w fun e w' => e = .returned (.int .i64 2) ∧ w = w' := by
  go_enter Try.func13, Try.ntmps13
  go_wp2_with fail
  go_ret
  exact ⟨rfl, rfl⟩
theorem twin_nil (n : Int) (w : World) : Calls Try.prog 22 #[.pointer none, .int .i64 n] w fun e w' => e = .returned (.int .i64 2) ∧ w = w' := by
  go_enter Try.func22, Try.ntmps22
  go_wp2_with fail
  go_ret
  exact ⟨rfl, rfl⟩
theorem take_nil (n : Int) (w : World) : Calls Try.prog 35 #[.pointer none, .int .i64 n] w fun e w' => e = .returned (.tuple #[.agg zpk.toArray, .bool false]) ∧ Below w.heap.size w w' := by
  have Z := Lib.hid (blk_at (w := w) (g := w.heap.size) (cs := zpk) (t := 74) (arr := #[.int .i64 0, .int .u32 0, .int .u32 0, .int .u32 0, .slice none 0 0]) rfl rfl)
  go_enter Try.func35, Try.ntmps35
  go_upto_region 1 with (fail)
  obtain ⟨w1, hw1⟩ : ∃ w1, w1 = w.alloc (.cells #[.int .i64 0, .int .u32 0, .int .u32 0, .int .u32 0, .slice none 0 0] 74) := ⟨_, rfl⟩
  have L1 := Lib.hid (show Below w.heap.size w w1 from hw1 ▸ ((Below.refl w.heap.size w).alloc (Nat.le_refl _) _))
  rw [← hw1] at Z ⊢
  clear hw1
  go_wp2_with (first | (refine wpList_store_blk rfl 74 _ _ rfl w.heap.size 0 5 rfl 74 zpk zpk rfl Z.out (by kernel_rfl) rfl (by decide) (by decide) ?_; intro w2 z2 g2; have Z2 := Lib.hid (show Blk w2 w.heap.size zpk 74 from z2); have L2 := Lib.hid (below_grown L1.out g2 L1.out.size (Nat.le_refl _)); clear z2 g2))
  exact bodyPost_ret (v := .tuple #[.agg zpk.toArray, .bool false]) (results_cell_two rfl _ _ w.heap.size 74 _ (0, 0) _ _ rfl rfl Z2.out Try.underlying74 rfl (by kernel_rfl)) rfl ⟨rfl, L2.out⟩
theorem deliver_nil (n : Int) (w : World) : Calls Try.prog 15 #[.pointer none, .int .i64 n] w fun e w' => e = .returned (.int .i64 2) ∧ Below w.heap.size w w' := by
  have TN := Lib.hid (take_nil n w)
  go_enter Try.func15, Try.ntmps15
  go_wp2_with fail
  refine TN.out.mono ?_
  rintro e w1 ⟨rfl, hb⟩
  have HB := Lib.hid hb
  have hs := hb.size
  have Z := Lib.hid (blk_at (w := w1) (g := w1.heap.size) (cs := zpk) (t := 74) (arr := #[.int .i64 0, .int .u32 0, .int .u32 0, .int .u32 0, .slice none 0 0]) rfl rfl)
  clear hb TN
  go_wp2_with (first | (refine wpList_store_blk rfl 74 _ _ rfl w1.heap.size 0 5 rfl 74 zpk zpk rfl Z.out (by kernel_rfl) rfl (by decide) (by decide) ?_; intro w2 z2 g2; have L2 := Lib.hid (below_grown ((HB.out.alloc hs _)) g2 (by simp; omega) hs); clear z2 g2))
  go_ret
  exact ⟨rfl, L2.out⟩
theorem drop_nil (n : Int) (w : World) : Calls Try.prog 20 #[.pointer none, .int .i64 n] w fun e w' => e = .returned (.int .i64 2) ∧ Below w.heap.size w w' := by
  have TN := Lib.hid (take_nil n w)
  go_enter Try.func20, Try.ntmps20
  go_wp2_with fail
  refine TN.out.mono ?_
  rintro e w1 ⟨rfl, hb⟩
  have HB := Lib.hid hb
  have hs := hb.size
  have Z := Lib.hid (blk_at (w := w1) (g := w1.heap.size) (cs := zpk) (t := 74) (arr := #[.int .i64 0, .int .u32 0, .int .u32 0, .int .u32 0, .slice none 0 0]) rfl rfl)
  clear hb TN
  go_wp2_with (first | (refine wpList_store_blk rfl 74 _ _ rfl w1.heap.size 0 5 rfl 74 zpk zpk rfl Z.out (by kernel_rfl) rfl (by decide) (by decide) ?_; intro w2 z2 g2; have L2 := Lib.hid (below_grown ((HB.out.alloc hs _)) g2 (by simp; omega) hs); clear z2 g2))
  go_ret
  exact ⟨rfl, L2.out⟩
end Go.Proofs.Ytfjaoompdleljaa.Link
/-
  room and Send of a link by contract. Helper text; no statement is proved here.
-/
set_option linter.unusedVariables false
set_option maxRecDepth 20000
set_option linter.unusedSimpArgs false
namespace Go.Proofs.Ytfjaoompdleljaa.Link
open Go.RowKit Go.Proofs.Ytfjaoompdleljaa.Base Go.Proofs.Ytfjaoompdleljaa.Laws Go.Proofs.Ytfjaoompdleljaa.Disk Go.Proofs.Ytfjaoompdleljaa.Row Go.Proofs.Ytfjaoompdleljaa.Flat Go.Proofs.Ytfjaoompdleljaa.InvM Go.Proofs.Ytfjaoompdleljaa.Inv Go.Proofs.Ytfjaoompdleljaa.InvL Go.Proofs.Ytfjaoompdleljaa.InvC Go.Proofs.Ytfjaoompdleljaa.InvG Go.Proofs.Ytfjaoompdleljaa.Codec
section
variable {w : World} {bl : Nat} {V : Nat → Value} {A : List Nat} {k : Lk}
theorem LinkAt.slF (h : LinkAt w bl V A k) : ∃ a c, V 4 = .slice a k.fl.length c ∧ k.fl.length ≤ c := by
  obtain ⟨ps, e, h1, h2⟩ := h.fl
  obtain ⟨a, c, e1, e2, _⟩ := own_slice h1 (by decide)
  rw [← e]
  exact ⟨a, c, by simpa using e1, by simpa using e2⟩
theorem LinkAt.slO (h : LinkAt w bl V A k) (n : Nat) (hn : n < 2) : ∃ a c, V (2 * n) = .slice a (k.en n).op.length c ∧ (k.en n).op.length ≤ c := by
  obtain ⟨ps, e, h1, h2⟩ := h.o n hn
  obtain ⟨a, c, e1, e2, _⟩ := own_slice h1 (by decide)
  rw [← e]
  exact ⟨a, c, by simpa using e1, by simpa using e2⟩
theorem LinkAt.slG (h : LinkAt w bl V A k) (n : Nat) (hn : n < 2) : ∃ a c, V (2 * n + 1) = .slice a (k.en n).got.length c ∧ (k.en n).got.length ≤ c := by
  obtain ⟨ps, e, h1, h2⟩ := h.g n hn
  obtain ⟨a, c, e1, e2, _⟩ := own_slice h1 (by decide)
  rw [← e]
  exact ⟨a, c, by simpa using e1, by simpa using e2⟩
theorem room_any (h : LinkAt w bl V A k) : Calls Try.prog 32 #[.pointer (some ⟨bl, 0, none⟩)] w fun e w' => e = .returned (.bool (decide (k.fl.length < 1024))) ∧ w = w' := by
  obtain ⟨a, c, e, _⟩ := h.slF
  have c9 : w.cell? ⟨bl, 9, none⟩ = some (V 4) := h.cell 9
  rw [e] at c9
  obtain ⟨n, hn⟩ : ∃ n, n = k.fl.length := ⟨_, rfl⟩
  rw [← hn] at c9 ⊢
  clear h e hn
  by_cases hl : n < 1024
  · have hl' : (n : Int) < 1024 := by omega
    rw [decide_eq_true hl]
    go_enter Try.func32, Try.ntmps32
    go_wp2_with fail
    go_ret
    exact ⟨rfl, rfl⟩
  · have hl' : ¬ (n : Int) < 1024 := by omega
    rw [decide_eq_false hl]
    go_enter Try.func32, Try.ntmps32
    go_wp2_with fail
    go_ret
    exact ⟨rfl, rfl⟩
theorem send_arg (p : Option Addr) (n : Int) (a : Option Addr) (l c : Nat) (hb : n < 0 ∨ 1 < n ∨ l < 1 ∨ 64 < l) (w : World) : Calls Try.prog 11 #[.pointer p, .int .i64 n, .slice a l c] w fun e w' => e = .returned (.int .i64 2) ∧ w = w' := by
  cases p with
  | none => exact send_nil n a l c w
  | some p =>
    by_cases h1 : n < 0
    · go_enter Try.func11, Try.ntmps11
      go_wp2_with fail
      go_ret
      exact ⟨rfl, rfl⟩
    by_cases h2 : 1 < n
    · go_enter Try.func11, Try.ntmps11
      go_wp2_with fail
      go_ret
      exact ⟨rfl, rfl⟩
    by_cases h3 : (l : Int) < 1
    · go_enter Try.func11, Try.ntmps11
      go_wp2_with fail
      go_ret
      exact ⟨rfl, rfl⟩
    · have h4 : (64 : Int) < l := by omega
      clear hb
      go_enter Try.func11, Try.ntmps11
      go_wp2_with fail
      go_ret
      exact ⟨rfl, rfl⟩
theorem send_full0 (h : LinkAt w bl V A k) (a : Option Addr) (l c : Nat) (h1 : 1 ≤ l) (h2 : l ≤ 64) (hf : ¬ (k.fl.length < 1024 ∧ (k.en 0).op.length < 256)) : Calls Try.prog 11 #[.pointer (some ⟨bl, 0, none⟩), .int .i64 0, .slice a l c] w fun e w' => e = .returned (.int .i64 9) ∧ w = w' := by
  have RM := Lib.hid (room_any h)
  obtain ⟨oa, oc, eo, _⟩ := h.slO 0 (by decide)
  have co : w.cell? ⟨bl, 1, none⟩ = some (V 0) := h.cell 1
  have eo' : V 0 = .slice oa (k.en 0).op.length oc := eo
  rw [eo'] at co
  obtain ⟨on, hon⟩ : ∃ on, on = (k.en 0).op.length := ⟨_, rfl⟩
  rw [← hon] at co hf
  have i1 : ¬ ((l : Int) < 1) := by omega
  have i2 : ¬ ((64 : Int) < l) := by omega
  clear h eo eo' hon
  by_cases hr : k.fl.length < 1024
  · rw [decide_eq_true hr] at RM
    have ho : (256 : Int) ≤ on := by omega
    clear hf hr
    go_enter Try.func11, Try.ntmps11
    go_wp2_with (first | (go_at_call 32; refine RM.out.mono ?_; rintro e w' ⟨rfl, rfl⟩))
    go_ret
    exact ⟨rfl, rfl⟩
  · rw [decide_eq_false hr] at RM
    clear hf hr
    go_enter Try.func11, Try.ntmps11
    go_wp2_with (first | (go_at_call 32; refine RM.out.mono ?_; rintro e w' ⟨rfl, rfl⟩))
    go_ret
    exact ⟨rfl, rfl⟩
theorem send_full1 (h : LinkAt w bl V A k) (a : Option Addr) (l c : Nat) (h1 : 1 ≤ l) (h2 : l ≤ 64) (hf : ¬ (k.fl.length < 1024 ∧ (k.en 1).op.length < 256)) : Calls Try.prog 11 #[.pointer (some ⟨bl, 0, none⟩), .int .i64 1, .slice a l c] w fun e w' => e = .returned (.int .i64 9) ∧ w = w' := by
  have RM := Lib.hid (room_any h)
  obtain ⟨oa, oc, eo, _⟩ := h.slO 1 (by decide)
  have co : w.cell? ⟨bl, 5, none⟩ = some (V 2) := h.cell 5
  have eo' : V 2 = .slice oa (k.en 1).op.length oc := eo
  rw [eo'] at co
  obtain ⟨on, hon⟩ : ∃ on, on = (k.en 1).op.length := ⟨_, rfl⟩
  rw [← hon] at co hf
  have i1 : ¬ ((l : Int) < 1) := by omega
  have i2 : ¬ ((64 : Int) < l) := by omega
  clear h eo eo' hon
  by_cases hr : k.fl.length < 1024
  · rw [decide_eq_true hr] at RM
    have ho : (256 : Int) ≤ on := by omega
    clear hf hr
    go_enter Try.func11, Try.ntmps11
    go_wp2_with (first | (go_at_call 32; refine RM.out.mono ?_; rintro e w' ⟨rfl, rfl⟩))
    go_ret
    exact ⟨rfl, rfl⟩
  · rw [decide_eq_false hr] at RM
    clear hf hr
    go_enter Try.func11, Try.ntmps11
    go_wp2_with (first | (go_at_call 32; refine RM.out.mono ?_; rintro e w' ⟨rfl, rfl⟩))
    go_ret
    exact ⟨rfl, rfl⟩
set_option maxHeartbeats 2000000 in
theorem send_ok0 (h : LinkAt w bl V A k) (g o c bn : Nat) (B : List UInt8) (hbn : B.length = bn) (h0 : 1 ≤ bn) (h64 : bn ≤ 64) (hb : Bts w (some ⟨g, o, none⟩) bn c B) (hfl : k.fl.length < 1024) (hop : (k.en 0).op.length < 256) (hbb : g ∉ reach bl V) : Calls Try.prog 11 #[.pointer (some ⟨bl, 0, none⟩), .int .i64 0, .slice (some ⟨g, o, none⟩) bn c] w fun e w' => e = .returned (.int .i64 0) ∧ ∃ V', Goes w bl V A w' V' (k.send 0 B) := by
  have hlt := h.head.lt
  have RM := Lib.hid (room_any h)
  rw [decide_eq_true hfl] at RM
  obtain ⟨oa, oc, eo, _⟩ := h.slO 0 (by decide)
  have co : w.cell? ⟨bl, 1, none⟩ = some (V 0) := h.cell 1
  have eo' : V 0 = .slice oa (k.en 0).op.length oc := eo
  rw [eo'] at co
  obtain ⟨on, hon⟩ : ∃ on, on = (k.en 0).op.length := ⟨_, rfl⟩
  rw [← hon] at co
  have ho : (on : Int) < 256 := by omega
  have i1 : (1 : Int) ≤ bn := by omega
  have i2 : (bn : Int) ≤ 64 := by omega
  obtain ⟨sn, hsn⟩ : ∃ sn, sn = (k.en 0).sent := ⟨_, rfl⟩
  have cs : w.cell? ⟨bl, 2, none⟩ = some (.int .u32 (sn : Int)) := by rw [hsn]; exact h.cell 2
  have fs : w.frozen? ⟨bl, 2, none⟩ = false := h.head.frozen 2
  have H0 := Lib.hid h
  have HB := Lib.hid hb
  have HSN := Lib.hid hsn
  have HBN := Lib.hid hbn
  have HOP := Lib.hid hop
  clear h eo eo' hon hb hsn hbn hop
  go_enter Try.func11, Try.ntmps11
  go_upto_region 7 with (first | (go_at_call 32; refine RM.out.mono ?_; rintro e w' ⟨rfl, rfl⟩))
  have e1 : ((sn : Int) + 1) % 4294967296 = (((sn + 1) % 4294967296 : Nat) : Int) := by omega
  obtain ⟨s1, hs1⟩ : ∃ s1, s1 = (sn + 1) % 4294967296 := ⟨_, rfl⟩
  rw [e1, ← hs1]
  obtain ⟨w1, hw1⟩ : ∃ w1, w1 = w.setCell ⟨bl, 2, none⟩ (.int .u32 (s1 : Int)) := ⟨_, rfl⟩
  rw [← hw1]
  have GO1 := Lib.hid (show Goes w bl V A w1 V (k.bump 0) from hw1 ▸ H0.out.scalar 2 _ (k.bump 0) (by rw [hs1, HSN.out]; rfl) (fun m => by cases m <;> rfl) (fun m => by cases m <;> rfl) rfl)
  have HB1 := Lib.hid (bts_only HB.out GO1.out.only hbb)
  have HS1 := Lib.hid (show s1 = ((k.en 0).sent + 1) % 4294967296 by rw [hs1, HSN.out])
  obtain ⟨hbB, hlB, hsB⟩ := cloneW_is w1.drew bn B HBN.out (by omega)
  have CX := Lib.hid (clone_exact ⟨g, o, none⟩ bn c B (by omega) (by omega) w1.drew HB1.out)
  obtain ⟨wB, hwB⟩ : ∃ wB, wB = cloneW w1.drew bn B := ⟨_, rfl⟩
  obtain ⟨cc, hcc⟩ : ∃ cc, cc = cloneC w1.drew bn := ⟨_, rfl⟩
  obtain ⟨cA, hcA⟩ : ∃ cA, cA = w1.drew.heap.size + 1 := ⟨_, rfl⟩
  rw [← hwB, ← hcc, ← hcA] at CX hbB
  rw [← hwB] at hlB hsB
  have hcA' : cA = w1.heap.size + 1 := hcA
  have lB : Below w1.heap.size w1 wB := (Below.refl w1.heap.size w1).drew.trans hlB
  obtain ⟨mv, hmv⟩ : ∃ mv, mv = mc (⟨0, s1, 0, B⟩, .slice (some ⟨cA, 0, none⟩) bn cc) := ⟨_, rfl⟩
  have BM := Lib.hid (show Try.prog.built 71 [(1, .int .u32 (s1 : Int)), (3, .slice (some ⟨cA, 0, none⟩) bn cc)] = some mv.toArray from by rw [hmv]; kernel_rfl)
  have HM4 := Lib.hid (show mv.length = 4 by rw [hmv]; rfl)
  obtain ⟨wC, hwC⟩ : ∃ wC, wC = wB.alloc (.cells mv.toArray 71) := ⟨_, rfl⟩
  have lC : Below wB.heap.size wB wC := hwC ▸ (Below.refl _ _).alloc (Nat.le_refl _) _
  have lC1 : Below w1.heap.size w1 wC := lB.trans (lC.mono lB.size)
  have KC := Lib.hid (GO1.out.at_.below lC1)
  have YC : Body wC (reach bl V ++ A) (.slice (some ⟨cA, 0, none⟩) bn cc) B := by
    have e := HBN.out
    subst e
    refine .inr ⟨cA, 0, cc, rfl, h0, h64, hbB.below lC (Nat.le_refl _), fun hx => ?_⟩
    rcases List.mem_append.1 hx with hx | hx
    · have := GO1.out.at_.reach_lt hx; omega
    · have := GO1.out.at_.out cA hx; omega
  obtain ⟨v', wD, hrD, hgD, hcD, hfD, grD, va, vc, rfl⟩ := KC.out.moreOpen 0 (by decide) ⟨0, s1, 0, B⟩ (.slice (some ⟨cA, 0, none⟩) bn cc) YC (g := wB.heap.size) (by rw [hwC, hmv]; exact blk_at rfl rfl) (by have := HOP.out; show (k.en 0).op.length < 1024; omega)
  have HRD := Lib.hid hrD
  have HGD := Lib.hid hgD
  have HWB := Lib.hid hwB
  have HWC := Lib.hid hwC
  have HSB := Lib.hid (show wB.heap.size = cA + 1 by omega)
  have HCA := Lib.hid hcA
  have LB := Lib.hid lB
  have LC1 := Lib.hid lC1
  have q1 : w1.cell? ⟨bl, 1, none⟩ = some (V 0) := GO1.out.at_.cell 1
  have q2 : wB.cell? ⟨bl, 1, none⟩ = some (V 0) := (GO1.out.at_.below lB).cell 1
  have q3 : wC.cell? ⟨bl, 1, none⟩ = some (V 0) := KC.out.cell 1
  have q4 : wD.cell? ⟨bl, 1, none⟩ = some (V 0) := hcD
  have p1 : w1.cell? ⟨bl, 2, none⟩ = some (.int .u32 (s1 : Int)) := by rw [HS1.out]; exact GO1.out.at_.cell 2
  have p2 : wB.cell? ⟨bl, 2, none⟩ = some (.int .u32 (s1 : Int)) := by rw [HS1.out]; exact (GO1.out.at_.below lB).cell 2
  have p3 : wC.cell? ⟨bl, 2, none⟩ = some (.int .u32 (s1 : Int)) := by rw [HS1.out]; exact KC.out.cell 2
  have p4 : wD.cell? ⟨bl, 2, none⟩ = some (.int .u32 (s1 : Int)) := by
    have := (KC.out.head.grownO grD (fun x hx => by have := KC.out.row 0 (by decide) hx; omega)).cell 2
    rw [HS1.out]; exact this
  obtain ⟨vo, hvo⟩ : ∃ vo, vo = V 0 := ⟨_, rfl⟩
  have HVO := Lib.hid hvo
  rw [← hvo] at q1 q2 q3 q4
  have HRD' := Lib.hid (show (Builtin.append_ #[48, 48] 48 #[vo, .slice (some ⟨cA + 1, 0, none⟩) 1 1]).run Try.prog wC = .ok (.slice va ((k.en 0).op.length + 1) vc) wD from by rw [hvo, ← HSB.out]; exact HRD.out)
  obtain ⟨fn, hfn⟩ : ∃ fn, fn = (k.en 0).op.length + 1 := ⟨_, rfl⟩
  rw [← hfn] at HRD'
  have HGD' := Lib.hid (show Goes wC bl V A (wD.setCell ⟨bl, 1, none⟩ (.slice va fn vc)) (upd V 0 (.slice va fn vc)) ((k.bump 0).addOpen 0 ⟨0, s1, 0, B⟩) from by rw [hfn]; exact HGD.out)
  have Q := Lib.hid (show ∀ d w', At3 10 12 13 (fun w' => w' = w1.drew) (fun w' => w' = wB) (fun w' => w' = wC) (fun w' => w' = wD) d w' → w'.cell? ⟨bl, 1, none⟩ = some vo ∧ w'.cell? ⟨bl, 2, none⟩ = some (.int .u32 (s1 : Int)) from fun d w' h => by
    rcases h.any with rfl | rfl | rfl | rfl
    · exact ⟨q1, p1⟩
    · exact ⟨q2, p2⟩
    · exact ⟨q3, p3⟩
    · exact ⟨q4, p4⟩)
  have QD := Lib.hid q4
  have FD := Lib.hid (show wD.frozen? ⟨bl, 1, none⟩ = false from hfD)
  clear hs1 hw1 hwB hcc hcA hcA' hlB hsB hbB lB hmv hwC lC lC1 YC hrD hgD hcD hfD grD q1 q2 q3 q4 p1 p2 p3 p4 hvo HRD HGD HVO hfn KC RM co cs fs ho HSN HOP
  refine wp_region_gate_tail (fun d w' => At3 10 12 13 (fun w' => w' = w1.drew) (fun w' => w' = wB) (fun w' => w' = wC) (fun w' => w' = wD) d w') 16 (by kernel_rfl) (by kernel_rfl) ?hI ?_
  case hI => exact At3.start (by rfl) (by rfl) (by rfl) rfl
  simp only [List.take_succ_cons, List.take_zero, List.drop_succ_cons, List.drop_zero]
  refine InvC.invc_value (.pointer (some ⟨bl, 1, none⟩)) (fun u hu => by cases hu) rfl (fun d w' _ _ h => by go_simp; all_goals rfl) (fun d w' _ _ h => At3.keep (by decide) (by decide) (by decide) h) ?_
  simp only [Act.put, List.setIfInBounds_toArray, List.set_cons_zero, List.set_cons_succ]
  refine InvC.invc_value (.pointer (some ⟨bl, 1, none⟩)) (fun u hu => by cases hu) rfl (fun d w' _ _ h => by go_simp; all_goals rfl) (fun d w' _ _ h => At3.keep (by decide) (by decide) (by decide) h) ?_
  simp only [Act.put, List.setIfInBounds_toArray, List.set_cons_zero, List.set_cons_succ]
  refine InvC.invc_value (.pointer (some ⟨bl, 1, none⟩)) (fun u hu => by cases hu) rfl (fun d w' _ _ h => by go_simp; all_goals rfl) (fun d w' _ _ h => At3.keep (by decide) (by decide) (by decide) h) ?_
  simp only [Act.put, List.setIfInBounds_toArray, List.set_cons_zero, List.set_cons_succ]
  refine InvC.invc_value (.pointer (some ⟨bl, 1, none⟩)) (fun u hu => by cases hu) rfl (fun d w' _ _ h => by go_simp; all_goals rfl) (fun d w' _ _ h => At3.keep (by decide) (by decide) (by decide) h) ?_
  simp only [Act.put, List.setIfInBounds_toArray, List.set_cons_zero, List.set_cons_succ]
  refine InvC.invc_value (vo) (fun u hu => by cases hu) rfl (fun d w' _ _ h => by have q := (Q.out d w' h).1; go_simp) (fun d w' _ _ h => At3.keep (by decide) (by decide) (by decide) h) ?_
  simp only [Act.put, List.setIfInBounds_toArray, List.set_cons_zero, List.set_cons_succ]
  refine InvC.invc_value (.pointer (some ⟨bl, 1, none⟩)) (fun u hu => by cases hu) rfl (fun d w' _ _ h => by go_simp; all_goals rfl) (fun d w' _ _ h => At3.keep (by decide) (by decide) (by decide) h) ?_
  simp only [Act.put, List.setIfInBounds_toArray, List.set_cons_zero, List.set_cons_succ]
  refine InvC.invc_value (.pointer (some ⟨bl, 1, none⟩)) (fun u hu => by cases hu) rfl (fun d w' _ _ h => by go_simp; all_goals rfl) (fun d w' _ _ h => At3.keep (by decide) (by decide) (by decide) h) ?_
  simp only [Act.put, List.setIfInBounds_toArray, List.set_cons_zero, List.set_cons_succ]
  refine InvC.invc_value (.pointer (some ⟨bl, 2, none⟩)) (fun u hu => by cases hu) rfl (fun d w' _ _ h => by go_simp; all_goals rfl) (fun d w' _ _ h => At3.keep (by decide) (by decide) (by decide) h) ?_
  simp only [Act.put, List.setIfInBounds_toArray, List.set_cons_zero, List.set_cons_succ]
  refine InvC.invc_value (.int .u32 (s1 : Int)) (fun u hu => by cases hu) rfl (fun d w' _ _ h => by have q := (Q.out d w' h).2; go_simp) (fun d w' _ _ h => At3.keep (by decide) (by decide) (by decide) h) ?_
  simp only [Act.put, List.setIfInBounds_toArray, List.set_cons_zero, List.set_cons_succ]
  refine InvC.invc_value (.slice (some ⟨g, o, none⟩) bn c) (fun u hu => by cases hu) rfl (fun d w' _ _ h => by go_simp; all_goals rfl) (fun d w' _ _ h => At3.keep (by decide) (by decide) (by decide) h) ?_
  simp only [Act.put, List.setIfInBounds_toArray, List.set_cons_zero, List.set_cons_succ]
  refine InvC.invc_call (.slice (some ⟨cA, 0, none⟩) bn cc) (fun u hu => by cases hu) rfl 33 #[.slice (some ⟨g, o, none⟩) bn c] (fun d w' _ => by go_simp) (fun d w' hd hG h => by
    have e := h.at_p hd
    subst e
    exact CX.out.mono fun e w'' ⟨he, h2⟩ => ⟨he, by rw [h2]; exact At3.did_p (by decide) (by decide) hd h rfl⟩) ?_
  simp only [Act.put, List.setIfInBounds_toArray, List.set_cons_zero, List.set_cons_succ]
  refine InvC.invc_value (.agg mv.toArray) (fun u hu => by cases hu) rfl (fun d w' _ _ h => exec_build (vs := [(1, .int .u32 (s1 : Int)), (3, .slice (some ⟨cA, 0, none⟩) bn cc)]) rfl rfl BM.out) (fun d w' _ _ h => At3.keep (by decide) (by decide) (by decide) h) ?_
  simp only [Act.put, List.setIfInBounds_toArray, List.set_cons_zero, List.set_cons_succ]
  refine InvC.invc_world (.slice (some ⟨cA + 1, 0, none⟩) 1 1) (fun u hu => by cases hu) rfl (fun d w' hd hG h => ⟨wC, by
    have e := h.at_q hd (hG.of2 (j := 11) (by kernel_rfl) (by kernel_rfl))
    subst e
    rw [← HSB.out, HWC.out]
    exact exec_build_one rfl rfl Try.underlying48 info_mk HM4.out (by decide) (by decide), At3.did_q (by decide) (by decide) hd (hG.of2 (j := 11) (by kernel_rfl) (by kernel_rfl)) h rfl⟩) ?_
  simp only [Act.put, List.setIfInBounds_toArray, List.set_cons_zero, List.set_cons_succ]
  refine InvC.invc_world (.slice va fn vc) (fun u hu => by cases hu) rfl (fun d w' hd hG h => ⟨wD, by
    have e := h.at_r hd (hG.of (by kernel_rfl))
    subst e
    exact exec_append _ _ rfl rfl rfl HRD'.out, At3.did_r (by decide) (by decide) hd (hG.of (by kernel_rfl)) h rfl⟩) ?_
  simp only [Act.put, List.setIfInBounds_toArray, List.set_cons_zero, List.set_cons_succ]
  refine InvC.invc_value (.pointer (some ⟨bl, 1, none⟩)) (fun u hu => by cases hu) rfl (fun d w' _ _ h => by go_simp; all_goals rfl) (fun d w' _ _ h => At3.keep (by decide) (by decide) (by decide) h) ?_
  simp only [Act.put, List.setIfInBounds_toArray, List.set_cons_zero, List.set_cons_succ]
  refine InvC.invc_value (.pointer (some ⟨bl, 1, none⟩)) (fun u hu => by cases hu) rfl (fun d w' _ _ h => by go_simp; all_goals rfl) (fun d w' _ _ h => At3.keep (by decide) (by decide) (by decide) h) ?_
  simp only [Act.put, List.setIfInBounds_toArray, List.set_cons_zero, List.set_cons_succ]
  refine InvC.invc_nil fun w6 hI => ?_
  have e6 := hI.done (by rfl)
  subst e6
  have q4 := QD.out
  have f4 := FD.out
  have GO3 := Lib.hid ((GO1.out.trans (Goes.of_below GO1.out.at_ LC1.out)).trans HGD'.out)
  clear Q QD FD HRD' HWC HWB HSB HCA LB LC1 HM4 BM CX HB1 HGD' GO1
  go_upto_region 8 with (fail)
  obtain ⟨w7, hw7⟩ : ∃ w7, w7 = w6.setCell ⟨bl, 1, none⟩ (.slice va fn vc) := ⟨_, rfl⟩
  rw [← hw7] at GO3 ⊢
  have c7 : w7.cell? ⟨bl, 2, none⟩ = some (.int .u32 (s1 : Int)) := by rw [HS1.out]; exact GO3.out.at_.cell 2
  have PT := Lib.hid (show Calls Try.prog 34 #[.pointer (some ⟨bl, 0, none⟩), .int .i64 0, .int .u32 (s1 : Int), .slice (some ⟨g, o, none⟩) bn c] w7 fun e w' => e = .returned (.tuple #[]) ∧ ∃ V', Goes w7 bl (upd V 0 (.slice va fn vc)) A w' V' (((k.bump 0).addOpen 0 ⟨0, s1, 0, B⟩).put 0 s1 B) from put_any GO3.out.at_ 0 (by decide) s1 (S := []) (v := .slice (some ⟨g, o, none⟩) bn c) (B := B) (by
    have e := HBN.out
    subst e
    exact .inr ⟨g, o, c, rfl, h0, h64, bts_only HB.out GO3.out.only hbb, by simp⟩) hfl)
  clear hw7 q4 f4
  go_wp2_with (first | (go_at_call 34; refine PT.out.mono ?_; rintro e w8 ⟨rfl, V8, g8⟩))
  go_ret
  refine ⟨rfl, V8, ?_⟩
  have e : k.send 0 B = ((k.bump 0).addOpen 0 ⟨0, s1, 0, B⟩).put 0 s1 B := by rw [HS1.out]; rfl
  rw [e]
  exact GO3.out.trans g8
set_option maxHeartbeats 2000000 in
theorem send_ok1 (h : LinkAt w bl V A k) (g o c bn : Nat) (B : List UInt8) (hbn : B.length = bn) (h0 : 1 ≤ bn) (h64 : bn ≤ 64) (hb : Bts w (some ⟨g, o, none⟩) bn c B) (hfl : k.fl.length < 1024) (hop : (k.en 1).op.length < 256) (hbb : g ∉ reach bl V) : Calls Try.prog 11 #[.pointer (some ⟨bl, 0, none⟩), .int .i64 1, .slice (some ⟨g, o, none⟩) bn c] w fun e w' => e = .returned (.int .i64 0) ∧ ∃ V', Goes w bl V A w' V' (k.send 1 B) := by
  have hlt := h.head.lt
  have RM := Lib.hid (room_any h)
  rw [decide_eq_true hfl] at RM
  obtain ⟨oa, oc, eo, _⟩ := h.slO 1 (by decide)
  have co : w.cell? ⟨bl, 5, none⟩ = some (V 2) := h.cell 5
  have eo' : V 2 = .slice oa (k.en 1).op.length oc := eo
  rw [eo'] at co
  obtain ⟨on, hon⟩ : ∃ on, on = (k.en 1).op.length := ⟨_, rfl⟩
  rw [← hon] at co
  have ho : (on : Int) < 256 := by omega
  have i1 : (1 : Int) ≤ bn := by omega
  have i2 : (bn : Int) ≤ 64 := by omega
  obtain ⟨sn, hsn⟩ : ∃ sn, sn = (k.en 1).sent := ⟨_, rfl⟩
  have cs : w.cell? ⟨bl, 6, none⟩ = some (.int .u32 (sn : Int)) := by rw [hsn]; exact h.cell 6
  have fs : w.frozen? ⟨bl, 6, none⟩ = false := h.head.frozen 6
  have H0 := Lib.hid h
  have HB := Lib.hid hb
  have HSN := Lib.hid hsn
  have HBN := Lib.hid hbn
  have HOP := Lib.hid hop
  clear h eo eo' hon hb hsn hbn hop
  go_enter Try.func11, Try.ntmps11
  go_upto_region 7 with (first | (go_at_call 32; refine RM.out.mono ?_; rintro e w' ⟨rfl, rfl⟩))
  have e1 : ((sn : Int) + 1) % 4294967296 = (((sn + 1) % 4294967296 : Nat) : Int) := by omega
  obtain ⟨s1, hs1⟩ : ∃ s1, s1 = (sn + 1) % 4294967296 := ⟨_, rfl⟩
  rw [e1, ← hs1]
  obtain ⟨w1, hw1⟩ : ∃ w1, w1 = w.setCell ⟨bl, 6, none⟩ (.int .u32 (s1 : Int)) := ⟨_, rfl⟩
  rw [← hw1]
  have GO1 := Lib.hid (show Goes w bl V A w1 V (k.bump 1) from hw1 ▸ H0.out.scalar 6 _ (k.bump 1) (by rw [hs1, HSN.out]; rfl) (fun m => by cases m <;> rfl) (fun m => by cases m <;> rfl) rfl)
  have HB1 := Lib.hid (bts_only HB.out GO1.out.only hbb)
  have HS1 := Lib.hid (show s1 = ((k.en 1).sent + 1) % 4294967296 by rw [hs1, HSN.out])
  obtain ⟨hbB, hlB, hsB⟩ := cloneW_is w1.drew bn B HBN.out (by omega)
  have CX := Lib.hid (clone_exact ⟨g, o, none⟩ bn c B (by omega) (by omega) w1.drew HB1.out)
  obtain ⟨wB, hwB⟩ : ∃ wB, wB = cloneW w1.drew bn B := ⟨_, rfl⟩
  obtain ⟨cc, hcc⟩ : ∃ cc, cc = cloneC w1.drew bn := ⟨_, rfl⟩
  obtain ⟨cA, hcA⟩ : ∃ cA, cA = w1.drew.heap.size + 1 := ⟨_, rfl⟩
  rw [← hwB, ← hcc, ← hcA] at CX hbB
  rw [← hwB] at hlB hsB
  have hcA' : cA = w1.heap.size + 1 := hcA
  have lB : Below w1.heap.size w1 wB := (Below.refl w1.heap.size w1).drew.trans hlB
  obtain ⟨mv, hmv⟩ : ∃ mv, mv = mc (⟨0, s1, 0, B⟩, .slice (some ⟨cA, 0, none⟩) bn cc) := ⟨_, rfl⟩
  have BM := Lib.hid (show Try.prog.built 71 [(1, .int .u32 (s1 : Int)), (3, .slice (some ⟨cA, 0, none⟩) bn cc)] = some mv.toArray from by rw [hmv]; kernel_rfl)
  have HM4 := Lib.hid (show mv.length = 4 by rw [hmv]; rfl)
  obtain ⟨wC, hwC⟩ : ∃ wC, wC = wB.alloc (.cells mv.toArray 71) := ⟨_, rfl⟩
  have lC : Below wB.heap.size wB wC := hwC ▸ (Below.refl _ _).alloc (Nat.le_refl _) _
  have lC1 : Below w1.heap.size w1 wC := lB.trans (lC.mono lB.size)
  have KC := Lib.hid (GO1.out.at_.below lC1)
  have YC : Body wC (reach bl V ++ A) (.slice (some ⟨cA, 0, none⟩) bn cc) B := by
    have e := HBN.out
    subst e
    refine .inr ⟨cA, 0, cc, rfl, h0, h64, hbB.below lC (Nat.le_refl _), fun hx => ?_⟩
    rcases List.mem_append.1 hx with hx | hx
    · have := GO1.out.at_.reach_lt hx; omega
    · have := GO1.out.at_.out cA hx; omega
  obtain ⟨v', wD, hrD, hgD, hcD, hfD, grD, va, vc, rfl⟩ := KC.out.moreOpen 1 (by decide) ⟨0, s1, 0, B⟩ (.slice (some ⟨cA, 0, none⟩) bn cc) YC (g := wB.heap.size) (by rw [hwC, hmv]; exact blk_at rfl rfl) (by have := HOP.out; show (k.en 1).op.length < 1024; omega)
  have HRD := Lib.hid hrD
  have HGD := Lib.hid hgD
  have HWB := Lib.hid hwB
  have HWC := Lib.hid hwC
  have HSB := Lib.hid (show wB.heap.size = cA + 1 by omega)
  have HCA := Lib.hid hcA
  have LB := Lib.hid lB
  have LC1 := Lib.hid lC1
  have q1 : w1.cell? ⟨bl, 5, none⟩ = some (V 2) := GO1.out.at_.cell 5
  have q2 : wB.cell? ⟨bl, 5, none⟩ = some (V 2) := (GO1.out.at_.below lB).cell 5
  have q3 : wC.cell? ⟨bl, 5, none⟩ = some (V 2) := KC.out.cell 5
  have q4 : wD.cell? ⟨bl, 5, none⟩ = some (V 2) := hcD
  have p1 : w1.cell? ⟨bl, 6, none⟩ = some (.int .u32 (s1 : Int)) := by rw [HS1.out]; exact GO1.out.at_.cell 6
  have p2 : wB.cell? ⟨bl, 6, none⟩ = some (.int .u32 (s1 : Int)) := by rw [HS1.out]; exact (GO1.out.at_.below lB).cell 6
  have p3 : wC.cell? ⟨bl, 6, none⟩ = some (.int .u32 (s1 : Int)) := by rw [HS1.out]; exact KC.out.cell 6
  have p4 : wD.cell? ⟨bl, 6, none⟩ = some (.int .u32 (s1 : Int)) := by
    have := (KC.out.head.grownO grD (fun x hx => by have := KC.out.row 2 (by decide) hx; omega)).cell 6
    rw [HS1.out]; exact this
  obtain ⟨vo, hvo⟩ : ∃ vo, vo = V 2 := ⟨_, rfl⟩
  have HVO := Lib.hid hvo
  rw [← hvo] at q1 q2 q3 q4
  have HRD' := Lib.hid (show (Builtin.append_ #[48, 48] 48 #[vo, .slice (some ⟨cA + 1, 0, none⟩) 1 1]).run Try.prog wC = .ok (.slice va ((k.en 1).op.length + 1) vc) wD from by rw [hvo, ← HSB.out]; exact HRD.out)
  obtain ⟨fn, hfn⟩ : ∃ fn, fn = (k.en 1).op.length + 1 := ⟨_, rfl⟩
  rw [← hfn] at HRD'
  have HGD' := Lib.hid (show Goes wC bl V A (wD.setCell ⟨bl, 5, none⟩ (.slice va fn vc)) (upd V 2 (.slice va fn vc)) ((k.bump 1).addOpen 1 ⟨0, s1, 0, B⟩) from by rw [hfn]; exact HGD.out)
  have Q := Lib.hid (show ∀ d w', At3 10 12 13 (fun w' => w' = w1.drew) (fun w' => w' = wB) (fun w' => w' = wC) (fun w' => w' = wD) d w' → w'.cell? ⟨bl, 5, none⟩ = some vo ∧ w'.cell? ⟨bl, 6, none⟩ = some (.int .u32 (s1 : Int)) from fun d w' h => by
    rcases h.any with rfl | rfl | rfl | rfl
    · exact ⟨q1, p1⟩
    · exact ⟨q2, p2⟩
    · exact ⟨q3, p3⟩
    · exact ⟨q4, p4⟩)
  have QD := Lib.hid q4
  have FD := Lib.hid (show wD.frozen? ⟨bl, 5, none⟩ = false from hfD)
  clear hs1 hw1 hwB hcc hcA hcA' hlB hsB hbB lB hmv hwC lC lC1 YC hrD hgD hcD hfD grD q1 q2 q3 q4 p1 p2 p3 p4 hvo HRD HGD HVO hfn KC RM co cs fs ho HSN HOP
  refine wp_region_gate_tail (fun d w' => At3 10 12 13 (fun w' => w' = w1.drew) (fun w' => w' = wB) (fun w' => w' = wC) (fun w' => w' = wD) d w') 16 (by kernel_rfl) (by kernel_rfl) ?hI ?_
  case hI => exact At3.start (by rfl) (by rfl) (by rfl) rfl
  simp only [List.take_succ_cons, List.take_zero, List.drop_succ_cons, List.drop_zero]
  refine InvC.invc_value (.pointer (some ⟨bl, 5, none⟩)) (fun u hu => by cases hu) rfl (fun d w' _ _ h => by go_simp; all_goals rfl) (fun d w' _ _ h => At3.keep (by decide) (by decide) (by decide) h) ?_
  simp only [Act.put, List.setIfInBounds_toArray, List.set_cons_zero, List.set_cons_succ]
  refine InvC.invc_value (.pointer (some ⟨bl, 5, none⟩)) (fun u hu => by cases hu) rfl (fun d w' _ _ h => by go_simp; all_goals rfl) (fun d w' _ _ h => At3.keep (by decide) (by decide) (by decide) h) ?_
  simp only [Act.put, List.setIfInBounds_toArray, List.set_cons_zero, List.set_cons_succ]
  refine InvC.invc_value (.pointer (some ⟨bl, 5, none⟩)) (fun u hu => by cases hu) rfl (fun d w' _ _ h => by go_simp; all_goals rfl) (fun d w' _ _ h => At3.keep (by decide) (by decide) (by decide) h) ?_
  simp only [Act.put, List.setIfInBounds_toArray, List.set_cons_zero, List.set_cons_succ]
  refine InvC.invc_value (.pointer (some ⟨bl, 5, none⟩)) (fun u hu => by cases hu) rfl (fun d w' _ _ h => by go_simp; all_goals rfl) (fun d w' _ _ h => At3.keep (by decide) (by decide) (by decide) h) ?_
  simp only [Act.put, List.setIfInBounds_toArray, List.set_cons_zero, List.set_cons_succ]
  refine InvC.invc_value (vo) (fun u hu => by cases hu) rfl (fun d w' _ _ h => by have q := (Q.out d w' h).1; go_simp) (fun d w' _ _ h => At3.keep (by decide) (by decide) (by decide) h) ?_
  simp only [Act.put, List.setIfInBounds_toArray, List.set_cons_zero, List.set_cons_succ]
  refine InvC.invc_value (.pointer (some ⟨bl, 5, none⟩)) (fun u hu => by cases hu) rfl (fun d w' _ _ h => by go_simp; all_goals rfl) (fun d w' _ _ h => At3.keep (by decide) (by decide) (by decide) h) ?_
  simp only [Act.put, List.setIfInBounds_toArray, List.set_cons_zero, List.set_cons_succ]
  refine InvC.invc_value (.pointer (some ⟨bl, 5, none⟩)) (fun u hu => by cases hu) rfl (fun d w' _ _ h => by go_simp; all_goals rfl) (fun d w' _ _ h => At3.keep (by decide) (by decide) (by decide) h) ?_
  simp only [Act.put, List.setIfInBounds_toArray, List.set_cons_zero, List.set_cons_succ]
  refine InvC.invc_value (.pointer (some ⟨bl, 6, none⟩)) (fun u hu => by cases hu) rfl (fun d w' _ _ h => by go_simp; all_goals rfl) (fun d w' _ _ h => At3.keep (by decide) (by decide) (by decide) h) ?_
  simp only [Act.put, List.setIfInBounds_toArray, List.set_cons_zero, List.set_cons_succ]
  refine InvC.invc_value (.int .u32 (s1 : Int)) (fun u hu => by cases hu) rfl (fun d w' _ _ h => by have q := (Q.out d w' h).2; go_simp) (fun d w' _ _ h => At3.keep (by decide) (by decide) (by decide) h) ?_
  simp only [Act.put, List.setIfInBounds_toArray, List.set_cons_zero, List.set_cons_succ]
  refine InvC.invc_value (.slice (some ⟨g, o, none⟩) bn c) (fun u hu => by cases hu) rfl (fun d w' _ _ h => by go_simp; all_goals rfl) (fun d w' _ _ h => At3.keep (by decide) (by decide) (by decide) h) ?_
  simp only [Act.put, List.setIfInBounds_toArray, List.set_cons_zero, List.set_cons_succ]
  refine InvC.invc_call (.slice (some ⟨cA, 0, none⟩) bn cc) (fun u hu => by cases hu) rfl 33 #[.slice (some ⟨g, o, none⟩) bn c] (fun d w' _ => by go_simp) (fun d w' hd hG h => by
    have e := h.at_p hd
    subst e
    exact CX.out.mono fun e w'' ⟨he, h2⟩ => ⟨he, by rw [h2]; exact At3.did_p (by decide) (by decide) hd h rfl⟩) ?_
  simp only [Act.put, List.setIfInBounds_toArray, List.set_cons_zero, List.set_cons_succ]
  refine InvC.invc_value (.agg mv.toArray) (fun u hu => by cases hu) rfl (fun d w' _ _ h => exec_build (vs := [(1, .int .u32 (s1 : Int)), (3, .slice (some ⟨cA, 0, none⟩) bn cc)]) rfl rfl BM.out) (fun d w' _ _ h => At3.keep (by decide) (by decide) (by decide) h) ?_
  simp only [Act.put, List.setIfInBounds_toArray, List.set_cons_zero, List.set_cons_succ]
  refine InvC.invc_world (.slice (some ⟨cA + 1, 0, none⟩) 1 1) (fun u hu => by cases hu) rfl (fun d w' hd hG h => ⟨wC, by
    have e := h.at_q hd (hG.of2 (j := 11) (by kernel_rfl) (by kernel_rfl))
    subst e
    rw [← HSB.out, HWC.out]
    exact exec_build_one rfl rfl Try.underlying48 info_mk HM4.out (by decide) (by decide), At3.did_q (by decide) (by decide) hd (hG.of2 (j := 11) (by kernel_rfl) (by kernel_rfl)) h rfl⟩) ?_
  simp only [Act.put, List.setIfInBounds_toArray, List.set_cons_zero, List.set_cons_succ]
  refine InvC.invc_world (.slice va fn vc) (fun u hu => by cases hu) rfl (fun d w' hd hG h => ⟨wD, by
    have e := h.at_r hd (hG.of (by kernel_rfl))
    subst e
    exact exec_append _ _ rfl rfl rfl HRD'.out, At3.did_r (by decide) (by decide) hd (hG.of (by kernel_rfl)) h rfl⟩) ?_
  simp only [Act.put, List.setIfInBounds_toArray, List.set_cons_zero, List.set_cons_succ]
  refine InvC.invc_value (.pointer (some ⟨bl, 5, none⟩)) (fun u hu => by cases hu) rfl (fun d w' _ _ h => by go_simp; all_goals rfl) (fun d w' _ _ h => At3.keep (by decide) (by decide) (by decide) h) ?_
  simp only [Act.put, List.setIfInBounds_toArray, List.set_cons_zero, List.set_cons_succ]
  refine InvC.invc_value (.pointer (some ⟨bl, 5, none⟩)) (fun u hu => by cases hu) rfl (fun d w' _ _ h => by go_simp; all_goals rfl) (fun d w' _ _ h => At3.keep (by decide) (by decide) (by decide) h) ?_
  simp only [Act.put, List.setIfInBounds_toArray, List.set_cons_zero, List.set_cons_succ]
  refine InvC.invc_nil fun w6 hI => ?_
  have e6 := hI.done (by rfl)
  subst e6
  have q4 := QD.out
  have f4 := FD.out
  have GO3 := Lib.hid ((GO1.out.trans (Goes.of_below GO1.out.at_ LC1.out)).trans HGD'.out)
  clear Q QD FD HRD' HWC HWB HSB HCA LB LC1 HM4 BM CX HB1 HGD' GO1
  go_upto_region 8 with (fail)
  obtain ⟨w7, hw7⟩ : ∃ w7, w7 = w6.setCell ⟨bl, 5, none⟩ (.slice va fn vc) := ⟨_, rfl⟩
  rw [← hw7] at GO3 ⊢
  have c7 : w7.cell? ⟨bl, 6, none⟩ = some (.int .u32 (s1 : Int)) := by rw [HS1.out]; exact GO3.out.at_.cell 6
  have PT := Lib.hid (show Calls Try.prog 34 #[.pointer (some ⟨bl, 0, none⟩), .int .i64 1, .int .u32 (s1 : Int), .slice (some ⟨g, o, none⟩) bn c] w7 fun e w' => e = .returned (.tuple #[]) ∧ ∃ V', Goes w7 bl (upd V 2 (.slice va fn vc)) A w' V' (((k.bump 1).addOpen 1 ⟨0, s1, 0, B⟩).put 1 s1 B) from put_any GO3.out.at_ 1 (by decide) s1 (S := []) (v := .slice (some ⟨g, o, none⟩) bn c) (B := B) (by
    have e := HBN.out
    subst e
    exact .inr ⟨g, o, c, rfl, h0, h64, bts_only HB.out GO3.out.only hbb, by simp⟩) hfl)
  clear hw7 q4 f4
  go_wp2_with (first | (go_at_call 34; refine PT.out.mono ?_; rintro e w8 ⟨rfl, V8, g8⟩))
  go_ret
  refine ⟨rfl, V8, ?_⟩
  have e : k.send 1 B = ((k.bump 1).addOpen 1 ⟨0, s1, 0, B⟩).put 1 s1 B := by rw [HS1.out]; rfl
  rw [e]
  exact GO3.out.trans g8
end
end Go.Proofs.Ytfjaoompdleljaa.Link
/-
  Open of a link by contract. Helper text; no statement is proved here.
-/
set_option linter.unusedVariables false
set_option maxRecDepth 20000
set_option linter.unusedSimpArgs false
namespace Go.Proofs.Ytfjaoompdleljaa.Link
open Go.RowKit Go.Proofs.Ytfjaoompdleljaa.Base Go.Proofs.Ytfjaoompdleljaa.Laws Go.Proofs.Ytfjaoompdleljaa.Disk Go.Proofs.Ytfjaoompdleljaa.Row Go.Proofs.Ytfjaoompdleljaa.Flat Go.Proofs.Ytfjaoompdleljaa.InvM
section
variable {w : World} {bl : Nat} {V : Nat → Value} {A : List Nat} {k : Lk}
theorem open_any (h : LinkAt w bl V A k) (n : Nat) (hn : n < 2) : Calls Try.prog 14 #[.pointer (some ⟨bl, 0, none⟩), .int .i64 (n : Int)] w fun e w' => e = .returned (.int .i64 ((k.en n).op.length : Nat)) ∧ w = w' := by
  obtain ⟨oa, oc, eo, _⟩ := h.slO n hn
  have hc := h.cell (1 + 4 * n)
  obtain ⟨on, hon⟩ : ∃ on, on = (k.en n).op.length := ⟨_, rfl⟩
  rw [← hon] at eo ⊢
  obtain rfl | rfl : n = 0 ∨ n = 1 := by omega
  · have co : w.cell? ⟨bl, 1, none⟩ = some (V 0) := hc
    rw [show V 0 = .slice oa on oc from eo] at co
    clear h eo hon hc
    go_enter Try.func14, Try.ntmps14
    go_wp2_with fail
    go_ret
    exact ⟨rfl, rfl⟩
  · have co : w.cell? ⟨bl, 5, none⟩ = some (V 2) := hc
    rw [show V 2 = .slice oa on oc from eo] at co
    clear h eo hon hc
    go_enter Try.func14, Try.ntmps14
    go_wp2_with fail
    go_ret
    exact ⟨rfl, rfl⟩
theorem open_no (p : Option Addr) (n : Int) (hn : n < 0 ∨ 1 < n) (w : World) : Calls Try.prog 14 #[.pointer p, .int .i64 n] w fun e w' => e = .returned (.int .i64 0) ∧ w = w' := by
  cases p with
  | none => exact open_nil n w
  | some p =>
    by_cases h1 : n < 0
    · go_enter Try.func14, Try.ntmps14
      go_wp2_with fail
      go_ret
      exact ⟨rfl, rfl⟩
    · have h2 : 1 < n := by omega
      go_enter Try.func14, Try.ntmps14
      go_wp2_with fail
      go_ret
      exact ⟨rfl, rfl⟩
end
end Go.Proofs.Ytfjaoompdleljaa.Link
/-
  slices.Delete of one packet; take, Drop of a link by contract. Helper text; no statement is proved here.
-/
set_option linter.unusedVariables false
set_option maxRecDepth 20000
set_option linter.unusedSimpArgs false
namespace Go.Proofs.Ytfjaoompdleljaa.Link
open Go.RowKit Go.Proofs.Ytfjaoompdleljaa.Base Go.Proofs.Ytfjaoompdleljaa.Laws Go.Proofs.Ytfjaoompdleljaa.Disk Go.Proofs.Ytfjaoompdleljaa.Row Go.Proofs.Ytfjaoompdleljaa.Flat Go.Proofs.Ytfjaoompdleljaa.InvM
section
variable {w : World} {bl : Nat} {V : Nat → Value} {A : List Nat} {k : Lk}
theorem take_no (h : LinkAt w bl V A k) (i : Int) (hi : i < 0 ∨ (k.fl.length : Int) ≤ i) : Calls Try.prog 35 #[.pointer (some ⟨bl, 0, none⟩), .int .i64 i] w fun e w' => e = .returned (.tuple #[.agg zpk.toArray, .bool false]) ∧ Below w.heap.size w w' := by
  obtain ⟨a, c, e, _⟩ := h.slF
  have hlt := h.head.lt
  have c9 : w.cell? ⟨bl, 9, none⟩ = some (V 4) := h.cell 9
  rw [e] at c9
  obtain ⟨n, hn⟩ : ∃ n, n = k.fl.length := ⟨_, rfl⟩
  rw [← hn] at c9 hi
  clear h e hn
  have Z := Lib.hid (blk_at (w := w) (g := w.heap.size) (cs := zpk) (t := 74) (arr := #[.int .i64 0, .int .u32 0, .int .u32 0, .int .u32 0, .slice none 0 0]) rfl rfl)
  by_cases h1 : i < 0
  · clear hi c9
    go_enter Try.func35, Try.ntmps35
    go_upto_region 1 with (fail)
    obtain ⟨w1, hw1⟩ : ∃ w1, w1 = w.alloc (.cells #[.int .i64 0, .int .u32 0, .int .u32 0, .int .u32 0, .slice none 0 0] 74) := ⟨_, rfl⟩
    have L1 := Lib.hid (show Below w.heap.size w w1 from hw1 ▸ ((Below.refl w.heap.size w).alloc (Nat.le_refl _) _))
    rw [← hw1] at Z ⊢
    clear hw1
    go_wp2_with (first | (refine wpList_store_blk rfl 74 _ _ rfl w.heap.size 0 5 rfl 74 zpk zpk rfl Z.out (by kernel_rfl) rfl (by decide) (by decide) ?_; intro w2 z2 g2; have Z2 := Lib.hid (show Blk w2 w.heap.size zpk 74 from z2); have L2 := Lib.hid (below_grown L1.out g2 L1.out.size (Nat.le_refl _)); clear z2 g2))
    exact bodyPost_ret (v := .tuple #[.agg zpk.toArray, .bool false]) (results_cell_two rfl _ _ w.heap.size 74 _ (0, 0) _ _ rfl rfl Z2.out Try.underlying74 rfl (by kernel_rfl)) rfl ⟨rfl, L2.out⟩
  · have h2 : (n : Int) ≤ i := by omega
    clear hi
    go_enter Try.func35, Try.ntmps35
    go_upto_region 1 with (fail)
    obtain ⟨w1, hw1⟩ : ∃ w1, w1 = w.alloc (.cells #[.int .i64 0, .int .u32 0, .int .u32 0, .int .u32 0, .slice none 0 0] 74) := ⟨_, rfl⟩
    have L1 := Lib.hid (show Below w.heap.size w w1 from hw1 ▸ ((Below.refl w.heap.size w).alloc (Nat.le_refl _) _))
    have c9' : w1.cell? ⟨bl, 9, none⟩ = some (.slice a n c) := (Below.cell L1.out (p := ⟨bl, 9, none⟩) hlt).trans c9
    rw [← hw1] at Z ⊢
    clear hw1 c9
    go_wp2_with (first | (refine wpList_store_blk rfl 74 _ _ rfl w.heap.size 0 5 rfl 74 zpk zpk rfl Z.out (by kernel_rfl) rfl (by decide) (by decide) ?_; intro w2 z2 g2; have Z2 := Lib.hid (show Blk w2 w.heap.size zpk 74 from z2); have L2 := Lib.hid (below_grown L1.out g2 L1.out.size (Nat.le_refl _)); clear z2 g2))
    exact bodyPost_ret (v := .tuple #[.agg zpk.toArray, .bool false]) (results_cell_two rfl _ _ w.heap.size 74 _ (0, 0) _ _ rfl rfl Z2.out Try.underlying74 rfl (by kernel_rfl)) rfl ⟨rfl, L2.out⟩
end
end Go.Proofs.Ytfjaoompdleljaa.Link
/-
  clear of a stretch of a row; slices of rows. Helper text; no statement is proved here.
-/
set_option linter.unusedVariables false
set_option maxRecDepth 20000
set_option linter.unusedSimpArgs false
namespace Go.Proofs.Ytfjaoompdleljaa.Link
open Go.RowKit Go.Proofs.Ytfjaoompdleljaa.Base Go.Proofs.Ytfjaoompdleljaa.Laws Go.Proofs.Ytfjaoompdleljaa.Disk Go.Proofs.Ytfjaoompdleljaa.Row Go.Proofs.Ytfjaoompdleljaa.Flat Go.Proofs.Ytfjaoompdleljaa.InvM
theorem run_clear_row {P : Program} (w : World) (t e ty : TypeId) (z : Value) (m : Nat) (ht : P.underlying t = some (.slice e)) (hv : ∀ w, (zeroValue e).run P w = .ok z w) (hz : z.cells.size = m) (h1 : ∀ u ∈ z.cells, u.oneCell' = true) (g o n c : Nat) (hn : 0 < n)
    (cur : Array Value) (hg : w.heap[g]? = some (.cells cur e (0, 0))) (hfit : o + n * m ≤ cur.size) :
    ∃ news : List Value, news.length = n * m ∧ (Builtin.clear_ #[t] ty #[.slice (some ⟨g, o, none⟩) n c]).run P w = .ok (.tuple #[]) (w.setRow g (cur.toList.take o ++ news ++ cur.toList.drop (o + news.length)).toArray) := by
  refine ⟨(Builtin.zeroCells z.cells n).toList, by simp [size_zeroCells, hz], ?_⟩
  have hl : (Builtin.zeroCells z.cells n).toList.length = n * m := by simp [size_zeroCells, hz]
  have hst := run_storeCells_at P g o e (Builtin.zeroCells z.cells n).toList 0 cur w hg (by rw [hl]; simpa using hfit) (by
    intro u hu
    simp only [Builtin.zeroCells, Array.toList_map, Array.toList_range, List.mem_map, List.mem_range] at hu
    obtain ⟨x, hx, rfl⟩ := hu
    have hp : 0 < z.cells.size := by rcases Nat.eq_zero_or_pos z.cells.size with h | h; rw [h] at hx; simp at hx; exact h
    rw [getElem!_pos z.cells (x % z.cells.size) (Nat.mod_lt _ hp)]
    exact h1 _ (Array.getElem_mem _))
  simp only [Nat.add_zero] at hst
  obtain ⟨m', rfl⟩ : ∃ m', n = m' + 1 := ⟨n - 1, by omega⟩
  simp [Builtin.clear_, run_underlying ht, hv, hst]
end Go.Proofs.Ytfjaoompdleljaa.Link
/-
  slices.Delete of one packet by contract. Helper text; no statement is proved here.
-/
set_option linter.unusedVariables false
set_option maxRecDepth 20000
set_option linter.unusedSimpArgs false
namespace Go.Proofs.Ytfjaoompdleljaa.Link
open Go.RowKit Go.Proofs.Ytfjaoompdleljaa.Base Go.Proofs.Ytfjaoompdleljaa.Laws Go.Proofs.Ytfjaoompdleljaa.Disk Go.Proofs.Ytfjaoompdleljaa.Row Go.Proofs.Ytfjaoompdleljaa.Flat Go.Proofs.Ytfjaoompdleljaa.InvM
theorem exec_clear {P : Program} {ρ : Operand → Value} {w w' : World} {o : Oper} {t : TypeId} (s : Operand) (ho : o.op = .call { callee := .builtin .clear, args := #[s], argTypes := #[t] }) {v x : Value} (hs : ρ s = v)
    (hr : (Builtin.clear_ #[t] o.type #[v]).run P w = .ok x w') : (execOp ρ o).run P w = .ok (.value x) w' := by
  unfold execOp
  simp only [ho, resolve, invoke, builtin, Sem.run_bind, Sem.run_pure, Result.andThen_ok, List.map_toArray, List.map_cons, List.map_nil, hs, hr]
theorem delete_one (w : World) (base : Nat) (g cap : Nat) (ps : List (Pk × Value)) (n i : Nat) (hn : n = ps.length) (ho : w.ownsRow base 74 5 (.slice (some ⟨g, 0, none⟩) n cap) n (flat pc ps)) (hi : i < n) (hone : ∀ p ∈ ps, p.2.oneCell' = true) :
    Calls Try.prog 42 #[.slice (some ⟨g, 0, none⟩) n cap, .int .i64 (i : Int), .int .i64 ((i + 1 : Nat) : Int)] w fun e w' => e = .returned (.slice (some ⟨g, 0, none⟩) (n - 1) cap) ∧ w'.ownsRow base 74 5 (.slice (some ⟨g, 0, none⟩) (n - 1) cap) (n - 1) (flat pc (ps.take i ++ ps.drop (i + 1))) ∧ w.grownBy w' (some g) := by
  obtain ⟨hl, h2⟩ := ho
  rcases h2 with ⟨e, _⟩ | ⟨g', cap', cur, e, hb, hg, hnc, hcm, hsz, htk⟩
  · cases e
  cases e
  obtain ⟨j, hj⟩ : ∃ j, j = i + 1 := ⟨_, rfl⟩
  rw [← hj]
  have i1 : (i : Int) ≠ (j : Int) := by omega
  have i2 : i ≤ j := by omega
  have i3 : j ≤ n := by omega
  have i4 : j ≤ cap := by omega
  have i5 : n ≤ cap := hnc
  have i6 : i ≤ cap := by omega
  unfold maxLen at hcm
  obtain ⟨i0, hi0, hz0, hz1, hz2⟩ := info_parts info_pk
  obtain ⟨news, hnews⟩ : ∃ news, news = (cur.toList.take (n * 5)).drop (j * 5) := ⟨_, rfl⟩
  have hnl : news.length = (n - j) * 5 := by rw [hnews, List.length_drop, htk, hl]; omega
  have hn1 : ∀ u ∈ news, u.oneCell' = true := by
    intro u hu
    rw [hnews, htk] at hu
    obtain ⟨p, hp, hup⟩ := flat_mem (List.mem_of_mem_drop hu)
    exact pc_one (hone p hp) u hup
  obtain ⟨X, hX⟩ : ∃ X : Option Addr, X = (if cap = j then some (⟨g, 0, none⟩ : Addr) else some ⟨g, j * 5, none⟩) := ⟨_, rfl⟩
  obtain ⟨AD, hAD, hsrc⟩ : ∃ AD : Addr, X = some AD ∧ ∀ t u, news[t]? = some u → w.drew.cell? (AD.add t) = some u := by
    by_cases h : cap = j
    · refine ⟨⟨g, 0, none⟩, by rw [hX, if_pos h], fun t u hu => ?_⟩
      have := (List.getElem?_eq_some_iff.1 hu).1
      omega
    · refine ⟨⟨g, j * 5, none⟩, by rw [hX, if_neg h], fun t u hu => ?_⟩
      rw [Addr.add_lit]
      have ht := (List.getElem?_eq_some_iff.1 hu).1
      rw [hnews, List.getElem?_drop, List.getElem?_take_of_lt (by omega)] at hu
      rw [cell_of_row w.drew g _ _ _ (0, 0) hg]
      simpa using hu
  have HR := Lib.hid (show (Builtin.append_ #[29, 29] 29 #[.slice (some ⟨g, 0, none⟩) i cap, .slice X (n - j) (cap - j)]).run Try.prog w.drew = .ok (.slice (some ⟨g, 0, none⟩) (i + (n - j)) cap) (w.drew.setRow g (cur.toList.take (i * 5) ++ news ++ cur.toList.drop (i * 5 + news.length)).toArray) from by
    rw [hAD]
    have := run_append_room (P := Try.prog) w.drew 29 29 74 i0 Try.underlying29 hi0 g i cap cur hg AD (n - j) (cap - j) news (by rw [hz1]; exact hnl) hsrc hn1 (by omega) (by rw [hz1, hsz]; omega)
    rw [hz1] at this
    exact this)
  obtain ⟨W1, hW1⟩ : ∃ W1, W1 = w.drew.setRow g (cur.toList.take (i * 5) ++ news ++ cur.toList.drop (i * 5 + news.length)).toArray := ⟨_, rfl⟩
  rw [← hW1] at HR
  obtain ⟨m, hm⟩ : ∃ m, m = i + (n - j) := ⟨_, rfl⟩
  rw [← hm] at HR
  obtain ⟨cur1, hcur1⟩ : ∃ cur1, cur1 = (cur.toList.take (i * 5) ++ news ++ cur.toList.drop (i * 5 + news.length)).toArray := ⟨_, rfl⟩
  have hc1 : cur1.size = cap * 5 := by rw [hcur1]; simp [hnl]; omega
  have hg1 : W1.heap[g]? = some (.cells cur1 74 (0, 0)) := by rw [hW1, hcur1]; exact setRow_heap w.drew g _ _ _ _ hg
  obtain ⟨nz, hnz, hcl⟩ := run_clear_row (P := Try.prog) W1 29 74 0 (.agg #[.int .i64 0, .int .u32 0, .int .u32 0, .int .u32 0, .slice none 0 0]) 5 Try.underlying29 (fun w => by simp [zeroValue, typeInfo, hi0, hz0]) rfl (by decide) g (m * 5) (n - m) (cap - m) (by omega) cur1 hg1 (by rw [hc1]; omega)
  obtain ⟨W2, hW2⟩ : ∃ W2, W2 = W1.setRow g (cur1.toList.take (m * 5) ++ nz ++ cur1.toList.drop (m * 5 + nz.length)).toArray := ⟨_, rfl⟩
  rw [← hW2] at hcl
  have hmi : m * 5 = i * 5 + (n - j) * 5 := by omega
  have GR := Lib.hid (show w.grownBy W2 (some g) from by
    rw [hW2, hW1]
    exact grown_trans (w1 := w.drew) ⟨rfl, rfl, rfl, Nat.le_refl _, fun _ _ _ => rfl⟩ (grown_trans (grown_setRow _ _ _) (grown_setRow _ _ _)))
  have OW := Lib.hid (show W2.ownsRow base 74 5 (.slice (some ⟨g, 0, none⟩) m cap) m (flat pc (ps.take i ++ ps.drop j)) from by
    have hlen : (flat pc (ps.take i ++ ps.drop j)).length = m * 5 := by rw [flat_len (m := 5) (fun x _ => rfl), List.length_append, List.length_take, List.length_drop]; omega
    refine ⟨hlen, .inr ⟨g, cap, _, rfl, hb, (by rw [hW2]; exact setRow_heap W1 g _ _ _ _ hg1), by omega, by unfold maxLen; omega, ?_, ?_⟩⟩
    · simp [hnz, hc1]; omega
    · have ht1 : cur1.toList.take (m * 5) = cur.toList.take (i * 5) ++ news := by
        rw [hcur1]
        rw [List.take_append_of_le_length (by simp [hnl]; omega)]
        exact List.take_of_length_le (by simp [hnl]; omega)
      have hsp : flat pc ps = flat pc (ps.take i) ++ flat pc (ps.drop i) := by rw [← flat_append, List.take_append_drop]
      have hsq : flat pc ps = flat pc (ps.take j) ++ flat pc (ps.drop j) := by rw [← flat_append, List.take_append_drop]
      have hli : (flat pc (ps.take i)).length = i * 5 := by rw [flat_len (m := 5) (fun x _ => rfl), List.length_take]; omega
      have hlj : (flat pc (ps.take j)).length = j * 5 := by rw [flat_len (m := 5) (fun x _ => rfl), List.length_take]; omega
      have hi5 : cur.toList.take (i * 5) = flat pc (ps.take i) := by
        have h1 : (cur.toList.take (n * 5)).take (i * 5) = cur.toList.take (i * 5) := by rw [List.take_take, Nat.min_eq_left (by omega)]
        rw [← h1, htk, hsp, ← hli, List.take_left]
      have hn5 : news = flat pc (ps.drop j) := by
        rw [hnews, htk, hsq, ← hlj, List.drop_left]
      rw [List.append_assoc, List.take_append_of_le_length (by simp; omega), List.take_of_length_le (by simp; omega), ht1, hi5, hn5, flat_append])
  have HCL := Lib.hid hcl
  have HX := Lib.hid hX
  have HM := Lib.hid hm
  have HW1 := Lib.hid hW1
  have m1 : m < cap := by omega
  have m2 : m ≤ n := by omega
  have m3 : ¬ cap = m := by omega
  have HMN := Lib.hid (show m + 1 = n by omega)
  clear hX hm hW1 hAD hsrc hn1 hnl hnews hcl hg1 hW2 hcur1 hc1 hnz hmi
  have HN := Lib.hid hn
  have HJ := Lib.hid hj
  have HG := Lib.hid hg
  have HT := Lib.hid htk
  have HS := Lib.hid hsz
  clear hn hj hg htk hsz hl
  go_enter Try.func42, Try.ntmps42
  go_upto_region 5 with (fail)
  refine InvL.wp_region_inv_tail (fun d w' => InvL.At 6 (fun w' => w' = w.drew) (fun w' => w' = W1) d w') 7 (by kernel_rfl) (by kernel_rfl) ?hI ?_
  case hI => exact InvL.At.start (by rfl) rfl
  simp only [List.take_succ_cons, List.take_zero, List.drop_succ_cons, List.drop_zero]
  refine InvL.invl_value (.slice (some ⟨g, 0, none⟩) n cap) rfl (fun d w' h => by go_simp; all_goals rfl) (fun d w' _ h => InvL.At.keep (by decide) id id h) ?_
  simp only [Act.put, List.setIfInBounds_toArray, List.set_cons_zero, List.set_cons_succ]
  refine InvL.invl_value (.int .i64 (i : Int)) rfl (fun d w' h => by go_simp; all_goals rfl) (fun d w' _ h => InvL.At.keep (by decide) id id h) ?_
  simp only [Act.put, List.setIfInBounds_toArray, List.set_cons_zero, List.set_cons_succ]
  refine InvL.invl_value (.slice (some ⟨g, 0, none⟩) i cap) rfl (fun d w' h => by go_simp; all_goals rfl) (fun d w' _ h => InvL.At.keep (by decide) id id h) ?_
  simp only [Act.put, List.setIfInBounds_toArray, List.set_cons_zero, List.set_cons_succ]
  refine InvL.invl_value (.slice (some ⟨g, 0, none⟩) n cap) rfl (fun d w' h => by go_simp; all_goals rfl) (fun d w' _ h => InvL.At.keep (by decide) id id h) ?_
  simp only [Act.put, List.setIfInBounds_toArray, List.set_cons_zero, List.set_cons_succ]
  refine InvL.invl_value (.int .i64 (j : Int)) rfl (fun d w' h => by go_simp; all_goals rfl) (fun d w' _ h => InvL.At.keep (by decide) id id h) ?_
  simp only [Act.put, List.setIfInBounds_toArray, List.set_cons_zero, List.set_cons_succ]
  refine InvL.invl_value (.slice X (n - j) (cap - j)) rfl (fun d w' h => by rw [HX.out]; go_simp; all_goals rfl) (fun d w' _ h => InvL.At.keep (by decide) id id h) ?_
  simp only [Act.put, List.setIfInBounds_toArray, List.set_cons_zero, List.set_cons_succ]
  refine InvL.invl_world (.slice (some ⟨g, 0, none⟩) m cap) rfl (fun d w' hd h => ⟨W1, by have e := h.before hd; subst e; exact exec_append _ _ rfl rfl rfl HR.out, InvL.At.now hd rfl⟩) ?_
  simp only [Act.put, List.setIfInBounds_toArray, List.set_cons_zero, List.set_cons_succ]
  refine InvL.invl_nil fun w6 hI => ?_
  have e6 := hI.done (by rfl)
  subst e6
  clear HR HX
  have hcl' := HCL.out
  go_wp2_with fail
  go_ret
  have e := HMN.out
  rw [show n - 1 = m by omega]
  exact ⟨rfl, OW.out, GR.out⟩
end Go.Proofs.Ytfjaoompdleljaa.Link
/-
  take and Drop of a link by contract. Helper text; no statement is proved here.
-/
set_option linter.unusedVariables false
set_option maxRecDepth 20000
set_option linter.unusedSimpArgs false
namespace Go.Proofs.Ytfjaoompdleljaa.Link
open Go.RowKit Go.Proofs.Ytfjaoompdleljaa.Base Go.Proofs.Ytfjaoompdleljaa.Laws Go.Proofs.Ytfjaoompdleljaa.Disk Go.Proofs.Ytfjaoompdleljaa.Row Go.Proofs.Ytfjaoompdleljaa.Flat Go.Proofs.Ytfjaoompdleljaa.InvM
theorem Goes.body {w w' : World} {bl : Nat} {V V' : Nat → Value} {A : List Nat} {k' : Lk} {y : Value} {B : List UInt8} (h : Goes w bl V A w' V' k') (hy : Body w (reach bl V ++ A) y B) : Body w' (reach bl V' ++ A) y B :=
  hy.move h.only (fun x hx => List.mem_append_left _ hx) (fun x hx => by
    rcases List.mem_append.1 hx with hx | hx
    · exact (h.kin.reach hx).imp (List.mem_append_left _) id
    · exact .inl (List.mem_append_right _ hx))
def Lk.less (k : Lk) (i : Nat) : Lk := { k with fl := k.fl.take i ++ k.fl.drop (i + 1) }
section
variable {w : World} {bl : Nat} {V : Nat → Value} {A : List Nat} {k : Lk}
/-- the packet at i leaves the list -/
theorem LinkAt.lessAt (h : LinkAt w bl V A k) (i : Nat) (hi : i < k.fl.length) : ∃ g cap y p, k.fl[i]? = some p ∧ V 4 = .slice (some ⟨g, 0, none⟩) k.fl.length cap ∧ Body w (reach bl V ++ A) y p.m.B ∧ (∀ j u, (pc (p, y))[j]? = some u → w.cell? ⟨g, i * 5 + j, none⟩ = some u) ∧ g ∈ reach bl V ∧ k.fl.length ≤ maxLen := by
  obtain ⟨ps, e, h1, h2⟩ := h.fl
  have hlen : ps.length = k.fl.length := by rw [← e]; simp
  obtain ⟨hl, h3⟩ := h1
  rcases h3 with ⟨e1, e2⟩ | ⟨g, cap, cur, e1, hb, hg, hnc, hcm, hsz, htk⟩
  · omega
  obtain ⟨q, hq⟩ : ∃ q, ps[i]? = some q := ⟨_, List.getElem?_eq_getElem (by omega)⟩
  refine ⟨g, cap, q.2, q.1, by rw [← e, List.getElem?_map, hq]; rfl, by rw [← hlen]; exact e1, h2 q (List.mem_of_getElem? hq), fun j u hu => ?_, mem_reach.2 (.inr ⟨4, by decide, by rw [e1]; rfl⟩), by omega⟩
  have hj : j < 5 := (List.getElem?_eq_some_iff.1 hu).1
  have := flat_get (m := 5) (f := pc) (fun x _ => rfl) hq hu
  rw [← htk, List.getElem?_take_of_lt (by omega)] at this
  rw [cell_of_row w g _ _ _ (0, 0) hg]
  simpa using this
theorem LinkAt.delete (h : LinkAt w bl V A k) (i n g cap : Nat) (hn : n = k.fl.length) (hi : i < n) (hv : V 4 = .slice (some ⟨g, 0, none⟩) n cap) :
    Calls Try.prog 42 #[.slice (some ⟨g, 0, none⟩) n cap, .int .i64 (i : Int), .int .i64 ((i + 1 : Nat) : Int)] w fun e w' => e = .returned (.slice (some ⟨g, 0, none⟩) (n - 1) cap) ∧ Goes w bl V A (w'.setCell ⟨bl, 9, none⟩ (.slice (some ⟨g, 0, none⟩) (n - 1) cap)) (upd V 4 (.slice (some ⟨g, 0, none⟩) (n - 1) cap)) (k.less i) ∧ w'.cell? ⟨bl, 9, none⟩ = some (.slice (some ⟨g, 0, none⟩) n cap) ∧ w'.frozen? ⟨bl, 9, none⟩ = false ∧ w.grownBy w' (some g) := by
  obtain ⟨ps, e, h1, h2⟩ := h.fl
  have hlen : ps.length = k.fl.length := by rw [← e]; simp
  rw [hv, show ps.length = n by omega] at h1
  refine (delete_one w (bl + 1) g cap ps n i (by omega) h1 hi (fun p hp => (h2 p hp).one)).mono ?_
  rintro e' w' ⟨rfl, ho, hg⟩
  have hob : (V 4).ownBlock = some g := by rw [hv]; rfl
  have hg' : w.grownBy w' (V 4).ownBlock := by rw [hob]; exact hg
  have hgr : g ∈ reach bl V := mem_reach.2 (.inr ⟨4, by decide, hob⟩)
  have hhead := h.head.grownO hg' (fun x hx => by have := h.row 4 (by decide) hx; omega)
  have hvb : (Value.slice (some ⟨g, 0, none⟩) (n - 1) cap).ownBlock = (V 4).ownBlock := by rw [hob]; rfl
  refine ⟨rfl, h.turned 4 (by decide) _ 9 (k.less i) hg' (.inl hvb) rfl (fun n hn _ => by rfl) (fun n hn _ => by rfl) (fun e => absurd rfl e) (fun n hn e => by omega) (fun n hn e => by omega) (fun _ => ?_), by rw [← hv]; exact hhead.cell 9, hhead.frozen 9, hg⟩
  refine ⟨ps.take i ++ ps.drop (i + 1), by rw [List.map_append, List.map_take, List.map_drop, e]; rfl, ?_, fun p hp => ?_⟩
  · have hl : (ps.take i ++ ps.drop (i + 1)).length = n - 1 := by rw [List.length_append, List.length_take, List.length_drop]; omega
    rw [hl]
    exact ho
  · have hp' : p ∈ ps := by
      rcases List.mem_append.1 hp with hp | hp
      · exact List.mem_of_mem_take hp
      · exact List.mem_of_mem_drop hp
    exact (h2 p hp').move (Only.of_grown hg) (fun x hx => List.mem_append_left _ ((List.mem_singleton.1 hx).symm ▸ hgr)) (reach_upd (by decide) (.inl hvb))
theorem take_ok (h : LinkAt w bl V A k) (i : Nat) (hi : i < k.fl.length) : Calls Try.prog 35 #[.pointer (some ⟨bl, 0, none⟩), .int .i64 (i : Int)] w fun e w' => ∃ p y V', k.fl[i]? = some p ∧ e = .returned (.tuple #[.agg (pc (p, y)).toArray, .bool true]) ∧ Goes w bl V A w' V' (k.less i) ∧ Body w' (reach bl V' ++ A) y p.m.B := by
  obtain ⟨g, cap, y, p, hp, hv4, hy, hcs, hgr, hml⟩ := h.lessAt i hi
  unfold maxLen at hml
  have hlt := h.head.lt
  have c9 : w.cell? ⟨bl, 9, none⟩ = some (V 4) := h.cell 9
  rw [hv4] at c9
  obtain ⟨n, hn⟩ : ∃ n, n = k.fl.length := ⟨_, rfl⟩
  rw [← hn] at c9 hi hv4 hml
  have H0 := Lib.hid h
  have HN := Lib.hid hn
  have HV4 := Lib.hid hv4
  have HY := Lib.hid hy
  have HCS := Lib.hid hcs
  obtain ⟨pv, hpv⟩ : ∃ pv, pv = pc (p, y) := ⟨_, rfl⟩
  have HPV := Lib.hid hpv
  have hil : (i : Int) < n := by omega
  have hgl := (h.reach_lt hgr).2
  clear h hn hv4 hy hcs hpv
  have Z := Lib.hid (blk_at (w := w) (g := w.heap.size) (cs := zpk) (t := 74) (arr := #[.int .i64 0, .int .u32 0, .int .u32 0, .int .u32 0, .slice none 0 0]) rfl rfl)
  go_enter Try.func35, Try.ntmps35
  go_upto_region 1 with (fail)
  obtain ⟨w1, hw1⟩ : ∃ w1, w1 = w.alloc (.cells #[.int .i64 0, .int .u32 0, .int .u32 0, .int .u32 0, .slice none 0 0] 74) := ⟨_, rfl⟩
  have L1 := Lib.hid (show Below w.heap.size w w1 from hw1 ▸ ((Below.refl w.heap.size w).alloc (Nat.le_refl _) _))
  have c9' : w1.cell? ⟨bl, 9, none⟩ = some (.slice (some ⟨g, 0, none⟩) n cap) := (Below.cell L1.out (p := ⟨bl, 9, none⟩) hlt).trans c9
  have hs1 : w.heap.size < w1.heap.size := by rw [hw1]; simp
  rw [← hw1] at Z ⊢
  clear hw1 c9
  go_upto_region 3 with (fail)
  have LD := Lib.hid (show ∀ j v, pv[j]? = some v → w1.cell? ((⟨g, i * 5, none⟩ : Addr).add j) = some v from fun j v hj => by
    rw [Addr.add_lit]
    exact (Below.cell L1.out (p := ⟨g, i * 5 + j, none⟩) hgl).trans (HCS.out j v (by rw [← HPV.out]; exact hj)))
  have P5 := Lib.hid (show pv.length = 5 by rw [HPV.out]; rfl)
  have P1 := Lib.hid (show ∀ u ∈ pv, u.oneCell' = true by rw [HPV.out]; exact pc_one HY.out.one)
  have Z2 := Lib.hid (blk_at (w := w1) (g := w1.heap.size) (cs := zpk) (t := 74) (arr := #[.int .i64 0, .int .u32 0, .int .u32 0, .int .u32 0, .slice none 0 0]) rfl rfl)
  go_upto_region 4 with (first | (refine wpList_value_g rfl (.agg pv.toArray) (exec_load_from rfl rfl LD.out Try.underlying74 rfl (by kernel_rfl) P5.out) ?_) | (refine wpList_store_blk rfl 74 _ _ rfl w1.heap.size 0 5 rfl 74 zpk pv rfl Z2.out (by kernel_rfl) P5.out (by decide) P1.out ?_; intro w3 z3 g3; have Z3 := Lib.hid z3; have G3 := Lib.hid g3; clear z3 g3))
  have hs3 : w1.heap.size < w3.heap.size := Z3.out.lt
  have B3 := Lib.hid (below_grown (L1.out.alloc (Nat.le_of_lt hs1) _) G3.out (by simp; omega) (Nat.le_of_lt hs1))
  have K3 := Lib.hid (H0.out.move (T := []) (A' := w.heap.size :: A) (Only.of_below B3.out) (by simp) (by simp) (fun x hx => by
    have := B3.out.size
    rcases List.mem_cons.1 hx with rfl | hx
    · exact ⟨.inr (Nat.le_refl _), by omega⟩
    · exact ⟨.inl hx, Nat.lt_of_lt_of_le (H0.out.out x hx) this⟩))
  have ZR := Lib.hid (show Blk w3 w.heap.size zpk 74 from (Z.out.alloc _).grown G3.out (by omega))
  have DL := Lib.hid (K3.out.delete i n g cap HN.out hi HV4.out)
  obtain ⟨t6, ht6⟩ : ∃ t6, t6 = w1.heap.size := ⟨_, rfl⟩
  obtain ⟨t4, ht4⟩ : ∃ t4, t4 = w.heap.size := ⟨_, rfl⟩
  have HT4 := Lib.hid ht4
  rw [← ht6] at Z3 hs1 hs3 ⊢
  rw [← ht4] at ZR hs1 ⊢
  have c93 : w3.cell? ⟨bl, 9, none⟩ = some (.slice (some ⟨g, 0, none⟩) n cap) := by rw [← HV4.out]; exact K3.out.cell 9
  have P6 := Lib.hid (show Blk w3 t6 pv 74 from by have := Z3.out; rwa [put_all _ _ (by rw [P5.out]; rfl)] at this)
  have hgg : g < t4 := by omega
  have hbb : bl < t4 := by omega
  have hs4 : t4 < w3.heap.size := ZR.out.lt
  clear G3 Z3 LD Z Z2 c9' L1 HCS ht6 ht4
  have ei : ((i : Int) + 1) = ((i + 1 : Nat) : Int) := by omega
  obtain ⟨j, hj⟩ : ∃ j, j = i + 1 := ⟨_, rfl⟩
  have jb : (j : Int) ≤ 9223372036854775807 := by omega
  rw [← hj] at DL ei
  clear hj
  go_wp2_with fail
  refine DL.out.mono ?_
  rintro e w4 ⟨rfl, hG, hc4, hf4, hg4⟩
  have HG := Lib.hid hG
  have Z4 := Lib.hid ((ZR.out.grown hg4 (by simp; omega)).setCell_far (show t4 ≠ bl by omega) 9 (.slice (some ⟨g, 0, none⟩) (n - 1) cap))
  have P4 := Lib.hid ((P6.out.grown hg4 (by simp; omega)).setCell_far (show t6 ≠ bl by omega) 9 (.slice (some ⟨g, 0, none⟩) (n - 1) cap))
  clear hG hg4 DL
  go_upto_region 5 with (fail)
  obtain ⟨w5, hw5⟩ : ∃ w5, w5 = w4.setCell ⟨bl, 9, none⟩ (.slice (some ⟨g, 0, none⟩) (n - 1) cap) := ⟨_, rfl⟩
  rw [← hw5] at HG Z4 P4 ⊢
  clear hw5 hc4 hf4
  go_wp2_with (first | (refine wpList_value_g rfl (.agg pv.toArray) (exec_load (cs := pv) (t := 74) rfl rfl P4.out Try.underlying74 rfl (by kernel_rfl) P5.out) ?_) | (refine wpList_store_blk rfl 74 _ _ rfl t4 0 5 rfl 74 zpk pv rfl Z4.out (by kernel_rfl) P5.out (by decide) P1.out ?_; intro w6 z6 g6; have Z6 := Lib.hid (show Blk w6 t4 pv 74 by (rw [put_all _ _ (by rw [P5.out]; rfl)] at z6; exact z6)); have G6 := Lib.hid g6; clear z6 g6))
  have hGoes : Goes w bl V A w6 (upd V 4 (.slice (some ⟨g, 0, none⟩) (n - 1) cap)) (k.less i) := by
    have hG := HG.out
    have ht : t4 ∉ reach bl (upd V 4 (.slice (some ⟨g, 0, none⟩) (n - 1) cap)) := fun hx => by
      rcases hG.kin.reach hx with e | e
      · have := H0.out.reach_lt e; have := HT4.out; omega
      · omega
    have ho : Only [t4] w5 w6 := Only.of_grown G6.out
    refine ⟨hG.at_.move ho (by rw [← HT4.out]; simp) (by simpa using ht) (fun x hx => ⟨.inl (by simp [hx]), Nat.lt_of_lt_of_le (hG.at_.out x (by simp [hx])) ho.size⟩), ?_, fun i hi g hg => ?_⟩
    · refine ⟨ho.os.trans (hG.only.os.trans B3.out.os), ho.tape.trans (hG.only.tape.trans B3.out.tape), ho.output.trans (hG.only.output.trans B3.out.output), Nat.le_trans B3.out.size (Nat.le_trans hG.only.size ho.size), fun x hx hn => ?_⟩
      have := HT4.out
      have h3 := B3.out.size
      have h4 := hG.only.size
      exact (ho.block x (by omega) (by simp; omega)).trans ((hG.only.block x (by omega) hn).trans (B3.out.block x hx))
    · rcases hG.kin i hi g hg with e | e
      · exact .inl e
      · exact .inr (by have := B3.out.size; omega)
  have hY : Body w6 (reach bl (upd V 4 (.slice (some ⟨g, 0, none⟩) (n - 1) cap)) ++ A) y p.m.B := hGoes.body HY.out
  exact bodyPost_ret (v := .tuple #[.agg pv.toArray, .bool true]) (results_cell_two rfl _ _ t4 74 _ (0, 0) _ _ rfl rfl Z6.out Try.underlying74 rfl (by rw [List.size_toArray, P5.out]; kernel_rfl)) rfl ⟨p, y, _, hp, by rw [HPV.out], hGoes, hY⟩
end
end Go.Proofs.Ytfjaoompdleljaa.Link
/-
  Drop of a link by contract. Helper text; no statement is proved here.
-/
set_option linter.unusedVariables false
set_option maxRecDepth 20000
set_option linter.unusedSimpArgs false
namespace Go.Proofs.Ytfjaoompdleljaa.Link
open Go.RowKit Go.Proofs.Ytfjaoompdleljaa.Base Go.Proofs.Ytfjaoompdleljaa.Laws Go.Proofs.Ytfjaoompdleljaa.Disk Go.Proofs.Ytfjaoompdleljaa.Row Go.Proofs.Ytfjaoompdleljaa.Flat Go.Proofs.Ytfjaoompdleljaa.InvM
section
variable {w : World} {bl : Nat} {V : Nat → Value} {A : List Nat} {k : Lk}
theorem drop_no (h : LinkAt w bl V A k) (i : Int) (hi : i < 0 ∨ (k.fl.length : Int) ≤ i) : Calls Try.prog 20 #[.pointer (some ⟨bl, 0, none⟩), .int .i64 i] w fun e w' => e = .returned (.int .i64 2) ∧ Below w.heap.size w w' := by
  have TN := Lib.hid (take_no h i hi)
  clear h hi
  go_enter Try.func20, Try.ntmps20
  go_wp2_with fail
  refine TN.out.mono ?_
  rintro e w1 ⟨rfl, hb⟩
  have HB := Lib.hid hb
  have hs := hb.size
  have Z := Lib.hid (blk_at (w := w1) (g := w1.heap.size) (cs := zpk) (t := 74) (arr := #[.int .i64 0, .int .u32 0, .int .u32 0, .int .u32 0, .slice none 0 0]) rfl rfl)
  clear hb TN
  go_wp2_with (first | (refine wpList_store_blk rfl 74 _ _ rfl w1.heap.size 0 5 rfl 74 zpk zpk rfl Z.out (by kernel_rfl) rfl (by decide) (by decide) ?_; intro w2 z2 g2; have L2 := Lib.hid (below_grown ((HB.out.alloc hs _)) g2 (by simp; omega) hs); clear z2 g2))
  go_ret
  exact ⟨rfl, L2.out⟩
theorem drop_ok (h : LinkAt w bl V A k) (i : Nat) (hi : i < k.fl.length) : Calls Try.prog 20 #[.pointer (some ⟨bl, 0, none⟩), .int .i64 (i : Int)] w fun e w' => e = .returned (.int .i64 0) ∧ ∃ V', Goes w bl V A w' V' (k.less i) := by
  have TN := Lib.hid (take_ok h i hi)
  clear h hi
  go_enter Try.func20, Try.ntmps20
  go_wp2_with fail
  refine TN.out.mono ?_
  rintro e w1 ⟨p, y, V1, hp, rfl, hG, hY⟩
  have HG := Lib.hid hG
  obtain ⟨pv, hpv⟩ : ∃ pv, pv = pc (p, y) := ⟨_, rfl⟩
  have P5 := Lib.hid (show pv.length = 5 by rw [hpv]; rfl)
  have P1 := Lib.hid (show ∀ u ∈ pv, u.oneCell' = true by rw [hpv]; exact pc_one hY.one)
  have Z := Lib.hid (blk_at (w := w1) (g := w1.heap.size) (cs := zpk) (t := 74) (arr := #[.int .i64 0, .int .u32 0, .int .u32 0, .int .u32 0, .slice none 0 0]) rfl rfl)
  rw [← hpv]
  clear hG hY TN hpv hp
  go_wp2_with (first | (refine wpList_store_blk rfl 74 _ _ rfl w1.heap.size 0 5 rfl 74 zpk pv rfl Z.out (by kernel_rfl) P5.out (by decide) P1.out ?_; intro w2 z2 g2; have L2 := Lib.hid (below_grown (((Below.refl w1.heap.size w1).alloc (Nat.le_refl _) _)) g2 (by simp) (Nat.le_refl _)); clear z2 g2))
  go_ret
  exact ⟨rfl, V1, HG.out.keep L2.out⟩
end
end Go.Proofs.Ytfjaoompdleljaa.Link
/-
  slices.DeleteFunc of messages by contract. Helper text; no statement is proved here.
-/
set_option linter.unusedVariables false
set_option maxRecDepth 20000
set_option linter.unusedSimpArgs false
namespace Go.Proofs.Ytfjaoompdleljaa.Link
open Go.RowKit Go.Proofs.Ytfjaoompdleljaa.Base Go.Proofs.Ytfjaoompdleljaa.Laws Go.Proofs.Ytfjaoompdleljaa.Disk Go.Proofs.Ytfjaoompdleljaa.Row Go.Proofs.Ytfjaoompdleljaa.Flat Go.Proofs.Ytfjaoompdleljaa.InvM
theorem acked_any (w : World) (m : Mk) (v : Value) (hv : v.oneCell' = true) (pb : Nat) (p : Pk) (y : Value) (hp : Blk w pb (pc (p, y)) 74) : Calls Try.prog 37 #[.agg (mc (m, v)).toArray, .pointer (some ⟨pb, 0, none⟩)] w fun e w' => e = .returned (.bool (decide (m.s ≤ p.m.k))) ∧ Below w.heap.size w w' := by
  have c3 : w.cell? ⟨pb, 3, none⟩ = some (.int .u32 (p.m.k : Int)) := hp.cell 3
  have hlt := hp.lt
  clear hp
  go_enter Try.func37, Try.ntmps37
  go_upto_region 1 with (fail)
  obtain ⟨w1, hw1⟩ : ∃ w1, w1 = w.alloc (.cells (mc (m, v)).toArray 71) := ⟨_, rfl⟩
  have c1 : w1.cell? ⟨w.heap.size, 1, none⟩ = some (.int .u32 (m.s : Int)) := by
    have h : Blk w1 w.heap.size (mc (m, v)) 71 := by rw [hw1]; exact blk_at rfl rfl
    exact h.cell 1
  have b1 : Below w.heap.size w w1 := hw1 ▸ ((Below.refl w.heap.size w).alloc (Nat.le_refl _) _)
  have c3' : w1.cell? ⟨pb, 3, none⟩ = some (.int .u32 (p.m.k : Int)) := (Below.cell b1 (p := ⟨pb, 3, none⟩) hlt).trans c3
  rw [← hw1]
  clear hw1 c3
  have B1 := Lib.hid b1
  clear b1
  go_wp2_with fail
  go_ret
  exact ⟨rfl, B1.out⟩
/-- is it kept? -/
def kept (K : Nat) (q : Mk × Value) : Bool := decide (K < q.1.s)
def Cl (pb : Nat) : Value := .func (.func 37) #[] #[.pointer (some ⟨pb, 0, none⟩)]
theorem index_any (w : World) (pb : Nat) (p : Pk) (y : Value) (hp : Blk w pb (pc (p, y)) 74) (ps : List (Mk × Value)) (a : Option Addr) (n c : Nat) (hn : n = ps.length) (hc : ∀ i q, ps[i]? = some q → ∃ g, a = some ⟨g, 0, none⟩ ∧ g < w.heap.size ∧ ∀ j u, (mc q)[j]? = some u → w.cell? ⟨g, i * 4 + j, none⟩ = some u) (h1 : ∀ q ∈ ps, q.2.oneCell' = true) (hm : n ≤ maxLen) :
    Calls Try.prog 43 #[.slice a n c, Cl pb] w fun e w' => ((e = .returned (.int .i64 (-1)) ∧ ps.all (kept p.m.k) = true) ∨ ∃ i : Nat, ∃ q, e = .returned (.int .i64 (i : Int)) ∧ ps[i]? = some q ∧ kept p.m.k q = false ∧ (ps.take i).all (kept p.m.k) = true) ∧ Below w.heap.size w w' := by
  unfold maxLen at hm
  have HP := Lib.hid hp
  have HN := Lib.hid hn
  have HC := Lib.hid hc
  have H1 := Lib.hid h1
  have hlt := hp.lt
  clear hp hn hc h1
  unfold Cl
  go_enter Try.func43, Try.ntmps43
  go_wp2
  go_loopw [8] (fun i wr => ∃ k : Nat, k ≤ n ∧ i = .int .i64 k ∧ (ps.take k).all (kept p.m.k) = true ∧ Below w.heap.size w wr) (fun i _ => n - (intOf i).toNat)
  case atStart => exact ⟨0, by omega, rfl, by simp, Below.refl _ _⟩
  case round =>
    obtain ⟨k, hk, rfl, ht, hb⟩ := hrel
    have HT := Lib.hid ht
    have HB := Lib.hid hb
    have hs := hb.size
    clear ht hb
    by_cases hkn : k < n
    · obtain ⟨q, hq⟩ : ∃ q, ps[k]? = some q := ⟨_, List.getElem?_eq_getElem (by have := HN.out; omega)⟩
      obtain ⟨g, rfl, hg, hcq⟩ := HC.out k q hq
      have HQ := Lib.hid hq
      obtain ⟨mv, hmv⟩ : ∃ mv, mv = mc q := ⟨_, rfl⟩
      have HMV := Lib.hid hmv
      have LD := Lib.hid (show ∀ j v, mv[j]? = some v → wr.cell? ((⟨g, k * 4, none⟩ : Addr).add j) = some v from fun j v hj => by
        rw [Addr.add_lit]
        exact (Below.cell HB.out (p := ⟨g, k * 4 + j, none⟩) hg).trans (hcq j v (by rw [← hmv]; exact hj)))
      have M4 := Lib.hid (show mv.length = 4 by rw [hmv]; rfl)
      clear hq hcq hmv
      go_wp2_with (first | (refine wpList_value_g rfl (.agg mv.toArray) (exec_load_from rfl rfl LD.out Try.underlying71 rfl (by kernel_rfl) M4.out) ?_))
      have AK := acked_any wr q.1 q.2 (H1.out q (List.mem_of_getElem? HQ.out)) pb p y (HP.out.below HB.out hlt)
      rw [show mc (q.1, q.2) = mv from HMV.out.symm] at AK
      refine AK.mono ?_
      rintro e w2 ⟨rfl, hb2⟩
      have HB2 := Lib.hid (HB.out.trans (hb2.mono hs))
      clear hb2 AK
      by_cases hle : q.1.s ≤ p.m.k
      · go_wp2_with fail
        go_ret
        exact ⟨.inr ⟨k, q, rfl, HQ.out, by unfold kept; exact decide_eq_false (by omega), HT.out⟩, HB2.out⟩
      · go_wp2_with fail
        go_roundw
        case rel => exact ⟨k + 1, by omega, by go_num, by rw [take_snoc ps k q HQ.out, List.all_append, HT.out]; simp [kept]; omega, HB2.out⟩
        case measure => simp [intOf]; omega
    · go_wp2_with fail
      go_ret
      refine ⟨.inl ⟨rfl, ?_⟩, HB.out⟩
      have := HT.out
      rwa [List.take_of_length_le (by have := HN.out; omega)] at this
end Go.Proofs.Ytfjaoompdleljaa.Link
/-
  slices.DeleteFunc of messages by contract. Helper text; no statement is proved here.
-/
set_option linter.unusedVariables false
set_option maxRecDepth 20000
set_option linter.unusedSimpArgs false
namespace Go.Proofs.Ytfjaoompdleljaa.Link
open Go.RowKit Go.Proofs.Ytfjaoompdleljaa.Base Go.Proofs.Ytfjaoompdleljaa.Laws Go.Proofs.Ytfjaoompdleljaa.Disk Go.Proofs.Ytfjaoompdleljaa.Row Go.Proofs.Ytfjaoompdleljaa.Flat Go.Proofs.Ytfjaoompdleljaa.InvM
theorem below_grownBy {w w' : World} {r : Option Nat} (h : Below w.heap.size w w') : w.grownBy w' r := ⟨h.os, h.tape, h.output, h.size, fun k hk _ => h.block k hk⟩
theorem put_app {α : Type} (A B vs : List α) (o : Nat) (h : o + vs.length ≤ A.length) : put (A ++ B) o vs = put A o vs ++ B := by
  unfold put
  rw [List.take_append_of_le_length (by omega), List.drop_append_of_le_length (by omega)]
  simp [List.append_assoc]
theorem set_take_same {α : Type} (l : List α) (i : Nat) (x : α) : (l.set i x).take i = l.take i := by
  rw [List.take_set_of_le (Nat.le_refl _)]
theorem deletefunc_any (w : World) (base pb : Nat) (p : Pk) (y : Value) (hp : Blk w pb (pc (p, y)) 74) (ps : List (Mk × Value)) (v : Value) (ho : w.ownsRow base 71 4 v ps.length (flat mc ps)) (h1 : ∀ q ∈ ps, q.2.oneCell' = true) (hpv : ∀ g, v.ownBlock = some g → g ≠ pb) :
    Calls Try.prog 36 #[v, Cl pb] w fun e w' => ∃ v', e = .returned v' ∧ w'.ownsRow base 71 4 v' (ps.filter (kept p.m.k)).length (flat mc (ps.filter (kept p.m.k))) ∧ w.grownBy w' v.ownBlock ∧ v'.ownBlock = v.ownBlock := by
  obtain ⟨a, n, c, hv, hn, hnm, hcs⟩ : ∃ a n c, v = .slice a n c ∧ n = ps.length ∧ n ≤ maxLen ∧ ∀ i q, ps[i]? = some q → ∃ g, a = some ⟨g, 0, none⟩ ∧ g < w.heap.size ∧ ∀ j u, (mc q)[j]? = some u → w.cell? ⟨g, i * 4 + j, none⟩ = some u := by
    obtain ⟨hl, h2⟩ := ho
    rcases h2 with ⟨rfl, e2⟩ | ⟨g, cap, cur, rfl, hb, hg, hnc, hcm, hsz, htk⟩
    · exact ⟨none, 0, 0, rfl, e2.symm, by unfold maxLen; omega, fun i q hq => by simp [List.eq_nil_of_length_eq_zero e2] at hq⟩
    · refine ⟨_, _, _, rfl, rfl, by omega, fun i q hq => ⟨g, rfl, (Array.getElem?_eq_some_iff.1 hg).1, fun j u hu => ?_⟩⟩
      have hi : i < ps.length := (List.getElem?_eq_some_iff.1 hq).1
      have hj : j < 4 := (List.getElem?_eq_some_iff.1 hu).1
      have := flat_get (m := 4) (f := mc) (fun x _ => rfl) hq hu
      rw [← htk, List.getElem?_take_of_lt (by omega)] at this
      rw [cell_of_row w g _ _ _ (0, 0) hg]
      simpa using this
  have IX := Lib.hid (index_any w pb p y hp ps a n c hn hcs h1 hnm)
  unfold maxLen at hnm
  have HO := Lib.hid ho
  have HP := Lib.hid hp
  have H1 := Lib.hid h1
  have HV := Lib.hid hv
  have HN := Lib.hid hn
  have HPV := Lib.hid hpv
  rw [hv]
  clear hcs hp ho h1 hv hn hpv
  unfold Cl at *
  go_enter Try.func36, Try.ntmps36
  go_wp2_with fail
  refine IX.out.mono ?_
  rintro e w1 ⟨hres, hb1⟩
  have HB1 := Lib.hid hb1
  clear IX hb1
  rcases hres with ⟨rfl, hall⟩ | ⟨ki0, q0, rfl, hq0, hk0, ht0⟩
  · have HA := Lib.hid hall
    clear hall
    go_wp2_with fail
    go_ret
    have e : ps.filter (kept p.m.k) = ps := List.filter_eq_self.2 (List.all_eq_true.1 HA.out)
    rw [e]
    exact ⟨v, by rw [HV.out]; rfl, own_only HO.out (Only.of_below (S := []) HB1.out) (by simp), below_grownBy HB1.out, by rw [HV.out]⟩
  · obtain ⟨g, rfl, hcm, spare, hsp, hblk, hnc, hbg⟩ : ∃ g, a = some ⟨g, 0, none⟩ ∧ c ≤ maxLen ∧ ∃ spare : List Value, spare.length = (c - n) * 4 ∧ Blk w g (flat mc ps ++ spare) 71 ∧ n ≤ c ∧ base ≤ g := by
      obtain ⟨hl, h2⟩ := HO.out
      have hn := HN.out
      rcases h2 with ⟨e1, e2⟩ | ⟨g, cap, cur, e1, hb, hg, hnc, hcm, hsz, htk⟩
      · simp [List.eq_nil_of_length_eq_zero e2] at hq0
      · rw [HV.out] at e1
        cases e1
        refine ⟨g, rfl, hcm, cur.toList.drop (ps.length * 4), ?_, ?_, hnc, hb⟩
        · simp [hsz]; omega
        · unfold Blk
          rw [← htk, List.take_append_drop]
          simpa using hg
    have hgp : g ≠ pb := HPV.out g (by rw [HV.out]; rfl)
    have GP := Lib.hid hgp
    have hki0 : ki0 < n := by have := (List.getElem?_eq_some_iff.1 hq0).1; have := HN.out; omega
    have SP := Lib.hid hsp
    have BL1 := Lib.hid (hblk.below HB1.out hblk.lt)
    have BP1 := Lib.hid (HP.out.below HB1.out HP.out.lt)
    have INI := Lib.hid (show ps.take ki0 = (ps.take (ki0 + 1)).filter (kept p.m.k) by
      rw [take_snoc ps ki0 q0 hq0, List.filter_append, List.filter_eq_self.2 (List.all_eq_true.1 ht0)]
      simp [hk0])
    have G1 := Lib.hid (below_grownBy (r := some g) HB1.out)
    unfold maxLen at hcm
    have HBG := Lib.hid hbg
    have HGL := Lib.hid hblk.lt
    clear hsp hblk hq0 hk0 ht0 hgp hbg
    go_wp2_with fail
    go_loopw [5, 6] (fun i j wr => ∃ ki kj : Nat, ∃ rows : List (Mk × Value), ki < kj ∧ kj ≤ n ∧ i = .int .i64 ki ∧ j = .int .i64 kj ∧ rows.length = n ∧ rows.take ki = (ps.take kj).filter (kept p.m.k) ∧ rows.drop kj = ps.drop kj ∧ Blk wr g (flat mc rows ++ spare) 71 ∧ w.grownBy wr (some g)) (fun i j _ => n - (intOf j).toNat)
    case atStart => exact ⟨ki0, ki0 + 1, ps, by omega, by omega, rfl, by go_num, HN.out.symm, INI.out, rfl, BL1.out, G1.out⟩
    case round =>
      obtain ⟨ki, kj, rows, hlt, hkj, rfl, rfl, hrl, hrt, hrd, hrb, hrg⟩ := hrel
      have RL := Lib.hid hrl
      have RT := Lib.hid hrt
      have RD := Lib.hid hrd
      have RB := Lib.hid hrb
      have RG := Lib.hid hrg
      clear hrl hrt hrd hrb hrg
      by_cases hjn : kj < n
      · obtain ⟨q, hq⟩ : ∃ q, ps[kj]? = some q := ⟨_, List.getElem?_eq_getElem (by have := HN.out; omega)⟩
        have hqr : rows[kj]? = some q := by
          have := congrArg (fun l => l[0]?) RD.out
          simp only [List.getElem?_drop, Nat.add_zero] at this
          rw [this]; exact hq
        have HQ := Lib.hid hq
        obtain ⟨mv, hmv⟩ : ∃ mv, mv = mc q := ⟨_, rfl⟩
        have HMV := Lib.hid hmv
        have LD := Lib.hid (show ∀ j v, mv[j]? = some v → wr.cell? ((⟨g, kj * 4, none⟩ : Addr).add j) = some v from fun j v hj => by
          rw [Addr.add_lit, RB.out.cell]
          rw [List.getElem?_append_left (by
            have := flat_get (m := 4) (f := mc) (fun x _ => rfl) hqr (by rw [← hmv]; exact hj)
            exact (List.getElem?_eq_some_iff.1 this).1)]
          exact flat_get (m := 4) (f := mc) (fun x _ => rfl) hqr (by rw [← hmv]; exact hj))
        have M4 := Lib.hid (show mv.length = 4 by rw [hmv]; rfl)
        have M1 := Lib.hid (show ∀ u ∈ mv, u.oneCell' = true by rw [hmv]; exact mc_one (H1.out q (List.mem_of_getElem? hq)))
        have Z2 := Lib.hid (blk_at (w := wr) (g := wr.heap.size) (cs := zmk) (t := 71) (arr := #[.int .u32 0, .int .u32 0, .int .u32 0, .slice none 0 0]) rfl rfl)
        clear hq hqr hmv
        have jc : kj < c := by omega
        go_upto_region 8 with (first | (refine wpList_value_g rfl (.agg mv.toArray) (exec_load_from rfl rfl LD.out Try.underlying71 rfl (by kernel_rfl) M4.out) ?_) | (refine wpList_store_blk rfl 71 _ _ rfl wr.heap.size 0 4 rfl 71 zmk mv rfl Z2.out (by kernel_rfl) M4.out (by decide) M1.out ?_; intro w3 z3 g3; have Z3 := Lib.hid z3; have G3 := Lib.hid g3; clear z3 g3))
        have B3 := Lib.hid (below_grown ((Below.refl wr.heap.size wr).alloc (Nat.le_refl _) _) G3.out (by simp) (Nat.le_refl _))
        have P6 := Lib.hid (show Blk w3 wr.heap.size mv 71 from by have := Z3.out; rwa [put_all _ _ (by rw [M4.out]; rfl)] at this)
        have hs3 : wr.heap.size < w3.heap.size := P6.out.lt
        have gw : g < wr.heap.size := RB.out.lt
        have RB3 := Lib.hid (RB.out.below B3.out gw)
        have BPr := HP.out.grown RG.out (Ne.symm GP.out)
        have BP3 := BPr.below B3.out BPr.lt
        have pl : pb < w3.heap.size := BP3.lt
        have AK := acked_any w3.drew q.1 q.2 (H1.out q (List.mem_of_getElem? HQ.out)) pb p y BP3
        rw [show mc (q.1, q.2) = mv from HMV.out.symm] at AK
        have AK0 := acked_any w3 q.1 q.2 (H1.out q (List.mem_of_getElem? HQ.out)) pb p y BP3
        rw [show mc (q.1, q.2) = mv from HMV.out.symm] at AK0
        have AK := Lib.hid AK
        have AK0 := Lib.hid AK0
        have RG3 := Lib.hid (grown_trans RG.out (below_grownBy (r := some g) B3.out))
        clear G3 Z3 LD Z2 BPr BP3
        simp only [Act.put]
        go_wp2_with (first | (refine wpList_value_g rfl (.agg mv.toArray) (exec_load (cs := mv) (t := 71) rfl rfl P6.out Try.underlying71 rfl (by kernel_rfl) M4.out) ?_))
        refine AK0.out.mono ?_
        rintro e w4 ⟨rfl, hb4⟩
        have RB4 := Lib.hid (RB3.out.below hb4 (by omega))
        have P64 := Lib.hid (P6.out.below hb4 hs3)
        have RG4 := Lib.hid (grown_trans RG3.out (below_grownBy (r := some g) hb4))
        clear hb4 AK AK0 RB3 P6 RG3 B3 RB RG
        have RDs := Lib.hid (show rows.drop (kj + 1) = ps.drop (kj + 1) by
          have := congrArg (List.drop 1) RD.out
          rwa [List.drop_drop, List.drop_drop] at this)
        by_cases hle : q.1.s ≤ p.m.k
        · go_wp2_with fail
          refine ⟨?_, ?measure⟩
          (repeat apply Exists.intro)
          refine ⟨?rel, rfl⟩
          case rel => exact ⟨ki, kj + 1, rows, by omega, by omega, rfl, by go_num, RL.out, by rw [RT.out, take_snoc ps kj q HQ.out, List.filter_append]; simp [kept]; omega, RDs.out, RB4.out, RG4.out⟩
          case measure => simp [intOf]; omega
        · have hst : put (flat mc rows ++ spare) (ki * 4) mv = flat mc (rows.set ki q) ++ spare := by
            have hlr : (flat mc rows).length = n * 4 := by rw [flat_len (m := 4) (fun x _ => rfl), RL.out]
            rw [put_app _ _ _ _ (by rw [M4.out, hlr]; omega), HMV.out, flat_put (m := 4) (fun x _ => rfl) rfl (by rw [RL.out]; omega)]
          have ST := Lib.hid hst
          have hfit : ki * 4 + 4 ≤ (flat mc rows ++ spare).length := by
            rw [List.length_append, flat_len (m := 4) (fun x _ => rfl), RL.out]; omega
          have ic : ki < n := by omega
          clear hst
          go_wp2_with (first | (refine wpList_value_g rfl (.agg mv.toArray) (exec_load (cs := mv) (t := 71) rfl rfl P64.out Try.underlying71 rfl (by kernel_rfl) M4.out) ?_) | (refine wpList_store_blk rfl 71 _ _ rfl g (ki * 4) 4 rfl 71 _ mv rfl RB4.out (by kernel_rfl) M4.out hfit M1.out ?_; intro w5 z5 g5; rw [ST.out] at z5; have Z5 := Lib.hid z5; have G5 := Lib.hid (grown_trans RG4.out g5); clear z5 g5))
          refine ⟨?_, ?measure⟩
          (repeat apply Exists.intro)
          refine ⟨?rel, rfl⟩
          case rel => exact ⟨ki + 1, kj + 1, rows.set ki q, by omega, by omega, by go_num, by go_num, by rw [List.length_set, RL.out], by
            rw [take_snoc ps kj q HQ.out, List.filter_append, ← RT.out, take_snoc (rows.set ki q) ki q (by rw [List.getElem?_set_self (by rw [RL.out]; omega)]), set_take_same]
            rw [show List.filter (kept p.m.k) [q] = [q] from by rw [List.filter_cons_of_pos (by unfold kept; exact decide_eq_true (by omega))]; rfl], by rw [List.drop_set]; rw [if_pos (by omega)]; exact RDs.out, Z5.out, G5.out⟩
          case measure => simp [intOf]; omega
      · obtain rfl : kj = n := by omega
        obtain ⟨fp, hfp⟩ : ∃ fp, fp = ps.filter (kept p.m.k) := ⟨_, rfl⟩
        have HF := Lib.hid hfp
        have FT := Lib.hid (show rows.take ki = fp by
          have := RT.out
          rwa [List.take_of_length_le (l := ps) (by have := HN.out; omega), ← hfp] at this)
        have FL := Lib.hid (show fp.length = ki by rw [← FT.out, List.length_take, RL.out]; omega)
        have m1 : ki < c := by omega
        have m2 : ki ≤ kj := by omega
        have m3 : ¬ c = ki := by omega
        obtain ⟨i0, hi0, hz0, hz1, hz2⟩ := info_parts info_mk
        obtain ⟨cur1, hcur1⟩ : ∃ cur1, cur1 = (flat mc rows ++ spare).toArray := ⟨_, rfl⟩
        have hlr : (flat mc rows).length = kj * 4 := by rw [flat_len (m := 4) (fun x _ => rfl), RL.out]
        have hc1 : cur1.size = c * 4 := by rw [hcur1]; simp [SP.out, hlr]; omega
        have hg1 : wr.heap[g]? = some (.cells cur1 71 (0, 0)) := by rw [hcur1]; exact RB.out
        obtain ⟨nz, hnz, hcl⟩ := run_clear_row (P := Try.prog) wr 48 71 0 (.agg #[.int .u32 0, .int .u32 0, .int .u32 0, .slice none 0 0]) 4 Try.underlying48 (fun w => by simp [zeroValue, typeInfo, hi0, hz0]) rfl (by decide) g (ki * 4) (kj - ki) (c - ki) (by omega) cur1 hg1 (by rw [hc1]; omega)
        obtain ⟨W2, hW2⟩ : ∃ W2, W2 = wr.setRow g (cur1.toList.take (ki * 4) ++ nz ++ cur1.toList.drop (ki * 4 + nz.length)).toArray := ⟨_, rfl⟩
        rw [← hW2] at hcl
        have GR := Lib.hid (show w.grownBy W2 (some g) from by rw [hW2]; exact grown_trans RG.out (grown_setRow _ _ _))
        have OW := Lib.hid (show W2.ownsRow base 71 4 (.slice (some ⟨g, 0, none⟩) ki c) ki (flat mc fp) from by
          refine ⟨by rw [flat_len (m := 4) (fun x _ => rfl), FL.out], .inr ⟨g, c, _, rfl, HBG.out, (by rw [hW2]; exact setRow_heap wr g _ _ _ _ hg1), by omega, by unfold maxLen; omega, ?_, ?_⟩⟩
          · simp [hnz, hc1]; omega
          · have hlk : (flat mc (rows.take ki)).length = ki * 4 := by rw [flat_len (m := 4) (fun x _ => rfl), List.length_take, RL.out]; omega
            have hsp : flat mc rows = flat mc (rows.take ki) ++ flat mc (rows.drop ki) := by rw [← flat_append, List.take_append_drop]
            have ht1 : cur1.toList.take (ki * 4) = flat mc (rows.take ki) := by
              rw [hcur1]
              rw [List.take_append_of_le_length (by omega), hsp, ← hlk, List.take_left]
            rw [List.append_assoc, List.take_append_of_le_length (by simp; omega), List.take_of_length_le (by rw [List.length_take]; omega), ht1, FT.out])
        have HCL := Lib.hid hcl
        clear hcl hW2 hg1 hc1 hlr hcur1 hnz RB RG RD RT SP hfp hi0 hz0 hz1 hz2
        have hcl' := HCL.out
        go_wp2_with fail
        go_ret
        refine ⟨_, rfl, ?_, by exact GR.out, rfl⟩
        rw [← HF.out, FL.out]
        exact OW.out
end Go.Proofs.Ytfjaoompdleljaa.Link
/-
  What is acknowledged leaves the open messages. Helper text; no statement is proved here.
-/
set_option linter.unusedVariables false
set_option maxRecDepth 20000
set_option linter.unusedSimpArgs false
namespace Go.Proofs.Ytfjaoompdleljaa.Link
open Go.RowKit Go.Proofs.Ytfjaoompdleljaa.Base Go.Proofs.Ytfjaoompdleljaa.Laws Go.Proofs.Ytfjaoompdleljaa.Disk Go.Proofs.Ytfjaoompdleljaa.Row Go.Proofs.Ytfjaoompdleljaa.Flat Go.Proofs.Ytfjaoompdleljaa.InvM
def Lk.ackd (k : Lk) (n K : Nat) : Lk := k.with n { k.en n with op := (k.en n).op.filter (fun m => decide (K < m.s)) }
def Lk.come1 (k : Lk) (n : Nat) : Lk := k.with n { k.en n with come := ((k.en n).come + 1) % 4294967296 }
def Lk.handed (k : Lk) (n : Nat) (m : Mk) : Lk := if m.s = ((k.en n).come + 1) % 4294967296 then (k.come1 n).addGot n m.B else k
def Lk.answer (k : Lk) (n : Nat) : Lk := if k.fl.length < 1024 then k.put n 0 [] else k
def Lk.comes (k : Lk) (p : Pk) : Lk :=
  if p.m.e = k.ep then
    if p.m.B = [] then k.ackd (1 - p.f) p.m.k else ((k.ackd (1 - p.f) p.m.k).handed (1 - p.f) p.m).answer (1 - p.f)
  else k
section
variable {w : World} {bl : Nat} {V : Nat → Value} {A : List Nat} {k : Lk}
theorem LinkAt.acked (h : LinkAt w bl V A k) (n : Nat) (hn : n < 2) {pb : Nat} {p : Pk} {y : Value} (hp : Blk w pb (pc (p, y)) 74) (hpb : pb ∉ reach bl V) :
    Calls Try.prog 36 #[V (2 * n), Cl pb] w fun e w' => ∃ v' : Value, e = .returned v' ∧ Goes w bl V A (w'.setCell ⟨bl, 1 + 4 * n, none⟩ v') (upd V (2 * n) v') (k.ackd n p.m.k) ∧ w'.cell? ⟨bl, 1 + 4 * n, none⟩ = some (V (2 * n)) ∧ w'.frozen? ⟨bl, 1 + 4 * n, none⟩ = false ∧ w.grownBy w' (V (2 * n)).ownBlock := by
  obtain ⟨ps, e, h1, h2⟩ := h.o n hn
  refine (deletefunc_any w (bl + 1) pb p y hp ps (V (2 * n)) h1 (fun q hq => (h2 q hq).one) (fun g hg e => hpb (mem_reach.2 (.inr ⟨2 * n, by omega, by rw [hg, e]⟩)))).mono ?_
  rintro e' w' ⟨v', rfl, ho, hg, hvb⟩
  have hhead := h.head.grownO hg (fun x hx => by have := h.row (2 * n) (by omega) hx; omega)
  have hin : ∀ x, (V (2 * n)).ownBlock = some x → x ∈ reach bl V ++ A := fun x hx => List.mem_append_left _ (mem_reach.2 (.inr ⟨2 * n, by omega, hx⟩))
  have hon : Only (V (2 * n)).ownBlock.toList w w' := ⟨hg.os, hg.tape, hg.output, hg.size, fun k hk hn => hg.block k hk (by intro e; apply hn; rw [← e]; simp)⟩
  have hmap : (ps.filter (kept p.m.k)).map Prod.fst = ((k.en n).op.filter (fun m => decide (p.m.k < m.s))) := by
    rw [← e, List.filter_map]
    rfl
  refine ⟨v', rfl, h.turned (2 * n) (by omega) v' (1 + 4 * n) (k.ackd n p.m.k) hg (.inl hvb) ?_ (fun m hm hne => ?_) (fun m hm _ => ?_) (fun _ => ?_) (fun m hm e => ?_) (fun m hm e => by omega) (fun e => by omega), ?_, hhead.frozen _, hg⟩
  · obtain rfl | rfl : n = 0 ∨ n = 1 := by omega
    · rfl
    · rfl
  · obtain ⟨rfl, rfl⟩ | ⟨rfl, rfl⟩ : (n = 0 ∧ m = 1) ∨ (n = 1 ∧ m = 0) := by omega
    · rfl
    · rfl
  · obtain rfl | rfl : n = 0 ∨ n = 1 := by omega
    · obtain rfl | rfl : m = 0 ∨ m = 1 := by omega
      · rfl
      · rfl
    · obtain rfl | rfl : m = 0 ∨ m = 1 := by omega
      · rfl
      · rfl
  · obtain rfl | rfl : n = 0 ∨ n = 1 := by omega
    · rfl
    · rfl
  · obtain rfl : m = n := by omega
    have e2 : ((k.ackd m p.m.k).en m).op = (k.en m).op.filter (fun x => decide (p.m.k < x.s)) := by
      obtain rfl | rfl : m = 0 ∨ m = 1 := by omega
      · rfl
      · rfl
    rw [e2]
    exact ⟨_, hmap, ho, fun q hq => (h2 q (List.mem_filter.1 hq).1).move hon (fun x hx => hin x (by simpa using hx)) (reach_upd (by omega) (.inl hvb))⟩
  · rw [hhead.cell]
    obtain rfl | rfl : n = 0 ∨ n = 1 := by omega
    · rfl
    · rfl
end
end Go.Proofs.Ytfjaoompdleljaa.Link
/-
  Deliver of a link by contract. Helper text; no statement is proved here.
-/
set_option linter.unusedVariables false
set_option maxRecDepth 20000
set_option linter.unusedSimpArgs false
namespace Go.Proofs.Ytfjaoompdleljaa.Link
open Go.RowKit Go.Proofs.Ytfjaoompdleljaa.Base Go.Proofs.Ytfjaoompdleljaa.Laws Go.Proofs.Ytfjaoompdleljaa.Disk Go.Proofs.Ytfjaoompdleljaa.Row Go.Proofs.Ytfjaoompdleljaa.Flat Go.Proofs.Ytfjaoompdleljaa.InvM Go.Proofs.Ytfjaoompdleljaa.Inv Go.Proofs.Ytfjaoompdleljaa.InvL Go.Proofs.Ytfjaoompdleljaa.InvC Go.Proofs.Ytfjaoompdleljaa.InvG
theorem Goes.drewN {w w' : World} {bl : Nat} {V V' : Nat → Value} {A : List Nat} {k' : Lk} (h : Goes w bl V A w' V' k') (n : Nat) : Goes w bl V A (w'.drewN n) V' k' := h.keep ⟨rfl, rfl, rfl, Nat.le_refl _, fun _ _ => rfl⟩
theorem Body.drewN {w : World} {S : List Nat} {v : Value} {B : List UInt8} (h : Body w S v B) (n : Nat) : Body (w.drewN n) S v B := h.move (T := []) ((Only.refl [] w).drewN n) (by simp) (fun x hx => .inl hx)
section
variable {w : World} {bl : Nat} {V : Nat → Value} {A : List Nat} {k : Lk}
theorem deliver_no (h : LinkAt w bl V A k) (i : Int) (hi : i < 0 ∨ (k.fl.length : Int) ≤ i) : Calls Try.prog 15 #[.pointer (some ⟨bl, 0, none⟩), .int .i64 i] w fun e w' => e = .returned (.int .i64 2) ∧ Below w.heap.size w w' := by
  have TN := Lib.hid (take_no h i hi)
  clear h hi
  go_enter Try.func15, Try.ntmps15
  go_wp2_with fail
  refine TN.out.mono ?_
  rintro e w1 ⟨rfl, hb⟩
  have HB := Lib.hid hb
  have hs := hb.size
  have Z := Lib.hid (blk_at (w := w1) (g := w1.heap.size) (cs := zpk) (t := 74) (arr := #[.int .i64 0, .int .u32 0, .int .u32 0, .int .u32 0, .slice none 0 0]) rfl rfl)
  clear hb TN
  go_wp2_with (first | (refine wpList_store_blk rfl 74 _ _ rfl w1.heap.size 0 5 rfl 74 zpk zpk rfl Z.out (by kernel_rfl) rfl (by decide) (by decide) ?_; intro w2 z2 g2; have L2 := Lib.hid (below_grown ((HB.out.alloc hs _)) g2 (by simp; omega) hs); clear z2 g2))
  go_ret
  exact ⟨rfl, L2.out⟩
set_option maxHeartbeats 2000000 in
theorem deliver_ok0 (h : LinkAt w bl V A k) (i : Nat) (p : Pk) (hp : k.fl[i]? = some p) (hf : p.f = 1) (hgot : ((k.en 0).got.length + 1) * 24 ≤ 140737488355328) : Calls Try.prog 15 #[.pointer (some ⟨bl, 0, none⟩), .int .i64 (i : Int)] w fun e w' => e = .returned (.int .i64 0) ∧ ∃ V', Goes w bl V A w' V' ((k.less i).comes p) := by
  have hi : i < k.fl.length := (List.getElem?_eq_some_iff.1 hp).1
  have TN := Lib.hid (take_ok h i hi)
  have HPI := Lib.hid hp
  have HGT := Lib.hid hgot
  clear h hi hp hgot
  go_enter Try.func15, Try.ntmps15
  go_wp2_with fail
  refine TN.out.mono ?_
  rintro e w1 ⟨p', y, V1, hp', rfl, hG, hY⟩
  obtain rfl : p = p' := by have := HPI.out; rw [hp'] at this; exact (Option.some.inj this).symm
  have HG1 := Lib.hid hG
  have HY1 := Lib.hid hY
  obtain ⟨pv, hpv⟩ : ∃ pv, pv = pc (p, y) := ⟨_, rfl⟩
  have HPV := Lib.hid hpv
  have P5 := Lib.hid (show pv.length = 5 by rw [hpv]; rfl)
  have P1 := Lib.hid (show ∀ u ∈ pv, u.oneCell' = true by rw [hpv]; exact pc_one hY.one)
  have Z := Lib.hid (blk_at (w := w1) (g := w1.heap.size) (cs := zpk) (t := 74) (arr := #[.int .i64 0, .int .u32 0, .int .u32 0, .int .u32 0, .slice none 0 0]) rfl rfl)
  rw [← hpv]
  clear hG hY TN hpv hp'
  go_upto_region 4 with (first | (refine wpList_store_blk rfl 74 _ _ rfl w1.heap.size 0 5 rfl 74 zpk pv rfl Z.out (by kernel_rfl) P5.out (by decide) P1.out ?_; intro w2 z2 g2; have L2 := Lib.hid (below_grown (((Below.refl w1.heap.size w1).alloc (Nat.le_refl _) _)) g2 (by simp) (Nat.le_refl _)); have Z2 := Lib.hid z2; clear z2 g2))
  obtain ⟨pb, hpb⟩ : ∃ pb, pb = w1.heap.size := ⟨_, rfl⟩
  have PB := Lib.hid (show Blk w2 pb (pc (p, y)) 74 from by have := Z2.out; rw [put_all _ _ (by rw [P5.out]; rfl), ← hpb, HPV.out] at this; exact this)
  have PBR := Lib.hid (show pb ∉ reach bl V1 from fun hx => by have := HG1.out.at_.reach_lt hx; omega)
  have G2 := Lib.hid (HG1.out.keep L2.out)
  have Y2 := Lib.hid (HY1.out.move (Only.of_below (S := []) L2.out) (by simp) (fun x hx => .inl hx))
  have q0 : w2.cell? ⟨pb, 0, none⟩ = some (.int .i64 1) := by have := PB.out.cell 0; rw [this]; simp [pc, hf]
  have q1 : w2.cell? ⟨pb, 1, none⟩ = some (.int .u32 (p.m.e : Int)) := PB.out.cell 1
  have q3 : w2.cell? ⟨bl, 0, none⟩ = some (.int .u32 (k.ep : Int)) := G2.out.at_.cell 0
  rw [← hpb]
  clear Z Z2 L2 P1 P5 HPV HG1 HY1 hpb
  go_quiet (fail)
  have PB := Lib.hid (PB.out.drewN nq)
  have G2 := Lib.hid (G2.out.drewN nq)
  have Y2 := Lib.hid (Y2.out.drewN nq)
  have q4 : (w2.drewN nq).cell? ⟨bl, 1, none⟩ = some (V1 0) := G2.out.at_.cell 1
  have q0 : (w2.drewN nq).cell? ⟨pb, 0, none⟩ = some (.int .i64 1) := q0
  obtain ⟨w3, hw3⟩ : ∃ w3, w3 = w2.drewN nq := ⟨_, rfl⟩
  rw [← hw3] at PB G2 Y2 q4 q0 ⊢
  clear hw3
  clear q1 q3
  by_cases he : p.m.e = k.ep
  rotate_left
  · have he' : ¬ ((p.m.e : Int) = (k.ep : Int)) := by omega
    clear PB PBR Y2
    go_wp2_with fail
    go_ret
    refine ⟨rfl, V1, ?_⟩
    have e : (k.less i).comes p = k.less i := if_neg he
    rw [e]
    exact G2.out
  have he' : ((p.m.e : Int) = (k.ep : Int)) := by omega
  have hlt := G2.out.at_.head.lt
  have AC := Lib.hid (show Calls Try.prog 36 #[V1 0, Cl pb] w3 fun e w' => ∃ v' : Value, e = .returned v' ∧ Goes w3 bl V1 A (w'.setCell ⟨bl, 1, none⟩ v') (upd V1 0 v') ((k.less i).ackd 0 p.m.k) ∧ w'.cell? ⟨bl, 1, none⟩ = some (V1 0) ∧ w'.frozen? ⟨bl, 1, none⟩ = false ∧ w3.grownBy w' (V1 0).ownBlock from G2.out.at_.acked 0 (by decide) PB.out PBR.out)
  obtain ⟨vo, hvo⟩ : ∃ vo, vo = V1 0 := ⟨_, rfl⟩
  rw [← hvo] at AC q4
  clear hvo
  unfold Cl at AC
  go_wp2_with (fail)
  refine AC.out.mono ?_
  rintro e w5 ⟨vv, rfl, ga, ca, fa, gg⟩
  obtain ⟨sa, sc, hsv, _⟩ := ga.at_.slO 0 (by decide)
  obtain ⟨sn, hsn⟩ : ∃ sn, sn = (((k.less i).ackd 0 p.m.k).en 0).op.length := ⟨_, rfl⟩
  rw [show 2 * 0 = 0 from rfl, upd_self, ← hsn] at hsv
  subst hsv
  have GA := Lib.hid ga
  clear hsn
  clear ga gg AC
  go_upto_region 9 with (fail)
  obtain ⟨w4, hw4⟩ : ∃ w4, w4 = w5.setCell ⟨bl, 1, none⟩ (.slice sa sn sc) := ⟨_, rfl⟩
  rw [← hw4] at GA ⊢
  clear hw4 ca fa q0 q4
  obtain ⟨kd, hkd⟩ : ∃ kd, kd = (k.less i).ackd 0 p.m.k := ⟨_, rfl⟩
  have HKD := Lib.hid hkd
  rw [← hkd] at GA
  clear hkd
  have G4 := Lib.hid (G2.out.trans GA.out)
  have PB4 := Lib.hid (PB.out.only GA.out.only PBR.out)
  have Y4 := Lib.hid (GA.out.body Y2.out)
  obtain ⟨ya, yc, hy, _, hb64⟩ := Y4.out.slice
  obtain ⟨bn, hbn⟩ : ∃ bn, bn = p.m.B.length := ⟨_, rfl⟩
  rw [← hbn] at hy hb64
  have HY := Lib.hid hy
  have q5 : w4.cell? ⟨pb, 4, none⟩ = some (.slice ya bn yc) := by rw [← hy]; exact PB4.out.cell 4
  clear hy
  by_cases hB : p.m.B = []
  · have hb0 : bn = 0 := by rw [hbn, hB]; rfl
    subst hb0
    have HB0 := Lib.hid hB
    clear PB PBR PB4 Y4 Y2 G2 GA HY hbn hB
    go_wp2_with fail
    go_ret
    refine ⟨rfl, upd V1 0 (.slice sa sn sc), ?_⟩
    have e : (k.less i).comes p = kd := by
      rw [HKD.out]
      unfold Lk.comes
      rw [if_pos (show p.m.e = (k.less i).ep from he), if_pos HB0.out, hf]
    rw [e]
    exact G4.out
  have hb0 : bn ≠ 0 := by rw [hbn]; intro e; exact hB (List.eq_nil_of_length_eq_zero e)
  have HB0 := Lib.hid hB
  clear hB
  obtain ⟨cm, hcm⟩ : ∃ cm, cm = (kd.en 0).come := ⟨_, rfl⟩
  have HCM := Lib.hid hcm
  have q6 : w4.cell? ⟨bl, 3, none⟩ = some (.int .u32 (cm : Int)) := by rw [hcm]; exact G4.out.at_.cell 3
  have q7 : w4.cell? ⟨pb, 2, none⟩ = some (.int .u32 (p.m.s : Int)) := PB4.out.cell 2
  clear hcm hbn G2 Y2
  go_upto_region 11 with (fail)
  have q9 : w4.frozen? ⟨bl, 3, none⟩ = false := G4.out.at_.head.frozen 3
  go_quiet (fail)
  have PB4 := Lib.hid (PB4.out.drewN nq)
  have G4 := Lib.hid (G4.out.drewN nq)
  have Y4 := Lib.hid (Y4.out.drewN nq)
  have q5 : (w4.drewN nq).cell? ⟨pb, 4, none⟩ = some (.slice ya bn yc) := q5
  have q6 : (w4.drewN nq).cell? ⟨bl, 3, none⟩ = some (.int .u32 (cm : Int)) := q6
  have q9 : (w4.drewN nq).frozen? ⟨bl, 3, none⟩ = false := q9
  clear q7
  obtain ⟨w6, hw6⟩ : ∃ w6, w6 = w4.drewN nq := ⟨_, rfl⟩
  rw [← hw6] at PB4 G4 Y4 q5 q6 q9 ⊢
  clear hw6
  obtain ⟨c1, hc1⟩ : ∃ c1, c1 = (cm + 1) % 4294967296 := ⟨_, rfl⟩
  have hw : IntKind.u32.wrap ((cm : Int) + 1) = (c1 : Int) := by rw [IntKind.wrap_u32]; omega
  rw [hw]
  have HC1 := Lib.hid hc1
  clear hw hc1
  by_cases hs : p.m.s = c1
  rotate_left
  · have hs' : ¬ ((p.m.s : Int) = (c1 : Int)) := by omega
    go_upto_region 14 with (fail)
    have hs2 : ¬ (p.m.s = ((kd.en 0).come + 1) % 4294967296) := by rw [← HCM.out, ← HC1.out]; exact hs
    clear q5 q6 hs hs'
    have EQ := Lib.hid (show (k.less i).comes p = kd.answer 0 from by
      unfold Lk.comes Lk.handed
      rw [if_pos (show p.m.e = (k.less i).ep from he), if_neg HB0.out, hf]
      show Lk.answer (if p.m.s = ((((k.less i).ackd 0 p.m.k).en 0).come + 1) % 4294967296 then _ else _) 0 = _
      rw [← HKD.out, if_neg hs2])
    clear HKD HB0 HCM he he' PBR PB4 Y4 HY hs2 hb0 hb64
    have RM := Lib.hid (room_any G4.out.at_)
    by_cases hroom : kd.fl.length < 1024
    · have PT := Lib.hid (show Calls Try.prog 34 #[.pointer (some ⟨bl, 0, none⟩), .int .i64 0, .int .u32 0, .slice none 0 0] w6 fun e w' => e = .returned (.tuple #[]) ∧ ∃ V', Goes w6 bl _ A w' V' (kd.put 0 0 []) from put_any G4.out.at_ 0 (by decide) 0 (S := []) (.inl ⟨rfl, rfl⟩) hroom)
      rw [decide_eq_true hroom] at RM
      have HR := Lib.hid hroom
      clear hroom
      go_wp2_with (first | (go_at_call 32; refine RM.out.mono ?_; rintro e w' ⟨rfl, rfl⟩) | (go_at_call 34; refine PT.out.mono ?_; rintro e w9 ⟨rfl, V9, g9⟩))
      go_ret
      refine ⟨rfl, V9, ?_⟩
      rw [EQ.out, show kd.answer 0 = kd.put 0 0 [] from if_pos HR.out]
      exact G4.out.trans g9
    · rw [decide_eq_false hroom] at RM
      have HR := Lib.hid hroom
      clear hroom
      go_wp2_with (first | (go_at_call 32; refine RM.out.mono ?_; rintro e w' ⟨rfl, rfl⟩))
      go_ret
      refine ⟨rfl, ?_⟩
      rw [EQ.out, show kd.answer 0 = kd from if_neg HR.out]
      exact ⟨_, G4.out⟩
  subst hs
  go_upto_region 13 with (fail)
  have e1 : ((cm : Int) + 1) % 4294967296 = (p.m.s : Int) := by have := HC1.out; omega
  rw [e1]
  have GC := Lib.hid (show Goes w6 bl (upd V1 0 (.slice sa sn sc)) A (w6.setCell ⟨bl, 3, none⟩ (.int .u32 (p.m.s : Int))) (upd V1 0 (.slice sa sn sc)) (kd.come1 0) from by
    refine G4.out.at_.scalar 3 (.int .u32 (p.m.s : Int)) (kd.come1 0) ?_ (fun m => ?_) (fun m => ?_) rfl
    · rw [HC1.out, HCM.out]; rfl
    · unfold Lk.en Lk.come1 Lk.with; by_cases hm : m = 0 <;> simp [hm, Lk.en]
    · unfold Lk.en Lk.come1 Lk.with; by_cases hm : m = 0 <;> simp [hm, Lk.en])
  obtain ⟨w7, hw7⟩ : ∃ w7, w7 = w6.setCell ⟨bl, 3, none⟩ (.int .u32 (p.m.s : Int)) := ⟨_, rfl⟩
  rw [← hw7] at GC ⊢
  clear hw7 q5 q6 q9
  have EQ := Lib.hid (show (k.less i).comes p = ((kd.come1 0).addGot 0 p.m.B).answer 0 from by
    unfold Lk.comes Lk.handed
    rw [if_pos (show p.m.e = (k.less i).ep from he), if_neg HB0.out, hf]
    show Lk.answer (if p.m.s = ((((k.less i).ackd 0 p.m.k).en 0).come + 1) % 4294967296 then _ else _) 0 = _
    rw [← HKD.out, if_pos (by rw [← HCM.out]; exact HC1.out)])
  have PBR6 : pb ∉ reach bl (upd V1 0 (.slice sa sn sc)) := fun hx => by
    rcases GA.out.kin.reach hx with e | e
    · exact PBR.out e
    · have := PB.out.lt; omega
  have PB7 := Lib.hid (PB4.out.only GC.out.only PBR6)
  have Y7 := Lib.hid (GC.out.body Y4.out)
  have hgl : ((kd.come1 0).en 0).got.length = (k.en 0).got.length := by rw [HKD.out]; rfl
  clear GA PB
  obtain ⟨wC, hwC⟩ : ∃ wC, wC = w7.drew.alloc (.cells #[.slice ya bn yc] 23) := ⟨_, rfl⟩
  have lC : Below w7.heap.size w7 wC := hwC ▸ ((Below.refl w7.heap.size w7).drew.alloc (Nat.le_refl _) _)
  have KC := Lib.hid (GC.out.at_.below lC)
  have YC := Y7.out.move (Only.of_below (S := []) lC) (by simp) (fun x hx => .inl hx)
  obtain ⟨v', wD, hrD, hgD, hcD, hfD, grD, va, vc, rfl⟩ := KC.out.moreGot 0 (by decide) p.m.B y YC (g := w7.heap.size) (by rw [hwC, HY.out]; exact blk_at rfl rfl) (by rw [hgl]; exact HGT.out)
  obtain ⟨gn, hgn⟩ : ∃ gn, gn = ((kd.come1 0).en 0).got.length + 1 := ⟨_, rfl⟩
  rw [← hgn] at hrD hgD
  obtain ⟨vo2, hvo2⟩ : ∃ vo2, vo2 = upd V1 0 (.slice sa sn sc) (2 * 0 + 1) := ⟨_, rfl⟩
  have r1 : w7.cell? ⟨bl, 4, none⟩ = some vo2 := by rw [hvo2]; exact GC.out.at_.cell 4
  have r2 : wC.cell? ⟨bl, 4, none⟩ = some vo2 := by rw [hvo2]; exact KC.out.cell 4
  have r3 : wD.cell? ⟨bl, 4, none⟩ = some vo2 := by rw [hvo2]; exact hcD
  have t1 : w7.cell? ⟨pb, 4, none⟩ = some (.slice ya bn yc) := by rw [← HY.out]; exact PB7.out.cell 4
  have t2 : wC.cell? ⟨pb, 4, none⟩ = some (.slice ya bn yc) := by rw [← HY.out]; exact (PB7.out.below lC PB7.out.lt).cell 4
  have hpv7 : ∀ x, (upd V1 0 (.slice sa sn sc) (2 * 0 + 1)).ownBlock = some x → pb ≠ x := fun x hx e => by
    subst e
    rw [show upd V1 0 (.slice sa sn sc) (2 * 0 + 1) = V1 (2 * 0 + 1) from upd_ne (by decide)] at hx
    exact PBR.out (mem_reach.2 (.inr ⟨2 * 0 + 1, by decide, hx⟩))
  have t3 : wD.cell? ⟨pb, 4, none⟩ = some (.slice ya bn yc) := by
    have := ((PB7.out.below lC PB7.out.lt).grownO grD hpv7).cell 4
    rw [← HY.out]; exact this
  rw [← hvo2] at hrD
  have Q := Lib.hid (show ∀ d w', At2 8 9 (fun w' => w' = w7.drew) (fun w' => w' = wC) (fun w' => w' = wD) d w' → w'.cell? ⟨bl, 4, none⟩ = some vo2 ∧ w'.cell? ⟨pb, 4, none⟩ = some (.slice ya bn yc) from fun d w' h => by
    rcases h.any with rfl | rfl | rfl
    · exact ⟨r1, t1⟩
    · exact ⟨r2, t2⟩
    · exact ⟨r3, t3⟩)
  have HRD := Lib.hid hrD
  have HGD := Lib.hid hgD
  have HWC := Lib.hid hwC
  have QD := Lib.hid r3
  have FD := Lib.hid (show wD.frozen? ⟨bl, 4, none⟩ = false from hfD)
  have LC := Lib.hid lC
  clear hrD hgD hwC r1 r2 r3 t1 t2 t3 hcD hfD grD hvo2 hgn hgl lC YC hpv7 PB7 Y7 HY PBR PBR6 Y4 PB4 HCM HKD HB0 HC1 e1 he he' hb0 hb64
  refine wp_region_gate_tail (fun d w' => At2 8 9 (fun w' => w' = w7.drew) (fun w' => w' = wC) (fun w' => w' = wD) d w') 10 (by kernel_rfl) (by kernel_rfl) ?hI ?_
  case hI => exact At2.start (by rfl) (by rfl) rfl
  simp only [List.take_succ_cons, List.take_zero, List.drop_succ_cons, List.drop_zero]
  refine InvC.invc_value (.pointer (some ⟨bl, 1, none⟩)) (fun u hu => by cases hu) rfl (fun d w' _ _ h => by go_simp; all_goals rfl) (fun d w' _ _ h => At2.keep (by decide) (by decide) h) ?_
  simp only [Act.put, List.setIfInBounds_toArray, List.set_cons_zero, List.set_cons_succ]
  refine InvC.invc_value (.pointer (some ⟨bl, 1, none⟩)) (fun u hu => by cases hu) rfl (fun d w' _ _ h => by go_simp; all_goals rfl) (fun d w' _ _ h => At2.keep (by decide) (by decide) h) ?_
  simp only [Act.put, List.setIfInBounds_toArray, List.set_cons_zero, List.set_cons_succ]
  refine InvC.invc_value (.pointer (some ⟨bl, 1, none⟩)) (fun u hu => by cases hu) rfl (fun d w' _ _ h => by go_simp; all_goals rfl) (fun d w' _ _ h => At2.keep (by decide) (by decide) h) ?_
  simp only [Act.put, List.setIfInBounds_toArray, List.set_cons_zero, List.set_cons_succ]
  refine InvC.invc_value (.pointer (some ⟨bl, 4, none⟩)) (fun u hu => by cases hu) rfl (fun d w' _ _ h => by go_simp; all_goals rfl) (fun d w' _ _ h => At2.keep (by decide) (by decide) h) ?_
  simp only [Act.put, List.setIfInBounds_toArray, List.set_cons_zero, List.set_cons_succ]
  refine InvC.invc_value (vo2) (fun u hu => by cases hu) rfl (fun d w' _ _ h => by have q := (Q.out d w' h).1; go_simp) (fun d w' _ _ h => At2.keep (by decide) (by decide) h) ?_
  simp only [Act.put, List.setIfInBounds_toArray, List.set_cons_zero, List.set_cons_succ]
  refine InvC.invc_value (.pointer (some ⟨pb, 1, none⟩)) (fun u hu => by cases hu) rfl (fun d w' _ _ h => by go_simp; all_goals rfl) (fun d w' _ _ h => At2.keep (by decide) (by decide) h) ?_
  simp only [Act.put, List.setIfInBounds_toArray, List.set_cons_zero, List.set_cons_succ]
  refine InvC.invc_value (.pointer (some ⟨pb, 4, none⟩)) (fun u hu => by cases hu) rfl (fun d w' _ _ h => by go_simp; all_goals rfl) (fun d w' _ _ h => At2.keep (by decide) (by decide) h) ?_
  simp only [Act.put, List.setIfInBounds_toArray, List.set_cons_zero, List.set_cons_succ]
  refine InvC.invc_value (.slice ya bn yc) (fun u hu => by cases hu) rfl (fun d w' _ _ h => by have q := (Q.out d w' h).2; go_simp) (fun d w' _ _ h => At2.keep (by decide) (by decide) h) ?_
  simp only [Act.put, List.setIfInBounds_toArray, List.set_cons_zero, List.set_cons_succ]
  refine InvC.invc_world (.slice (some ⟨w7.heap.size, 0, none⟩) 1 1) (fun u hu => by cases hu) rfl (fun d w' hd hG h => ⟨wC, by
    have e := (h.at_p hd).1
    subst e
    rw [HWC.out]
    go_simp, At2.did_p (by decide) hd h rfl⟩) ?_
  simp only [Act.put, List.setIfInBounds_toArray, List.set_cons_zero, List.set_cons_succ]
  refine InvC.invc_world (.slice va gn vc) (fun u hu => by cases hu) rfl (fun d w' hd hG h => ⟨wD, by
    have e := h.at_q hd (hG.of (by kernel_rfl))
    subst e
    exact exec_append _ _ rfl rfl rfl HRD.out, At2.did_q (by decide) hd (hG.of (by kernel_rfl)) rfl⟩) ?_
  simp only [Act.put, List.setIfInBounds_toArray, List.set_cons_zero, List.set_cons_succ]
  refine InvC.invc_nil fun w8 hI => ?_
  have e6 := hI.done (by rfl)
  subst e6
  have q4 := QD.out
  have f4 := FD.out
  have GO3 := Lib.hid (((G4.out.trans GC.out).keep LC.out).trans HGD.out)
  clear Q QD FD HRD HWC LC HGD KC GC G4
  go_upto_region 14 with (fail)
  obtain ⟨w9, hw9⟩ : ∃ w9, w9 = w8.setCell ⟨bl, 4, none⟩ (.slice va gn vc) := ⟨_, rfl⟩
  rw [← hw9] at GO3 ⊢
  clear hw9 q4 f4
  have RM := Lib.hid (room_any GO3.out.at_)
  by_cases hroom : ((kd.come1 0).addGot 0 p.m.B).fl.length < 1024
  · have PT := Lib.hid (show Calls Try.prog 34 #[.pointer (some ⟨bl, 0, none⟩), .int .i64 0, .int .u32 0, .slice none 0 0] w9 fun e w' => e = .returned (.tuple #[]) ∧ ∃ V', Goes w9 bl _ A w' V' (((kd.come1 0).addGot 0 p.m.B).put 0 0 []) from put_any GO3.out.at_ 0 (by decide) 0 (S := []) (.inl ⟨rfl, rfl⟩) hroom)
    rw [decide_eq_true hroom] at RM
    have HR := Lib.hid hroom
    clear hroom
    go_wp2_with (first | (go_at_call 32; refine RM.out.mono ?_; rintro e w' ⟨rfl, rfl⟩) | (go_at_call 34; refine PT.out.mono ?_; rintro e w9 ⟨rfl, V9, g9⟩))
    go_ret
    refine ⟨rfl, V9, ?_⟩
    rw [EQ.out, show ((kd.come1 0).addGot 0 p.m.B).answer 0 = ((kd.come1 0).addGot 0 p.m.B).put 0 0 [] from if_pos HR.out]
    exact GO3.out.trans g9
  · rw [decide_eq_false hroom] at RM
    have HR := Lib.hid hroom
    clear hroom
    go_wp2_with (first | (go_at_call 32; refine RM.out.mono ?_; rintro e w' ⟨rfl, rfl⟩))
    go_ret
    refine ⟨rfl, ?_⟩
    rw [EQ.out, show ((kd.come1 0).addGot 0 p.m.B).answer 0 = ((kd.come1 0).addGot 0 p.m.B) from if_neg HR.out]
    exact ⟨_, GO3.out⟩
set_option maxHeartbeats 2000000 in
theorem deliver_ok1 (h : LinkAt w bl V A k) (i : Nat) (p : Pk) (hp : k.fl[i]? = some p) (hf : p.f = 0) (hgot : ((k.en 1).got.length + 1) * 24 ≤ 140737488355328) : Calls Try.prog 15 #[.pointer (some ⟨bl, 0, none⟩), .int .i64 (i : Int)] w fun e w' => e = .returned (.int .i64 0) ∧ ∃ V', Goes w bl V A w' V' ((k.less i).comes p) := by
  have hi : i < k.fl.length := (List.getElem?_eq_some_iff.1 hp).1
  have TN := Lib.hid (take_ok h i hi)
  have HPI := Lib.hid hp
  have HGT := Lib.hid hgot
  clear h hi hp hgot
  go_enter Try.func15, Try.ntmps15
  go_wp2_with fail
  refine TN.out.mono ?_
  rintro e w1 ⟨p', y, V1, hp', rfl, hG, hY⟩
  obtain rfl : p = p' := by have := HPI.out; rw [hp'] at this; exact (Option.some.inj this).symm
  have HG1 := Lib.hid hG
  have HY1 := Lib.hid hY
  obtain ⟨pv, hpv⟩ : ∃ pv, pv = pc (p, y) := ⟨_, rfl⟩
  have HPV := Lib.hid hpv
  have P5 := Lib.hid (show pv.length = 5 by rw [hpv]; rfl)
  have P1 := Lib.hid (show ∀ u ∈ pv, u.oneCell' = true by rw [hpv]; exact pc_one hY.one)
  have Z := Lib.hid (blk_at (w := w1) (g := w1.heap.size) (cs := zpk) (t := 74) (arr := #[.int .i64 0, .int .u32 0, .int .u32 0, .int .u32 0, .slice none 0 0]) rfl rfl)
  rw [← hpv]
  clear hG hY TN hpv hp'
  go_upto_region 4 with (first | (refine wpList_store_blk rfl 74 _ _ rfl w1.heap.size 0 5 rfl 74 zpk pv rfl Z.out (by kernel_rfl) P5.out (by decide) P1.out ?_; intro w2 z2 g2; have L2 := Lib.hid (below_grown (((Below.refl w1.heap.size w1).alloc (Nat.le_refl _) _)) g2 (by simp) (Nat.le_refl _)); have Z2 := Lib.hid z2; clear z2 g2))
  obtain ⟨pb, hpb⟩ : ∃ pb, pb = w1.heap.size := ⟨_, rfl⟩
  have PB := Lib.hid (show Blk w2 pb (pc (p, y)) 74 from by have := Z2.out; rw [put_all _ _ (by rw [P5.out]; rfl), ← hpb, HPV.out] at this; exact this)
  have PBR := Lib.hid (show pb ∉ reach bl V1 from fun hx => by have := HG1.out.at_.reach_lt hx; omega)
  have G2 := Lib.hid (HG1.out.keep L2.out)
  have Y2 := Lib.hid (HY1.out.move (Only.of_below (S := []) L2.out) (by simp) (fun x hx => .inl hx))
  have q0 : w2.cell? ⟨pb, 0, none⟩ = some (.int .i64 0) := by have := PB.out.cell 0; rw [this]; simp [pc, hf]
  have q1 : w2.cell? ⟨pb, 1, none⟩ = some (.int .u32 (p.m.e : Int)) := PB.out.cell 1
  have q3 : w2.cell? ⟨bl, 0, none⟩ = some (.int .u32 (k.ep : Int)) := G2.out.at_.cell 0
  rw [← hpb]
  clear Z Z2 L2 P1 P5 HPV HG1 HY1 hpb
  go_quiet (fail)
  have PB := Lib.hid (PB.out.drewN nq)
  have G2 := Lib.hid (G2.out.drewN nq)
  have Y2 := Lib.hid (Y2.out.drewN nq)
  have q4 : (w2.drewN nq).cell? ⟨bl, 5, none⟩ = some (V1 2) := G2.out.at_.cell 5
  have q0 : (w2.drewN nq).cell? ⟨pb, 0, none⟩ = some (.int .i64 0) := q0
  obtain ⟨w3, hw3⟩ : ∃ w3, w3 = w2.drewN nq := ⟨_, rfl⟩
  rw [← hw3] at PB G2 Y2 q4 q0 ⊢
  clear hw3
  clear q1 q3
  by_cases he : p.m.e = k.ep
  rotate_left
  · have he' : ¬ ((p.m.e : Int) = (k.ep : Int)) := by omega
    clear PB PBR Y2
    go_wp2_with fail
    go_ret
    refine ⟨rfl, V1, ?_⟩
    have e : (k.less i).comes p = k.less i := if_neg he
    rw [e]
    exact G2.out
  have he' : ((p.m.e : Int) = (k.ep : Int)) := by omega
  have hlt := G2.out.at_.head.lt
  have AC := Lib.hid (show Calls Try.prog 36 #[V1 2, Cl pb] w3 fun e w' => ∃ v' : Value, e = .returned v' ∧ Goes w3 bl V1 A (w'.setCell ⟨bl, 5, none⟩ v') (upd V1 2 v') ((k.less i).ackd 1 p.m.k) ∧ w'.cell? ⟨bl, 5, none⟩ = some (V1 2) ∧ w'.frozen? ⟨bl, 5, none⟩ = false ∧ w3.grownBy w' (V1 2).ownBlock from G2.out.at_.acked 1 (by decide) PB.out PBR.out)
  obtain ⟨vo, hvo⟩ : ∃ vo, vo = V1 2 := ⟨_, rfl⟩
  rw [← hvo] at AC q4
  clear hvo
  unfold Cl at AC
  go_wp2_with (fail)
  refine AC.out.mono ?_
  rintro e w5 ⟨vv, rfl, ga, ca, fa, gg⟩
  obtain ⟨sa, sc, hsv, _⟩ := ga.at_.slO 1 (by decide)
  obtain ⟨sn, hsn⟩ : ∃ sn, sn = (((k.less i).ackd 1 p.m.k).en 1).op.length := ⟨_, rfl⟩
  rw [show 2 * 1 = 2 from rfl, upd_self, ← hsn] at hsv
  subst hsv
  have GA := Lib.hid ga
  clear hsn
  clear ga gg AC
  go_upto_region 9 with (fail)
  obtain ⟨w4, hw4⟩ : ∃ w4, w4 = w5.setCell ⟨bl, 5, none⟩ (.slice sa sn sc) := ⟨_, rfl⟩
  rw [← hw4] at GA ⊢
  clear hw4 ca fa q0 q4
  obtain ⟨kd, hkd⟩ : ∃ kd, kd = (k.less i).ackd 1 p.m.k := ⟨_, rfl⟩
  have HKD := Lib.hid hkd
  rw [← hkd] at GA
  clear hkd
  have G4 := Lib.hid (G2.out.trans GA.out)
  have PB4 := Lib.hid (PB.out.only GA.out.only PBR.out)
  have Y4 := Lib.hid (GA.out.body Y2.out)
  obtain ⟨ya, yc, hy, _, hb64⟩ := Y4.out.slice
  obtain ⟨bn, hbn⟩ : ∃ bn, bn = p.m.B.length := ⟨_, rfl⟩
  rw [← hbn] at hy hb64
  have HY := Lib.hid hy
  have q5 : w4.cell? ⟨pb, 4, none⟩ = some (.slice ya bn yc) := by rw [← hy]; exact PB4.out.cell 4
  clear hy
  by_cases hB : p.m.B = []
  · have hb0 : bn = 0 := by rw [hbn, hB]; rfl
    subst hb0
    have HB0 := Lib.hid hB
    clear PB PBR PB4 Y4 Y2 G2 GA HY hbn hB
    go_wp2_with fail
    go_ret
    refine ⟨rfl, upd V1 2 (.slice sa sn sc), ?_⟩
    have e : (k.less i).comes p = kd := by
      rw [HKD.out]
      unfold Lk.comes
      rw [if_pos (show p.m.e = (k.less i).ep from he), if_pos HB0.out, hf]
    rw [e]
    exact G4.out
  have hb0 : bn ≠ 0 := by rw [hbn]; intro e; exact hB (List.eq_nil_of_length_eq_zero e)
  have HB0 := Lib.hid hB
  clear hB
  obtain ⟨cm, hcm⟩ : ∃ cm, cm = (kd.en 1).come := ⟨_, rfl⟩
  have HCM := Lib.hid hcm
  have q6 : w4.cell? ⟨bl, 7, none⟩ = some (.int .u32 (cm : Int)) := by rw [hcm]; exact G4.out.at_.cell 7
  have q7 : w4.cell? ⟨pb, 2, none⟩ = some (.int .u32 (p.m.s : Int)) := PB4.out.cell 2
  clear hcm hbn G2 Y2
  go_upto_region 11 with (fail)
  have q9 : w4.frozen? ⟨bl, 7, none⟩ = false := G4.out.at_.head.frozen 7
  go_quiet (fail)
  have PB4 := Lib.hid (PB4.out.drewN nq)
  have G4 := Lib.hid (G4.out.drewN nq)
  have Y4 := Lib.hid (Y4.out.drewN nq)
  have q5 : (w4.drewN nq).cell? ⟨pb, 4, none⟩ = some (.slice ya bn yc) := q5
  have q6 : (w4.drewN nq).cell? ⟨bl, 7, none⟩ = some (.int .u32 (cm : Int)) := q6
  have q9 : (w4.drewN nq).frozen? ⟨bl, 7, none⟩ = false := q9
  clear q7
  obtain ⟨w6, hw6⟩ : ∃ w6, w6 = w4.drewN nq := ⟨_, rfl⟩
  rw [← hw6] at PB4 G4 Y4 q5 q6 q9 ⊢
  clear hw6
  obtain ⟨c1, hc1⟩ : ∃ c1, c1 = (cm + 1) % 4294967296 := ⟨_, rfl⟩
  have hw : IntKind.u32.wrap ((cm : Int) + 1) = (c1 : Int) := by rw [IntKind.wrap_u32]; omega
  rw [hw]
  have HC1 := Lib.hid hc1
  clear hw hc1
  by_cases hs : p.m.s = c1
  rotate_left
  · have hs' : ¬ ((p.m.s : Int) = (c1 : Int)) := by omega
    go_upto_region 14 with (fail)
    have hs2 : ¬ (p.m.s = ((kd.en 1).come + 1) % 4294967296) := by rw [← HCM.out, ← HC1.out]; exact hs
    clear q5 q6 hs hs'
    have EQ := Lib.hid (show (k.less i).comes p = kd.answer 1 from by
      unfold Lk.comes Lk.handed
      rw [if_pos (show p.m.e = (k.less i).ep from he), if_neg HB0.out, hf]
      show Lk.answer (if p.m.s = ((((k.less i).ackd 1 p.m.k).en 1).come + 1) % 4294967296 then _ else _) 1 = _
      rw [← HKD.out, if_neg hs2])
    clear HKD HB0 HCM he he' PBR PB4 Y4 HY hs2 hb0 hb64
    have RM := Lib.hid (room_any G4.out.at_)
    by_cases hroom : kd.fl.length < 1024
    · have PT := Lib.hid (show Calls Try.prog 34 #[.pointer (some ⟨bl, 0, none⟩), .int .i64 1, .int .u32 0, .slice none 0 0] w6 fun e w' => e = .returned (.tuple #[]) ∧ ∃ V', Goes w6 bl _ A w' V' (kd.put 1 0 []) from put_any G4.out.at_ 1 (by decide) 0 (S := []) (.inl ⟨rfl, rfl⟩) hroom)
      rw [decide_eq_true hroom] at RM
      have HR := Lib.hid hroom
      clear hroom
      go_wp2_with (first | (go_at_call 32; refine RM.out.mono ?_; rintro e w' ⟨rfl, rfl⟩) | (go_at_call 34; refine PT.out.mono ?_; rintro e w9 ⟨rfl, V9, g9⟩))
      go_ret
      refine ⟨rfl, V9, ?_⟩
      rw [EQ.out, show kd.answer 1 = kd.put 1 0 [] from if_pos HR.out]
      exact G4.out.trans g9
    · rw [decide_eq_false hroom] at RM
      have HR := Lib.hid hroom
      clear hroom
      go_wp2_with (first | (go_at_call 32; refine RM.out.mono ?_; rintro e w' ⟨rfl, rfl⟩))
      go_ret
      refine ⟨rfl, ?_⟩
      rw [EQ.out, show kd.answer 1 = kd from if_neg HR.out]
      exact ⟨_, G4.out⟩
  subst hs
  go_upto_region 13 with (fail)
  have e1 : ((cm : Int) + 1) % 4294967296 = (p.m.s : Int) := by have := HC1.out; omega
  rw [e1]
  have GC := Lib.hid (show Goes w6 bl (upd V1 2 (.slice sa sn sc)) A (w6.setCell ⟨bl, 7, none⟩ (.int .u32 (p.m.s : Int))) (upd V1 2 (.slice sa sn sc)) (kd.come1 1) from by
    refine G4.out.at_.scalar 7 (.int .u32 (p.m.s : Int)) (kd.come1 1) ?_ (fun m => ?_) (fun m => ?_) rfl
    · rw [HC1.out, HCM.out]; rfl
    · unfold Lk.en Lk.come1 Lk.with; by_cases hm : m = 0 <;> simp [hm, Lk.en]
    · unfold Lk.en Lk.come1 Lk.with; by_cases hm : m = 0 <;> simp [hm, Lk.en])
  obtain ⟨w7, hw7⟩ : ∃ w7, w7 = w6.setCell ⟨bl, 7, none⟩ (.int .u32 (p.m.s : Int)) := ⟨_, rfl⟩
  rw [← hw7] at GC ⊢
  clear hw7 q5 q6 q9
  have EQ := Lib.hid (show (k.less i).comes p = ((kd.come1 1).addGot 1 p.m.B).answer 1 from by
    unfold Lk.comes Lk.handed
    rw [if_pos (show p.m.e = (k.less i).ep from he), if_neg HB0.out, hf]
    show Lk.answer (if p.m.s = ((((k.less i).ackd 1 p.m.k).en 1).come + 1) % 4294967296 then _ else _) 1 = _
    rw [← HKD.out, if_pos (by rw [← HCM.out]; exact HC1.out)])
  have PBR6 : pb ∉ reach bl (upd V1 2 (.slice sa sn sc)) := fun hx => by
    rcases GA.out.kin.reach hx with e | e
    · exact PBR.out e
    · have := PB.out.lt; omega
  have PB7 := Lib.hid (PB4.out.only GC.out.only PBR6)
  have Y7 := Lib.hid (GC.out.body Y4.out)
  have hgl : ((kd.come1 1).en 1).got.length = (k.en 1).got.length := by rw [HKD.out]; rfl
  clear GA PB
  obtain ⟨wC, hwC⟩ : ∃ wC, wC = w7.drew.alloc (.cells #[.slice ya bn yc] 23) := ⟨_, rfl⟩
  have lC : Below w7.heap.size w7 wC := hwC ▸ ((Below.refl w7.heap.size w7).drew.alloc (Nat.le_refl _) _)
  have KC := Lib.hid (GC.out.at_.below lC)
  have YC := Y7.out.move (Only.of_below (S := []) lC) (by simp) (fun x hx => .inl hx)
  obtain ⟨v', wD, hrD, hgD, hcD, hfD, grD, va, vc, rfl⟩ := KC.out.moreGot 1 (by decide) p.m.B y YC (g := w7.heap.size) (by rw [hwC, HY.out]; exact blk_at rfl rfl) (by rw [hgl]; exact HGT.out)
  obtain ⟨gn, hgn⟩ : ∃ gn, gn = ((kd.come1 1).en 1).got.length + 1 := ⟨_, rfl⟩
  rw [← hgn] at hrD hgD
  obtain ⟨vo2, hvo2⟩ : ∃ vo2, vo2 = upd V1 2 (.slice sa sn sc) (2 * 1 + 1) := ⟨_, rfl⟩
  have r1 : w7.cell? ⟨bl, 8, none⟩ = some vo2 := by rw [hvo2]; exact GC.out.at_.cell 8
  have r2 : wC.cell? ⟨bl, 8, none⟩ = some vo2 := by rw [hvo2]; exact KC.out.cell 8
  have r3 : wD.cell? ⟨bl, 8, none⟩ = some vo2 := by rw [hvo2]; exact hcD
  have t1 : w7.cell? ⟨pb, 4, none⟩ = some (.slice ya bn yc) := by rw [← HY.out]; exact PB7.out.cell 4
  have t2 : wC.cell? ⟨pb, 4, none⟩ = some (.slice ya bn yc) := by rw [← HY.out]; exact (PB7.out.below lC PB7.out.lt).cell 4
  have hpv7 : ∀ x, (upd V1 2 (.slice sa sn sc) (2 * 1 + 1)).ownBlock = some x → pb ≠ x := fun x hx e => by
    subst e
    rw [show upd V1 2 (.slice sa sn sc) (2 * 1 + 1) = V1 (2 * 1 + 1) from upd_ne (by decide)] at hx
    exact PBR.out (mem_reach.2 (.inr ⟨2 * 1 + 1, by decide, hx⟩))
  have t3 : wD.cell? ⟨pb, 4, none⟩ = some (.slice ya bn yc) := by
    have := ((PB7.out.below lC PB7.out.lt).grownO grD hpv7).cell 4
    rw [← HY.out]; exact this
  rw [← hvo2] at hrD
  have Q := Lib.hid (show ∀ d w', At2 8 9 (fun w' => w' = w7.drew) (fun w' => w' = wC) (fun w' => w' = wD) d w' → w'.cell? ⟨bl, 8, none⟩ = some vo2 ∧ w'.cell? ⟨pb, 4, none⟩ = some (.slice ya bn yc) from fun d w' h => by
    rcases h.any with rfl | rfl | rfl
    · exact ⟨r1, t1⟩
    · exact ⟨r2, t2⟩
    · exact ⟨r3, t3⟩)
  have HRD := Lib.hid hrD
  have HGD := Lib.hid hgD
  have HWC := Lib.hid hwC
  have QD := Lib.hid r3
  have FD := Lib.hid (show wD.frozen? ⟨bl, 8, none⟩ = false from hfD)
  have LC := Lib.hid lC
  clear hrD hgD hwC r1 r2 r3 t1 t2 t3 hcD hfD grD hvo2 hgn hgl lC YC hpv7 PB7 Y7 HY PBR PBR6 Y4 PB4 HCM HKD HB0 HC1 e1 he he' hb0 hb64
  refine wp_region_gate_tail (fun d w' => At2 8 9 (fun w' => w' = w7.drew) (fun w' => w' = wC) (fun w' => w' = wD) d w') 10 (by kernel_rfl) (by kernel_rfl) ?hI ?_
  case hI => exact At2.start (by rfl) (by rfl) rfl
  simp only [List.take_succ_cons, List.take_zero, List.drop_succ_cons, List.drop_zero]
  refine InvC.invc_value (.pointer (some ⟨bl, 5, none⟩)) (fun u hu => by cases hu) rfl (fun d w' _ _ h => by go_simp; all_goals rfl) (fun d w' _ _ h => At2.keep (by decide) (by decide) h) ?_
  simp only [Act.put, List.setIfInBounds_toArray, List.set_cons_zero, List.set_cons_succ]
  refine InvC.invc_value (.pointer (some ⟨bl, 5, none⟩)) (fun u hu => by cases hu) rfl (fun d w' _ _ h => by go_simp; all_goals rfl) (fun d w' _ _ h => At2.keep (by decide) (by decide) h) ?_
  simp only [Act.put, List.setIfInBounds_toArray, List.set_cons_zero, List.set_cons_succ]
  refine InvC.invc_value (.pointer (some ⟨bl, 5, none⟩)) (fun u hu => by cases hu) rfl (fun d w' _ _ h => by go_simp; all_goals rfl) (fun d w' _ _ h => At2.keep (by decide) (by decide) h) ?_
  simp only [Act.put, List.setIfInBounds_toArray, List.set_cons_zero, List.set_cons_succ]
  refine InvC.invc_value (.pointer (some ⟨bl, 8, none⟩)) (fun u hu => by cases hu) rfl (fun d w' _ _ h => by go_simp; all_goals rfl) (fun d w' _ _ h => At2.keep (by decide) (by decide) h) ?_
  simp only [Act.put, List.setIfInBounds_toArray, List.set_cons_zero, List.set_cons_succ]
  refine InvC.invc_value (vo2) (fun u hu => by cases hu) rfl (fun d w' _ _ h => by have q := (Q.out d w' h).1; go_simp) (fun d w' _ _ h => At2.keep (by decide) (by decide) h) ?_
  simp only [Act.put, List.setIfInBounds_toArray, List.set_cons_zero, List.set_cons_succ]
  refine InvC.invc_value (.pointer (some ⟨pb, 1, none⟩)) (fun u hu => by cases hu) rfl (fun d w' _ _ h => by go_simp; all_goals rfl) (fun d w' _ _ h => At2.keep (by decide) (by decide) h) ?_
  simp only [Act.put, List.setIfInBounds_toArray, List.set_cons_zero, List.set_cons_succ]
  refine InvC.invc_value (.pointer (some ⟨pb, 4, none⟩)) (fun u hu => by cases hu) rfl (fun d w' _ _ h => by go_simp; all_goals rfl) (fun d w' _ _ h => At2.keep (by decide) (by decide) h) ?_
  simp only [Act.put, List.setIfInBounds_toArray, List.set_cons_zero, List.set_cons_succ]
  refine InvC.invc_value (.slice ya bn yc) (fun u hu => by cases hu) rfl (fun d w' _ _ h => by have q := (Q.out d w' h).2; go_simp) (fun d w' _ _ h => At2.keep (by decide) (by decide) h) ?_
  simp only [Act.put, List.setIfInBounds_toArray, List.set_cons_zero, List.set_cons_succ]
  refine InvC.invc_world (.slice (some ⟨w7.heap.size, 0, none⟩) 1 1) (fun u hu => by cases hu) rfl (fun d w' hd hG h => ⟨wC, by
    have e := (h.at_p hd).1
    subst e
    rw [HWC.out]
    go_simp, At2.did_p (by decide) hd h rfl⟩) ?_
  simp only [Act.put, List.setIfInBounds_toArray, List.set_cons_zero, List.set_cons_succ]
  refine InvC.invc_world (.slice va gn vc) (fun u hu => by cases hu) rfl (fun d w' hd hG h => ⟨wD, by
    have e := h.at_q hd (hG.of (by kernel_rfl))
    subst e
    exact exec_append _ _ rfl rfl rfl HRD.out, At2.did_q (by decide) hd (hG.of (by kernel_rfl)) rfl⟩) ?_
  simp only [Act.put, List.setIfInBounds_toArray, List.set_cons_zero, List.set_cons_succ]
  refine InvC.invc_nil fun w8 hI => ?_
  have e6 := hI.done (by rfl)
  subst e6
  have q4 := QD.out
  have f4 := FD.out
  have GO3 := Lib.hid (((G4.out.trans GC.out).keep LC.out).trans HGD.out)
  clear Q QD FD HRD HWC LC HGD KC GC G4
  go_upto_region 14 with (fail)
  obtain ⟨w9, hw9⟩ : ∃ w9, w9 = w8.setCell ⟨bl, 8, none⟩ (.slice va gn vc) := ⟨_, rfl⟩
  rw [← hw9] at GO3 ⊢
  clear hw9 q4 f4
  have RM := Lib.hid (room_any GO3.out.at_)
  by_cases hroom : ((kd.come1 1).addGot 1 p.m.B).fl.length < 1024
  · have PT := Lib.hid (show Calls Try.prog 34 #[.pointer (some ⟨bl, 0, none⟩), .int .i64 1, .int .u32 0, .slice none 0 0] w9 fun e w' => e = .returned (.tuple #[]) ∧ ∃ V', Goes w9 bl _ A w' V' (((kd.come1 1).addGot 1 p.m.B).put 1 0 []) from put_any GO3.out.at_ 1 (by decide) 0 (S := []) (.inl ⟨rfl, rfl⟩) hroom)
    rw [decide_eq_true hroom] at RM
    have HR := Lib.hid hroom
    clear hroom
    go_wp2_with (first | (go_at_call 32; refine RM.out.mono ?_; rintro e w' ⟨rfl, rfl⟩) | (go_at_call 34; refine PT.out.mono ?_; rintro e w9 ⟨rfl, V9, g9⟩))
    go_ret
    refine ⟨rfl, V9, ?_⟩
    rw [EQ.out, show ((kd.come1 1).addGot 1 p.m.B).answer 1 = ((kd.come1 1).addGot 1 p.m.B).put 1 0 [] from if_pos HR.out]
    exact GO3.out.trans g9
  · rw [decide_eq_false hroom] at RM
    have HR := Lib.hid hroom
    clear hroom
    go_wp2_with (first | (go_at_call 32; refine RM.out.mono ?_; rintro e w' ⟨rfl, rfl⟩))
    go_ret
    refine ⟨rfl, ?_⟩
    rw [EQ.out, show ((kd.come1 1).addGot 1 p.m.B).answer 1 = ((kd.come1 1).addGot 1 p.m.B) from if_neg HR.out]
    exact ⟨_, GO3.out⟩
theorem deliver_any (h : LinkAt w bl V A k) (i : Nat) (p : Pk) (hp : k.fl[i]? = some p) (hf : p.f < 2) (hgot : ∀ n, n < 2 → ((k.en n).got.length + 1) * 24 ≤ 140737488355328) : Calls Try.prog 15 #[.pointer (some ⟨bl, 0, none⟩), .int .i64 (i : Int)] w fun e w' => e = .returned (.int .i64 0) ∧ ∃ V', Goes w bl V A w' V' ((k.less i).comes p) := by
  obtain e | e : p.f = 0 ∨ p.f = 1 := by omega
  · exact deliver_ok1 h i p hp e (hgot 1 (by decide))
  · exact deliver_ok0 h i p hp e (hgot 0 (by decide))
end
end Go.Proofs.Ytfjaoompdleljaa.Link
/-
  Got of a link by contract. Helper text; no statement is proved here.
-/
set_option linter.unusedVariables false
set_option maxRecDepth 20000
set_option linter.unusedSimpArgs false
namespace Go.Proofs.Ytfjaoompdleljaa.Link
open Go.RowKit Go.Proofs.Ytfjaoompdleljaa.Base Go.Proofs.Ytfjaoompdleljaa.Laws Go.Proofs.Ytfjaoompdleljaa.Disk Go.Proofs.Ytfjaoompdleljaa.Row Go.Proofs.Ytfjaoompdleljaa.Flat Go.Proofs.Ytfjaoompdleljaa.InvM
/-- a body is cloned -/
theorem clone_body {w : World} {S : List Nat} {y : Value} {B : List UInt8} (hy : Body w S y B) (S' : List Nat) (hS : ∀ x ∈ S', x < w.heap.size) : ∃ a c w1, Calls Try.prog 33 #[y] w (fun e w' => e = .returned (.slice a B.length c) ∧ w' = w1) ∧ Body w1 S' (.slice a B.length c) B ∧ Below w.heap.size w w1 := by
  rcases hy with ⟨rfl, rfl⟩ | ⟨g, o, c, rfl, h1, h2, h3, h4⟩
  · exact ⟨none, 0, w, (clone_none w).mono (fun e w' h => ⟨h.1, h.2.symm⟩), .inl ⟨rfl, rfl⟩, Below.refl _ _⟩
  · obtain ⟨i1, i2, i3⟩ := cloneW_is w B.length B rfl (by omega)
    refine ⟨some ⟨w.heap.size + 1, 0, none⟩, cloneC w B.length, cloneW w B.length B, clone_exact ⟨g, o, none⟩ B.length c B h1 (by omega) w h3, .inr ⟨_, _, _, rfl, h1, h2, i1, fun hx => ?_⟩, i2⟩
    have := hS _ hx
    omega
theorem RowOf.below {α : Type} {w w' : World} {base : Nat} {S : List Nat} {t : TypeId} {m : Nat} {f : α × Value → List Value} {body : α → List UInt8} {v : Value} {xs : List α} (h : RowOf w base S t m f body v xs) {N : Nat} (hb : Below w.heap.size w w') : RowOf w' base S t m f body v xs :=
  h.move (Only.of_below (S := []) hb) (by simp) (fun x hx => .inl hx) (by simp)
/-- what stands at a place of a row -/
theorem RowOf.at_ {α : Type} {w : World} {base : Nat} {S : List Nat} {t : TypeId} {m : Nat} {f : α × Value → List Value} {body : α → List UInt8} {v : Value} {xs : List α} (h : RowOf w base S t m f body v xs) (hm : ∀ p, (f p).length = m) (i : Nat) (x : α) (hx : xs[i]? = some x) :
    ∃ g c y, v = .slice (some ⟨g, 0, none⟩) xs.length c ∧ g < w.heap.size ∧ (∀ j u, (f (x, y))[j]? = some u → w.cell? ⟨g, i * m + j, none⟩ = some u) ∧ Body w S y (body x) := by
  obtain ⟨ps, e, ⟨hl, h2⟩, h3⟩ := h
  have hlen : ps.length = xs.length := by rw [← e]; simp
  have hi : i < xs.length := (List.getElem?_eq_some_iff.1 hx).1
  rcases h2 with ⟨e1, e2⟩ | ⟨g, cap, cur, e1, hb, hg, hnc, hcm, hsz, htk⟩
  · omega
  obtain ⟨q, hq⟩ : ∃ q, ps[i]? = some q := ⟨_, List.getElem?_eq_getElem (by omega)⟩
  have hqx : q.1 = x := by
    have : xs[i]? = some q.1 := by rw [← e, List.getElem?_map, hq]; rfl
    rw [hx] at this
    exact (Option.some.inj this).symm
  refine ⟨g, cap, q.2, by rw [← hlen]; exact e1, (Array.getElem?_eq_some_iff.1 hg).1, fun j u hu => ?_, by rw [← hqx]; exact h3 q (List.mem_of_getElem? hq)⟩
  have hj : j < m := by have := (List.getElem?_eq_some_iff.1 hu).1; rw [hm] at this; exact this
  have := flat_get (m := m) (f := f) (fun x _ => hm x) hq (by rw [show (x, q.2) = q by rw [← hqx]] at hu; exact hu)
  rw [← htk, List.getElem?_take_of_lt (by
    have h1 : (i + 1) * m ≤ ps.length * m := Nat.mul_le_mul_right m (by omega)
    rw [Nat.add_mul] at h1
    omega)] at this
  rw [cell_of_row w g _ _ _ (0, 0) hg]
  simpa using this
section
variable {w : World} {bl : Nat} {V : Nat → Value} {A : List Nat} {k : Lk}
theorem got_ok0 (h : LinkAt w bl V A k) (hgot : ((k.en 0).got.length + 1) * 24 ≤ 140737488355328) : Calls Try.prog 16 #[.pointer (some ⟨bl, 0, none⟩), .int .i64 0] w fun e w' => ∃ v, e = .returned v ∧ RowOf w' w.heap.size (v.ownBlock.toList ++ (reach bl V ++ A)) 23 1 gc id v (k.en 0).got ∧ Below w.heap.size w w' := by
  obtain ⟨ga, gcp, ev, _⟩ := h.slG 0 (by decide)
  have co : w.cell? ⟨bl, 4, none⟩ = some (V 1) := h.cell 4
  rw [show V 1 = .slice ga (k.en 0).got.length gcp from ev] at co
  have RW := Lib.hid (h.g 0 (by decide))
  rw [ev] at RW
  obtain ⟨gs, hgs⟩ : ∃ gs, gs = (k.en 0).got := ⟨_, rfl⟩
  obtain ⟨n, hn⟩ : ∃ n, n = gs.length := ⟨_, rfl⟩
  rw [← hgs] at RW hgot
  rw [← hgs, ← hn] at co
  have HN := Lib.hid hn
  have SS := Lib.hid (show ∀ x ∈ reach bl V ++ A, x < w.heap.size from fun x hx => by
    rcases List.mem_append.1 hx with hx | hx
    · exact (h.reach_lt hx).2
    · exact h.out x hx)
  have hlt := h.head.lt
  have HGS := Lib.hid hgs
  clear hn h ev hgs
  rw [show (k.en 0).got = gs from HGS.out.symm]
  rw [show gs.length = n from HN.out.symm] at hgot RW
  go_enter Try.func16, Try.ntmps16
  go_wp2
  go_loopw [26, 5] (fun i v wr => ∃ kk : Nat, kk ≤ n ∧ i = .int .i64 kk ∧ RowOf wr w.heap.size (v.ownBlock.toList ++ (reach bl V ++ A)) 23 1 gc id v (gs.take kk) ∧ Below w.heap.size w wr) (fun i _ _ => n - (intOf i).toNat)
  case atStart => exact ⟨0, by omega, rfl, RowOf.nil, Below.refl _ _⟩
  case round =>
    obtain ⟨kk, hk, rfl, hr, hb⟩ := hrel
    have HR := Lib.hid hr
    have HB := Lib.hid hb
    have hsz := hb.size
    clear hr hb
    by_cases hkn : kk < n
    · obtain ⟨B, hB⟩ : ∃ B, gs[kk]? = some B := ⟨_, List.getElem?_eq_getElem (by have := HN.out; omega)⟩
      have HBB := Lib.hid hB
      obtain ⟨g, c', y, ee, hg, hcy, hY⟩ := RW.out.at_ (fun _ => rfl) kk B hB
      rw [← HN.out] at ee
      cases ee
      have cy : wr.cell? ⟨g, kk, none⟩ = some y := by
        have := hcy 0 y rfl
        rw [Nat.mul_one, Nat.add_zero] at this
        exact (Below.cell HB.out (p := ⟨g, kk, none⟩) hg).trans this
      have hYr := hY.move (Only.of_below (S := []) HB.out) (by simp) (fun x hx => .inl hx)
      obtain ⟨ca, cc, w1, hcl, hY1, hb1⟩ := clone_body hYr (u5.ownBlock.toList ++ (reach bl V ++ A)) (fun x hx => by
        rcases List.mem_append.1 hx with hx | hx
        · exact (HR.out.lt (by simpa using hx)).2
        · exact Nat.lt_of_lt_of_le (SS.out x hx) hsz)
      have CB := Lib.hid hcl
      have HB1 := Lib.hid hb1
      have hs1 := hb1.size
      obtain ⟨w2, hw2⟩ : ∃ w2, w2 = w1.alloc (.cells #[.slice ca B.length cc] 23) := ⟨_, rfl⟩
      have b2 : Below w1.heap.size w1 w2 := hw2 ▸ (Below.refl w1.heap.size w1).alloc (Nat.le_refl _) _
      have hR2 := (HR.out.below (N := 0) hb1).below (N := 0) b2
      have hY2 := hY1.move (Only.of_below (S := []) b2) (by simp) (fun x hx => .inl hx)
      have hz2 : Blk w2 w1.heap.size [.slice ca B.length cc] 23 := by rw [hw2]; exact blk_at rfl rfl
      have hlk : (gs.take kk).length = kk := by rw [List.length_take]; have := HN.out; omega
      obtain ⟨v', w3, hr3, hrow, hg3, hvb, va, vc, hvs⟩ := hR2.append 22 22 (.slice none 0 0) 24 Try.underlying22 info_bs rfl (by decide) B (.slice ca B.length cc) hY2 (c := 1) (src_blk hz2 rfl (gc_one rfl)) (by rw [hlk]; omega) (by rw [hlk]; unfold maxLen; omega) (by have := b2.size; omega) (fun g hg => List.mem_append_left _ (by rw [hg]; simp))
      rw [hlk] at hvs
      have HR3 := Lib.hid (show RowOf w3 w.heap.size (v'.ownBlock.toList ++ (reach bl V ++ A)) 23 1 gc id v' (gs.take (kk + 1)) from by
        rw [take_snoc gs kk B HBB.out]
        refine hrow _ (fun x hx => ?_)
        rcases List.mem_append.1 hx with hx | hx
        · rcases hvb with e | e
          · rw [e] at hx; exact .inl (List.mem_append_left _ hx)
          · rw [e] at hx; simp at hx; exact .inr (by omega)
        · exact .inl (List.mem_append_right _ hx))
      have HB3 := Lib.hid (show Below w.heap.size w w3 from by
        have hb2 : Below w.heap.size w w2 := (HB.out.trans (hb1.mono hsz)).trans (b2.mono (by omega))
        refine ⟨hg3.os.trans hb2.os, hg3.tape.trans hb2.tape, hg3.output.trans hb2.output, Nat.le_trans hb2.size hg3.size, fun x hx => (hg3.block x (Nat.lt_of_lt_of_le hx hb2.size) (fun e => ?_)).trans (hb2.block x hx)⟩
        have := (HR.out.lt e.symm).1
        omega)
      have HW2 := Lib.hid hw2
      have HRUN := Lib.hid (hw2 ▸ hr3)
      subst hvs
      clear hr3 hrow hg3 hvb hw2 b2 hR2 hY2 hz2 hcl hY1 hb1 hYr hB
      go_wp2_with (first | (go_at_call 33; refine CB.out.mono ?_; rintro e w' ⟨rfl, rfl⟩) | (at_builtin; refine wpList_world_gg rfl (.slice va (kk + 1) vc) (w' := w3) (exec_append _ _ rfl rfl rfl HRUN.out) ?_))
      refine ⟨⟨kk + 1, by omega, by go_num, HR3.out, HB3.out⟩, ?_⟩
      simp [intOf]; omega
    · go_wp2
      go_ret
      refine ⟨_, rfl, ?_, HB.out⟩
      have := HR.out
      rwa [List.take_of_length_le (by have := HN.out; omega)] at this
theorem got_ok1 (h : LinkAt w bl V A k) (hgot : ((k.en 1).got.length + 1) * 24 ≤ 140737488355328) : Calls Try.prog 16 #[.pointer (some ⟨bl, 0, none⟩), .int .i64 1] w fun e w' => ∃ v, e = .returned v ∧ RowOf w' w.heap.size (v.ownBlock.toList ++ (reach bl V ++ A)) 23 1 gc id v (k.en 1).got ∧ Below w.heap.size w w' := by
  obtain ⟨ga, gcp, ev, _⟩ := h.slG 1 (by decide)
  have co : w.cell? ⟨bl, 8, none⟩ = some (V 3) := h.cell 8
  rw [show V 3 = .slice ga (k.en 1).got.length gcp from ev] at co
  have RW := Lib.hid (h.g 1 (by decide))
  rw [ev] at RW
  obtain ⟨gs, hgs⟩ : ∃ gs, gs = (k.en 1).got := ⟨_, rfl⟩
  obtain ⟨n, hn⟩ : ∃ n, n = gs.length := ⟨_, rfl⟩
  rw [← hgs] at RW hgot
  rw [← hgs, ← hn] at co
  have HN := Lib.hid hn
  have SS := Lib.hid (show ∀ x ∈ reach bl V ++ A, x < w.heap.size from fun x hx => by
    rcases List.mem_append.1 hx with hx | hx
    · exact (h.reach_lt hx).2
    · exact h.out x hx)
  have hlt := h.head.lt
  have HGS := Lib.hid hgs
  clear hn h ev hgs
  rw [show (k.en 1).got = gs from HGS.out.symm]
  rw [show gs.length = n from HN.out.symm] at hgot RW
  go_enter Try.func16, Try.ntmps16
  go_wp2
  go_loopw [26, 5] (fun i v wr => ∃ kk : Nat, kk ≤ n ∧ i = .int .i64 kk ∧ RowOf wr w.heap.size (v.ownBlock.toList ++ (reach bl V ++ A)) 23 1 gc id v (gs.take kk) ∧ Below w.heap.size w wr) (fun i _ _ => n - (intOf i).toNat)
  case atStart => exact ⟨0, by omega, rfl, RowOf.nil, Below.refl _ _⟩
  case round =>
    obtain ⟨kk, hk, rfl, hr, hb⟩ := hrel
    have HR := Lib.hid hr
    have HB := Lib.hid hb
    have hsz := hb.size
    clear hr hb
    by_cases hkn : kk < n
    · obtain ⟨B, hB⟩ : ∃ B, gs[kk]? = some B := ⟨_, List.getElem?_eq_getElem (by have := HN.out; omega)⟩
      have HBB := Lib.hid hB
      obtain ⟨g, c', y, ee, hg, hcy, hY⟩ := RW.out.at_ (fun _ => rfl) kk B hB
      rw [← HN.out] at ee
      cases ee
      have cy : wr.cell? ⟨g, kk, none⟩ = some y := by
        have := hcy 0 y rfl
        rw [Nat.mul_one, Nat.add_zero] at this
        exact (Below.cell HB.out (p := ⟨g, kk, none⟩) hg).trans this
      have hYr := hY.move (Only.of_below (S := []) HB.out) (by simp) (fun x hx => .inl hx)
      obtain ⟨ca, cc, w1, hcl, hY1, hb1⟩ := clone_body hYr (u5.ownBlock.toList ++ (reach bl V ++ A)) (fun x hx => by
        rcases List.mem_append.1 hx with hx | hx
        · exact (HR.out.lt (by simpa using hx)).2
        · exact Nat.lt_of_lt_of_le (SS.out x hx) hsz)
      have CB := Lib.hid hcl
      have HB1 := Lib.hid hb1
      have hs1 := hb1.size
      obtain ⟨w2, hw2⟩ : ∃ w2, w2 = w1.alloc (.cells #[.slice ca B.length cc] 23) := ⟨_, rfl⟩
      have b2 : Below w1.heap.size w1 w2 := hw2 ▸ (Below.refl w1.heap.size w1).alloc (Nat.le_refl _) _
      have hR2 := (HR.out.below (N := 0) hb1).below (N := 0) b2
      have hY2 := hY1.move (Only.of_below (S := []) b2) (by simp) (fun x hx => .inl hx)
      have hz2 : Blk w2 w1.heap.size [.slice ca B.length cc] 23 := by rw [hw2]; exact blk_at rfl rfl
      have hlk : (gs.take kk).length = kk := by rw [List.length_take]; have := HN.out; omega
      obtain ⟨v', w3, hr3, hrow, hg3, hvb, va, vc, hvs⟩ := hR2.append 22 22 (.slice none 0 0) 24 Try.underlying22 info_bs rfl (by decide) B (.slice ca B.length cc) hY2 (c := 1) (src_blk hz2 rfl (gc_one rfl)) (by rw [hlk]; omega) (by rw [hlk]; unfold maxLen; omega) (by have := b2.size; omega) (fun g hg => List.mem_append_left _ (by rw [hg]; simp))
      rw [hlk] at hvs
      have HR3 := Lib.hid (show RowOf w3 w.heap.size (v'.ownBlock.toList ++ (reach bl V ++ A)) 23 1 gc id v' (gs.take (kk + 1)) from by
        rw [take_snoc gs kk B HBB.out]
        refine hrow _ (fun x hx => ?_)
        rcases List.mem_append.1 hx with hx | hx
        · rcases hvb with e | e
          · rw [e] at hx; exact .inl (List.mem_append_left _ hx)
          · rw [e] at hx; simp at hx; exact .inr (by omega)
        · exact .inl (List.mem_append_right _ hx))
      have HB3 := Lib.hid (show Below w.heap.size w w3 from by
        have hb2 : Below w.heap.size w w2 := (HB.out.trans (hb1.mono hsz)).trans (b2.mono (by omega))
        refine ⟨hg3.os.trans hb2.os, hg3.tape.trans hb2.tape, hg3.output.trans hb2.output, Nat.le_trans hb2.size hg3.size, fun x hx => (hg3.block x (Nat.lt_of_lt_of_le hx hb2.size) (fun e => ?_)).trans (hb2.block x hx)⟩
        have := (HR.out.lt e.symm).1
        omega)
      have HW2 := Lib.hid hw2
      have HRUN := Lib.hid (hw2 ▸ hr3)
      subst hvs
      clear hr3 hrow hg3 hvb hw2 b2 hR2 hY2 hz2 hcl hY1 hb1 hYr hB
      go_wp2_with (first | (go_at_call 33; refine CB.out.mono ?_; rintro e w' ⟨rfl, rfl⟩) | (at_builtin; refine wpList_world_gg rfl (.slice va (kk + 1) vc) (w' := w3) (exec_append _ _ rfl rfl rfl HRUN.out) ?_))
      refine ⟨⟨kk + 1, by omega, by go_num, HR3.out, HB3.out⟩, ?_⟩
      simp [intOf]; omega
    · go_wp2
      go_ret
      refine ⟨_, rfl, ?_, HB.out⟩
      have := HR.out
      rwa [List.take_of_length_le (by have := HN.out; omega)] at this
theorem got_any (h : LinkAt w bl V A k) (n : Nat) (hn : n < 2) (hgot : ((k.en n).got.length + 1) * 24 ≤ 140737488355328) : Calls Try.prog 16 #[.pointer (some ⟨bl, 0, none⟩), .int .i64 (n : Int)] w fun e w' => ∃ v, e = .returned v ∧ RowOf w' w.heap.size (v.ownBlock.toList ++ (reach bl V ++ A)) 23 1 gc id v (k.en n).got ∧ Below w.heap.size w w' := by
  obtain rfl | rfl : n = 0 ∨ n = 1 := by omega
  · exact got_ok0 h hgot
  · exact got_ok1 h hgot
theorem got_no (p : Option Addr) (n : Int) (hn : n < 0 ∨ 1 < n) (w : World) : Calls Try.prog 16 #[.pointer p, .int .i64 n] w fun e w' => e = .returned (.slice none 0 0) ∧ w = w' := by
  cases p with
  | none => exact got_nil n w
  | some p =>
    by_cases h1 : n < 0
    · go_enter Try.func16, Try.ntmps16
      go_wp2_with fail
      go_ret
      exact ⟨rfl, rfl⟩
    · have h2 : 1 < n := by omega
      go_enter Try.func16, Try.ntmps16
      go_wp2_with fail
      go_ret
      exact ⟨rfl, rfl⟩
end
end Go.Proofs.Ytfjaoompdleljaa.Link
