/-
  Helper texts, joined in build order; no statement is proved here.
-/
import Derived.WalkKit
import Derived.ProofKit
import Derived.OpenShut
import Derived.ChangeOld
import Derived.SizedLaws
import Derived.BigQuiet
import Derived.Deep.QuietTactic
import Derived.Deep.RegionHeld3
import Derived.Test.YtfjaoompdleljaaPls2
/-
  Flight of a link by contract. Helper text; no statement is proved here.
-/
set_option linter.unusedVariables false
set_option maxRecDepth 20000
set_option linter.unusedSimpArgs false
namespace Go.Proofs.Ytfjaoompdleljaa.Link
open Go.RowKit Go.Proofs.Ytfjaoompdleljaa.Base Go.Proofs.Ytfjaoompdleljaa.Laws Go.Proofs.Ytfjaoompdleljaa.Disk Go.Proofs.Ytfjaoompdleljaa.Row Go.Proofs.Ytfjaoompdleljaa.Flat Go.Proofs.Ytfjaoompdleljaa.InvM Go.Proofs.Ytfjaoompdleljaa.Codec
section
variable {w : World} {bl : Nat} {V : Nat → Value} {A : List Nat} {k : Lk}
set_option maxHeartbeats 2000000 in
theorem flight_any (h : LinkAt w bl V A k) (hfl : k.fl.length ≤ 1024) : Calls Try.prog 12 #[.pointer (some ⟨bl, 0, none⟩)] w fun e w' => ∃ v, e = .returned v ∧ RowOf w' w.heap.size (v.ownBlock.toList ++ (reach bl V ++ A)) 74 5 pc (·.m.B) v k.fl ∧ Below w.heap.size w w' := by
  obtain ⟨ga, gcp, ev, _⟩ := h.slF
  have co : w.cell? ⟨bl, 9, none⟩ = some (V 4) := h.cell 9
  rw [ev] at co
  have RW := Lib.hid h.fl
  rw [ev] at RW
  obtain ⟨gs, hgs⟩ : ∃ gs, gs = k.fl := ⟨_, rfl⟩
  obtain ⟨n, hn⟩ : ∃ n, n = gs.length := ⟨_, rfl⟩
  rw [← hgs] at RW hfl
  rw [← hgs, ← hn] at co
  have HN := Lib.hid hn
  have SS := Lib.hid (show ∀ x ∈ reach bl V ++ A, x < w.heap.size from fun x hx => by
    rcases List.mem_append.1 hx with hx | hx
    · exact (h.reach_lt hx).2
    · exact h.out x hx)
  have hlt := h.head.lt
  have HGS := Lib.hid hgs
  clear hn h ev hgs
  rw [show k.fl = gs from HGS.out.symm]
  rw [show gs.length = n from HN.out.symm] at hfl RW
  go_enter Try.func12, Try.ntmps12
  go_wp2
  go_loopw [13, 3] (fun i v wr => ∃ kk : Nat, kk ≤ n ∧ i = .int .i64 kk ∧ RowOf wr w.heap.size (v.ownBlock.toList ++ (reach bl V ++ A)) 74 5 pc (·.m.B) v (gs.take kk) ∧ Below w.heap.size w wr) (fun i _ _ => n - (intOf i).toNat)
  case atStart => exact ⟨0, by omega, rfl, RowOf.nil, Below.refl _ _⟩
  case round =>
    obtain ⟨kk, hk, rfl, hr, hb⟩ := hrel
    have HR := Lib.hid hr
    have HB := Lib.hid hb
    have hsz := hb.size
    clear hr hb
    by_cases hkn : kk < n
    · obtain ⟨p, hp⟩ : ∃ p, gs[kk]? = some p := ⟨_, List.getElem?_eq_getElem (by have := HN.out; omega)⟩
      have HPP := Lib.hid hp
      obtain ⟨g, c', y, ee, hg, hcy, hY⟩ := RW.out.at_ (fun _ => rfl) kk p hp
      rw [← HN.out] at ee
      cases ee
      obtain ⟨ya, yc, hy, _, _⟩ := hY.slice
      obtain ⟨yl, hyl⟩ : ∃ yl, yl = p.m.B.length := ⟨_, rfl⟩
      rw [← hyl] at hy
      obtain ⟨pv, hpv⟩ : ∃ pv, pv = pc (p, y) := ⟨_, rfl⟩
      have HPV := Lib.hid hpv
      have LD := Lib.hid (show ∀ j v, pv[j]? = some v → wr.cell? ((⟨g, kk * 5, none⟩ : Addr).add j) = some v from fun j v hj => by
        rw [Addr.add_lit]
        exact (Below.cell HB.out (p := ⟨g, kk * 5 + j, none⟩) hg).trans (hcy j v (by rw [← hpv]; exact hj)))
      have P5 := Lib.hid (show pv.length = 5 by rw [hpv]; rfl)
      have P1 := Lib.hid (show ∀ u ∈ pv, u.oneCell' = true by rw [hpv]; exact pc_one hY.one)
      have Z2 := Lib.hid (blk_at (w := wr) (g := wr.heap.size) (cs := zpk) (t := 74) (arr := #[.int .i64 0, .int .u32 0, .int .u32 0, .int .u32 0, .slice none 0 0]) rfl rfl)
      have HY := Lib.hid (hY.move (Only.of_below (S := []) HB.out) (by simp) (fun x hx => .inl hx))
      have HYS := Lib.hid hy
      clear hp hcy hY hpv hy hyl
      go_upto_region 7 with (first | (refine wpList_value_g rfl (.agg pv.toArray) (exec_load_from rfl rfl LD.out Try.underlying74 rfl (by kernel_rfl) P5.out) ?_) | (refine wpList_store_blk rfl 74 _ _ rfl wr.heap.size 0 5 rfl 74 zpk pv rfl Z2.out (by kernel_rfl) P5.out (by decide) P1.out ?_; intro w3 z3 g3; have Z3 := Lib.hid z3; have G3 := Lib.hid g3; clear z3 g3))
      have B3 := Lib.hid (below_grown ((Below.refl wr.heap.size wr).alloc (Nat.le_refl _) _) G3.out (by simp) (Nat.le_refl _))
      obtain ⟨pb, hpb⟩ : ∃ pb, pb = wr.heap.size := ⟨_, rfl⟩
      have P6 := Lib.hid (show Blk w3 pb (pc (p, y)) 74 from by have := Z3.out; rw [put_all _ _ (by rw [P5.out]; rfl), ← hpb, HPV.out] at this; exact this)
      have hs3 : pb < w3.heap.size := P6.out.lt
      have Y3 := HY.out.move (Only.of_below (S := []) B3.out) (by simp) (fun x hx => .inl hx)
      obtain ⟨ca, cc, w4, hcl, hY4, hb4⟩ := clone_body Y3 (pb :: (u3.ownBlock.toList ++ (reach bl V ++ A))) (fun x hx => by
        rcases List.mem_cons.1 hx with rfl | hx
        · exact hs3
        rcases List.mem_append.1 hx with hx | hx
        · have := (HR.out.lt (by simpa using hx)).2; omega
        · have := SS.out x hx; omega)
      have P64 := Lib.hid (P6.out.below hb4 hs3)
      rw [HYS.out] at hcl
      have CB := Lib.hid hcl
      have q4 : w3.cell? ⟨pb, 4, none⟩ = some (.slice ya yl yc) := by rw [← HYS.out]; exact P6.out.cell 4
      have q44 : w4.cell? ⟨pb, 4, none⟩ = some (.slice ya yl yc) := by rw [← HYS.out]; exact P64.out.cell 4
      have f44 : w4.frozen? ⟨pb, 4, none⟩ = false := P64.out.frozen 4
      rw [← hpb]
      have HPB := Lib.hid hpb
      clear Z3 Z2 LD G3 Y3 hcl hpb
      simp only [Act.put]
      go_upto_region 8 with (go_at_call 33; refine CB.out.mono ?_; intro e w' hh; have he := hh.1; have hw := hh.2; subst he; subst w'; clear hh)
      obtain ⟨w5, hw5⟩ : ∃ w5, w5 = w4.setCell ⟨pb, 4, none⟩ (.slice ca p.m.B.length cc) := ⟨_, rfl⟩
      obtain ⟨qv, hqv⟩ : ∃ qv, qv = pc (p, .slice ca p.m.B.length cc) := ⟨_, rfl⟩
      have Q5 := Lib.hid (show qv.length = 5 by rw [hqv]; rfl)
      have P65 := Lib.hid (show Blk w5 pb qv 74 from by rw [hw5, hqv]; exact P64.out.setCell 4 _)
      have hb5 : Below pb wr w5 := by
        have h4 : Below pb wr w4 := by rw [HPB.out]; exact B3.out.trans (hb4.mono (by have := HPB.out; omega))
        rw [hw5]
        exact h4.setCell (Nat.le_refl _) _
      have hs5 : pb < w5.heap.size := P65.out.lt
      have hY5 : Body w5 (pb :: (u3.ownBlock.toList ++ (reach bl V ++ A))) (.slice ca p.m.B.length cc) p.m.B := by
        rw [hw5]
        exact hY4.move (T := [pb]) ((Only.refl [pb] w4).setCell (by simp) 4 _) (by simp) (fun x hx => .inl hx)
      rw [← hw5]
      clear hw5 q44 f44 q4 P64 P6 hY4
      obtain ⟨w6, hw6⟩ : ∃ w6, w6 = w5.alloc (.cells qv.toArray 74) := ⟨_, rfl⟩
      have b6 : Below w5.heap.size w5 w6 := hw6 ▸ (Below.refl w5.heap.size w5).alloc (Nat.le_refl _) _
      have hb6 : Below pb wr w6 := hb5.trans (b6.mono (by omega))
      have hR6 := HR.out.below (N := 0) (HPB.out ▸ hb6)
      have hY6 : Body w6 (u3.ownBlock.toList ++ (reach bl V ++ A)) (.slice ca p.m.B.length cc) p.m.B := hY5.move (Only.of_below (S := []) b6) (by simp) (fun x hx => .inl (List.mem_cons_of_mem _ hx))
      have hz6 : Blk w6 w5.heap.size (pc (p, .slice ca p.m.B.length cc)) 74 := by rw [hw6, ← hqv]; exact blk_at rfl rfl
      have hlk : (gs.take kk).length = kk := by rw [List.length_take]; have := HN.out; omega
      obtain ⟨v', w7, hr7, hrow, hg7, hvb, va, vc, hvs⟩ := hR6.append 29 29 (.agg #[.int .i64 0, .int .u32 0, .int .u32 0, .int .u32 0, .slice none 0 0]) 48 Try.underlying29 info_pk rfl (by decide) p (.slice ca p.m.B.length cc) hY6 (c := 1) (src_blk hz6 rfl (pc_one rfl)) (by rw [hlk]; omega) (by rw [hlk]; unfold maxLen; omega) (by have := b6.size; have := HPB.out; omega) (fun g hg => List.mem_append_left _ (by rw [hg]; simp))
      rw [hlk] at hvs
      have HR7 := Lib.hid (show RowOf w7 w.heap.size (v'.ownBlock.toList ++ (reach bl V ++ A)) 74 5 pc (·.m.B) v' (gs.take (kk + 1)) from by
        rw [take_snoc gs kk p HPP.out]
        refine hrow _ (fun x hx => ?_)
        rcases List.mem_append.1 hx with hx | hx
        · rcases hvb with e | e
          · rw [e] at hx; exact .inl (List.mem_append_left _ hx)
          · rw [e] at hx; simp at hx; exact .inr (by have := HPB.out; omega)
        · exact .inl (List.mem_append_right _ hx))
      have HB7 := Lib.hid (show Below w.heap.size w w7 from by
        have h6 : Below w.heap.size w w6 := HB.out.trans (hb6.mono (by have := HPB.out; omega))
        exact h6.grown hg7 (by have := b6.size; have := HPB.out; omega) (fun k e => (HR.out.lt e).1))
      have HRUN := Lib.hid (hw6 ▸ hr7)
      subst hvs
      clear hr7 hrow hg7 hvb hw6 b6 hR6 hY6 hz6 hb6 hb5 hY5 hqv
      go_wp2_with (first | (refine wpList_value_g rfl (.agg qv.toArray) (exec_load (cs := qv) (t := 74) rfl rfl P65.out Try.underlying74 rfl (by kernel_rfl) Q5.out) ?_) | (refine wpList_world_gg rfl (.slice (some ⟨w5.heap.size, 0, none⟩) 1 1) (w' := w5.alloc (.cells qv.toArray 74)) (exec_build_one rfl rfl Try.underlying29 info_pk Q5.out (by decide) (by decide)) ?_) | (at_builtin; refine wpList_world_gg rfl (.slice va (kk + 1) vc) (w' := w7) (exec_append _ _ rfl rfl rfl HRUN.out) ?_))
      refine ⟨⟨kk + 1, by omega, by go_num, HR7.out, HB7.out⟩, ?_⟩
      simp [intOf]; omega
    · go_wp2
      go_ret
      refine ⟨_, rfl, ?_, HB.out⟩
      have := HR.out
      rwa [List.take_of_length_le (by have := HN.out; omega)] at this
end
end Go.Proofs.Ytfjaoompdleljaa.Link
/-
  Send, Renew of a link by contract. Helper text; no statement is proved here.
-/
set_option linter.unusedVariables false
set_option maxRecDepth 20000
set_option linter.unusedSimpArgs false
namespace Go.Proofs.Ytfjaoompdleljaa.Link
open Go.RowKit Go.Proofs.Ytfjaoompdleljaa.Base Go.Proofs.Ytfjaoompdleljaa.Laws Go.Proofs.Ytfjaoompdleljaa.Disk Go.Proofs.Ytfjaoompdleljaa.Row Go.Proofs.Ytfjaoompdleljaa.Flat Go.Proofs.Ytfjaoompdleljaa.InvM Go.Proofs.Ytfjaoompdleljaa.Inv Go.Proofs.Ytfjaoompdleljaa.InvL Go.Proofs.Ytfjaoompdleljaa.InvC Go.Proofs.Ytfjaoompdleljaa.InvG
def Lk.sendE (k : Lk) (n : Int) (l : Nat) : Int := if n < 0 ∨ 1 < n ∨ l < 1 ∨ 64 < l then 2 else if k.fl.length < 1024 ∧ (k.en n.toNat).op.length < 256 then 0 else 9
def Lk.sends (k : Lk) (n : Int) (B : List UInt8) : Lk := if k.sendE n B.length = 0 then k.send n.toNat B else k
section
variable {w : World} {bl : Nat} {V : Nat → Value} {A : List Nat} {k : Lk}
theorem send_any (h : LinkAt w bl V A k) (n : Int) (a : Option Addr) (l c : Nat) (B : List UInt8) (hb : Bts w a l c B) (hout : 0 < l → ∀ g o, a = some ⟨g, o, none⟩ → g ∉ reach bl V) : Calls Try.prog 11 #[.pointer (some ⟨bl, 0, none⟩), .int .i64 n, .slice a l c] w fun e w' => e = .returned (.int .i64 (k.sendE n l)) ∧ ∃ V', Goes w bl V A w' V' (k.sends n B) := by
  have hl : B.length = l := hb.1
  by_cases h1 : n < 0 ∨ 1 < n ∨ l < 1 ∨ 64 < l
  · refine (send_arg (some ⟨bl, 0, none⟩) n a l c h1 w).mono ?_
    rintro e w' ⟨rfl, rfl⟩
    have e : k.sendE n l = 2 := if_pos h1
    unfold Lk.sends
    rw [hl, e]
    exact ⟨rfl, V, Goes.refl h⟩
  · have hn : n = 0 ∨ n = 1 := by omega
    by_cases h2 : k.fl.length < 1024 ∧ (k.en n.toNat).op.length < 256
    · have e : k.sendE n l = 0 := by unfold Lk.sendE; rw [if_neg h1, if_pos h2]
      unfold Lk.sends
      rw [hl, e, if_pos rfl]
      rcases hb.2.2.2 with h4 | ⟨g, o, rfl, _⟩
      · omega
      rcases hn with rfl | rfl
      · exact send_ok0 h g o c l B hl (by omega) (by omega) hb h2.1 h2.2 (hout (by omega) g o rfl)
      · exact send_ok1 h g o c l B hl (by omega) (by omega) hb h2.1 h2.2 (hout (by omega) g o rfl)
    · have e : k.sendE n l = 9 := by unfold Lk.sendE; rw [if_neg h1, if_neg h2]
      unfold Lk.sends
      rw [hl, e]
      rcases hn with rfl | rfl
      · refine (send_full0 h a l c (by omega) (by omega) h2).mono ?_
        rintro e w' ⟨rfl, rfl⟩
        exact ⟨rfl, V, Goes.refl h⟩
      · refine (send_full1 h a l c (by omega) (by omega) h2).mono ?_
        rintro e w' ⟨rfl, rfl⟩
        exact ⟨rfl, V, Goes.refl h⟩
theorem renew_no (h : LinkAt w bl V A k) (e : Nat) (he : e ≤ k.ep) : Calls Try.prog 13 #[.pointer (some ⟨bl, 0, none⟩), .int .u32 (e : Int)] w fun x w' => x = .returned (.int .i64 2) ∧ w = w' := by
  have c0 : w.cell? ⟨bl, 0, none⟩ = some (.int .u32 (k.ep : Int)) := h.cell 0
  have he' : (e : Int) ≤ (k.ep : Int) := by omega
  clear h
  go_enter Try.func13, Try.ntmps13
  go_wp2_with fail
  go_ret
  exact ⟨rfl, rfl⟩
def Lk.renew (k : Lk) (e : Nat) : Lk := ⟨e, ⟨[], 0, 0, k.a.got⟩, ⟨[], 0, 0, k.b.got⟩, k.fl⟩
theorem invc_store {P : Program} {I : Array Bool → World → Prop} {G : Nat → Array Bool → Prop} {ops : Array Oper} {Q : Act → Prop} {i : Nat} {a : Act} {o : Oper} {rest : List Oper} (hw : Region.wanted o (yielded ops a.tmps) = true) (hr : ∀ d w, d.getD i true = false → G i d → I d w → ∃ w', (execOp a.eval o).run P w = .ok .skip w' ∧ I (d.setIfInBounds i true) w')
    (h : wpInvC P I G (fun _ => none) ops Q (i + 1) rest (a.put o.dst undef)) : wpInvC P I G (fun _ => none) ops Q i (o :: rest) a :=
  ⟨undef, ⟨(fun u hu => by cases hu), .inl ⟨hw, fun d w hd hG hI => by obtain ⟨w', h1, h2⟩ := hr d w hd hG hI; rw [h1]; exact ⟨rfl, h2⟩⟩⟩, h⟩
def Lk.clr (k : Lk) (n : Nat) : Lk := k.with n { k.en n with op := [] }
def Lk.sent0 (k : Lk) (n : Nat) : Lk := k.with n { k.en n with sent := 0 }
def Lk.come0 (k : Lk) (n : Nat) : Lk := k.with n { k.en n with come := 0 }
theorem LinkAt.cleared (h : LinkAt w bl V A k) (n : Nat) (hn : n < 2) : Goes w bl V A (w.setCell ⟨bl, 1 + 4 * n, none⟩ (.slice none 0 0)) (upd V (2 * n) (.slice none 0 0)) (k.clr n) := by
  refine h.turned (2 * n) (by omega) (.slice none 0 0) (1 + 4 * n) (k.clr n) (below_grownBy (Below.refl _ _)) (.inr (.inr rfl)) ?_ (fun m hm hne => ?_) (fun m hm _ => ?_) (fun _ => ?_) (fun m hm e => ?_) (fun m hm e => by omega) (fun e => by omega)
  · obtain rfl | rfl : n = 0 ∨ n = 1 := by omega
    · rfl
    · rfl
  · obtain ⟨rfl, rfl⟩ | ⟨rfl, rfl⟩ : (n = 0 ∧ m = 1) ∨ (n = 1 ∧ m = 0) := by omega
    · rfl
    · rfl
  · obtain rfl | rfl : n = 0 ∨ n = 1 := by omega
    · obtain rfl | rfl : m = 0 ∨ m = 1 := by omega
      · rfl
      · rfl
    · obtain rfl | rfl : m = 0 ∨ m = 1 := by omega
      · rfl
      · rfl
  · obtain rfl | rfl : n = 0 ∨ n = 1 := by omega
    · rfl
    · rfl
  · obtain rfl : m = n := by omega
    have e : ((k.clr m).en m).op = [] := by
      obtain rfl | rfl : m = 0 ∨ m = 1 := by omega
      · rfl
      · rfl
    rw [e]
    exact RowOf.nil
theorem en_with (k : Lk) (n m : Nat) (e : En) (hn : n < 2) (hm : m < 2) : (k.with n e).en m = if m = n then e else k.en m := by
  obtain rfl | rfl : n = 0 ∨ n = 1 := by omega
  · obtain rfl | rfl : m = 0 ∨ m = 1 := by omega
    · rfl
    · rfl
  · obtain rfl | rfl : m = 0 ∨ m = 1 := by omega
    · rfl
    · rfl
theorem LinkAt.sentAt (h : LinkAt w bl V A k) (n : Nat) (hn : n < 2) : Goes w bl V A (w.setCell ⟨bl, 2 + 4 * n, none⟩ (.int .u32 0)) V (k.sent0 n) := by
  refine h.scalar _ _ _ ?_ (fun m => ?_) (fun m => ?_) ?_ <;> (obtain rfl | rfl : n = 0 ∨ n = 1 := by omega) <;> first | rfl | (unfold Lk.sent0 Lk.en Lk.with; by_cases hm : m = 0 <;> simp [hm, Lk.en])
theorem LinkAt.comeAt (h : LinkAt w bl V A k) (n : Nat) (hn : n < 2) : Goes w bl V A (w.setCell ⟨bl, 3 + 4 * n, none⟩ (.int .u32 0)) V (k.come0 n) := by
  refine h.scalar _ _ _ ?_ (fun m => ?_) (fun m => ?_) ?_ <;> (obtain rfl | rfl : n = 0 ∨ n = 1 := by omega) <;> first | rfl | (unfold Lk.come0 Lk.en Lk.with; by_cases hm : m = 0 <;> simp [hm, Lk.en])
theorem LinkAt.epochAt (h : LinkAt w bl V A k) (e : Nat) : Goes w bl V A (w.setCell ⟨bl, 0, none⟩ (.int .u32 (e : Int))) V { k with ep := e } :=
  h.scalar _ _ _ rfl (fun m => rfl) (fun m => rfl) rfl
theorem renew_ok (h : LinkAt w bl V A k) (e : Nat) (he : k.ep < e) : Calls Try.prog 13 #[.pointer (some ⟨bl, 0, none⟩), .int .u32 (e : Int)] w fun x w' => x = .returned (.int .i64 0) ∧ ∃ V', Goes w bl V A w' V' (k.renew e) := by
  have c0 : w.cell? ⟨bl, 0, none⟩ = some (.int .u32 (k.ep : Int)) := h.cell 0
  have f0 := h.head.frozen 0
  have he' : ¬ ((e : Int) ≤ (k.ep : Int)) := by omega
  have H := Lib.hid h
  clear h
  go_enter Try.func13, Try.ntmps13
  go_wp2_with fail
  obtain ⟨w0, hw0⟩ : ∃ w0, w0 = w.setCell ⟨bl, 0, none⟩ (.int .u32 (e : Int)) := ⟨_, rfl⟩
  have G0 := Lib.hid (show Goes w bl V A w0 V { k with ep := e } from hw0 ▸ H.out.epochAt e)
  rw [← hw0]
  clear hw0 c0 f0 H
  refine wp_loop_rounds 3 ?_
  rw [rounds_succ]
  go_wp2_with fail
  have gA := G0.out.at_.drew
  have gB := gA.cleared 0 (by decide)
  have gC := gB.at_.sentAt 0 (by decide)
  have gD := gC.at_.comeAt 0 (by decide)
  obtain ⟨wB, hwB⟩ : ∃ wB, wB = w0.drew.setCell ⟨bl, 1, none⟩ (.slice none 0 0) := ⟨_, rfl⟩
  obtain ⟨wC, hwC⟩ : ∃ wC, wC = wB.setCell ⟨bl, 2, none⟩ (.int .u32 0) := ⟨_, rfl⟩
  obtain ⟨wD, hwD⟩ : ∃ wD, wD = wC.setCell ⟨bl, 3, none⟩ (.int .u32 0) := ⟨_, rfl⟩
  have GT := Lib.hid (show Goes w bl V A wD _ _ from by rw [hwD, hwC, hwB]; exact (((G0.out.keep ((Below.refl _ _).drew)).trans gB).trans gC).trans gD)
  obtain ⟨x1, cA⟩ : ∃ x, w0.drew.cell? ⟨bl, 1, none⟩ = some x := ⟨_, (gA.cell 1).trans rfl⟩
  have fA : w0.drew.frozen? ⟨bl, 1, none⟩ = false := gA.head.frozen 1
  obtain ⟨x2, cB⟩ : ∃ x, wB.cell? ⟨bl, 2, none⟩ = some x := ⟨_, by rw [hwB]; exact (gB.at_.cell 2).trans rfl⟩
  have fB : wB.frozen? ⟨bl, 2, none⟩ = false := by rw [hwB]; exact gB.at_.head.frozen 2
  obtain ⟨x3, cC⟩ : ∃ x, wC.cell? ⟨bl, 3, none⟩ = some x := ⟨_, by rw [hwC, hwB]; exact (gC.at_.cell 3).trans rfl⟩
  have fC : wC.frozen? ⟨bl, 3, none⟩ = false := by rw [hwC, hwB]; exact gC.at_.head.frozen 3
  have CC := Lib.hid cC
  have FC := Lib.hid fC
  have HWB := Lib.hid hwB
  have HWC := Lib.hid hwC
  have HWD := Lib.hid hwD
  clear gA gB gC gD G0 cC fC hwB hwC hwD
  refine wp_region_gate_tail (fun d w' => At2 10 15 (fun w' => w' = w0.drew) (fun w' => w' = wB) (fun w' => w' = wC) d w') 20 (by kernel_rfl) (by kernel_rfl) ?hI ?_
  case hI => exact At2.start (by rfl) (by rfl) rfl
  simp only [List.take_succ_cons, List.take_zero, List.drop_succ_cons, List.drop_zero]
  refine InvC.invc_value (.pointer (some ⟨bl, 0, none⟩)) (fun u hu => by cases hu) rfl (fun d w' _ _ h => by go_simp; all_goals rfl) (fun d w' _ _ h => At2.keep (by decide) (by decide) h) ?_
  simp only [Act.put, List.setIfInBounds_toArray, List.set_cons_zero, List.set_cons_succ]
  refine InvC.invc_value (.int .i64 0) (fun u hu => by cases hu) rfl (fun d w' _ _ h => by go_simp; all_goals rfl) (fun d w' _ _ h => At2.keep (by decide) (by decide) h) ?_
  simp only [Act.put, List.setIfInBounds_toArray, List.set_cons_zero, List.set_cons_succ]
  refine InvC.invc_value (.pointer (some ⟨bl, 0, none⟩)) (fun u hu => by cases hu) rfl (fun d w' _ _ h => by go_simp; all_goals rfl) (fun d w' _ _ h => At2.keep (by decide) (by decide) h) ?_
  simp only [Act.put, List.setIfInBounds_toArray, List.set_cons_zero, List.set_cons_succ]
  refine InvC.invc_value (.int .i64 0) (fun u hu => by cases hu) rfl (fun d w' _ _ h => by go_simp; all_goals rfl) (fun d w' _ _ h => At2.keep (by decide) (by decide) h) ?_
  simp only [Act.put, List.setIfInBounds_toArray, List.set_cons_zero, List.set_cons_succ]
  refine InvC.invc_value (.pointer (some ⟨bl, 0, none⟩)) (fun u hu => by cases hu) rfl (fun d w' _ _ h => by go_simp; all_goals rfl) (fun d w' _ _ h => At2.keep (by decide) (by decide) h) ?_
  simp only [Act.put, List.setIfInBounds_toArray, List.set_cons_zero, List.set_cons_succ]
  refine InvC.invc_value (.int .i64 0) (fun u hu => by cases hu) rfl (fun d w' _ _ h => by go_simp; all_goals rfl) (fun d w' _ _ h => At2.keep (by decide) (by decide) h) ?_
  simp only [Act.put, List.setIfInBounds_toArray, List.set_cons_zero, List.set_cons_succ]
  refine InvC.invc_value (.pointer (some ⟨bl, 0, none⟩)) (fun u hu => by cases hu) rfl (fun d w' _ _ h => by go_simp; all_goals rfl) (fun d w' _ _ h => At2.keep (by decide) (by decide) h) ?_
  simp only [Act.put, List.setIfInBounds_toArray, List.set_cons_zero, List.set_cons_succ]
  refine InvC.invc_value (.pointer (some ⟨bl, 1, none⟩)) (fun u hu => by cases hu) rfl (fun d w' _ _ h => by go_simp; all_goals rfl) (fun d w' _ _ h => At2.keep (by decide) (by decide) h) ?_
  simp only [Act.put, List.setIfInBounds_toArray, List.set_cons_zero, List.set_cons_succ]
  refine InvC.invc_value (.pointer (some ⟨bl, 1, none⟩)) (fun u hu => by cases hu) rfl (fun d w' _ _ h => by go_simp; all_goals rfl) (fun d w' _ _ h => At2.keep (by decide) (by decide) h) ?_
  simp only [Act.put, List.setIfInBounds_toArray, List.set_cons_zero, List.set_cons_succ]
  refine InvC.invc_value (.pointer (some ⟨bl, 1, none⟩)) (fun u hu => by cases hu) rfl (fun d w' _ _ h => by go_simp; all_goals rfl) (fun d w' _ _ h => At2.keep (by decide) (by decide) h) ?_
  simp only [Act.put, List.setIfInBounds_toArray, List.set_cons_zero, List.set_cons_succ]
  refine invc_store rfl (fun d w' hd hG h => ⟨wB, by
    have e := (h.at_p hd).1
    subst e
    rw [HWB.out]
    go_simp, At2.did_p (by decide) hd h rfl⟩) ?_
  simp only [Act.put, List.setIfInBounds_toArray, List.set_cons_zero, List.set_cons_succ]
  refine InvC.invc_value (.pointer (some ⟨bl, 0, none⟩)) (fun u hu => by cases hu) rfl (fun d w' _ _ h => by go_simp; all_goals rfl) (fun d w' _ _ h => At2.keep (by decide) (by decide) h) ?_
  simp only [Act.put, List.setIfInBounds_toArray, List.set_cons_zero, List.set_cons_succ]
  refine InvC.invc_value (.pointer (some ⟨bl, 1, none⟩)) (fun u hu => by cases hu) rfl (fun d w' _ _ h => by go_simp; all_goals rfl) (fun d w' _ _ h => At2.keep (by decide) (by decide) h) ?_
  simp only [Act.put, List.setIfInBounds_toArray, List.set_cons_zero, List.set_cons_succ]
  refine InvC.invc_value (.pointer (some ⟨bl, 1, none⟩)) (fun u hu => by cases hu) rfl (fun d w' _ _ h => by go_simp; all_goals rfl) (fun d w' _ _ h => At2.keep (by decide) (by decide) h) ?_
  simp only [Act.put, List.setIfInBounds_toArray, List.set_cons_zero, List.set_cons_succ]
  refine InvC.invc_value (.pointer (some ⟨bl, 2, none⟩)) (fun u hu => by cases hu) rfl (fun d w' _ _ h => by go_simp; all_goals rfl) (fun d w' _ _ h => At2.keep (by decide) (by decide) h) ?_
  simp only [Act.put, List.setIfInBounds_toArray, List.set_cons_zero, List.set_cons_succ]
  refine invc_store rfl (fun d w' hd hG h => ⟨wC, by
    have e := h.at_q hd (hG.of (by kernel_rfl))
    subst e
    rw [HWC.out]
    go_simp, At2.did_q (by decide) hd (hG.of (by kernel_rfl)) rfl⟩) ?_
  simp only [Act.put, List.setIfInBounds_toArray, List.set_cons_zero, List.set_cons_succ]
  refine InvC.invc_value (.pointer (some ⟨bl, 0, none⟩)) (fun u hu => by cases hu) rfl (fun d w' _ _ h => by go_simp; all_goals rfl) (fun d w' _ _ h => At2.keep (by decide) (by decide) h) ?_
  simp only [Act.put, List.setIfInBounds_toArray, List.set_cons_zero, List.set_cons_succ]
  refine InvC.invc_value (.pointer (some ⟨bl, 1, none⟩)) (fun u hu => by cases hu) rfl (fun d w' _ _ h => by go_simp; all_goals rfl) (fun d w' _ _ h => At2.keep (by decide) (by decide) h) ?_
  simp only [Act.put, List.setIfInBounds_toArray, List.set_cons_zero, List.set_cons_succ]
  refine InvC.invc_value (.pointer (some ⟨bl, 1, none⟩)) (fun u hu => by cases hu) rfl (fun d w' _ _ h => by go_simp; all_goals rfl) (fun d w' _ _ h => At2.keep (by decide) (by decide) h) ?_
  simp only [Act.put, List.setIfInBounds_toArray, List.set_cons_zero, List.set_cons_succ]
  refine InvC.invc_value (.pointer (some ⟨bl, 3, none⟩)) (fun u hu => by cases hu) rfl (fun d w' _ _ h => by go_simp; all_goals rfl) (fun d w' _ _ h => At2.keep (by decide) (by decide) h) ?_
  simp only [Act.put, List.setIfInBounds_toArray, List.set_cons_zero, List.set_cons_succ]
  refine InvC.invc_nil fun w9 hI => ?_
  have e6 := hI.done (by rfl)
  subst e6
  have c9 := CC.out
  have f9 := FC.out
  clear cA fA cB fB CC FC
  go_wp2_with fail
  obtain ⟨w1, hw1⟩ : ∃ w1, w1 = w9.setCell ⟨bl, 3, none⟩ (.int .u32 0) := ⟨_, rfl⟩
  rw [← hw1]
  have G3 := Lib.hid (show Goes w bl V A w1 _ _ from by rw [hw1, ← HWD.out]; exact GT.out)
  clear hw1 HWD HWC HWB GT
  rw [rounds_succ]
  go_wp2_with fail
  have gA := G3.out.at_.drew
  have gB := gA.cleared 1 (by decide)
  have gC := gB.at_.sentAt 1 (by decide)
  have gD := gC.at_.comeAt 1 (by decide)
  obtain ⟨wB, hwB⟩ : ∃ wB, wB = w1.drew.setCell ⟨bl, 5, none⟩ (.slice none 0 0) := ⟨_, rfl⟩
  obtain ⟨wC, hwC⟩ : ∃ wC, wC = wB.setCell ⟨bl, 6, none⟩ (.int .u32 0) := ⟨_, rfl⟩
  obtain ⟨wD, hwD⟩ : ∃ wD, wD = wC.setCell ⟨bl, 7, none⟩ (.int .u32 0) := ⟨_, rfl⟩
  have GT := Lib.hid (show Goes w bl V A wD _ _ from by rw [hwD, hwC, hwB]; exact (((G3.out.keep ((Below.refl _ _).drew)).trans gB).trans gC).trans gD)
  obtain ⟨x1, cA⟩ : ∃ x, w1.drew.cell? ⟨bl, 5, none⟩ = some x := ⟨_, (gA.cell 5).trans rfl⟩
  have fA : w1.drew.frozen? ⟨bl, 5, none⟩ = false := gA.head.frozen 5
  obtain ⟨x2, cB⟩ : ∃ x, wB.cell? ⟨bl, 6, none⟩ = some x := ⟨_, by rw [hwB]; exact (gB.at_.cell 6).trans rfl⟩
  have fB : wB.frozen? ⟨bl, 6, none⟩ = false := by rw [hwB]; exact gB.at_.head.frozen 6
  obtain ⟨x3, cC⟩ : ∃ x, wC.cell? ⟨bl, 7, none⟩ = some x := ⟨_, by rw [hwC, hwB]; exact (gC.at_.cell 7).trans rfl⟩
  have fC : wC.frozen? ⟨bl, 7, none⟩ = false := by rw [hwC, hwB]; exact gC.at_.head.frozen 7
  have CC := Lib.hid cC
  have FC := Lib.hid fC
  have HWB := Lib.hid hwB
  have HWC := Lib.hid hwC
  have HWD := Lib.hid hwD
  clear gA gB gC gD G3 cC fC hwB hwC hwD
  refine wp_region_gate_tail (fun d w' => At2 10 15 (fun w' => w' = w1.drew) (fun w' => w' = wB) (fun w' => w' = wC) d w') 20 (by kernel_rfl) (by kernel_rfl) ?hI ?_
  case hI => exact At2.start (by rfl) (by rfl) rfl
  simp only [List.take_succ_cons, List.take_zero, List.drop_succ_cons, List.drop_zero]
  refine InvC.invc_value (.pointer (some ⟨bl, 0, none⟩)) (fun u hu => by cases hu) rfl (fun d w' _ _ h => by go_simp; all_goals rfl) (fun d w' _ _ h => At2.keep (by decide) (by decide) h) ?_
  simp only [Act.put, List.setIfInBounds_toArray, List.set_cons_zero, List.set_cons_succ]
  refine InvC.invc_value (.int .i64 1) (fun u hu => by cases hu) rfl (fun d w' _ _ h => by go_simp; all_goals rfl) (fun d w' _ _ h => At2.keep (by decide) (by decide) h) ?_
  simp only [Act.put, List.setIfInBounds_toArray, List.set_cons_zero, List.set_cons_succ]
  refine InvC.invc_value (.pointer (some ⟨bl, 0, none⟩)) (fun u hu => by cases hu) rfl (fun d w' _ _ h => by go_simp; all_goals rfl) (fun d w' _ _ h => At2.keep (by decide) (by decide) h) ?_
  simp only [Act.put, List.setIfInBounds_toArray, List.set_cons_zero, List.set_cons_succ]
  refine InvC.invc_value (.int .i64 1) (fun u hu => by cases hu) rfl (fun d w' _ _ h => by go_simp; all_goals rfl) (fun d w' _ _ h => At2.keep (by decide) (by decide) h) ?_
  simp only [Act.put, List.setIfInBounds_toArray, List.set_cons_zero, List.set_cons_succ]
  refine InvC.invc_value (.pointer (some ⟨bl, 0, none⟩)) (fun u hu => by cases hu) rfl (fun d w' _ _ h => by go_simp; all_goals rfl) (fun d w' _ _ h => At2.keep (by decide) (by decide) h) ?_
  simp only [Act.put, List.setIfInBounds_toArray, List.set_cons_zero, List.set_cons_succ]
  refine InvC.invc_value (.int .i64 1) (fun u hu => by cases hu) rfl (fun d w' _ _ h => by go_simp; all_goals rfl) (fun d w' _ _ h => At2.keep (by decide) (by decide) h) ?_
  simp only [Act.put, List.setIfInBounds_toArray, List.set_cons_zero, List.set_cons_succ]
  refine InvC.invc_value (.pointer (some ⟨bl, 0, none⟩)) (fun u hu => by cases hu) rfl (fun d w' _ _ h => by go_simp; all_goals rfl) (fun d w' _ _ h => At2.keep (by decide) (by decide) h) ?_
  simp only [Act.put, List.setIfInBounds_toArray, List.set_cons_zero, List.set_cons_succ]
  refine InvC.invc_value (.pointer (some ⟨bl, 1, none⟩)) (fun u hu => by cases hu) rfl (fun d w' _ _ h => by go_simp; all_goals rfl) (fun d w' _ _ h => At2.keep (by decide) (by decide) h) ?_
  simp only [Act.put, List.setIfInBounds_toArray, List.set_cons_zero, List.set_cons_succ]
  refine InvC.invc_value (.pointer (some ⟨bl, 5, none⟩)) (fun u hu => by cases hu) rfl (fun d w' _ _ h => by go_simp; all_goals rfl) (fun d w' _ _ h => At2.keep (by decide) (by decide) h) ?_
  simp only [Act.put, List.setIfInBounds_toArray, List.set_cons_zero, List.set_cons_succ]
  refine InvC.invc_value (.pointer (some ⟨bl, 5, none⟩)) (fun u hu => by cases hu) rfl (fun d w' _ _ h => by go_simp; all_goals rfl) (fun d w' _ _ h => At2.keep (by decide) (by decide) h) ?_
  simp only [Act.put, List.setIfInBounds_toArray, List.set_cons_zero, List.set_cons_succ]
  refine invc_store rfl (fun d w' hd hG h => ⟨wB, by
    have e := (h.at_p hd).1
    subst e
    rw [HWB.out]
    go_simp, At2.did_p (by decide) hd h rfl⟩) ?_
  simp only [Act.put, List.setIfInBounds_toArray, List.set_cons_zero, List.set_cons_succ]
  refine InvC.invc_value (.pointer (some ⟨bl, 0, none⟩)) (fun u hu => by cases hu) rfl (fun d w' _ _ h => by go_simp; all_goals rfl) (fun d w' _ _ h => At2.keep (by decide) (by decide) h) ?_
  simp only [Act.put, List.setIfInBounds_toArray, List.set_cons_zero, List.set_cons_succ]
  refine InvC.invc_value (.pointer (some ⟨bl, 1, none⟩)) (fun u hu => by cases hu) rfl (fun d w' _ _ h => by go_simp; all_goals rfl) (fun d w' _ _ h => At2.keep (by decide) (by decide) h) ?_
  simp only [Act.put, List.setIfInBounds_toArray, List.set_cons_zero, List.set_cons_succ]
  refine InvC.invc_value (.pointer (some ⟨bl, 5, none⟩)) (fun u hu => by cases hu) rfl (fun d w' _ _ h => by go_simp; all_goals rfl) (fun d w' _ _ h => At2.keep (by decide) (by decide) h) ?_
  simp only [Act.put, List.setIfInBounds_toArray, List.set_cons_zero, List.set_cons_succ]
  refine InvC.invc_value (.pointer (some ⟨bl, 6, none⟩)) (fun u hu => by cases hu) rfl (fun d w' _ _ h => by go_simp; all_goals rfl) (fun d w' _ _ h => At2.keep (by decide) (by decide) h) ?_
  simp only [Act.put, List.setIfInBounds_toArray, List.set_cons_zero, List.set_cons_succ]
  refine invc_store rfl (fun d w' hd hG h => ⟨wC, by
    have e := h.at_q hd (hG.of (by kernel_rfl))
    subst e
    rw [HWC.out]
    go_simp, At2.did_q (by decide) hd (hG.of (by kernel_rfl)) rfl⟩) ?_
  simp only [Act.put, List.setIfInBounds_toArray, List.set_cons_zero, List.set_cons_succ]
  refine InvC.invc_value (.pointer (some ⟨bl, 0, none⟩)) (fun u hu => by cases hu) rfl (fun d w' _ _ h => by go_simp; all_goals rfl) (fun d w' _ _ h => At2.keep (by decide) (by decide) h) ?_
  simp only [Act.put, List.setIfInBounds_toArray, List.set_cons_zero, List.set_cons_succ]
  refine InvC.invc_value (.pointer (some ⟨bl, 1, none⟩)) (fun u hu => by cases hu) rfl (fun d w' _ _ h => by go_simp; all_goals rfl) (fun d w' _ _ h => At2.keep (by decide) (by decide) h) ?_
  simp only [Act.put, List.setIfInBounds_toArray, List.set_cons_zero, List.set_cons_succ]
  refine InvC.invc_value (.pointer (some ⟨bl, 5, none⟩)) (fun u hu => by cases hu) rfl (fun d w' _ _ h => by go_simp; all_goals rfl) (fun d w' _ _ h => At2.keep (by decide) (by decide) h) ?_
  simp only [Act.put, List.setIfInBounds_toArray, List.set_cons_zero, List.set_cons_succ]
  refine InvC.invc_value (.pointer (some ⟨bl, 7, none⟩)) (fun u hu => by cases hu) rfl (fun d w' _ _ h => by go_simp; all_goals rfl) (fun d w' _ _ h => At2.keep (by decide) (by decide) h) ?_
  simp only [Act.put, List.setIfInBounds_toArray, List.set_cons_zero, List.set_cons_succ]
  refine InvC.invc_nil fun w9 hI => ?_
  have e6 := hI.done (by rfl)
  subst e6
  have c9 := CC.out
  have f9 := FC.out
  clear cA fA cB fB CC FC
  go_wp2_with fail
  obtain ⟨w2, hw2⟩ : ∃ w2, w2 = w9.setCell ⟨bl, 7, none⟩ (.int .u32 0) := ⟨_, rfl⟩
  rw [← hw2]
  have G6 := Lib.hid (show Goes w bl V A w2 _ _ from by rw [hw2, ← HWD.out]; exact GT.out)
  clear hw2 HWD HWC HWB GT
  rw [rounds_succ]
  go_wp2_with fail
  go_ret
  exact ⟨rfl, _, G6.out⟩
end
end Go.Proofs.Ytfjaoompdleljaa.Link
/-
  awake by contract. Helper text; no statement is proved here.
-/
set_option linter.unusedVariables false
set_option maxRecDepth 20000
set_option linter.unusedSimpArgs false
namespace Go.Proofs.Ytfjaoompdleljaa.Link
open Go.RowKit Go.Proofs.Ytfjaoompdleljaa.Base Go.Proofs.Ytfjaoompdleljaa.Laws Go.Proofs.Ytfjaoompdleljaa.Disk Go.Proofs.Ytfjaoompdleljaa.Row Go.Proofs.Ytfjaoompdleljaa.Flat Go.Proofs.Ytfjaoompdleljaa.InvM
def k0 : Lk := ⟨0, ⟨[], 0, 0, []⟩, ⟨[], 0, 0, []⟩, []⟩
def k1 : Lk := k0.send 0 [5]
def k2 : Lk := (k1.less 0).comes ⟨0, ⟨0, 1, 0, [5]⟩⟩
theorem k1_got (n : Nat) (hn : n < 2) : ((k1.en n).got.length + 1) * 24 ≤ 140737488355328 := by
  obtain rfl | rfl : n = 0 ∨ n = 1 := by omega
  · decide
  · decide
theorem awake_any (w : World) : Calls Try.prog 9 #[] w fun e w' => e = .returned (.bool true) ∧ Below w.heap.size w w' := by
  have NW := Lib.hid (new_any w)
  go_enter Try.func9, Try.ntmps9
  go_upto_region 2 with (go_at_call 10; refine NW.out.mono ?_; rintro e w1 ⟨rfl, hl, hb⟩; have HL := Lib.hid hl; have HB := Lib.hid hb; clear hl hb NW)
  obtain ⟨bl, hbl⟩ : ∃ bl, bl = w.heap.size := ⟨_, rfl⟩
  have HBL := Lib.hid hbl
  rw [← hbl] at HL ⊢
  clear hbl
  obtain ⟨w2, hw2⟩ : ∃ w2, w2 = w1.alloc (.cells #[.int .u8 5] 5) := ⟨_, rfl⟩
  have b2 : Below w1.heap.size w1 w2 := hw2 ▸ (Below.refl w1.heap.size w1).alloc (Nat.le_refl _) _
  have L2 := Lib.hid (HL.out.below b2)
  have hs1 := HB.out.size
  have bt : Bts w2 (some ⟨w1.heap.size, 0, none⟩) 1 1 [5] := by
    refine ⟨rfl, by omega, by unfold maxLen; omega, .inr ⟨_, _, rfl, fun i u hu => ?_⟩⟩
    have hz : Blk w2 w1.heap.size [.int .u8 5] 5 := by rw [hw2]; exact blk_at rfl rfl
    have hi : i = 0 := by have := (List.getElem?_eq_some_iff.1 hu).1; simp at this; exact this
    subst hi
    have := hz.cell 0
    simp at hu
    subst hu
    exact this
  have SD := Lib.hid (send_ok0 L2.out w1.heap.size 0 1 1 [5] rfl (by decide) (by decide) bt (by decide) (by decide) (fun hx => by have := HL.out.reach_lt hx; omega))
  have B2 := Lib.hid (HB.out.trans (b2.mono hs1))
  rw [hw2] at SD B2 L2
  clear bt b2
  go_upto_region 5 with (first | (go_at_call 11; refine SD.out.mono ?_; rintro e w3 ⟨rfl, V3, g3⟩; have G3 := Lib.hid g3; have DV := Lib.hid (deliver_any g3.at_ 0 ⟨0, ⟨0, 1, 0, [5]⟩⟩ rfl (by decide) k1_got); clear g3) | (go_at_call 15; refine DV.out.mono ?_; rintro e w4 ⟨rfl, V4, g4⟩; have G4 := Lib.hid g4; have GT := Lib.hid (got_any g4.at_ 1 (by decide) (by decide)); clear g4) | (go_at_call 16; refine GT.out.mono ?_; rintro e w5 ⟨v, rfl, hr5, hb5⟩; have HR5 := Lib.hid hr5; have HB5 := Lib.hid hb5; clear hr5 hb5))
  obtain ⟨g, c, y, ee, hg, hc, hY⟩ := (show RowOf w5 _ _ _ 1 gc id v [[5]] from HR5.out).at_ (fun _ => rfl) 0 [5] rfl
  have ee' : v = .slice (some ⟨g, 0, none⟩) 1 c := ee
  clear ee
  subst ee'
  have q1 : w5.cell? ⟨g, 0, none⟩ = some y := by simpa using hc 0 y rfl
  rcases hY with ⟨e, _⟩ | ⟨g', o, c', ey, _, _, h3, _⟩
  · cases e
  have ey' : y = .slice (some ⟨g', o, none⟩) 1 c' := ey
  clear ey
  subst ey'
  have q2 : w5.cell? ⟨g', o, none⟩ = some (.int .u8 5) := by
    rcases h3.2.2.2 with h4 | ⟨gb, og, ea, hcc⟩
    · cases h4
    · cases ea
      exact hcc 0 5 rfl
  clear hc h3
  have LE := Lib.hid (show Below w.heap.size w w5 from by
    have o4 := G3.out.trans G4.out
    have h1 := B2.out.size
    have hb5 := HB5.out
    have hm : Below w.heap.size _ w4 := ⟨o4.only.os, o4.only.tape, o4.only.output, o4.only.size, fun x hx => o4.only.block x (by omega) (fun hm => by have := L2.out.reach_lt hm; have := HBL.out; omega)⟩
    exact (B2.out.trans hm).trans (hb5.mono (by have := o4.only.size; omega)))
  clear HR5 HB5 GT DV SD G3 G4
  go_wp2_with fail
  go_ret
  exact ⟨rfl, LE.out⟩
end Go.Proofs.Ytfjaoompdleljaa.Link
/-
  How data that came in read, cell by cell: numbers, bools and slices, whatever structs and arrays they stand in. Helper text of this seat's claims; no statement is proved here.
-/
set_option linter.unusedSimpArgs false
set_option linter.unusedVariables false
set_option maxRecDepth 20000
namespace Go.Proofs.Ytfjaoompdleljaa.Opens
open Go.ChangeShapes Go.WideShapes Go.ChangeAt Go.RowKit

/-- what a cell of a type is -/
inductive Lf where
  | int (k : IntKind)
  | bool
  | slice (e : TypeId)
  deriving DecidableEq

section
variable {H : Type} (enc : TypeId × Value → H) (P : Program) (w : World) (base : Nat) (spare : Nat → Bool) (held : Bool)

def LfOk : Lf → Value → Prop
  | .int k, c => ∃ n, c = .int k n ∧ (Lit.int k n).wf = true
  | .bool, c => ∃ b, c = .bool b
  | .slice e, c => c = .slice none 0 0 ∨ ∃ a len cap, c = .slice (some a) len cap ∧ base ≤ a.block ∧ len ≤ cap ∧ cap ≤ maxLen ∧
      len * P.bytesOf e ≤ reachBytes ∧
      ∀ i, i < len → ∃ cs n x, w.cells? base (a.add (i * P.cellsOf e)) (P.cellsOf e) = some cs ∧ DataW.trod enc P w base spare held n e cs = some x ∧ ∀ m ∈ x.1.weights P e, m ≤ reachBytes

/-- the cells of a type in their order -/
def leaves : Nat → TypeId → Option (List Lf)
  | 0, _ => none
  | d + 1, t =>
    (match P.underlying t with
     | some (.int k) => some [Lf.int k]
     | some .bool => some [Lf.bool]
     | some (.slice e) => some [Lf.slice e]
     | some (.struct fs) => fs.toList.foldlM (fun (acc : List Lf) (f : Field) => if f.offset = acc.length then (leaves d f.type).map (acc ++ ·) else none) []
     | some (.array n e) => (leaves d e).map fun (ks : List Lf) => (List.replicate n ks).flatten
     | _ => (none : Option (List Lf))).bind fun (ks : List Lf) => if ks.length = P.cellsOf t then some ks else none

def Fits (ks : List Lf) (cs : List Value) : Prop := ∀ (i : Nat) (k : Lf), ks[i]? = some k → ∃ c, cs[i]? = some c ∧ LfOk enc P w base spare held k c
end

section
variable {H : Type} {enc : TypeId × Value → H} {P : Program} {w : World} {base : Nat} {spare : Nat → Bool} {held : Bool}

theorem leaves_len {d : Nat} {t : TypeId} {ks : List Lf} (h : leaves P d t = some ks) : ks.length = P.cellsOf t := by
  cases d with
  | zero => simp [leaves] at h
  | succ d =>
    unfold leaves at h
    rw [Option.bind_eq_some_iff] at h
    obtain ⟨ks', _, h⟩ := h
    split at h
    · cases h; assumption
    · cases h

theorem Fits.append {ks ks' : List Lf} {cs : List Value} {m : Nat} (hm : ks'.length ≤ m) (h : Fits enc P w base spare held ks cs) (h' : Fits enc P w base spare held ks' ((cs.drop ks.length).take m)) :
    Fits enc P w base spare held (ks ++ ks') cs := by
  intro i k hk
  by_cases hi : i < ks.length
  · rw [List.getElem?_append_left hi] at hk
    exact h i k hk
  · rw [List.getElem?_append_right (by omega)] at hk
    obtain ⟨c, hc, ok⟩ := h' _ _ hk
    have hlt : i - ks.length < m := Nat.lt_of_lt_of_le (List.getElem?_eq_some_iff.1 hk).1 hm
    rw [List.getElem?_take, if_pos hlt, List.getElem?_drop] at hc
    exact ⟨c, by rwa [show ks.length + (i - ks.length) = i from by omega] at hc, ok⟩

theorem weights_mem_all {e : TypeId} : ∀ {ds : List (DataW H)} {d : DataW H}, d ∈ ds → ∀ n ∈ d.weights P e, n ∈ DataW.weightsAll P e ds
  | d0 :: ds, d, hd, n, hn => by
    simp only [DataW.weightsAll, List.mem_append]
    rcases List.mem_cons.1 hd with rfl | hd
    · exact .inl hn
    · exact .inr (weights_mem_all hd n hn)
  | [], d, hd, _, _ => by cases hd

/-- what a slice's reading says of it -/
theorem lf_of_slice {t e : TypeId} {fuel : Nat} {a : Addr} {len cap : Nat} {elems rest : List (DataW H × List MemPlace)} {n : Nat} {ps : List MemPlace} (hu : P.underlying t = some (.slice e))
    (hb : base ≤ a.block) (hl : len ≤ cap) (hm : cap ≤ maxLen) (hel : elems.length = len)
    (hr : ∀ i, i < len → (w.cells? base (a.add (i * P.cellsOf e)) (P.cellsOf e)).bind (DataW.trod enc P w base spare held n e) = elems[i]?)
    (hw : ∀ m ∈ (DataW.slice (elems.map (·.1)) (rest.map (·.1))).weights P t, m ≤ reachBytes) : LfOk enc P w base spare held (.slice e) (.slice (some a) len cap) := by
  simp only [DataW.weights, hu] at hw
  refine .inr ⟨a, len, cap, rfl, hb, hl, hm, ?_, fun j hj => ?_⟩
  · have := hw _ (List.mem_cons_self ..)
    simp only [List.length_map] at this
    rw [hel] at this
    exact Nat.le_trans (Nat.mul_le_mul_right _ (Nat.le_add_right _ _)) this
  · have hj' := hr j hj
    obtain ⟨y, hy⟩ : ∃ y, elems[j]? = some y := ⟨elems[j]'(by omega), List.getElem?_eq_getElem (by omega)⟩
    rw [hy, Option.bind_eq_some_iff] at hj'
    obtain ⟨cs', h1, h2⟩ := hj'
    refine ⟨cs', n, y, h1, h2, fun m hmm => hw m (List.mem_cons_of_mem _ (List.mem_append.2 (.inl (weights_mem_all (List.mem_map.2 ⟨y, List.mem_of_getElem? hy, rfl⟩) m hmm))))⟩

theorem fits_nil (cs : List Value) : Fits enc P w base spare held [] cs := fun i k h => by simp at h

theorem fits_of_trod (d : Nat) : ∀ (t : TypeId) (ks : List Lf), leaves P d t = some ks → ∀ (fuel : Nat) (cs : List Value) (x : DataW H × List MemPlace), DataW.trod enc P w base spare held fuel t cs = some x →
    (∀ m ∈ x.1.weights P t, m ≤ reachBytes) → Fits enc P w base spare held ks cs := by
  induction d with
  | zero => intro t ks h; simp [leaves] at h
  | succ d ih =>
    intro t ks h fuel cs x hx hw
    unfold leaves at h
    rw [Option.bind_eq_some_iff] at h
    obtain ⟨ks', h, h2⟩ := h
    split at h2
    case isFalse => cases h2
    case isTrue hlen =>
    cases h2
    cases hu : P.underlying t with
    | none => rw [hu] at h; cases h
    | some u =>
    rw [hu] at h
    cases u with
    | int k =>
      cases h
      obtain ⟨n, rfl, _, hwf⟩ := DataW.trod_int hu hx
      intro i k' hk
      cases i with
      | zero => simp at hk; subst hk; exact ⟨_, rfl, n, rfl, hwf⟩
      | succ i => simp at hk
    | bool =>
      cases h
      obtain ⟨b, rfl, _⟩ := DataW.trod_bool hu hx
      intro i k' hk
      cases i with
      | zero => simp at hk; subst hk; exact ⟨_, rfl, b, rfl⟩
      | succ i => simp at hk
    | slice e =>
      cases h
      intro i k' hk
      cases i with
      | succ i => simp at hk
      | zero =>
        simp at hk
        subst hk
        rcases DataW.trod_slice hu hx with ⟨rfl, _⟩ | ⟨a, len, cap, elems, rest, n, _, rfl, rfl, hb, hl, hm, hel, hr, _, _⟩
        · exact ⟨_, rfl, .inl rfl⟩
        · exact ⟨_, rfl, lf_of_slice (fuel := 0) (ps := []) hu hb hl hm hel hr hw⟩
    | struct fs =>
      obtain ⟨xs, n, _, rfl, _, hxl, hf⟩ := DataW.trod_struct hu hx
      simp only [DataW.weights, hu] at hw
      have key : ∀ (rest done : List Field) (acc ks : List Lf), fs.toList = done ++ rest → Fits enc P w base spare held acc cs →
          rest.foldlM (fun (acc : List Lf) (f : Field) => if f.offset = acc.length then (leaves P d f.type).map (acc ++ ·) else none) acc = some ks → Fits enc P w base spare held ks cs := by
        intro rest
        induction rest with
        | nil => intro done acc ks _ ha hk; simp at hk; subst hk; exact ha
        | cons f rest ihr =>
          intro done acc ks hfs ha hk
          simp only [List.foldlM_cons] at hk
          by_cases ho : f.offset = acc.length
          · simp only [ho, if_true] at hk
            cases hl : leaves P d f.type with
            | none => rw [hl] at hk; simp at hk
            | some kf =>
              rw [hl] at hk
              simp only [Option.map_some, Option.bind_eq_bind, Option.bind_some] at hk
              have hj : fs[done.length]? = some f := by
                rw [← Array.getElem?_toList, hfs]
                simp
              have hlt : done.length < fs.size := (Array.getElem?_eq_some_iff.1 hj).1
              obtain ⟨y, hy⟩ : ∃ y, xs[done.length]? = some y := ⟨xs[done.length]'(by omega), List.getElem?_eq_getElem (by omega)⟩
              have ht := hf _ f hj
              rw [hy, ho] at ht
              exact ihr (done ++ [f]) (acc ++ kf) ks (by rw [hfs]; simp) (ha.append (by rw [leaves_len hl]; exact Nat.le_refl _) (ih _ _ hl _ _ _ ht (fun m hm => hw m (DataW.weights_mem_each (j := done.length) (by rw [List.getElem?_map, Array.getElem?_toList, hj]; rfl) (by rw [List.getElem?_map, hy]; rfl) m hm)))) hk
          · simp [ho] at hk
      exact key fs.toList [] [] _ rfl (fits_nil cs) h
    | array n e =>
      obtain ⟨xs, m, _, rfl, _, hxl, hf⟩ := DataW.trod_array hu hx
      simp only [DataW.weights, hu] at hw
      dsimp only at h
      cases hl : leaves P d e with
      | none => rw [hl] at h; simp at h
      | some ke =>
        rw [hl] at h
        simp only [Option.map_some, Option.some.injEq] at h
        subst h
        have kl := leaves_len hl
        have key : ∀ j, j ≤ n → Fits enc P w base spare held (List.replicate j ke).flatten cs := by
          intro j
          induction j with
          | zero => intro _; exact fits_nil cs
          | succ j ihj =>
            intro hj
            rw [List.replicate_succ', List.flatten_append]
            obtain ⟨y, hy⟩ : ∃ y, xs[j]? = some y := ⟨xs[j]'(by omega), List.getElem?_eq_getElem (by omega)⟩
            have ht := hf j (by omega)
            rw [hy] at ht
            have hz : (List.replicate j ke).flatten.length = j * P.cellsOf e := by simp [List.length_flatten, kl]
            refine (ihj (by omega)).append (m := P.cellsOf e) (by simp [kl]) ?_
            rw [hz]
            simp only [List.flatten_cons, List.flatten_nil, List.append_nil]
            exact ih _ _ hl _ _ _ ht (fun m' hm' => hw m' (weights_mem_all (List.mem_map.2 ⟨y, List.mem_of_getElem? hy, rfl⟩) m' hm'))
        exact key n (Nat.le_refl _)
    | _ => cases h

/-- a byte as a value -/
def u8 (b : UInt8) : Value := .int .u8 (b.toNat : Int)

theorem wf_u8 {n : Int} (h : (Lit.int .u8 n).wf = true) : ∃ b : UInt8, n = (b.toNat : Int) := by
  simp only [Lit.wf, IntKind.min, IntKind.max, IntKind.signed, IntKind.bits, Bool.and_eq_true, decide_eq_true_eq] at h
  refine ⟨UInt8.ofNat n.toNat, ?_⟩
  rw [UInt8.toNat_ofNat']
  simp at h
  omega
theorem wf_u16 {n : Int} (h : (Lit.int .u16 n).wf = true) : ∃ m : Nat, m < 65536 ∧ n = (m : Int) := by
  simp only [Lit.wf, IntKind.min, IntKind.max, IntKind.signed, IntKind.bits, Bool.and_eq_true, decide_eq_true_eq] at h
  simp at h
  exact ⟨n.toNat, by omega, by omega⟩
theorem wf_u32 {n : Int} (h : (Lit.int .u32 n).wf = true) : ∃ m : Nat, m < 4294967296 ∧ n = (m : Int) := by
  simp only [Lit.wf, IntKind.min, IntKind.max, IntKind.signed, IntKind.bits, Bool.and_eq_true, decide_eq_true_eq] at h
  simp at h
  exact ⟨n.toNat, by omega, by omega⟩
theorem wf_u64 {n : Int} (h : (Lit.int .u64 n).wf = true) : ∃ m : Nat, m < 18446744073709551616 ∧ n = (m : Int) := by
  simp only [Lit.wf, IntKind.min, IntKind.max, IntKind.signed, IntKind.bits, Bool.and_eq_true, decide_eq_true_eq] at h
  simp at h
  exact ⟨n.toNat, by omega, by omega⟩
theorem wf_i64 {n : Int} (h : (Lit.int .i64 n).wf = true) : -9223372036854775808 ≤ n ∧ n ≤ 9223372036854775807 := by
  simp only [Lit.wf, IntKind.min, IntKind.max, IntKind.signed, IntKind.bits, Bool.and_eq_true, decide_eq_true_eq] at h
  simp at h
  exact h

theorem Fits.next {k : Lf} {ks : List Lf} {cs : List Value} (h : Fits enc P w base spare held (k :: ks) cs) : ∃ c cs', cs = c :: cs' ∧ LfOk enc P w base spare held k c ∧ Fits enc P w base spare held ks cs' := by
  obtain ⟨c, hc, ok⟩ := h 0 k rfl
  cases cs with
  | nil => simp at hc
  | cons c' cs' =>
    simp at hc
    subst hc
    refine ⟨_, _, rfl, ok, fun i k' hk => ?_⟩
    obtain ⟨c, hc, ok⟩ := h (i + 1) k' (by simpa using hk)
    exact ⟨c, by simpa using hc, ok⟩
theorem Fits.int {k : IntKind} {ks : List Lf} {cs : List Value} (h : Fits enc P w base spare held (.int k :: ks) cs) : ∃ n cs', cs = .int k n :: cs' ∧ (Lit.int k n).wf = true ∧ Fits enc P w base spare held ks cs' := by
  obtain ⟨c, cs', rfl, ⟨n, rfl, hn⟩, hf⟩ := h.next
  exact ⟨n, cs', rfl, hn, hf⟩
theorem Fits.bytes (n : Nat) : ∀ {ks : List Lf} {cs : List Value}, Fits enc P w base spare held (List.replicate n (.int .u8) ++ ks) cs → ∃ (l : List UInt8) (cs' : List Value), l.length = n ∧ cs = l.map u8 ++ cs' ∧ Fits enc P w base spare held ks cs' := by
  induction n with
  | zero => intro ks cs h; exact ⟨[], cs, rfl, rfl, h⟩
  | succ n ih =>
    intro ks cs h
    rw [List.replicate_succ, List.cons_append] at h
    obtain ⟨m, cs', rfl, hm, hf⟩ := h.int
    obtain ⟨b, rfl⟩ := wf_u8 hm
    obtain ⟨l, cs'', rfl, rfl, hf'⟩ := ih hf
    exact ⟨b :: l, cs'', rfl, rfl, hf'⟩

/-- an argument that is a struct or an array: its cells -/
theorem open_agg {r : Reach} {b0 : Nat} {t : TypeId} {v : Value} {x : DataW H} {p : List MemPlace} {ks : List Lf} (d : Nat) (ha : (match P.underlying t with | some (.struct _) | some (.array _ _) => true | _ => false) = true) (hk : leaves P d t = some ks)
    (hv : Value.okWide P w r b0 t v) (h : DataW.Trod enc P w base spare held t v x p) (hw : ∀ m ∈ x.weights P t, m ≤ reachBytes) :
    ∃ cs : List Value, v = .agg cs.toArray ∧ cs.length = ks.length ∧ Fits enc P w base spare held ks cs := by
  have : ∃ cs, v = .agg cs ∧ cs.size = P.cellsOf t := by
    unfold Value.okWide at hv
    split at hv
    · obtain ⟨cs, h1, h2, _⟩ := hv; exact ⟨cs, h1, h2⟩
    · obtain ⟨cs, h1, h2, _⟩ := hv; exact ⟨cs, h1, h2⟩
    · rename_i n1 n2
      split at ha
      · rename_i hs; exact absurd hs (n1 _)
      · rename_i hs; exact absurd hs (n2 _ _)
      · cases ha
  obtain ⟨cs, rfl, hsz⟩ := this
  obtain ⟨fuel, hf⟩ := h
  exact ⟨cs.toList, by simp, by rw [leaves_len hk, ← hsz]; simp, fits_of_trod d t ks hk fuel _ _ hf hw⟩

/-- an argument that is a slice -/
theorem open_any_slice {t e : TypeId} {a : Option Addr} {len cap : Nat} {x : DataW H} {p : List MemPlace} (ht : P.underlying t = some (.slice e)) (h : DataW.Trod enc P w base spare held t (.slice a len cap) x p)
    (hw : ∀ m ∈ x.weights P t, m ≤ reachBytes) : LfOk enc P w base spare held (.slice e) (.slice a len cap) := by
  obtain ⟨fuel, hf⟩ := h
  rcases DataW.trod_slice ht hf with ⟨h1, _⟩ | ⟨a', len', cap', elems, rest, n, _, h1, hx, hb, hl, hm, hel, hr, _, _⟩
  · simp [Value.cells] at h1
    obtain ⟨rfl, rfl, rfl⟩ := h1
    exact .inl rfl
  · simp [Value.cells] at h1
    obtain ⟨rfl, rfl, rfl⟩ := h1
    simp only [Prod.mk.injEq] at hx
    obtain ⟨rfl, _⟩ := hx
    exact lf_of_slice (fuel := 0) (ps := []) ht hb hl hm hel hr hw

/-- cells one behind the other, chosen -/
theorem choose_list {α : Type} {q : Nat → α → Prop} : ∀ n : Nat, (∀ i, i < n → ∃ u, q i u) → ∃ l : List α, l.length = n ∧ ∀ i u, l[i]? = some u → q i u
  | 0, _ => ⟨[], rfl, fun i u h => by simp at h⟩
  | n + 1, h => by
    obtain ⟨l, hl, hq⟩ := choose_list n fun i hi => h i (by omega)
    obtain ⟨u, hu⟩ := h n (by omega)
    refine ⟨l ++ [u], by simp [hl], fun i v hv => ?_⟩
    by_cases hi : i < n
    · rw [List.getElem?_append_left (by omega)] at hv
      exact hq i v hv
    · rw [List.getElem?_append_right (by omega)] at hv
      obtain rfl : i = n := by
        have := (List.getElem?_eq_some_iff.1 hv).1
        simp at this
        omega
      rw [hl] at hv
      simp at hv
      subst hv
      exact hu

theorem cells_one {a : Addr} {cs : List Value} (h : w.cells? base a 1 = some cs) : ∃ v, cs = [v] ∧ w.cell? (a.add 0) = some v := by
  unfold World.cells? at h
  split at h
  · simp [List.range_succ] at h
    cases hc : w.cell? (a.add 0) with
    | none => rw [hc] at h; simp at h
    | some v =>
      rw [hc] at h
      simp at h
      exact ⟨v, h.symm, rfl⟩
  · cases h

/-- a slice of bytes that came in -/
theorem bytes_of_lf {e : TypeId} {a : Option Addr} {len cap : Nat} (hu : P.underlying e = some (.int .u8)) (hc : P.cellsOf e = 1) (hbo : P.bytesOf e = 1) (h : LfOk enc P w base spare held (.slice e) (.slice a len cap)) :
    ∃ l : List UInt8, l.length = len ∧ len ≤ cap ∧ cap ≤ maxLen ∧ len ≤ 140737488351232 ∧ (len = 0 ∨ ∃ b o, a = some ⟨b, o, none⟩ ∧ ∀ i u, l[i]? = some u → w.cell? ⟨b, o + i, none⟩ = some (u8 u)) := by
  rcases h with h | ⟨ad, len', cap', h, hb, hl, hm, hr, hcells⟩
  · simp only [Value.slice.injEq] at h
    obtain ⟨rfl, rfl, rfl⟩ := h
    exact ⟨[], rfl, by omega, by unfold maxLen; omega, by omega, .inl rfl⟩
  · simp only [Value.slice.injEq] at h
    obtain ⟨rfl, rfl, rfl⟩ := h
    rw [hbo, Nat.mul_one] at hr
    rw [hc] at hcells
    obtain ⟨l, hll, hq⟩ := choose_list (q := fun i u => w.cell? (ad.add i) = some (u8 u)) len fun i hi => by
      obtain ⟨cs, n, x, h1, h2, _⟩ := hcells i hi
      obtain ⟨v, rfl, hv⟩ := cells_one h1
      obtain ⟨m, hm', _, hwf⟩ := DataW.trod_int hu h2
      simp at hm'
      subst hm'
      obtain ⟨b, rfl⟩ := wf_u8 hwf
      exact ⟨b, by unfold u8; simpa [Addr.add] using hv⟩
    refine ⟨l, hll, hl, hm, hr, ?_⟩
    by_cases h0 : len = 0
    · exact .inl h0
    · obtain ⟨u, hu0⟩ : ∃ u, l[0]? = some u := ⟨l[0]'(by omega), List.getElem?_eq_getElem (by omega)⟩
      have hs := World.cell?_spot (hq 0 u hu0)
      obtain ⟨b, o, sp⟩ := ad
      have hsp : sp = none := by simpa [Addr.add] using hs
      subst hsp
      exact .inr ⟨b, o, rfl, fun i u hu => by
        have := hq i u hu
        by_cases hi : i = 0
        · subst hi; simpa [Addr.add] using this
        · simpa [Addr.add, hi] using this⟩
end
end Go.Proofs.Ytfjaoompdleljaa.Opens
/-
  Slices that came in, read as lists. Helper text; no statement is proved here.
-/
set_option linter.unusedVariables false
set_option maxRecDepth 20000
set_option linter.unusedSimpArgs false
namespace Go.Proofs.Ytfjaoompdleljaa.Flat
open Go.RowKit Go.Proofs.Ytfjaoompdleljaa.Base Go.Proofs.Ytfjaoompdleljaa.Laws
section
variable {H : Type} {enc : TypeId × Value → H} {base : Nat} {spare : Nat → Bool} {held : Bool} {W : World}
theorem cellsu8 : Try.prog.cellsOf 5 = 1 := by kernel_rfl
theorem bytesu8 : Try.prog.bytesOf 5 = 1 := by kernel_rfl
/-- bytes that came in -/
theorem bytes_in {a : Option Addr} {len cap : Nat} (h : Opens.LfOk enc Try.prog W base spare held (.slice 5) (.slice a len cap)) : ∃ l, Bts W a len cap l ∧ len ≤ 140737488351232 := by
  obtain ⟨l, h1, h2, h3, h4, h5⟩ := Opens.bytes_of_lf Try.underlying5 cellsu8 bytesu8 h
  exact ⟨l, ⟨h1, h2, h3, h5⟩, h4⟩
/-- pieces that came in -/
theorem sl_in {α : Type} {f : α → List Value} {Ok : α → Prop} {e : TypeId} {m : Nat} {ks : List Opens.Lf} (hm0 : 0 < m) (hlv : Opens.leaves Try.prog 8 e = some ks) (hce : Try.prog.cellsOf e = m)
    (hin : ∀ cs : List Value, cs.length = m → Opens.Fits enc Try.prog W base spare held ks cs → ∃ x, cs = f x ∧ Ok x)
    {a : Option Addr} {len cap : Nat} (h : Opens.LfOk enc Try.prog W base spare held (.slice e) (.slice a len cap)) : ∃ l, Sl W f m a len cap l ∧ (∀ x ∈ l, Ok x) ∧ len * Try.prog.bytesOf e ≤ reachBytes := by
  rcases h with h | ⟨ad, len', cap', h, hb, hl, hm, hr, hq⟩
  · simp only [Value.slice.injEq] at h
    obtain ⟨rfl, rfl, rfl⟩ := h
    exact ⟨[], sl_nil _ _ (by unfold maxLen; omega), by simp, by simp⟩
  · simp only [Value.slice.injEq] at h
    obtain ⟨rfl, rfl, rfl⟩ := h
    rw [hce] at hq
    obtain ⟨xs, hxl, hxs⟩ := Opens.choose_list (q := fun i (x : α) => Ok x ∧ (f x).length = m ∧ ∀ j u, (f x)[j]? = some u → W.cell? ((ad.add (i * m)).add j) = some u) len fun i hi => by
      obtain ⟨cs, n, y, h1, h2, h3⟩ := hq i hi
      have hf := Opens.fits_of_trod 8 _ _ hlv n cs y h2 h3
      obtain ⟨_, hcl, hc⟩ := World.cells?_some h1
      obtain ⟨x, rfl, hok⟩ := hin cs hcl hf
      refine ⟨x, hok, hcl, fun j u hu => ?_⟩
      have hj := (List.getElem?_eq_some_iff.1 hu).1
      rw [hcl] at hj
      rw [hc j hj]
      exact hu
    have hlen : ∀ x ∈ xs, (f x).length = m := fun x hx => by
      obtain ⟨i, hi⟩ := List.mem_iff_getElem?.1 hx
      exact (hxs i x hi).2.1
    refine ⟨xs, ⟨hxl, hl, hm, hlen, ?_⟩, fun x hx => by
      obtain ⟨i, hi⟩ := List.mem_iff_getElem?.1 hx
      exact (hxs i x hi).1, hr⟩
    by_cases h0 : len = 0
    · exact .inl h0
    · obtain ⟨x0, hx0⟩ : ∃ u, xs[0]? = some u := ⟨_, List.getElem?_eq_getElem (by omega)⟩
      obtain ⟨_, hl0, hc0⟩ := hxs 0 x0 hx0
      obtain ⟨v0, hv0⟩ : ∃ v, (f x0)[0]? = some v := ⟨_, List.getElem?_eq_getElem (by omega)⟩
      have hs := World.cell?_spot (hc0 0 v0 hv0)
      obtain ⟨b, o, sp⟩ := ad
      have hsp : sp = none := by simpa [Addr.add] using hs
      subst hsp
      refine .inr ⟨b, o, rfl, fun j u hu => ?_⟩
      have hj := (List.getElem?_eq_some_iff.1 hu).1
      rw [flat_len hlen] at hj
      have hi : j / m < xs.length := Nat.div_lt_of_lt_mul (by rw [Nat.mul_comm]; exact hj)
      obtain ⟨x, hx⟩ : ∃ r, xs[j / m]? = some r := ⟨_, List.getElem?_eq_getElem hi⟩
      obtain ⟨_, hlx, hcells⟩ := hxs _ x hx
      have hmj : j % m < (f x).length := by rw [hlx]; exact Nat.mod_lt _ hm0
      have hg : (f x)[j % m]? = some ((f x)[j % m]'hmj) := List.getElem?_eq_getElem hmj
      have e := flat_get hlen hx hg
      have hd : j / m * m + j % m = j := by rw [Nat.mul_comm]; exact Nat.div_add_mod _ _
      rw [hd, hu] at e
      have := hcells _ _ hg
      rw [← Option.some.inj e] at this
      simp only [Addr.add_lit] at this
      rw [show o + j = o + j / m * m + j % m from by rw [Nat.add_assoc, hd]]
      exact this
end
end Go.Proofs.Ytfjaoompdleljaa.Flat
/-
  Slices of bytes in a slice that came in. Helper text; no statement is proved here.
-/
set_option linter.unusedVariables false
set_option maxRecDepth 20000
set_option linter.unusedSimpArgs false
namespace Go.Proofs.Ytfjaoompdleljaa.Flat
open Go.RowKit Go.Proofs.Ytfjaoompdleljaa.Base Go.Proofs.Ytfjaoompdleljaa.Laws
/-- slices of bytes in a slice -/
def Pcs (w : World) (a : Option Addr) (n cap : Nat) (ps : List (List UInt8)) : Prop :=
  ps.length = n ∧ n ≤ cap ∧ cap ≤ maxLen ∧ n ≤ 11728124029612 ∧ (n = 0 ∨ ∃ b o, a = some ⟨b, o, none⟩ ∧ ∀ i p, ps[i]? = some p → ∃ a' len' cap', w.cell? ⟨b, o + i, none⟩ = some (.slice a' len' cap') ∧ Bts w a' len' cap' p ∧ len' ≤ 140737488351232)
section
variable {H : Type} {enc : TypeId × Value → H} {base : Nat} {spare : Nat → Bool} {held : Bool} {W : World}
def gp (p : List UInt8 × Value) : List Value := [p.2]
theorem pcs_in {a : Option Addr} {len cap : Nat} (h : Opens.LfOk enc Try.prog W base spare held (.slice 23) (.slice a len cap)) : ∃ ps, Pcs W a len cap ps := by
  obtain ⟨l, ⟨h1, h2, h3, h4, h5⟩, hok, hb⟩ := sl_in (f := gp) (m := 1) (Ok := fun p => ∃ a l c, p.2 = .slice a l c ∧ Bts W a l c p.1 ∧ l ≤ 140737488351232) (ks := [.slice 5]) (by decide) (by kernel_rfl) (by kernel_rfl) (fun cs hcs hf => by
    obtain ⟨c, cs', rfl, hc, _⟩ := hf.next
    obtain rfl : cs' = [] := List.eq_nil_of_length_eq_zero (by simpa using hcs)
    rcases hc with rfl | ⟨a', l', c', rfl, hr⟩
    · exact ⟨([], .slice none 0 0), rfl, none, 0, 0, rfl, ⟨rfl, Nat.le_refl _, by unfold maxLen; omega, .inl rfl⟩, by omega⟩
    · obtain ⟨u, hu, hl⟩ := bytes_in (a := some a') (len := l') (cap := c') (.inr ⟨a', l', c', rfl, hr⟩)
      exact ⟨(u, .slice (some a') l' c'), rfl, some a', l', c', rfl, hu, hl⟩) h
  have hbo : Try.prog.bytesOf 23 = 24 := by kernel_rfl
  rw [hbo] at hb
  refine ⟨l.map Prod.fst, by simp [h1], h2, h3, by unfold reachBytes at hb; omega, ?_⟩
  rcases h5 with h5 | ⟨b, o, rfl, hc⟩
  · exact .inl h5
  · refine .inr ⟨b, o, rfl, fun i p hp => ?_⟩
    rw [List.getElem?_map] at hp
    obtain ⟨q, hq, rfl⟩ := Option.map_eq_some_iff.1 hp
    obtain ⟨a', l', c', e, hb', hl'⟩ := hok q (List.mem_of_getElem? hq)
    refine ⟨a', l', c', ?_, hb', hl'⟩
    have := hc (i * 1 + 0) q.2 (flat_get (m := 1) (f := gp) (fun x _ => rfl) hq rfl)
    rw [e] at this
    simpa using this
end
end Go.Proofs.Ytfjaoompdleljaa.Flat
/-
  SameBytes of the reference and Equal of the library by contract. Helper text; no statement is proved here.
-/
set_option linter.unusedVariables false
set_option maxRecDepth 20000
set_option linter.unusedSimpArgs false
namespace Go.Proofs.Ytfjaoompdleljaa.Same
open Go.RowKit Go.Proofs.Ytfjaoompdleljaa.Base Go.Proofs.Ytfjaoompdleljaa.Laws
theorem take_eq_of {α : Type} {la lb : List α} (h : la.length = lb.length) {k : Nat} (hk : k = la.length) (ht : la.take k = lb.take k) : la = lb := by
  subst hk
  rwa [List.take_of_length_le (Nat.le_refl _), List.take_of_length_le (by omega)] at ht
theorem u8_ne {x y : UInt8} : ((x.toNat : Int) = (y.toNat : Int)) ↔ x = y := by
  constructor
  · intro h
    exact UInt8.toNat_inj.1 (by omega)
  · rintro rfl; rfl
set_option maxHeartbeats 1000000 in
theorem same_any (a : Option Addr) (n c : Nat) (la : List UInt8) (b : Option Addr) (m d : Nat) (lb : List UInt8) (w : World) (ha : Bts w a n c la) (hb : Bts w b m d lb) :
    Calls Try.prog 17 #[.slice a n c, .slice b m d] w fun e w' => e = .returned (.bool (decide (la = lb))) ∧ ∃ nd, w' = w.drewN nd := by
  obtain ⟨h1, h2, h3, h4⟩ := ha
  obtain ⟨g1, g2, g3, g4⟩ := hb
  unfold maxLen at h3 g3
  by_cases hnm : n = m
  · subst hnm
    have HL := Lib.hid (show la.length = lb.length by omega)
    have HA := Lib.hid (show ∀ i x, la[i]? = some x → ∃ ad : Addr, a = some ad ∧ w.cell? (ad.add i) = some (u8 x) from fun i x hx => by
      rcases h4 with h4 | ⟨p, o, rfl, hc⟩
      · subst h4; simp [List.eq_nil_of_length_eq_zero h1] at hx
      · exact ⟨_, rfl, by rw [Addr.add_lit]; exact hc i x hx⟩)
    have HB := Lib.hid (show ∀ i x, lb[i]? = some x → ∃ ad : Addr, b = some ad ∧ w.cell? (ad.add i) = some (u8 x) from fun i x hx => by
      rcases g4 with g4 | ⟨p, o, rfl, hc⟩
      · subst g4; simp [List.eq_nil_of_length_eq_zero g1] at hx
      · exact ⟨_, rfl, by rw [Addr.add_lit]; exact hc i x hx⟩)
    clear h4 g4
    go_enter Try.func17, Try.ntmps17
    go_wp2
    go_loopw [5] (fun i wr => ∃ k nd : Nat, k ≤ n ∧ i = .int .i64 k ∧ la.take k = lb.take k ∧ wr = w.drewN nd) (fun i _ => n - (intOf i).toNat)
    case atStart => exact ⟨0, 0, by omega, rfl, rfl, rfl⟩
    case round =>
      obtain ⟨k, nd, hk, rfl, ht, rfl⟩ := hrel
      have HT := Lib.hid ht
      clear ht
      by_cases hkn : k < n
      · have hx : la[k]? = some la[k] := List.getElem?_eq_getElem (by omega)
        have hy : lb[k]? = some lb[k] := List.getElem?_eq_getElem (by omega)
        obtain ⟨x, hx2⟩ : ∃ x, x = la[k] := ⟨_, rfl⟩
        obtain ⟨y, hy2⟩ : ∃ y, y = lb[k] := ⟨_, rfl⟩
        rw [← hx2] at hx
        rw [← hy2] at hy
        obtain ⟨p, rfl, hp⟩ := HA.out k x hx
        obtain ⟨q, rfl, hq⟩ := HB.out k y hy
        have X1 := Lib.hid (take_snoc la k x hx)
        have Y1 := Lib.hid (take_snoc lb k y hy)
        have XG := Lib.hid hx
        have YG := Lib.hid hy
        unfold u8 at hp hq
        clear hx hy hx2 hy2
        by_cases hxy : x = y
        · have hv : ((x.toNat : Int) = (y.toNat : Int)) := by rw [hxy]
          go_wp2
          go_quiet (fail)
          go_wp2
          go_roundw
          case rel => exact ⟨k + 1, nd + nq, by omega, by go_num, by rw [X1.out, Y1.out, HT.out, hxy], rfl⟩
          case measure => simp [intOf]; omega
        · have hv : ¬ ((x.toNat : Int) = (y.toNat : Int)) := fun h => hxy (u8_ne.1 h)
          go_wp2
          go_quiet (fail)
          go_wp2
          go_ret
          refine ⟨ret_bool (decide_eq_false fun e => hxy ?_).symm, nd + nq, World.drewN_drewN ..⟩
          have := XG.out
          rw [e, YG.out] at this
          exact (Option.some.inj this).symm
      · go_wp2
        go_ret
        exact ⟨ret_bool (decide_eq_true (take_eq_of HL.out (by omega) HT.out)).symm, _, rfl⟩
  · have HN := Lib.hid (show la ≠ lb from fun e => by subst e; omega)
    have hnm' : ¬ ((n : Int) = m) := by omega
    go_enter Try.func17, Try.ntmps17
    go_wp2
    go_ret
    exact ⟨ret_bool (decide_eq_false HN.out).symm, 0, rfl⟩
end Go.Proofs.Ytfjaoompdleljaa.Same
/-
  A link that lives, beside what was there when the call began. Helper text; no statement is proved here.
-/
set_option linter.unusedVariables false
set_option maxRecDepth 20000
set_option linter.unusedSimpArgs false
namespace Go.Proofs.Ytfjaoompdleljaa.Link
open Go.RowKit Go.Proofs.Ytfjaoompdleljaa.Base Go.Proofs.Ytfjaoompdleljaa.Laws Go.Proofs.Ytfjaoompdleljaa.Disk Go.Proofs.Ytfjaoompdleljaa.Row Go.Proofs.Ytfjaoompdleljaa.Flat Go.Proofs.Ytfjaoompdleljaa.InvM
/-- a link of blocks from bl on, and nothing of what was there has changed -/
def Lv (w0 : World) (bl : Nat) (A : List Nat) (k : Lk) (w : World) : Prop := ∃ V, LinkAt w bl V A k ∧ Below w0.heap.size w0 w ∧ w0.heap.size ≤ bl
section
variable {w0 w w' : World} {bl : Nat} {A : List Nat} {k k' : Lk}
theorem Goes.lv {V V' : Nat → Value} (h : LinkAt w bl V A k) (hb : Below w0.heap.size w0 w) (hbl : w0.heap.size ≤ bl) (g : Goes w bl V A w' V' k') : Lv w0 bl A k' w' := by
  have h1 := hb.size
  refine ⟨V', g.at_, hb.trans ⟨g.only.os, g.only.tape, g.only.output, g.only.size, fun x hx => g.only.block x (by omega) fun hm => ?_⟩, hbl⟩
  have := h.reach_lt hm
  omega
theorem Lv.goesB (h : Lv w0 bl A k w) (hb : Below w.heap.size w w') : Lv w0 bl A k w' := by
  obtain ⟨V, h1, h2, h3⟩ := h
  exact Goes.lv h1 h2 h3 (Goes.of_below h1 hb)
theorem lv_new (h : Below w0.heap.size w0 w) : Calls Try.prog 10 #[] w fun e w' => e = .returned (.pointer (some ⟨w.heap.size, 0, none⟩)) ∧ Lv w0 w.heap.size [] k0 w' := by
  refine (new_any w).mono ?_
  rintro e w' ⟨rfl, h1, h2⟩
  exact ⟨rfl, _, h1, h.trans (h2.mono h.size), h.size⟩
theorem lv_send (h : Lv w0 bl A k w) (n : Int) (a : Option Addr) (l c : Nat) (B : List UInt8) (hb : Bts w a l c B) (hin : 0 < l → ∀ g o, a = some ⟨g, o, none⟩ → g < w0.heap.size) : Calls Try.prog 11 #[.pointer (some ⟨bl, 0, none⟩), .int .i64 n, .slice a l c] w fun e w' => e = .returned (.int .i64 (k.sendE n l)) ∧ Lv w0 bl A (k.sends n B) w' := by
  obtain ⟨V, h1, h2, h3⟩ := h
  refine (send_any h1 n a l c B hb (fun hl g o e hx => by have := h1.reach_lt hx; have := hin hl g o e; omega)).mono ?_
  rintro e w' ⟨rfl, V', g⟩
  exact ⟨rfl, Goes.lv h1 h2 h3 g⟩
theorem lv_flight (h : Lv w0 bl A k w) (hfl : k.fl.length ≤ 1024) : Calls Try.prog 12 #[.pointer (some ⟨bl, 0, none⟩)] w fun e w' => ∃ a c, e = .returned (.slice a k.fl.length c) ∧ Lv w0 bl A k w' := by
  obtain ⟨V, h1, h2, h3⟩ := h
  refine (flight_any h1 hfl).mono ?_
  rintro e w' ⟨v, rfl, hr, hb⟩
  obtain ⟨ps, e, ho, _⟩ := hr
  obtain ⟨a, c, e1, _⟩ := own_slice ho (by decide)
  exact ⟨a, c, by rw [e1, ← e]; simp, Goes.lv h1 h2 h3 (Goes.of_below h1 hb)⟩
theorem lv_open (h : Lv w0 bl A k w) (n : Nat) (hn : n < 2) : Calls Try.prog 14 #[.pointer (some ⟨bl, 0, none⟩), .int .i64 (n : Int)] w fun e w' => e = .returned (.int .i64 ((k.en n).op.length : Nat)) ∧ w = w' := by
  obtain ⟨V, h1, h2, h3⟩ := h
  exact open_any h1 n hn
theorem lv_renew (h : Lv w0 bl A k w) (e : Nat) : Calls Try.prog 13 #[.pointer (some ⟨bl, 0, none⟩), .int .u32 (e : Int)] w fun x w' => x = .returned (.int .i64 (if e ≤ k.ep then 2 else 0)) ∧ Lv w0 bl A (if e ≤ k.ep then k else k.renew e) w' := by
  obtain ⟨V, h1, h2, h3⟩ := h
  by_cases he : e ≤ k.ep
  · rw [if_pos he, if_pos he]
    refine (renew_no h1 e he).mono ?_
    rintro e w' ⟨rfl, rfl⟩
    exact ⟨rfl, V, h1, h2, h3⟩
  · rw [if_neg he, if_neg he]
    refine (renew_ok h1 e (by omega)).mono ?_
    rintro e w' ⟨rfl, V', g⟩
    exact ⟨rfl, Goes.lv h1 h2 h3 g⟩
def Lk.dels (k : Lk) (i : Nat) : Lk := match k.fl[i]? with | some p => (k.less i).comes p | none => k
theorem lv_deliver (h : Lv w0 bl A k w) (i : Nat) (hi : i < k.fl.length) (hf : ∀ p ∈ k.fl, p.f < 2) (hg : ∀ n, n < 2 → ((k.en n).got.length + 1) * 24 ≤ 140737488355328) : Calls Try.prog 15 #[.pointer (some ⟨bl, 0, none⟩), .int .i64 (i : Int)] w fun e w' => e = .returned (.int .i64 0) ∧ Lv w0 bl A (k.dels i) w' := by
  obtain ⟨V, h1, h2, h3⟩ := h
  obtain ⟨p, hp⟩ : ∃ p, k.fl[i]? = some p := ⟨_, List.getElem?_eq_getElem hi⟩
  refine (deliver_any h1 i p hp (hf p (List.mem_of_getElem? hp)) hg).mono ?_
  rintro e w' ⟨rfl, V', g⟩
  refine ⟨rfl, ?_⟩
  unfold Lk.dels
  rw [hp]
  exact Goes.lv h1 h2 h3 g
/-- a slice of bodies, each readable -/
def Txt (w : World) (v : Value) (l : List (List UInt8)) : Prop := ∃ a c, v = .slice a l.length c ∧ l.length ≤ maxLen ∧ l.length ≤ c ∧ ∀ i B, l[i]? = some B → ∃ g a' c', a = some ⟨g, 0, none⟩ ∧ w.cell? ⟨g, i, none⟩ = some (.slice a' B.length c') ∧ Bts w a' B.length c' B
theorem txt_of_row {base : Nat} {S : List Nat} {v : Value} {l : List (List UInt8)} (h : RowOf w base S 23 1 gc id v l) : Txt w v l := by
  obtain ⟨ps, e, ho, hb⟩ := h
  have hlen : ps.length = l.length := by rw [← e]; simp
  rcases ho.2 with ⟨e1, e2⟩ | ⟨g, cap, cur, e1, hbs, hg, hnc, hcm, hsz, htk⟩
  · have : l = [] := List.eq_nil_of_length_eq_zero (by omega)
    subst this
    exact ⟨none, 0, e1, by unfold maxLen; simp, by simp, fun i B hB => by simp at hB⟩
  · refine ⟨some ⟨g, 0, none⟩, cap, by rw [e1, hlen], by omega, by omega, fun i B hB => ?_⟩
    obtain ⟨g', c, y, e2, _, hc, hy⟩ := (show RowOf w base S 23 1 gc id v l from ⟨ps, e, ho, hb⟩).at_ (fun _ => rfl) i B hB
    rw [e1, hlen] at e2
    cases e2
    obtain ⟨a', c', rfl, hbt, _⟩ := hy.slice
    have := hc 0 _ rfl
    exact ⟨g, a', c', rfl, by simpa using this, hbt⟩
theorem lv_got (h : Lv w0 bl A k w) (n : Nat) (hn : n < 2) (hg : ((k.en n).got.length + 1) * 24 ≤ 140737488355328) : Calls Try.prog 16 #[.pointer (some ⟨bl, 0, none⟩), .int .i64 (n : Int)] w fun e w' => ∃ v, e = .returned v ∧ Txt w' v (k.en n).got ∧ Lv w0 bl A k w' := by
  obtain ⟨V, h1, h2, h3⟩ := h
  refine (got_any h1 n hn hg).mono ?_
  rintro e w' ⟨v, rfl, hr, hb⟩
  exact ⟨v, rfl, txt_of_row hr, Goes.lv h1 h2 h3 (Goes.of_below h1 hb)⟩
end
end Go.Proofs.Ytfjaoompdleljaa.Link
/-
  Tick of a link by contract. Helper text; no statement is proved here.
-/
set_option linter.unusedVariables false
set_option maxRecDepth 20000
set_option linter.unusedSimpArgs false
namespace Go.Proofs.Ytfjaoompdleljaa.Link
open Go.RowKit Go.Proofs.Ytfjaoompdleljaa.Base Go.Proofs.Ytfjaoompdleljaa.Laws Go.Proofs.Ytfjaoompdleljaa.Disk Go.Proofs.Ytfjaoompdleljaa.Row Go.Proofs.Ytfjaoompdleljaa.Flat Go.Proofs.Ytfjaoompdleljaa.InvM
def Lk.try1 (k : Lk) (n : Nat) (m : Mk) : Lk := if k.fl.length < 1024 then k.put n m.s m.B else k
def Lk.tries (k : Lk) (n : Nat) (ms : List Mk) : Lk := ms.foldl (fun k m => k.try1 n m) k
theorem tries_snoc (k : Lk) (n : Nat) (ms : List Mk) (m : Mk) : k.tries n (ms ++ [m]) = (k.tries n ms).try1 n m := by
  unfold Lk.tries; rw [List.foldl_append]; rfl
theorem try1_en (k : Lk) (n : Nat) (m : Mk) : (k.try1 n m).ep = k.ep ∧ (k.try1 n m).a = k.a ∧ (k.try1 n m).b = k.b ∧ k.fl.length ≤ (k.try1 n m).fl.length ∧ (k.fl.length ≤ 1024 → (k.try1 n m).fl.length ≤ 1024) := by
  unfold Lk.try1
  split
  · refine ⟨rfl, rfl, rfl, ?_, fun h => ?_⟩
    · show k.fl.length ≤ (k.fl ++ [_]).length; simp
    · show (k.fl ++ [_]).length ≤ 1024; simp; omega
  · exact ⟨rfl, rfl, rfl, Nat.le_refl _, fun h => h⟩
theorem tries_en (k : Lk) (n : Nat) (ms : List Mk) : (k.tries n ms).ep = k.ep ∧ (k.tries n ms).a = k.a ∧ (k.tries n ms).b = k.b ∧ k.fl.length ≤ (k.tries n ms).fl.length ∧ (k.fl.length ≤ 1024 → (k.tries n ms).fl.length ≤ 1024) := by
  unfold Lk.tries
  induction ms generalizing k with
  | nil => exact ⟨rfl, rfl, rfl, Nat.le_refl _, fun h => h⟩
  | cons m ms ih =>
    obtain ⟨h1, h2, h3, h4, h5⟩ := ih (k.try1 n m)
    obtain ⟨g1, g2, g3, g4, g5⟩ := try1_en k n m
    exact ⟨h1.trans g1, h2.trans g2, h3.trans g3, Nat.le_trans g4 h4, fun h => h5 (g5 h)⟩
def Lk.tick (k : Lk) : Lk := (k.tries 0 k.a.op).tries 1 k.b.op
section
variable {w : World} {bl : Nat} {V : Nat → Value} {A : List Nat} {k : Lk}
set_option maxHeartbeats 2000000 in
theorem tick_any (h : LinkAt w bl V A k) (hfl : k.fl.length ≤ 1024) (hop : ∀ n, n < 2 → (k.en n).op.length ≤ 256) : Calls Try.prog 18 #[.pointer (some ⟨bl, 0, none⟩)] w fun e w' => e = .returned (.int .i64 ((k.tick.fl.length - k.fl.length : Nat) : Int)) ∧ ∃ V', Goes w bl V A w' V' k.tick := by
  obtain ⟨F0, hF0⟩ : ∃ F0, F0 = k.fl.length := ⟨_, rfl⟩
  have HF := Lib.hid hF0
  have HOP := Lib.hid hop
  have G0 := Lib.hid (Goes.refl h)
  rw [← hF0] at hfl ⊢
  clear h hop hF0
  go_enter Try.func18, Try.ntmps18
  go_wp2_with fail
  refine wp_loop_rounds 3 ?_
  rw [rounds_succ]
  obtain ⟨ops0, hops0⟩ : ∃ o, o = (k.en 0).op := ⟨_, rfl⟩
  obtain ⟨oa0, oc0, ov0, _⟩ := G0.out.at_.slO 0 (by decide)
  obtain ⟨N0, hN0⟩ : ∃ N, N = ops0.length := ⟨_, rfl⟩
  have hN256_0 : N0 ≤ 256 := by rw [hN0, hops0]; exact HOP.out 0 (by decide)
  rw [← hops0, ← hN0] at ov0
  have c0 : w.cell? ⟨bl, 1, none⟩ = some (.slice oa0 N0 oc0) := by rw [← ov0]; exact G0.out.at_.cell 1
  have HN0 := Lib.hid hN0
  have HO0 := Lib.hid hops0
  have HV0 := Lib.hid ov0
  clear hops0 hN0 ov0
  go_wp2_with fail
  go_loopw [20, 3] (fun i nn wr => ∃ j : Nat, ∃ V', j ≤ N0 ∧ i = .int .i64 j ∧ nn = .int .i64 (((k.tries 0 (ops0.take j)).fl.length - F0 : Nat) : Int) ∧ Goes w bl V A wr V' (k.tries 0 (ops0.take j)) ∧ V' 0 = .slice oa0 N0 oc0) (fun i _ _ => N0 - (intOf i).toNat)
  case atStart => exact ⟨0, _, by omega, rfl, (by have := HF.out; show _ = Value.int .i64 ((k.fl.length - F0 : Nat) : Int); rw [show k.fl.length - F0 = 0 by omega]; rfl), G0.out, HV0.out⟩
  case round =>
    obtain ⟨j, V', hj, rfl, rfl, hg, hv'⟩ := hrel
    have HG := Lib.hid hg
    have HV' := Lib.hid hv'
    clear hg hv'
    by_cases hjn : j < N0
    · obtain ⟨m, hm⟩ : ∃ m, ops0[j]? = some m := ⟨_, List.getElem?_eq_getElem (by have := HN0.out; omega)⟩
      have HM := Lib.hid hm
      have hops : ((k.tries 0 (ops0.take j)).en 0).op = ops0 := by
        have := congrArg En.op (tries_en k 0 (ops0.take j)).2.1
        exact this.trans HO0.out.symm
      obtain ⟨g, c', y, ee, hgl, hcy, hY⟩ := (HG.out.at_.o 0 (by decide)).at_ (fun _ => rfl) j m (by rw [hops]; exact hm)
      rw [show V' (2 * 0) = _ from HV'.out] at ee
      obtain ⟨rfl, _, _⟩ : oa0 = some ⟨g, 0, none⟩ ∧ True ∧ True := by
        simp only [Value.slice.injEq] at ee
        exact ⟨ee.1, trivial, trivial⟩
      obtain ⟨ya, yc, hy, _, _⟩ := hY.slice
      obtain ⟨yl, hyl⟩ : ∃ yl, yl = m.B.length := ⟨_, rfl⟩
      rw [← hyl] at hy
      obtain ⟨mv, hmv⟩ : ∃ mv, mv = mc (m, y) := ⟨_, rfl⟩
      have HMV := Lib.hid hmv
      have LD := Lib.hid (show ∀ i v, mv[i]? = some v → wr.cell? ((⟨g, j * 4, none⟩ : Addr).add i) = some v from fun i v hi => by
        rw [Addr.add_lit]
        exact hcy i v (by rw [← hmv]; exact hi))
      have M4 := Lib.hid (show mv.length = 4 by rw [hmv]; rfl)
      have M1 := Lib.hid (show ∀ u ∈ mv, u.oneCell' = true by rw [hmv]; exact mc_one hY.one)
      have Z2 := Lib.hid (blk_at (w := wr) (g := wr.heap.size) (cs := zmk) (t := 71) (arr := #[.int .u32 0, .int .u32 0, .int .u32 0, .slice none 0 0]) rfl rfl)
      have HY := Lib.hid hY
      have HYS := Lib.hid hy
      clear hm hops ee hcy hY hmv hy hyl
      go_upto_region 10 with (first | (refine wpList_value_g rfl (.agg mv.toArray) (exec_load_from rfl rfl LD.out Try.underlying71 rfl (by kernel_rfl) M4.out) ?_) | (refine wpList_store_blk rfl 71 _ _ rfl wr.heap.size 0 4 rfl 71 zmk mv rfl Z2.out (by kernel_rfl) M4.out (by decide) M1.out ?_; intro w3 z3 g3; have Z3 := Lib.hid z3; have G3 := Lib.hid g3; clear z3 g3))
      have B3 := Lib.hid (below_grown ((Below.refl wr.heap.size wr).alloc (Nat.le_refl _) _) G3.out (by simp) (Nat.le_refl _))
      obtain ⟨pb, hpb⟩ : ∃ pb, pb = wr.heap.size := ⟨_, rfl⟩
      have P6 := Lib.hid (show Blk w3 pb (mc (m, y)) 71 from by have := Z3.out; rw [put_all _ _ (by rw [M4.out]; rfl), ← hpb, HMV.out] at this; exact this)
      have H3 := Lib.hid (HG.out.keep B3.out)
      have Y3 := Lib.hid (HY.out.move (Only.of_below (S := []) B3.out) (by simp) (fun x hx => .inl hx))
      have q1 : w3.cell? ⟨pb, 1, none⟩ = some (.int .u32 (m.s : Int)) := P6.out.cell 1
      have q3 : w3.cell? ⟨pb, 3, none⟩ = some (.slice ya yl yc) := by rw [← HYS.out]; exact P6.out.cell 3
      have SN := Lib.hid (show k.tries 0 (ops0.take (j + 1)) = (k.tries 0 (ops0.take j)).try1 0 m from by rw [take_snoc ops0 j m HM.out, tries_snoc])
      have GE := Lib.hid (show F0 ≤ (k.tries 0 (ops0.take j)).fl.length from by have := (tries_en k 0 (ops0.take j)).2.2.2.1; have := HF.out; omega)
      have LE4 := Lib.hid (show (k.tries 0 (ops0.take j)).fl.length ≤ 1024 from (tries_en k 0 (ops0.take j)).2.2.2.2 (by have := HF.out; omega))
      have RM := Lib.hid (room_any H3.out.at_)
      obtain ⟨kj, hkj⟩ : ∃ kj, kj = k.tries 0 (ops0.take j) := ⟨_, rfl⟩
      have HKJ := Lib.hid hkj
      rw [← hkj] at SN GE LE4 RM H3 ⊢
      rw [← hpb]
      clear Z3 Z2 LD G3 hpb hkj
      simp only [Act.put]
      by_cases hroom : kj.fl.length < 1024
      · have PT := Lib.hid (put_any4 H3.out.at_ 0 (by decide) m.s Y3.out hroom)
        rw [decide_eq_true hroom] at RM
        rw [HYS.out] at PT
        have SP := Lib.hid (show kj.try1 0 m = kj.put 0 m.s m.B from if_pos hroom)
        have d1 : (kj.fl.length - F0 : Nat) ≤ 1024 := by have := LE4.out; omega
        obtain ⟨dd, hdd⟩ : ∃ dd, dd = kj.fl.length - F0 := ⟨_, rfl⟩
        have DD := Lib.hid hdd
        rw [← hdd] at d1 ⊢
        clear hroom hdd
        go_wp2_with (first | (go_at_call 32; refine RM.out.mono ?_; intro e w' hh; have he := hh.1; have hw := hh.2; subst he; subst w'; clear hh) | (go_at_call 34; refine PT.out.mono ?_; rintro e w9 ⟨rfl, v9, g9⟩; have G9 := Lib.hid g9; clear g9))
        refine ⟨?rel, ?measure⟩
        case rel =>
          refine ⟨j + 1, upd V' 4 v9, by omega, by go_num, ?_, ?_, ?_⟩
          · rw [SN.out, SP.out]
            show _ = Value.int .i64 (((kj.fl ++ [_]).length - F0 : Nat) : Int)
            have := DD.out
            have := GE.out
            rw [List.length_append]
            simp only [List.length_singleton]
            congr 1
            omega
          · rw [SN.out, SP.out]; exact H3.out.trans G9.out
          · rw [upd_ne (by decide)]; exact HV'.out
        case measure => simp [intOf]; omega
      · rw [decide_eq_false hroom] at RM
        have SP := Lib.hid (show kj.try1 0 m = kj from if_neg hroom)
        clear hroom
        go_wp2_with (first | (go_at_call 32; refine RM.out.mono ?_; intro e w' hh; have he := hh.1; have hw := hh.2; subst he; subst w'; clear hh))
        refine ⟨?rel, ?measure⟩
        case rel => exact ⟨j + 1, V', by omega, by go_num, by rw [SN.out, SP.out], by rw [SN.out, SP.out]; exact H3.out, HV'.out⟩
        case measure => simp [intOf]; omega
    · have e5 := HN0.out
      rw [List.take_of_length_le (by omega)] at HG ⊢
      obtain ⟨w1, hw1⟩ : ∃ x, x = wr := ⟨_, rfl⟩
      obtain ⟨V1, hV1⟩ : ∃ x, x = V' := ⟨_, rfl⟩
      rw [← hw1, ← hV1] at HG
      rw [← hw1]
      clear hw1 hV1 HV' e5
      obtain ⟨K1, hK1⟩ : ∃ x, x = k.tries 0 ops0 := ⟨_, rfl⟩
      have HK1 := Lib.hid hK1
      rw [← hK1] at HG ⊢
      have G1 := Lib.hid HG.out
      clear HG hK1
      have K1G : F0 ≤ K1.fl.length := by have := (tries_en k 0 ops0).2.2.2.1; have := HF.out; rw [HK1.out]; omega
      have K1L : K1.fl.length ≤ 1024 := by rw [HK1.out]; exact (tries_en k 0 ops0).2.2.2.2 (by have := HF.out; omega)
      go_wp2_with fail
      rw [rounds_succ]
      obtain ⟨ops1, hops1⟩ : ∃ o, o = (K1.en 1).op := ⟨_, rfl⟩
      obtain ⟨oa1, oc1, ov1, _⟩ := G1.out.at_.slO 1 (by decide)
      obtain ⟨N1, hN1⟩ : ∃ N, N = ops1.length := ⟨_, rfl⟩
      have hN256_1 : N1 ≤ 256 := by rw [hN1, hops1]; exact (by have := HOP.out 1 (by decide); have e : K1.b = k.b := by { rw [HK1.out]; exact (tries_en k 0 ops0).2.2.1 }; show K1.b.op.length ≤ 256; rw [e]; exact this)
      rw [← hops1, ← hN1] at ov1
      have c1 : w1.cell? ⟨bl, 5, none⟩ = some (.slice oa1 N1 oc1) := by rw [← ov1]; exact G1.out.at_.cell 5
      have HN1 := Lib.hid hN1
      have HO1 := Lib.hid hops1
      have HV1 := Lib.hid ov1
      clear hops1 hN1 ov1
      go_wp2_with fail
      go_loopw [20, 3] (fun i nn wr => ∃ j : Nat, ∃ V', j ≤ N1 ∧ i = .int .i64 j ∧ nn = .int .i64 (((K1.tries 1 (ops1.take j)).fl.length - F0 : Nat) : Int) ∧ Goes w bl V A wr V' (K1.tries 1 (ops1.take j)) ∧ V' 2 = .slice oa1 N1 oc1) (fun i _ _ => N1 - (intOf i).toNat)
      case atStart => exact ⟨0, _, by omega, rfl, rfl, G1.out, HV1.out⟩
      case round =>
        obtain ⟨j, V', hj, rfl, rfl, hg, hv'⟩ := hrel
        have HG := Lib.hid hg
        have HV' := Lib.hid hv'
        clear hg hv'
        by_cases hjn : j < N1
        · obtain ⟨m, hm⟩ : ∃ m, ops1[j]? = some m := ⟨_, List.getElem?_eq_getElem (by have := HN1.out; omega)⟩
          have HM := Lib.hid hm
          have hops : ((K1.tries 1 (ops1.take j)).en 1).op = ops1 := by
            have := congrArg En.op (tries_en K1 1 (ops1.take j)).2.2.1
            exact this.trans HO1.out.symm
          obtain ⟨g, c', y, ee, hgl, hcy, hY⟩ := (HG.out.at_.o 1 (by decide)).at_ (fun _ => rfl) j m (by rw [hops]; exact hm)
          rw [show V' (2 * 1) = _ from HV'.out] at ee
          obtain ⟨rfl, _, _⟩ : oa1 = some ⟨g, 0, none⟩ ∧ True ∧ True := by
            simp only [Value.slice.injEq] at ee
            exact ⟨ee.1, trivial, trivial⟩
          obtain ⟨ya, yc, hy, _, _⟩ := hY.slice
          obtain ⟨yl, hyl⟩ : ∃ yl, yl = m.B.length := ⟨_, rfl⟩
          rw [← hyl] at hy
          obtain ⟨mv, hmv⟩ : ∃ mv, mv = mc (m, y) := ⟨_, rfl⟩
          have HMV := Lib.hid hmv
          have LD := Lib.hid (show ∀ i v, mv[i]? = some v → wr.cell? ((⟨g, j * 4, none⟩ : Addr).add i) = some v from fun i v hi => by
            rw [Addr.add_lit]
            exact hcy i v (by rw [← hmv]; exact hi))
          have M4 := Lib.hid (show mv.length = 4 by rw [hmv]; rfl)
          have M1 := Lib.hid (show ∀ u ∈ mv, u.oneCell' = true by rw [hmv]; exact mc_one hY.one)
          have Z2 := Lib.hid (blk_at (w := wr) (g := wr.heap.size) (cs := zmk) (t := 71) (arr := #[.int .u32 0, .int .u32 0, .int .u32 0, .slice none 0 0]) rfl rfl)
          have HY := Lib.hid hY
          have HYS := Lib.hid hy
          clear hm hops ee hcy hY hmv hy hyl
          go_upto_region 10 with (first | (refine wpList_value_g rfl (.agg mv.toArray) (exec_load_from rfl rfl LD.out Try.underlying71 rfl (by kernel_rfl) M4.out) ?_) | (refine wpList_store_blk rfl 71 _ _ rfl wr.heap.size 0 4 rfl 71 zmk mv rfl Z2.out (by kernel_rfl) M4.out (by decide) M1.out ?_; intro w3 z3 g3; have Z3 := Lib.hid z3; have G3 := Lib.hid g3; clear z3 g3))
          have B3 := Lib.hid (below_grown ((Below.refl wr.heap.size wr).alloc (Nat.le_refl _) _) G3.out (by simp) (Nat.le_refl _))
          obtain ⟨pb, hpb⟩ : ∃ pb, pb = wr.heap.size := ⟨_, rfl⟩
          have P6 := Lib.hid (show Blk w3 pb (mc (m, y)) 71 from by have := Z3.out; rw [put_all _ _ (by rw [M4.out]; rfl), ← hpb, HMV.out] at this; exact this)
          have H3 := Lib.hid (HG.out.keep B3.out)
          have Y3 := Lib.hid (HY.out.move (Only.of_below (S := []) B3.out) (by simp) (fun x hx => .inl hx))
          have q1 : w3.cell? ⟨pb, 1, none⟩ = some (.int .u32 (m.s : Int)) := P6.out.cell 1
          have q3 : w3.cell? ⟨pb, 3, none⟩ = some (.slice ya yl yc) := by rw [← HYS.out]; exact P6.out.cell 3
          have SN := Lib.hid (show K1.tries 1 (ops1.take (j + 1)) = (K1.tries 1 (ops1.take j)).try1 1 m from by rw [take_snoc ops1 j m HM.out, tries_snoc])
          have GE := Lib.hid (show F0 ≤ (K1.tries 1 (ops1.take j)).fl.length from by have := (tries_en K1 1 (ops1.take j)).2.2.2.1; have := K1G; omega)
          have LE4 := Lib.hid (show (K1.tries 1 (ops1.take j)).fl.length ≤ 1024 from (tries_en K1 1 (ops1.take j)).2.2.2.2 (by have := K1L; omega))
          have RM := Lib.hid (room_any H3.out.at_)
          obtain ⟨kj, hkj⟩ : ∃ kj, kj = K1.tries 1 (ops1.take j) := ⟨_, rfl⟩
          have HKJ := Lib.hid hkj
          rw [← hkj] at SN GE LE4 RM H3 ⊢
          rw [← hpb]
          clear Z3 Z2 LD G3 hpb hkj
          simp only [Act.put]
          by_cases hroom : kj.fl.length < 1024
          · have PT := Lib.hid (put_any4 H3.out.at_ 1 (by decide) m.s Y3.out hroom)
            rw [decide_eq_true hroom] at RM
            rw [HYS.out] at PT
            have SP := Lib.hid (show kj.try1 1 m = kj.put 1 m.s m.B from if_pos hroom)
            have d1 : (kj.fl.length - F0 : Nat) ≤ 1024 := by have := LE4.out; omega
            obtain ⟨dd, hdd⟩ : ∃ dd, dd = kj.fl.length - F0 := ⟨_, rfl⟩
            have DD := Lib.hid hdd
            rw [← hdd] at d1 ⊢
            clear hroom hdd
            go_wp2_with (first | (go_at_call 32; refine RM.out.mono ?_; intro e w' hh; have he := hh.1; have hw := hh.2; subst he; subst w'; clear hh) | (go_at_call 34; refine PT.out.mono ?_; rintro e w9 ⟨rfl, v9, g9⟩; have G9 := Lib.hid g9; clear g9))
            refine ⟨?rel, ?measure⟩
            case rel =>
              refine ⟨j + 1, upd V' 4 v9, by omega, by go_num, ?_, ?_, ?_⟩
              · rw [SN.out, SP.out]
                show _ = Value.int .i64 (((kj.fl ++ [_]).length - F0 : Nat) : Int)
                have := DD.out
                have := GE.out
                rw [List.length_append]
                simp only [List.length_singleton]
                congr 1
                omega
              · rw [SN.out, SP.out]; exact H3.out.trans G9.out
              · rw [upd_ne (by decide)]; exact HV'.out
            case measure => simp [intOf]; omega
          · rw [decide_eq_false hroom] at RM
            have SP := Lib.hid (show kj.try1 1 m = kj from if_neg hroom)
            clear hroom
            go_wp2_with (first | (go_at_call 32; refine RM.out.mono ?_; intro e w' hh; have he := hh.1; have hw := hh.2; subst he; subst w'; clear hh))
            refine ⟨?rel, ?measure⟩
            case rel => exact ⟨j + 1, V', by omega, by go_num, by rw [SN.out, SP.out], by rw [SN.out, SP.out]; exact H3.out, HV'.out⟩
            case measure => simp [intOf]; omega
        · have e5 := HN1.out
          rw [List.take_of_length_le (by omega)] at HG ⊢
          obtain ⟨w2, hw2⟩ : ∃ x, x = wr := ⟨_, rfl⟩
          obtain ⟨V2, hV2⟩ : ∃ x, x = V' := ⟨_, rfl⟩
          rw [← hw2, ← hV2] at HG
          rw [← hw2]
          clear hw2 hV2 HV' e5
          obtain ⟨K2, hK2⟩ : ∃ x, x = K1.tries 1 ops1 := ⟨_, rfl⟩
          have HK2 := Lib.hid hK2
          rw [← hK2] at HG ⊢
          have G2 := Lib.hid HG.out
          clear HG hK2
          go_wp2_with fail
          rw [rounds_succ]
          go_wp2_with fail
          go_ret
          have e : k.tick = K2 := by
            rw [HK2.out, HK1.out]
            unfold Lk.tick
            have e1 : ops1 = k.b.op := by
              have := congrArg En.op (tries_en k 0 ops0).2.2.1
              rw [← HK1.out] at this
              exact HO1.out.trans this
            rw [e1, show ops0 = k.a.op from HO0.out]
          rw [e]
          exact ⟨rfl, _, G2.out⟩
end
end Go.Proofs.Ytfjaoompdleljaa.Link
/-
  Twin of a link by contract. Helper text; no statement is proved here.
-/
set_option linter.unusedVariables false
set_option maxRecDepth 20000
set_option linter.unusedSimpArgs false
namespace Go.Proofs.Ytfjaoompdleljaa.Link
open Go.RowKit Go.Proofs.Ytfjaoompdleljaa.Base Go.Proofs.Ytfjaoompdleljaa.Laws Go.Proofs.Ytfjaoompdleljaa.Disk Go.Proofs.Ytfjaoompdleljaa.Row Go.Proofs.Ytfjaoompdleljaa.Flat Go.Proofs.Ytfjaoompdleljaa.InvM Go.Proofs.Ytfjaoompdleljaa.Inv Go.Proofs.Ytfjaoompdleljaa.InvL Go.Proofs.Ytfjaoompdleljaa.InvC Go.Proofs.Ytfjaoompdleljaa.InvG Go.Proofs.Ytfjaoompdleljaa.Codec
section
variable {w : World} {bl : Nat} {V : Nat → Value} {A : List Nat} {k : Lk}
theorem twin_no (h : LinkAt w bl V A k) (i : Int) (hi : i < 0 ∨ (k.fl.length : Int) ≤ i) : Calls Try.prog 22 #[.pointer (some ⟨bl, 0, none⟩), .int .i64 i] w fun e w' => e = .returned (.int .i64 2) ∧ w = w' := by
  obtain ⟨a, c, e, _⟩ := h.slF
  have c9 : w.cell? ⟨bl, 9, none⟩ = some (V 4) := h.cell 9
  rw [e] at c9
  obtain ⟨n, hn⟩ : ∃ n, n = k.fl.length := ⟨_, rfl⟩
  rw [← hn] at c9 hi
  clear h e hn
  by_cases h1 : i < 0
  · clear hi c9
    go_enter Try.func22, Try.ntmps22
    go_wp2_with fail
    go_ret
    exact ⟨rfl, rfl⟩
  · have h2 : (n : Int) ≤ i := by omega
    clear hi
    go_enter Try.func22, Try.ntmps22
    go_wp2_with fail
    go_ret
    exact ⟨rfl, rfl⟩
theorem twin_full (h : LinkAt w bl V A k) (i : Nat) (hi : i < k.fl.length) (hf : ¬ k.fl.length < 1024) : Calls Try.prog 22 #[.pointer (some ⟨bl, 0, none⟩), .int .i64 (i : Int)] w fun e w' => e = .returned (.int .i64 9) ∧ w = w' := by
  obtain ⟨a, c, e, _⟩ := h.slF
  have c9 : w.cell? ⟨bl, 9, none⟩ = some (V 4) := h.cell 9
  rw [e] at c9
  have RM := Lib.hid (room_any h)
  rw [decide_eq_false hf] at RM
  obtain ⟨n, hn⟩ : ∃ n, n = k.fl.length := ⟨_, rfl⟩
  rw [← hn] at c9 hi
  have h1 : ¬ ((n : Int) ≤ i) := by omega
  clear h e hn hf
  go_enter Try.func22, Try.ntmps22
  go_wp2_with (go_at_call 32; refine RM.out.mono ?_; intro e w' hh; have he := hh.1; have hw := hh.2; subst he; subst w'; clear hh)
  go_ret
  exact ⟨rfl, rfl⟩
def Lk.twin (k : Lk) (i : Nat) : Lk := match k.fl[i]? with | some p => { k with fl := k.fl ++ [p] } | none => k
set_option maxHeartbeats 2000000 in
theorem twin_ok (h : LinkAt w bl V A k) (i : Nat) (hi : i < k.fl.length) (hf : k.fl.length < 1024) : Calls Try.prog 22 #[.pointer (some ⟨bl, 0, none⟩), .int .i64 (i : Int)] w fun e w' => e = .returned (.int .i64 0) ∧ ∃ V', Goes w bl V A w' V' (k.twin i) := by
  obtain ⟨p, hp⟩ : ∃ p, k.fl[i]? = some p := ⟨_, List.getElem?_eq_getElem hi⟩
  obtain ⟨g, cap, y, p', hp', hv4, hY, hcs, hgr, hml⟩ := h.lessAt i hi
  obtain rfl : p = p' := by rw [hp] at hp'; exact Option.some.inj hp'
  unfold maxLen at hml
  have c9 : w.cell? ⟨bl, 9, none⟩ = some (V 4) := h.cell 9
  rw [hv4] at c9
  have RM := Lib.hid (room_any h)
  rw [decide_eq_true hf] at RM
  have HF := Lib.hid hf
  have HP := Lib.hid hp
  have H0 := Lib.hid h
  have hlt := h.head.lt
  have HV4 := Lib.hid hv4
  have hgl := (h.reach_lt hgr).2
  obtain ⟨n, hn⟩ : ∃ n, n = k.fl.length := ⟨_, rfl⟩
  have HN := Lib.hid hn
  rw [← hn] at c9 hi hml HV4
  have h1 : ¬ ((n : Int) ≤ i) := by omega
  obtain ⟨ya, yc, hy, _, _⟩ := hY.slice
  obtain ⟨yl, hyl⟩ : ∃ yl, yl = p.m.B.length := ⟨_, rfl⟩
  rw [← hyl] at hy
  obtain ⟨pv, hpv⟩ : ∃ pv, pv = pc (p, y) := ⟨_, rfl⟩
  have HPV := Lib.hid hpv
  have LD := Lib.hid (show ∀ j v, pv[j]? = some v → w.cell? ((⟨g, i * 5, none⟩ : Addr).add j) = some v from fun j v hj => by
    rw [Addr.add_lit]
    exact hcs j v (by rw [← hpv]; exact hj))
  have P5 := Lib.hid (show pv.length = 5 by rw [hpv]; rfl)
  have P1 := Lib.hid (show ∀ u ∈ pv, u.oneCell' = true by rw [hpv]; exact pc_one hY.one)
  have Z2 := Lib.hid (blk_at (w := w) (g := w.heap.size) (cs := zpk) (t := 74) (arr := #[.int .i64 0, .int .u32 0, .int .u32 0, .int .u32 0, .slice none 0 0]) rfl rfl)
  have HY := Lib.hid hY
  have HYS := Lib.hid hy
  clear hp hp' hv4 hY hcs hgr hpv hy hyl hn h hf
  go_enter Try.func22, Try.ntmps22
  go_upto_region 6 with (first | (go_at_call 32; refine RM.out.mono ?_; intro e w' hh; have he := hh.1; have hw := hh.2; subst he; subst w'; clear hh) | (refine wpList_value_g rfl (.agg pv.toArray) (exec_load_from rfl rfl LD.out Try.underlying74 rfl (by kernel_rfl) P5.out) ?_) | (refine wpList_store_blk rfl 74 _ _ rfl w.heap.size 0 5 rfl 74 zpk pv rfl Z2.out (by kernel_rfl) P5.out (by decide) P1.out ?_; intro w3 z3 g3; have Z3 := Lib.hid z3; have G3 := Lib.hid g3; clear z3 g3))
  have B3 := Lib.hid (below_grown ((Below.refl w.heap.size w).alloc (Nat.le_refl _) _) G3.out (by simp) (Nat.le_refl _))
  obtain ⟨pb, hpb⟩ : ∃ pb, pb = w.heap.size := ⟨_, rfl⟩
  have P6 := Lib.hid (show Blk w3 pb (pc (p, y)) 74 from by have := Z3.out; rw [put_all _ _ (by rw [P5.out]; rfl), ← hpb, HPV.out] at this; exact this)
  have hs3 : pb < w3.heap.size := P6.out.lt
  have Y3 := HY.out.move (Only.of_below (S := []) B3.out) (by simp) (fun x hx => .inl hx)
  obtain ⟨ca, cc, w4, hcl, hY4, hb4⟩ := clone_body Y3 (pb :: (reach bl V ++ A)) (fun x hx => by
    rcases List.mem_cons.1 hx with rfl | hx
    · exact hs3
    rcases List.mem_append.1 hx with hx | hx
    · have := (H0.out.reach_lt hx).2; omega
    · have := H0.out.out x hx; omega)
  have P64 := Lib.hid (P6.out.below hb4 hs3)
  rw [HYS.out] at hcl
  have CB := Lib.hid hcl
  have q4 : w3.cell? ⟨pb, 4, none⟩ = some (.slice ya yl yc) := by rw [← HYS.out]; exact P6.out.cell 4
  have q44 : w4.cell? ⟨pb, 4, none⟩ = some (.slice ya yl yc) := by rw [← HYS.out]; exact P64.out.cell 4
  have f44 : w4.frozen? ⟨pb, 4, none⟩ = false := P64.out.frozen 4
  rw [← hpb]
  have HPB := Lib.hid hpb
  clear Z3 Z2 LD G3 Y3 hcl hpb
  simp only [Act.put]
  go_upto_region 7 with (go_at_call 33; refine CB.out.mono ?_; intro e w' hh; have he := hh.1; have hw := hh.2; subst he; subst w'; clear hh)
  obtain ⟨bn, hbn⟩ : ∃ bn, bn = p.m.B.length := ⟨_, rfl⟩
  rw [← hbn] at hY4 ⊢
  obtain ⟨w5, hw5⟩ : ∃ w5, w5 = w4.setCell ⟨pb, 4, none⟩ (.slice ca bn cc) := ⟨_, rfl⟩
  obtain ⟨qv, hqv⟩ : ∃ qv, qv = pc (p, .slice ca bn cc) := ⟨_, rfl⟩
  have Q5 := Lib.hid (show qv.length = 5 by rw [hqv]; rfl)
  have P65 := Lib.hid (show Blk w5 pb qv 74 from by rw [hw5, hqv]; exact P64.out.setCell 4 _)
  have hb5 : Below pb w w5 := by
    have h4 : Below pb w w4 := by rw [HPB.out]; exact B3.out.trans (hb4.mono (by have := HPB.out; omega))
    rw [hw5]
    exact h4.setCell (Nat.le_refl _) _
  have B5 := Lib.hid (show Below w.heap.size w w5 from HPB.out ▸ hb5)
  have hs5 : pb < w5.heap.size := P65.out.lt
  have Y5 := Lib.hid (show Body w5 (reach bl V ++ A) (.slice ca bn cc) p.m.B from by
    rw [hw5]
    exact hY4.move (T := [pb]) ((Only.refl [pb] w4).setCell (by simp) 4 _) (by simp) (fun x hx => .inl (List.mem_cons_of_mem _ hx)))
  have H5 := Lib.hid (H0.out.below B5.out)
  rw [← hw5]
  clear hw5 q44 f44 q4 P64 P6 hY4 hb5 hb4 hbn
  obtain ⟨w6, hw6⟩ : ∃ w6, w6 = w5.drew.alloc (.cells qv.toArray 74) := ⟨_, rfl⟩
  have b6 : Below w5.heap.size w5 w6 := hw6 ▸ ((Below.refl w5.heap.size w5).drew.alloc (Nat.le_refl _) _)
  have K6 := Lib.hid (H5.out.below b6)
  have Y6 := Y5.out.move (Only.of_below (S := []) b6) (by simp) (fun x hx => .inl hx)
  have Z6 : Blk w6 w5.heap.size (pc (p, .slice ca bn cc)) 74 := by rw [hw6, ← hqv]; exact blk_at rfl rfl
  obtain ⟨v', w7, hr7, hg7, hc7, hf7, gr7, va, vc, rfl⟩ := K6.out.more p (.slice ca bn cc) Y6 Z6 HF.out
  rw [← HN.out, HV4.out] at hr7
  rw [← HN.out] at hg7
  rw [HV4.out] at hc7
  have r5 : w5.drew.cell? ⟨bl, 9, none⟩ = some (.slice (some ⟨g, 0, none⟩) n cap) := by rw [← HV4.out]; exact H5.out.cell 9
  have r6 : w6.cell? ⟨bl, 9, none⟩ = some (.slice (some ⟨g, 0, none⟩) n cap) := by rw [← HV4.out]; exact K6.out.cell 9
  have hpg : ∀ x, (V 4).ownBlock = some x → pb ≠ x := fun x hx e => by
    have := (H0.out.row 4 (by decide) hx).2
    have := HPB.out
    omega
  have P5d : Blk w5.drew pb qv 74 := P65.out.drew
  have P66 : Blk w6 pb qv 74 := P65.out.below b6 hs5
  have P67 : Blk w7 pb qv 74 := P66.grownO gr7 hpg
  obtain ⟨m, hm⟩ : ∃ m, m = n + 1 := ⟨_, rfl⟩
  rw [← hm] at hr7 hg7
  have Q := Lib.hid (show ∀ d w', At2 6 7 (fun w' => w' = w5.drew) (fun w' => w' = w6) (fun w' => w' = w7) d w' → w'.cell? ⟨bl, 9, none⟩ = some (.slice (some ⟨g, 0, none⟩) n cap) ∧ Blk w' pb qv 74 from fun d w' h => by
    rcases h.any with rfl | rfl | rfl
    · exact ⟨r5, P5d⟩
    · exact ⟨r6, P66⟩
    · exact ⟨hc7, P67⟩)
  have HRD := Lib.hid hr7
  have HGD := Lib.hid hg7
  have HW6 := Lib.hid hw6
  have QD := Lib.hid hc7
  have FD := Lib.hid hf7
  have LC := Lib.hid b6
  clear hr7 hg7 hw6 r5 r6 P5d P66 P67 hc7 hf7 gr7 hpg b6 Y6 Z6 hm hqv
  refine wp_region_gate_tail (fun d w' => At2 6 7 (fun w' => w' = w5.drew) (fun w' => w' = w6) (fun w' => w' = w7) d w') 8 (by kernel_rfl) (by kernel_rfl) ?hI ?_
  case hI => exact At2.start (by rfl) (by rfl) rfl
  simp only [List.take_succ_cons, List.take_zero, List.drop_succ_cons, List.drop_zero]
  refine InvC.invc_value (.pointer (some ⟨bl, 0, none⟩)) (fun u hu => by cases hu) rfl (fun d w' _ _ h => by go_simp; all_goals rfl) (fun d w' _ _ h => At2.keep (by decide) (by decide) h) ?_
  simp only [Act.put, List.setIfInBounds_toArray, List.set_cons_zero, List.set_cons_succ]
  refine InvC.invc_value (.pointer (some ⟨bl, 0, none⟩)) (fun u hu => by cases hu) rfl (fun d w' _ _ h => by go_simp; all_goals rfl) (fun d w' _ _ h => At2.keep (by decide) (by decide) h) ?_
  simp only [Act.put, List.setIfInBounds_toArray, List.set_cons_zero, List.set_cons_succ]
  refine InvC.invc_value (.pointer (some ⟨bl, 0, none⟩)) (fun u hu => by cases hu) rfl (fun d w' _ _ h => by go_simp; all_goals rfl) (fun d w' _ _ h => At2.keep (by decide) (by decide) h) ?_
  simp only [Act.put, List.setIfInBounds_toArray, List.set_cons_zero, List.set_cons_succ]
  refine InvC.invc_value (.pointer (some ⟨bl, 9, none⟩)) (fun u hu => by cases hu) rfl (fun d w' _ _ h => by go_simp; all_goals rfl) (fun d w' _ _ h => At2.keep (by decide) (by decide) h) ?_
  simp only [Act.put, List.setIfInBounds_toArray, List.set_cons_zero, List.set_cons_succ]
  refine InvC.invc_value (.slice (some ⟨g, 0, none⟩) n cap) (fun u hu => by cases hu) rfl (fun d w' _ _ h => by have q := (Q.out d w' h).1; go_simp) (fun d w' _ _ h => At2.keep (by decide) (by decide) h) ?_
  simp only [Act.put, List.setIfInBounds_toArray, List.set_cons_zero, List.set_cons_succ]
  refine InvC.invc_value (.agg qv.toArray) (fun u hu => by cases hu) rfl (fun d w' _ _ h => exec_load (cs := qv) (t := 74) rfl rfl (Q.out d w' h).2 Try.underlying74 rfl (by kernel_rfl) Q5.out) (fun d w' _ _ h => At2.keep (by decide) (by decide) h) ?_
  simp only [Act.put, List.setIfInBounds_toArray, List.set_cons_zero, List.set_cons_succ]
  refine InvC.invc_world (.slice (some ⟨w5.heap.size, 0, none⟩) 1 1) (fun u hu => by cases hu) rfl (fun d w' hd hG h => ⟨w6, by
    have e := (h.at_p hd).1
    subst e
    rw [HW6.out]
    exact exec_build_one rfl rfl Try.underlying29 info_pk Q5.out (by decide) (by decide), At2.did_p (by decide) hd h rfl⟩) ?_
  simp only [Act.put, List.setIfInBounds_toArray, List.set_cons_zero, List.set_cons_succ]
  refine InvC.invc_world (.slice va m vc) (fun u hu => by cases hu) rfl (fun d w' hd hG h => ⟨w7, by
    have e := h.at_q hd (hG.of (by kernel_rfl))
    subst e
    exact exec_append _ _ rfl rfl rfl HRD.out, At2.did_q (by decide) hd (hG.of (by kernel_rfl)) rfl⟩) ?_
  simp only [Act.put, List.setIfInBounds_toArray, List.set_cons_zero, List.set_cons_succ]
  refine InvC.invc_nil fun w8 hI => ?_
  have e6 := hI.done (by rfl)
  subst e6
  have q4 := QD.out
  have f4 := FD.out
  have GO3 := Lib.hid (((Goes.of_below H0.out B5.out).keep LC.out).trans HGD.out)
  clear Q QD FD HRD HW6 LC HGD K6
  go_wp2_with fail
  go_ret
  have e : k.twin i = { k with fl := k.fl ++ [p] } := by unfold Lk.twin; rw [HP.out]
  rw [e]
  exact ⟨rfl, _, GO3.out⟩
end
end Go.Proofs.Ytfjaoompdleljaa.Link
/-
  The plain law of a link in one epoch: what comes is a beginning of what was sent. Helper text; no statement is proved here.
-/
set_option linter.unusedVariables false
set_option maxRecDepth 20000
set_option linter.unusedSimpArgs false
namespace Go.Proofs.Ytfjaoompdleljaa.Link
/-- messages from number i on -/
def opens : Nat → List (List UInt8) → List Mk
  | _, [] => []
  | i, B :: r => ⟨0, i + 1, 0, B⟩ :: opens (i + 1) r
theorem opens_len (i : Nat) (l : List (List UInt8)) : (opens i l).length = l.length := by
  induction l generalizing i with
  | nil => rfl
  | cons B r ih => simp [opens, ih]
theorem opens_snoc (i : Nat) (l : List (List UInt8)) (B : List UInt8) : opens i (l ++ [B]) = opens i l ++ [⟨0, i + l.length + 1, 0, B⟩] := by
  induction l generalizing i with
  | nil => rfl
  | cons C r ih =>
    simp only [List.cons_append, opens, ih, List.length_cons]
    rw [show i + 1 + r.length + 1 = i + (r.length + 1) + 1 by omega]
theorem opens_mem {i : Nat} {l : List (List UInt8)} {m : Mk} (h : m ∈ opens i l) : ∃ j, l[j]? = some m.B ∧ m.s = i + j + 1 := by
  induction l generalizing i with
  | nil => cases h
  | cons B r ih =>
    rcases List.mem_cons.1 h with rfl | h
    · exact ⟨0, rfl, rfl⟩
    · obtain ⟨j, h1, h2⟩ := ih h
      exact ⟨j + 1, h1, by omega⟩
theorem opens_filter (K i : Nat) (l : List (List UInt8)) : (opens i l).filter (fun m => decide (K < m.s)) = opens (max i K) (l.drop (K - i)) := by
  induction l generalizing i with
  | nil => simp [opens]
  | cons B r ih =>
    by_cases h : K < i + 1
    · have e1 : max i K = i := by omega
      have e2 : K - i = 0 := by omega
      rw [e1, e2, List.drop_zero]
      show List.filter _ (⟨0, i + 1, 0, B⟩ :: opens (i + 1) r) = _
      rw [List.filter_cons_of_pos (by simpa using h), ih]
      have e3 : max (i + 1) K = i + 1 := by omega
      have e4 : K - (i + 1) = 0 := by omega
      rw [e3, e4, List.drop_zero]
      rfl
    · show List.filter _ (⟨0, i + 1, 0, B⟩ :: opens (i + 1) r) = _
      rw [List.filter_cons_of_neg (by simpa using h), ih]
      have e3 : max (i + 1) K = max i K := by omega
      have e4 : K - i = (K - (i + 1)) + 1 := by omega
      rw [e3, e4, List.drop_succ_cons]
/-- what holds of a link of which epoch 0 stands, and of what was sent -/
structure Ok (k : Lk) (S : Nat → List (List UInt8)) : Prop where
  ep : k.ep = 0
  sent : ∀ n, n < 2 → (k.en n).sent = (S n).length
  got : ∀ n, n < 2 → (k.en (1 - n)).got = (S n).take (k.en (1 - n)).come
  come : ∀ n, n < 2 → (k.en (1 - n)).come ≤ (S n).length
  op : ∀ n, n < 2 → ∃ a, a ≤ (k.en (1 - n)).come ∧ (k.en n).op = opens a ((S n).drop a)
  fl : ∀ p ∈ k.fl, p.f < 2 ∧ p.m.e = 0 ∧ p.m.k ≤ (k.en p.f).come ∧ (p.m.B = [] ∨ ∃ i, (S p.f)[i]? = some p.m.B ∧ p.m.s = i + 1)
  small : ∀ n, n < 2 → (S n).length < 4294967295
  body : ∀ n, n < 2 → ∀ B ∈ S n, B ≠ []
  room : k.fl.length ≤ 1024
  few : ∀ n, n < 2 → (k.en n).op.length ≤ 256
def put2 (S : Nat → List (List UInt8)) (n : Nat) (B : List UInt8) : Nat → List (List UInt8) := fun i => if i = n then S i ++ [B] else S i
variable {k : Lk} {S : Nat → List (List UInt8)}
theorem two {n : Nat} (h : n < 2) : n = 0 ∨ n = 1 := by omega
theorem ok_k0 : Ok k0 (fun _ => []) where
  ep := rfl
  sent n hn := by rcases two hn with rfl | rfl <;> rfl
  got n hn := by rcases two hn with rfl | rfl <;> rfl
  come n hn := by rcases two hn with rfl | rfl <;> exact Nat.le_refl _
  op n hn := by rcases two hn with rfl | rfl <;> exact ⟨0, Nat.le_refl _, rfl⟩
  fl p hp := by cases hp
  small n hn := by simp
  body n hn B hB := by cases hB
  room := by decide
  few n hn := by rcases two hn with rfl | rfl <;> decide
theorem with_ep (k : Lk) (n : Nat) (e : En) : (k.with n e).ep = k.ep := by unfold Lk.with; split <;> rfl
theorem with_fl (k : Lk) (n : Nat) (e : En) : (k.with n e).fl = k.fl := by unfold Lk.with; split <;> rfl
theorem ackd_ep (k : Lk) (n K : Nat) : (k.ackd n K).ep = k.ep := with_ep ..
theorem ackd_fl (k : Lk) (n K : Nat) : (k.ackd n K).fl = k.fl := with_fl ..
theorem sent_ep (k : Lk) (n : Nat) (m : Mk) : ((k.bump n).addOpen n m).ep = k.ep := (with_ep ..).trans (with_ep ..)
theorem sent_fl (k : Lk) (n : Nat) (m : Mk) : ((k.bump n).addOpen n m).fl = k.fl := (with_fl ..).trans (with_fl ..)
theorem took_ep (k : Lk) (n : Nat) (B : List UInt8) : ((k.come1 n).addGot n B).ep = k.ep := (with_ep ..).trans (with_ep ..)
theorem took_fl (k : Lk) (n : Nat) (B : List UInt8) : ((k.come1 n).addGot n B).fl = k.fl := (with_fl ..).trans (with_fl ..)
theorem Ok.acks (h : Ok k S) (n : Nat) (hn : n < 2) (K : Nat) (hK : K ≤ (k.en (1 - n)).come) : Ok (k.ackd n K) S := by
  have hen : ∀ m, m < 2 → ((k.ackd n K).en m).sent = (k.en m).sent ∧ ((k.ackd n K).en m).come = (k.en m).come ∧ ((k.ackd n K).en m).got = (k.en m).got := fun m hm => by
    rcases two hn with rfl | rfl <;> rcases two hm with rfl | rfl <;> exact ⟨rfl, rfl, rfl⟩
  have hop : ∀ m, m < 2 → ((k.ackd n K).en m).op = if m = n then (k.en n).op.filter (fun x => decide (K < x.s)) else (k.en m).op := fun m hm => by
    rcases two hn with rfl | rfl <;> rcases two hm with rfl | rfl <;> rfl
  refine { ep := (ackd_ep ..).trans h.ep, sent := fun m hm => (hen m hm).1.trans (h.sent m hm), got := fun m hm => ?_, come := fun m hm => ?_, op := fun m hm => ?_, fl := fun p hp => ?_, small := h.small, body := h.body, room := by rw [ackd_fl]; exact h.room, few := fun m hm => ?_ }
  · rw [(hen (1 - m) (by omega)).2.1, (hen (1 - m) (by omega)).2.2]; exact h.got m hm
  · rw [(hen (1 - m) (by omega)).2.1]; exact h.come m hm
  · rw [(hen (1 - m) (by omega)).2.1, hop m hm]
    obtain ⟨a, h1, h2⟩ := h.op m hm
    by_cases e : m = n
    · subst e
      rw [if_pos rfl, h2, opens_filter, List.drop_drop]
      exact ⟨max a K, by omega, by rw [show a + (K - a) = max a K by omega]⟩
    · rw [if_neg e]; exact ⟨a, h1, h2⟩
  · rw [ackd_fl] at hp
    obtain ⟨h1, h2, h3, h4⟩ := h.fl p hp
    exact ⟨h1, h2, by rw [(hen p.f h1).2.1]; exact h3, h4⟩
  · rw [hop m hm]
    by_cases e : m = n
    · rw [if_pos e]; exact Nat.le_trans (List.length_filter_le ..) (h.few n hn)
    · rw [if_neg e]; exact h.few m hm
theorem Ok.flight (h : Ok k S) (fl : List Pk) (hf : ∀ p ∈ fl, p.f < 2 ∧ p.m.e = 0 ∧ p.m.k ≤ (k.en p.f).come ∧ (p.m.B = [] ∨ ∃ i, (S p.f)[i]? = some p.m.B ∧ p.m.s = i + 1)) (hl : fl.length ≤ 1024) : Ok { k with fl := fl } S :=
  { ep := h.ep, sent := h.sent, got := h.got, come := h.come, op := h.op, fl := hf, small := h.small, body := h.body, room := hl, few := h.few }
theorem Ok.less (h : Ok k S) (i : Nat) : Ok (k.less i) S := by
  refine h.flight _ (fun p hp => ?_) ?_
  · rcases List.mem_append.1 hp with hp | hp
    · exact h.fl p (List.mem_of_mem_take hp)
    · exact h.fl p (List.mem_of_mem_drop hp)
  · have := h.room
    rw [List.length_append, List.length_take, List.length_drop]
    omega
theorem Ok.puts (h : Ok k S) (n s : Nat) (B : List UInt8) (hn : n < 2) (hl : k.fl.length < 1024) (hB : B = [] ∨ ∃ i, (S n)[i]? = some B ∧ s = i + 1) : Ok (k.put n s B) S := by
  refine h.flight _ (fun p hp => ?_) (by rw [List.length_append]; simp; omega)
  rcases List.mem_append.1 hp with hp | hp
  · exact h.fl p hp
  · obtain rfl := List.mem_singleton.1 hp
    exact ⟨hn, h.ep, Nat.le_refl _, hB⟩
theorem Ok.twin (h : Ok k S) (i : Nat) (hl : k.fl.length < 1024) : Ok (k.twin i) S := by
  unfold Lk.twin
  cases hp : k.fl[i]? with
  | none => exact h
  | some p =>
    refine h.flight _ (fun q hq => ?_) (by rw [List.length_append]; simp; omega)
    rcases List.mem_append.1 hq with hq | hq
    · exact h.fl q hq
    · obtain rfl := List.mem_singleton.1 hq
      exact h.fl _ (List.mem_of_getElem? hp)
theorem Ok.send (h : Ok k S) (n : Nat) (B : List UInt8) (hn : n < 2) (hB : B ≠ []) (hl : k.fl.length < 1024) (ho : (k.en n).op.length < 256) (hs : (S n).length + 1 < 4294967295) : Ok (k.send n B) (put2 S n B) := by
  have hsn := h.sent n hn
  have hmod : ((k.en n).sent + 1) % 4294967296 = (S n).length + 1 := by rw [hsn]; exact Nat.mod_eq_of_lt (by omega)
  unfold Lk.send
  rw [hmod]
  have hen : ∀ m, m < 2 → (((k.bump n).addOpen n ⟨0, (S n).length + 1, 0, B⟩).en m).come = (k.en m).come ∧ (((k.bump n).addOpen n ⟨0, (S n).length + 1, 0, B⟩).en m).got = (k.en m).got := fun m hm => by
    rcases two hn with rfl | rfl <;> rcases two hm with rfl | rfl <;> exact ⟨rfl, rfl⟩
  have hst : ∀ m, m < 2 → (((k.bump n).addOpen n ⟨0, (S n).length + 1, 0, B⟩).en m).sent = if m = n then ((k.en n).sent + 1) % 4294967296 else (k.en m).sent := fun m hm => by
    rcases two hn with rfl | rfl <;> rcases two hm with rfl | rfl <;> rfl
  have hop : ∀ m, m < 2 → (((k.bump n).addOpen n ⟨0, (S n).length + 1, 0, B⟩).en m).op = if m = n then (k.en n).op ++ [⟨0, (S n).length + 1, 0, B⟩] else (k.en m).op := fun m hm => by
    rcases two hn with rfl | rfl <;> rcases two hm with rfl | rfl <;> rfl
  have hpre : ∀ m i C, (S m)[i]? = some C → (put2 S n B m)[i]? = some C := fun m i C hC => by
    unfold put2
    split
    · rw [List.getElem?_append_left (List.getElem?_eq_some_iff.1 hC).1]; exact hC
    · exact hC
  have hlen : ∀ m, (put2 S n B m).length = if m = n then (S n).length + 1 else (S m).length := fun m => by
    unfold put2
    split
    · rename_i e; subst e; simp
    · rfl
  have H : Ok ((k.bump n).addOpen n ⟨0, (S n).length + 1, 0, B⟩) (put2 S n B) := by
    refine { ep := (sent_ep ..).trans h.ep, sent := fun m hm => ?_, got := fun m hm => ?_, come := fun m hm => ?_, op := fun m hm => ?_, fl := fun p hp => ?_, small := fun m hm => ?_, body := fun m hm C hC => ?_, room := by rw [sent_fl]; exact h.room, few := fun m hm => ?_ }
    · rw [hst m hm, hlen, hmod]
      split
      · rfl
      · exact h.sent m hm
    · rw [(hen (1 - m) (by omega)).1, (hen (1 - m) (by omega)).2, h.got m hm]
      unfold put2
      split
      · rw [List.take_append_of_le_length (h.come m hm)]
      · rfl
    · rw [(hen (1 - m) (by omega)).1, hlen]
      have := h.come m hm
      split
      · rename_i e; subst e; omega
      · exact this
    · rw [(hen (1 - m) (by omega)).1, hop m hm]
      obtain ⟨a, h1, h2⟩ := h.op m hm
      refine ⟨a, h1, ?_⟩
      have hc := h.come m hm
      unfold put2
      split
      · rename_i e
        subst e
        rw [h2, List.drop_append_of_le_length (by omega), opens_snoc, List.length_drop, show a + ((S m).length - a) + 1 = (S m).length + 1 by omega]
      · exact h2
    · rw [sent_fl] at hp
      obtain ⟨h1, h2, h3, h4⟩ := h.fl p hp
      refine ⟨h1, h2, by rw [(hen p.f h1).1]; exact h3, h4.imp id ?_⟩
      rintro ⟨i, e1, e2⟩
      exact ⟨i, hpre _ i _ e1, e2⟩
    · rw [hlen]
      split
      · exact hs
      · exact h.small m hm
    · unfold put2 at hC
      split at hC
      · rcases List.mem_append.1 hC with hC | hC
        · exact h.body m hm C hC
        · obtain rfl := List.mem_singleton.1 hC; exact hB
      · exact h.body m hm C hC
    · rw [hop m hm]
      split
      · rw [List.length_append]; simp; omega
      · exact h.few m hm
  refine H.puts n _ B hn (by rw [sent_fl]; exact hl) (.inr ⟨(S n).length, ?_, rfl⟩)
  unfold put2
  rw [if_pos rfl]
  simp
theorem Ok.handed (h : Ok k S) (n : Nat) (hn : n < 2) (m : Mk) (hB : ∃ i, (S (1 - n))[i]? = some m.B ∧ m.s = i + 1) : Ok (k.handed n m) S := by
  unfold Lk.handed
  split
  · rename_i hs
    obtain ⟨i, h1, h2⟩ := hB
    have hc := h.come (1 - n) (by omega)
    have hsm := h.small (1 - n) (by omega)
    rw [show 1 - (1 - n) = n by omega] at hc
    have hmod : ((k.en n).come + 1) % 4294967296 = (k.en n).come + 1 := Nat.mod_eq_of_lt (by omega)
    rw [hmod] at hs
    obtain rfl : i = (k.en n).come := by omega
    have hil := (List.getElem?_eq_some_iff.1 h1).1
    have hen : ∀ j, j < 2 → (((k.come1 n).addGot n m.B).en j).sent = (k.en j).sent ∧ (((k.come1 n).addGot n m.B).en j).op = (k.en j).op := fun j hj => by
      rcases two hn with rfl | rfl <;> rcases two hj with rfl | rfl <;> exact ⟨rfl, rfl⟩
    have hco : ∀ j, j < 2 → (((k.come1 n).addGot n m.B).en j).come = if j = n then ((k.en n).come + 1) % 4294967296 else (k.en j).come := fun j hj => by
      rcases two hn with rfl | rfl <;> rcases two hj with rfl | rfl <;> rfl
    have hgo : ∀ j, j < 2 → (((k.come1 n).addGot n m.B).en j).got = if j = n then (k.en n).got ++ [m.B] else (k.en j).got := fun j hj => by
      rcases two hn with rfl | rfl <;> rcases two hj with rfl | rfl <;> rfl
    have hle : ∀ j, j < 2 → (k.en j).come ≤ (((k.come1 n).addGot n m.B).en j).come := fun j hj => by
      rw [hco j hj]
      split
      · rename_i e; subst e; omega
      · exact Nat.le_refl _
    refine { ep := (took_ep ..).trans h.ep, sent := fun j hj => (hen j hj).1.trans (h.sent j hj), got := fun j hj => ?_, come := fun j hj => ?_, op := fun j hj => ?_, fl := fun p hp => ?_, small := h.small, body := h.body, room := by rw [took_fl]; exact h.room, few := fun j hj => by rw [(hen j hj).2]; exact h.few j hj }
    · rw [hco _ (by omega), hgo _ (by omega)]
      split
      · rename_i e
        subst e
        rw [h.got j hj, hmod]
        rw [show 1 - (1 - j) = j by omega] at h1
        rw [List.take_add_one, h1]
        rfl
      · exact h.got j hj
    · rw [hco _ (by omega)]
      split
      · rename_i e
        subst e
        rw [show 1 - (1 - j) = j by omega] at hil
        omega
      · exact h.come j hj
    · obtain ⟨a, e1, e2⟩ := h.op j hj
      exact ⟨a, Nat.le_trans e1 (hle _ (by omega)), by rw [(hen j hj).2]; exact e2⟩
    · rw [took_fl] at hp
      obtain ⟨e1, e2, e3, e4⟩ := h.fl p hp
      exact ⟨e1, e2, Nat.le_trans e3 (hle _ e1), e4⟩
  · exact h
theorem Ok.answer (h : Ok k S) (n : Nat) (hn : n < 2) : Ok (k.answer n) S := by
  unfold Lk.answer
  split
  · rename_i hl; exact h.puts n 0 [] hn hl (.inl rfl)
  · exact h
theorem handed_keep (k : Lk) (n : Nat) (m : Mk) : (k.handed n m).fl = k.fl ∧ (k.handed n m).ep = k.ep := by
  unfold Lk.handed
  split
  · exact ⟨took_fl .., took_ep ..⟩
  · exact ⟨rfl, rfl⟩
theorem Ok.comes (h : Ok k S) (p : Pk) (hf : p.f < 2) (hk : p.m.k ≤ (k.en p.f).come) (hb : p.m.B = [] ∨ ∃ i, (S p.f)[i]? = some p.m.B ∧ p.m.s = i + 1) : Ok (k.comes p) S := by
  unfold Lk.comes
  have ha := h.acks (1 - p.f) (by omega) p.m.k (by rw [show 1 - (1 - p.f) = p.f by omega]; exact hk)
  split
  · split
    · exact ha
    · rename_i hB
      exact (ha.handed (1 - p.f) (by omega) p.m (by rw [show 1 - (1 - p.f) = p.f by omega]; exact hb.resolve_left hB)).answer (1 - p.f) (by omega)
  · exact h
theorem Ok.dels (h : Ok k S) (i : Nat) : Ok (k.dels i) S := by
  unfold Lk.dels
  cases hp : k.fl[i]? with
  | none => exact h
  | some p =>
    obtain ⟨h1, h2, h3, h4⟩ := h.fl p (List.mem_of_getElem? hp)
    exact (h.less i).comes p h1 h3 h4
theorem Ok.tries (h : Ok k S) (n : Nat) (hn : n < 2) (ms : List Mk) (hm : ∀ m ∈ ms, ∃ i, (S n)[i]? = some m.B ∧ m.s = i + 1) : Ok (k.tries n ms) S := by
  unfold Lk.tries
  induction ms generalizing k with
  | nil => exact h
  | cons m ms ih =>
    refine ih ?_ (fun x hx => hm x (List.mem_cons_of_mem _ hx))
    show Ok (k.try1 n m) S
    by_cases hl : k.fl.length < 1024
    · rw [show k.try1 n m = k.put n m.s m.B from if_pos hl]
      exact h.puts n _ _ hn hl (.inr (hm m (List.mem_cons_self ..)))
    · rw [show k.try1 n m = k from if_neg hl]
      exact h
theorem Ok.op_mem (h : Ok k S) (n : Nat) (hn : n < 2) : ∀ m ∈ (k.en n).op, ∃ i, (S n)[i]? = some m.B ∧ m.s = i + 1 := by
  intro m hm
  obtain ⟨a, h1, h2⟩ := h.op n hn
  rw [h2] at hm
  obtain ⟨j, e1, e2⟩ := opens_mem hm
  rw [List.getElem?_drop] at e1
  exact ⟨a + j, e1, e2⟩
theorem Ok.tick (h : Ok k S) : Ok k.tick S := (h.tries 0 (by decide) _ (h.op_mem 0 (by decide))).tries 1 (by decide) _ (h.op_mem 1 (by decide))
end Go.Proofs.Ytfjaoompdleljaa.Link
/-
  The plain law of a link: what is sent again comes, and is acknowledged. Helper text; no statement is proved here.
-/
set_option linter.unusedVariables false
set_option maxRecDepth 20000
set_option linter.unusedSimpArgs false
namespace Go.Proofs.Ytfjaoompdleljaa.Link
variable {k : Lk} {S : Nat → List (List UInt8)} {n : Nat}
/-- how far an end comes that has come to c, if all this is delivered to it in its order -/
def far (n : Nat) : Nat → List Pk → Nat
  | c, [] => c
  | c, p :: fl => far n (if p.f = n ∧ p.m.B ≠ [] ∧ p.m.s = c + 1 then c + 1 else c) fl
theorem far_app (n c : Nat) (A B : List Pk) : far n c (A ++ B) = far n (far n c A) B := by
  induction A generalizing c with
  | nil => rfl
  | cons p A ih => exact ih _
theorem far_none {c : Nat} {fl : List Pk} (h : ∀ p ∈ fl, ¬ (p.f = n ∧ p.m.B ≠ [])) : far n c fl = c := by
  induction fl generalizing c with
  | nil => rfl
  | cons p fl ih =>
    show far n (if _ then _ else _) fl = c
    rw [if_neg (fun e => h p (List.mem_cons_self ..) ⟨e.1, e.2.1⟩)]
    exact ih (fun q hq => h q (List.mem_cons_of_mem _ hq))
theorem far_le {c L : Nat} {fl : List Pk} (h : ∀ p ∈ fl, p.f = n → p.m.B ≠ [] → p.m.s ≤ L) (hc : c ≤ L) : c ≤ far n c fl ∧ far n c fl ≤ L := by
  induction fl generalizing c with
  | nil => exact ⟨Nat.le_refl _, hc⟩
  | cons p fl ih =>
    show c ≤ far n (if _ then _ else _) fl ∧ far n (if _ then _ else _) fl ≤ L
    have h' := fun q hq => h q (List.mem_cons_of_mem _ hq)
    split
    · rename_i e
      have := h p (List.mem_cons_self ..) e.1 e.2.1
      have := ih h' (show c + 1 ≤ L by omega)
      exact ⟨by omega, this.2⟩
    · exact ih h' hc
theorem far_opens (e q : Nat) : ∀ (l : List (List UInt8)) (a c : Nat), (∀ B ∈ l, B ≠ []) → a ≤ c → far n c ((opens a l).map fun m => (⟨n, ⟨e, m.s, q, m.B⟩⟩ : Pk)) = max c (a + l.length)
  | [], a, c, _, h => by simp only [opens, List.map_nil, far, List.length_nil]; omega
  | B :: r, a, c, hB, h => by
    show far n (if n = n ∧ B ≠ [] ∧ a + 1 = c + 1 then c + 1 else c) ((opens (a + 1) r).map fun m => (⟨n, ⟨e, m.s, q, m.B⟩⟩ : Pk)) = _
    have h1 := hB B (List.mem_cons_self ..)
    have h2 := fun C hC => hB C (List.mem_cons_of_mem _ hC)
    by_cases e1 : a = c
    · rw [if_pos ⟨rfl, h1, by omega⟩, far_opens e q r (a + 1) (c + 1) h2 (by omega), List.length_cons]
      omega
    · rw [if_neg (fun x => e1 (by have := x.2.2; omega)), far_opens e q r (a + 1) c h2 (by omega), List.length_cons]
      omega
/-- all that end n has sent will have come, and be acknowledged, when what is under way is delivered in its order -/
def Run (n : Nat) (k : Lk) (S : Nat → List (List UInt8)) : Prop :=
  far n (k.en (1 - n)).come k.fl = (S n).length ∧
  ((k.en n).op = [] ∨ (∃ p ∈ k.fl, p.f = n ∧ p.m.B ≠ []) ∨ (∃ p ∈ k.fl, p.f = 1 - n ∧ p.m.k = (S n).length))
def wt (fl : List Pk) : Nat := (fl.map fun p => if p.m.B = [] then 1 else 2).sum
theorem wt_app (A B : List Pk) : wt (A ++ B) = wt A + wt B := by unfold wt; rw [List.map_append, List.sum_append]
theorem wt_le (fl : List Pk) : wt fl ≤ 2 * fl.length ∧ fl.length ≤ wt fl := by
  induction fl with
  | nil => exact ⟨Nat.le_refl _, Nat.le_refl _⟩
  | cons p fl ih =>
    have e : wt (p :: fl) = (if p.m.B = [] then 1 else 2) + wt fl := rfl
    rw [e, List.length_cons]
    split <;> omega
theorem ackd_en (k : Lk) (n K j : Nat) (hn : n < 2) (hj : j < 2) : ((k.ackd n K).en j).come = (k.en j).come ∧ ((k.ackd n K).en j).op = if j = n then (k.en n).op.filter (fun x => decide (K < x.s)) else (k.en j).op := by
  rcases two hn with rfl | rfl <;> rcases two hj with rfl | rfl <;> exact ⟨rfl, rfl⟩
theorem handed_en (k : Lk) (n : Nat) (m : Mk) (j : Nat) (hn : n < 2) (hj : j < 2) (hs : (k.en n).come + 1 < 4294967296) : ((k.handed n m).en j).come = (if j = n ∧ m.s = (k.en n).come + 1 then (k.en n).come + 1 else (k.en j).come) ∧ ((k.handed n m).en j).op = (k.en j).op := by
  have hmod : ((k.en n).come + 1) % 4294967296 = (k.en n).come + 1 := Nat.mod_eq_of_lt hs
  have hc : ∀ j, j < 2 → (((k.come1 n).addGot n m.B).en j).come = (if j = n then ((k.en n).come + 1) % 4294967296 else (k.en j).come) ∧ (((k.come1 n).addGot n m.B).en j).op = (k.en j).op := fun j hj => by
    rcases two hn with rfl | rfl <;> rcases two hj with rfl | rfl <;> exact ⟨rfl, rfl⟩
  unfold Lk.handed
  by_cases h : m.s = ((k.en n).come + 1) % 4294967296
  · rw [if_pos h, (hc j hj).1, (hc j hj).2, hmod]
    rw [hmod] at h
    refine ⟨?_, rfl⟩
    by_cases e : j = n
    · rw [if_pos e, if_pos ⟨e, h⟩]
    · rw [if_neg e, if_neg (fun x => e x.1)]
  · rw [if_neg h]
    refine ⟨?_, rfl⟩
    rw [hmod] at h
    rw [if_neg (fun x => h x.2)]
theorem Ok.dels0 (h : Ok k S) {p : Pk} {rest : List Pk} (hp : k.fl = p :: rest) : k.dels 0 = if p.m.B = [] then (k.less 0).ackd (1 - p.f) p.m.k else (((k.less 0).ackd (1 - p.f) p.m.k).handed (1 - p.f) p.m).put (1 - p.f) 0 [] := by
  have h0 := h.fl p (by rw [hp]; exact List.mem_cons_self ..)
  have hl : (k.less 0).fl = rest := by show k.fl.take 0 ++ k.fl.drop 1 = rest; rw [hp]; rfl
  unfold Lk.dels
  rw [show k.fl[0]? = some p by rw [hp]; rfl]
  show (k.less 0).comes p = _
  unfold Lk.comes
  rw [if_pos (show p.m.e = (k.less 0).ep from h0.2.1.trans h.ep.symm)]
  by_cases hB : p.m.B = []
  · rw [if_pos hB, if_pos hB]
  · rw [if_neg hB, if_neg hB]
    have hr := h.room
    rw [hp, List.length_cons] at hr
    refine if_pos ?_
    rw [(handed_keep _ _ _).1, ackd_fl, hl]
    omega
theorem run_dels {k : Lk} (h : Ok k S) (hn : n < 2) {p : Pk} {rest : List Pk} (hp : k.fl = p :: rest) (hr : Run n k S) : Run n (k.dels 0) S := by
  obtain ⟨f1, f2, f3, f4⟩ := h.fl p (by rw [hp]; exact List.mem_cons_self ..)
  have hl : (k.less 0).fl = rest := by show k.fl.take 0 ++ k.fl.drop 1 = rest; rw [hp]; rfl
  obtain ⟨r1, r2⟩ := hr
  rw [hp] at r1 r2
  have hto : 1 - p.f < 2 := by omega
  have hnil : ∀ K, (S n).length ≤ K → (k.en n).op.filter (fun x => decide (K < x.s)) = [] := fun K hK => by
    rw [List.filter_eq_nil_iff]
    intro m hm
    obtain ⟨i, e1, e2⟩ := h.op_mem n hn m hm
    have := (List.getElem?_eq_some_iff.1 e1).1
    simp only [decide_eq_true_eq]
    omega
  rw [h.dels0 hp]
  by_cases hB : p.m.B = []
  · rw [if_pos hB]
    unfold Run
    rw [ackd_fl, hl, (ackd_en _ _ _ _ hto (show 1 - n < 2 by omega)).1, (ackd_en _ _ _ _ hto hn).2]
    refine ⟨?_, ?_⟩
    · rw [← r1]
      show _ = far n (if _ then _ else _) rest
      rw [if_neg (fun x => x.2.1 hB)]
      rfl
    · rcases r2 with e | ⟨q, hq, e1, e2⟩ | ⟨q, hq, e1, e2⟩
      · refine .inl ?_
        have e' : ((k.less 0).en n).op = [] := e
        split
        · rename_i x; rw [← x, e']; rfl
        · exact e'
      · rcases List.mem_cons.1 hq with rfl | hq
        · exact absurd hB e2
        · exact .inr (.inl ⟨q, hq, e1, e2⟩)
      · rcases List.mem_cons.1 hq with rfl | hq
        · refine .inl ?_
          have x : n = 1 - q.f := by omega
          rw [if_pos x, ← x]
          exact hnil _ (by omega)
        · exact .inr (.inr ⟨q, hq, e1, e2⟩)
  · rw [if_neg hB]
    obtain ⟨k1, hk1⟩ : ∃ k1, k1 = (k.less 0).ackd (1 - p.f) p.m.k := ⟨_, rfl⟩
    have hc1 : ∀ j, j < 2 → (k1.en j).come = (k.en j).come := fun j hj => by rw [hk1]; exact (ackd_en _ _ _ _ hto hj).1
    have ho1 : ∀ j, j < 2 → (k1.en j).op = if j = 1 - p.f then (k.en (1 - p.f)).op.filter (fun x => decide (p.m.k < x.s)) else (k.en j).op := fun j hj => by rw [hk1]; exact (ackd_en _ _ _ _ hto hj).2
    have hsm : (k1.en (1 - p.f)).come + 1 < 4294967296 := by
      rw [hc1 _ hto]
      have := h.come p.f f1
      have := h.small p.f f1
      omega
    rw [← hk1]
    have hen : ∀ j, j < 2 → (((k1.handed (1 - p.f) p.m).put (1 - p.f) 0 []).en j).come = (if j = 1 - p.f ∧ p.m.s = (k.en (1 - p.f)).come + 1 then (k.en (1 - p.f)).come + 1 else (k.en j).come) ∧ (((k1.handed (1 - p.f) p.m).put (1 - p.f) 0 []).en j).op = (k1.en j).op := fun j hj => by
      have := handed_en k1 (1 - p.f) p.m j hto hj hsm
      rw [hc1 _ hto, hc1 _ hj] at this
      exact this
    have hfl : ((k1.handed (1 - p.f) p.m).put (1 - p.f) 0 []).fl = rest ++ [⟨1 - p.f, ⟨(k1.handed (1 - p.f) p.m).ep, 0, ((k1.handed (1 - p.f) p.m).en (1 - p.f)).come, []⟩⟩] := by
      show (k1.handed (1 - p.f) p.m).fl ++ _ = _
      rw [(handed_keep _ _ _).1, hk1, ackd_fl, hl]
    obtain ⟨ak, hak⟩ : ∃ ak, ak = (⟨1 - p.f, ⟨(k1.handed (1 - p.f) p.m).ep, 0, ((k1.handed (1 - p.f) p.m).en (1 - p.f)).come, []⟩⟩ : Pk) := ⟨_, rfl⟩
    rw [← hak] at hfl
    have hakB : ak.m.B = [] := by rw [hak]
    have hfar : ∀ c, far n c (rest ++ [ak]) = far n c rest := fun c => by
      rw [far_app]
      show (if _ then _ else _) = _
      rw [if_neg (fun x => x.2.1 hakB)]
    unfold Run
    rw [hfl, (hen (1 - n) (by omega)).1, (hen n hn).2, hfar]
    by_cases hd : p.f = n
    · subst hd
      refine ⟨?_, ?_⟩
      · rw [← r1]
        show far p.f _ rest = far p.f (if _ then _ else _) rest
        congr 1
        by_cases hs : p.m.s = (k.en (1 - p.f)).come + 1
        · rw [if_pos ⟨rfl, hs⟩, if_pos ⟨rfl, hB, hs⟩]
        · rw [if_neg (fun x => hs x.2), if_neg (fun x => hs x.2.2)]
      · rw [ho1 _ hn, if_neg (by omega)]
        by_cases hx : ∃ q ∈ rest, q.f = p.f ∧ q.m.B ≠ []
        · obtain ⟨q, hq, e⟩ := hx
          exact .inr (.inl ⟨q, List.mem_append_left _ hq, e⟩)
        · refine .inr (.inr ⟨ak, List.mem_append_right _ (List.mem_singleton.2 rfl), by rw [hak], ?_⟩)
          have hcome : ak.m.k = (if p.m.s = (k.en (1 - p.f)).come + 1 then (k.en (1 - p.f)).come + 1 else (k.en (1 - p.f)).come) := by
            rw [hak]
            show ((k1.handed (1 - p.f) p.m).en (1 - p.f)).come = _
            rw [(handed_en k1 (1 - p.f) p.m (1 - p.f) hto hto hsm).1, hc1 _ hto]
            by_cases hs : p.m.s = (k.en (1 - p.f)).come + 1
            · rw [if_pos ⟨rfl, hs⟩, if_pos hs]
            · rw [if_neg (fun x => hs x.2), if_neg hs]
          have e1 : far p.f (if p.f = p.f ∧ p.m.B ≠ [] ∧ p.m.s = (k.en (1 - p.f)).come + 1 then (k.en (1 - p.f)).come + 1 else (k.en (1 - p.f)).come) rest = (S p.f).length := r1
          rw [far_none (fun q hq e => hx ⟨q, hq, e⟩)] at e1
          rw [hcome, ← e1]
          by_cases hs : p.m.s = (k.en (1 - p.f)).come + 1
          · rw [if_pos hs, if_pos ⟨rfl, hB, hs⟩]
          · rw [if_neg hs, if_neg (fun x => hs x.2.2)]
    · refine ⟨?_, ?_⟩
      · rw [← r1]
        show far n _ rest = far n (if _ then _ else _) rest
        rw [if_neg (fun x => by have := x.1; omega), if_neg (fun x => hd x.1)]
      · rw [ho1 _ hn, if_pos (by omega), show 1 - p.f = n by omega]
        rcases r2 with e | ⟨q, hq, e1, e2⟩ | ⟨q, hq, e1, e2⟩
        · exact .inl (by rw [e]; rfl)
        · rcases List.mem_cons.1 hq with rfl | hq
          · exact absurd e1 hd
          · exact .inr (.inl ⟨q, List.mem_append_left _ hq, e1, e2⟩)
        · rcases List.mem_cons.1 hq with rfl | hq
          · exact .inl (hnil _ (by omega))
          · exact .inr (.inr ⟨q, List.mem_append_left _ hq, e1, e2⟩)
theorem wt_dels (h : Ok k S) {p : Pk} {rest : List Pk} (hp : k.fl = p :: rest) : wt (k.dels 0).fl < wt k.fl := by
  have hl : (k.less 0).fl = rest := by show k.fl.take 0 ++ k.fl.drop 1 = rest; rw [hp]; rfl
  rw [h.dels0 hp, hp]
  have e : wt (p :: rest) = (if p.m.B = [] then 1 else 2) + wt rest := rfl
  rw [e]
  by_cases hB : p.m.B = []
  · rw [if_pos hB, if_pos hB, ackd_fl, hl]; omega
  · rw [if_neg hB, if_neg hB]
    show wt ((((k.less 0).ackd (1 - p.f) p.m.k).handed (1 - p.f) p.m).fl ++ _) < _
    rw [(handed_keep _ _ _).1, ackd_fl, hl, wt_app]
    show wt rest + 1 < _
    omega
theorem tries_fl (k : Lk) (n : Nat) (ms : List Mk) (h : k.fl.length + ms.length ≤ 1024) : (k.tries n ms).fl = k.fl ++ ms.map fun m => (⟨n, ⟨k.ep, m.s, (k.en n).come, m.B⟩⟩ : Pk) := by
  induction ms generalizing k with
  | nil => simp [Lk.tries]
  | cons m ms ih =>
    rw [List.length_cons] at h
    have e : k.tries n (m :: ms) = (k.put n m.s m.B).tries n ms := by
      show (k.try1 n m).tries n ms = _
      rw [show k.try1 n m = k.put n m.s m.B from if_pos (by omega)]
    have hl : (k.put n m.s m.B).fl.length = k.fl.length + 1 := by show (k.fl ++ [_]).length = _; simp
    rw [e, ih _ (by omega)]
    show (k.fl ++ [_]) ++ _ = _
    rw [List.append_assoc]
    rfl
/-- behind Tick, with room, all runs -/
theorem Ok.run (h : Ok k S) (hl : k.fl.length + k.a.op.length + k.b.op.length ≤ 1024) (hn : n < 2) : Run n k.tick S := by
  have t0 := tries_en k 0 k.a.op
  have f0 := tries_fl k 0 k.a.op (by omega)
  have f1 := tries_fl (k.tries 0 k.a.op) 1 k.b.op (by rw [f0, List.length_append, List.length_map]; omega)
  have t1 := tries_en (k.tries 0 k.a.op) 1 k.b.op
  have hen : ∀ j, j < 2 → k.tick.en j = k.en j := fun j hj => by
    rcases two hj with rfl | rfl
    · exact t1.2.1.trans t0.2.1
    · exact t1.2.2.1.trans t0.2.2.1
  have hfl : k.tick.fl = k.fl ++ (k.a.op.map fun m => (⟨0, ⟨k.ep, m.s, k.a.come, m.B⟩⟩ : Pk)) ++ (k.b.op.map fun m => (⟨1, ⟨k.ep, m.s, k.b.come, m.B⟩⟩ : Pk)) := by
    show ((k.tries 0 k.a.op).tries 1 k.b.op).fl = _
    rw [f1, f0, t0.1]
    show _ ++ List.map (fun (m : Mk) => (⟨1, ⟨k.ep, m.s, (k.tries 0 k.a.op).b.come, m.B⟩⟩ : Pk)) _ = _
    rw [t0.2.2.1]
    rfl
  have hpk : ∀ p ∈ k.fl, p.f = n → p.m.B ≠ [] → p.m.s ≤ (S n).length := fun p hp e hB => by
    obtain ⟨_, _, _, h4⟩ := h.fl p hp
    obtain ⟨i, e1, e2⟩ := h4.resolve_left hB
    rw [e] at e1
    have := (List.getElem?_eq_some_iff.1 e1).1
    omega
  obtain ⟨a, ha, hop⟩ := h.op n hn
  have hcm := h.come n hn
  have hfar := far_le hpk hcm
  have hbody : ∀ B ∈ (S n).drop a, B ≠ [] := fun B hB => h.body n hn B (List.mem_of_mem_drop hB)
  have hdl : ((S n).drop a).length = (S n).length - a := List.length_drop ..
  unfold Run
  rw [hen (1 - n) (by omega), hen n hn, hfl]
  refine ⟨?_, ?_⟩
  · rw [far_app, far_app]
    rcases two hn with rfl | rfl
    · rw [far_none (n := 0) (fl := k.b.op.map _) (fun p hp e => by
        obtain ⟨m, _, rfl⟩ := List.mem_map.1 hp
        exact absurd e.1 (by show ¬ (1 = 0); decide))]
      rw [show k.a.op = _ from hop, far_opens _ _ _ _ _ hbody (by omega)]
      omega
    · rw [far_none (n := 1) (fl := k.a.op.map _) (fun p hp e => by
        obtain ⟨m, _, rfl⟩ := List.mem_map.1 hp
        exact absurd e.1 (by show ¬ (0 = 1); decide))]
      rw [show k.b.op = _ from hop, far_opens _ _ _ _ _ hbody (by omega)]
      omega
  · cases ho : (k.en n).op with
    | nil => exact .inl rfl
    | cons m ms =>
      refine .inr (.inl ?_)
      obtain ⟨i, e1, e2⟩ := h.op_mem n hn m (by rw [ho]; exact List.mem_cons_self ..)
      have hmB := h.body n hn _ (List.mem_of_getElem? e1)
      rcases two hn with rfl | rfl
      · refine ⟨⟨0, ⟨k.ep, m.s, k.a.come, m.B⟩⟩, List.mem_append_left _ (List.mem_append_right _ (List.mem_map.2 ⟨m, ?_, rfl⟩)), rfl, hmB⟩
        rw [show k.a.op = m :: ms from ho]; exact List.mem_cons_self ..
      · refine ⟨⟨1, ⟨k.ep, m.s, k.b.come, m.B⟩⟩, List.mem_append_right _ (List.mem_map.2 ⟨m, ?_, rfl⟩), rfl, hmB⟩
        rw [show k.b.op = m :: ms from ho]; exact List.mem_cons_self ..
theorem Ok.done (h : Ok k S) (hn : n < 2) (hr : Run n k S) (hf : k.fl = []) : (k.en n).op = [] ∧ (k.en (1 - n)).got = S n := by
  obtain ⟨r1, r2⟩ := hr
  rw [hf] at r1 r2
  refine ⟨?_, ?_⟩
  · rcases r2 with e | ⟨p, hp, _⟩ | ⟨p, hp, _⟩
    · exact e
    · cases hp
    · cases hp
  · rw [h.got n hn, show (k.en (1 - n)).come = (S n).length from r1, List.take_length]
end Go.Proofs.Ytfjaoompdleljaa.Link
/-
  Drop, Twin and Tick of a link that lives; rest; scripts that came in. Helper text; no statement is proved here.
-/
set_option linter.unusedVariables false
set_option maxRecDepth 20000
set_option linter.unusedSimpArgs false
namespace Go.Proofs.Ytfjaoompdleljaa.Link
open Go.RowKit Go.Proofs.Ytfjaoompdleljaa.Base Go.Proofs.Ytfjaoompdleljaa.Laws Go.Proofs.Ytfjaoompdleljaa.Disk Go.Proofs.Ytfjaoompdleljaa.Row Go.Proofs.Ytfjaoompdleljaa.Flat Go.Proofs.Ytfjaoompdleljaa.InvM
section
variable {w0 w w' : World} {bl : Nat} {A : List Nat} {k k' : Lk}
theorem lv_flightB (h : Lv w0 bl A k w) (hfl : k.fl.length ≤ 1024) : Calls Try.prog 12 #[.pointer (some ⟨bl, 0, none⟩)] w fun e w' => ∃ a c, e = .returned (.slice a k.fl.length c) ∧ Lv w0 bl A k w' ∧ Below w.heap.size w w' := by
  obtain ⟨V, h1, h2, h3⟩ := h
  refine (flight_any h1 hfl).mono ?_
  rintro e w' ⟨v, rfl, hr, hb⟩
  obtain ⟨ps, e, ho, _⟩ := hr
  obtain ⟨a, c, e1, _⟩ := own_slice ho (by decide)
  exact ⟨a, c, by rw [e1, ← e]; simp, Goes.lv h1 h2 h3 (Goes.of_below h1 hb), hb⟩
theorem Lv.below (h : Lv w0 bl A k w) : Below w0.heap.size w0 w := h.choose_spec.2.1
/-- how many packets are under way, read off the memory -/
def lenF (bl : Nat) (w : World) : Nat := match w.cell? ⟨bl, 9, none⟩ with | some (.slice _ n _) => n | _ => 0
theorem Lv.len (h : Lv w0 bl A k w) : lenF bl w = k.fl.length := by
  obtain ⟨V, h1, _, _⟩ := h
  obtain ⟨a, c, e, _⟩ := h1.slF
  have : w.cell? ⟨bl, 9, none⟩ = some (V 4) := h1.cell 9
  unfold lenF
  rw [this, e]
def Lk.inR (k : Lk) (i : Int) : Prop := 0 ≤ i ∧ i < (k.fl.length : Int)
instance (k : Lk) (i : Int) : Decidable (k.inR i) := inferInstanceAs (Decidable (_ ∧ _))
theorem lv_drop (h : Lv w0 bl A k w) (i : Int) : Calls Try.prog 20 #[.pointer (some ⟨bl, 0, none⟩), .int .i64 i] w fun e w' => e = .returned (.int .i64 (if k.inR i then 0 else 2)) ∧ Lv w0 bl A (if k.inR i then k.less i.toNat else k) w' := by
  obtain ⟨V, h1, h2, h3⟩ := h
  by_cases hi : k.inR i
  · rw [if_pos hi, if_pos hi]
    obtain ⟨n, rfl⟩ := Int.eq_ofNat_of_zero_le hi.1
    have hn : n < k.fl.length := by have := hi.2; omega
    refine (drop_ok h1 n hn).mono ?_
    rintro e w' ⟨rfl, V', g⟩
    exact ⟨rfl, Goes.lv h1 h2 h3 g⟩
  · rw [if_neg hi, if_neg hi]
    have hi' : i < 0 ∨ (k.fl.length : Int) ≤ i := by
      unfold Lk.inR at hi
      omega
    refine (drop_no h1 i hi').mono ?_
    rintro e w' ⟨rfl, hb⟩
    exact ⟨rfl, Goes.lv h1 h2 h3 (Goes.of_below h1 hb)⟩
theorem lv_twin (h : Lv w0 bl A k w) (i : Int) : Calls Try.prog 22 #[.pointer (some ⟨bl, 0, none⟩), .int .i64 i] w fun e w' => e = .returned (.int .i64 (if k.inR i then if k.fl.length < 1024 then 0 else 9 else 2)) ∧ Lv w0 bl A (if k.inR i ∧ k.fl.length < 1024 then k.twin i.toNat else k) w' := by
  obtain ⟨V, h1, h2, h3⟩ := h
  by_cases hi : k.inR i
  · obtain ⟨n, rfl⟩ := Int.eq_ofNat_of_zero_le hi.1
    have hn : n < k.fl.length := by have := hi.2; omega
    by_cases hf : k.fl.length < 1024
    · rw [if_pos hi, if_pos hf, if_pos ⟨hi, hf⟩]
      refine (twin_ok h1 n hn hf).mono ?_
      rintro e w' ⟨rfl, V', g⟩
      exact ⟨rfl, Goes.lv h1 h2 h3 g⟩
    · rw [if_pos hi, if_neg hf, if_neg (fun x => hf x.2)]
      refine (twin_full h1 n hn hf).mono ?_
      rintro e w' ⟨rfl, rfl⟩
      exact ⟨rfl, V, h1, h2, h3⟩
  · rw [if_neg hi, if_neg (fun x => hi x.1)]
    refine (twin_no h1 i (by unfold Lk.inR at hi; omega)).mono ?_
    rintro e w' ⟨rfl, rfl⟩
    exact ⟨rfl, V, h1, h2, h3⟩
theorem lv_tick (h : Lv w0 bl A k w) (hfl : k.fl.length ≤ 1024) (hop : ∀ n, n < 2 → (k.en n).op.length ≤ 256) : Calls Try.prog 18 #[.pointer (some ⟨bl, 0, none⟩)] w fun e w' => e = .returned (.int .i64 ((k.tick.fl.length - k.fl.length : Nat) : Int)) ∧ Lv w0 bl A k.tick w' := by
  obtain ⟨V, h1, h2, h3⟩ := h
  refine (tick_any h1 hfl hop).mono ?_
  rintro e w' ⟨rfl, V', g⟩
  exact ⟨rfl, Goes.lv h1 h2 h3 g⟩
/-- n counted round by 'by' -/
def restI (n b : Int) : Int := if n.tmod b < 0 then n.tmod b + b else n.tmod b
theorem restI_in {n b : Int} (hb : 0 < b) : 0 ≤ restI n b ∧ restI n b < b := by
  unfold restI
  have h1 := Int.tmod_lt_of_pos n hb
  have h2 : -b < n.tmod b := by
    have := Int.tmod_lt_of_pos (-n) hb
    rw [Int.neg_tmod] at this
    omega
  split <;> omega
theorem rest_any (n b : Int) (hn : -9223372036854775808 ≤ n) (hn' : n ≤ 9223372036854775807) (hb : 0 < b) (hb' : b ≤ 9223372036854775807) (w : World) : Calls Try.prog 21 #[.int .i64 n, .int .i64 b] w fun e w' => e = .returned (.int .i64 (restI n b)) ∧ w = w' := by
  have hb0 : b ≠ 0 := by omega
  have h1 := Int.tmod_lt_of_pos n hb
  have h2 : -b < n.tmod b := by
    have := Int.tmod_lt_of_pos (-n) hb
    rw [Int.neg_tmod] at this
    omega
  by_cases hc : n.tmod b < 0
  · have e : restI n b = n.tmod b + b := if_pos hc
    rw [e]
    have hw : wrap64 (n.tmod b + b) = n.tmod b + b := by unfold wrap64; omega
    clear e
    go_enter Try.func21, Try.ntmps21
    go_wp2_with fail
    go_ret
    exact ⟨rfl, rfl⟩
  · have e : restI n b = n.tmod b := if_neg hc
    rw [e]
    clear e
    go_enter Try.func21, Try.ntmps21
    go_wp2_with fail
    go_ret
    exact ⟨rfl, rfl⟩
end
/-- a step of a script -/
structure So where
  k : Int
  n : Int
  B : List UInt8
def oc (p : So × Value) : List Value := [.int .i64 p.1.k, .int .i64 p.1.n, p.2]
/-- a script that came in -/
def Scr (w : World) (a : Option Addr) (len cap : Nat) (l : List So) : Prop :=
  l.length = len ∧ len ≤ cap ∧ cap ≤ maxLen ∧ len ≤ 7036874417767 ∧ (∀ o ∈ l, (-9223372036854775808 ≤ o.k ∧ o.k ≤ 9223372036854775807) ∧ (-9223372036854775808 ≤ o.n ∧ o.n ≤ 9223372036854775807)) ∧
  (len = 0 ∨ ∃ b o, a = some ⟨b, o, none⟩ ∧ ∀ i s, l[i]? = some s → ∃ a' len' cap', (∀ j u, (oc (s, .slice a' len' cap'))[j]? = some u → w.cell? ⟨b, o + i * 3 + j, none⟩ = some u) ∧ Bts w a' len' cap' s.B ∧ len' ≤ 140737488351232)
section
variable {H : Type} {enc : TypeId × Value → H} {base : Nat} {spare : Nat → Bool} {held : Bool} {W : World}
theorem scr_in {a : Option Addr} {len cap : Nat} (h : Opens.LfOk enc Try.prog W base spare held (.slice 44) (.slice a len cap)) : ∃ l, Scr W a len cap l := by
  obtain ⟨l, ⟨h1, h2, h3, h4, h5⟩, hok, hb⟩ := sl_in (f := oc) (m := 3) (Ok := fun p => (((-9223372036854775808 ≤ p.1.k ∧ p.1.k ≤ 9223372036854775807) ∧ (-9223372036854775808 ≤ p.1.n ∧ p.1.n ≤ 9223372036854775807))) ∧ ∃ a l c, p.2 = .slice a l c ∧ Bts W a l c p.1.B ∧ l ≤ 140737488351232) (ks := [.int .i64, .int .i64, .slice 5]) (by decide) (by kernel_rfl) (by kernel_rfl) (fun cs hcs hf => by
    obtain ⟨k, c1, rfl, hk, hf⟩ := hf.int
    obtain ⟨n, c2, rfl, hn, hf⟩ := hf.int
    obtain ⟨c, cs', rfl, hc, _⟩ := hf.next
    obtain rfl : cs' = [] := List.eq_nil_of_length_eq_zero (by simpa using hcs)
    have hk' : -9223372036854775808 ≤ k ∧ k ≤ 9223372036854775807 := Opens.wf_i64 hk
    have hn' : -9223372036854775808 ≤ n ∧ n ≤ 9223372036854775807 := Opens.wf_i64 hn
    rcases hc with rfl | ⟨a', l', c', rfl, hr⟩
    · exact ⟨(⟨k, n, []⟩, .slice none 0 0), rfl, ⟨hk', hn'⟩, none, 0, 0, rfl, ⟨rfl, Nat.le_refl _, by unfold maxLen; omega, .inl rfl⟩, by omega⟩
    · obtain ⟨u, hu, hl⟩ := bytes_in (a := some a') (len := l') (cap := c') (.inr ⟨a', l', c', rfl, hr⟩)
      exact ⟨(⟨k, n, u⟩, .slice (some a') l' c'), rfl, ⟨hk', hn'⟩, some a', l', c', rfl, hu, hl⟩) h
  have hbo : Try.prog.bytesOf 44 = 40 := by kernel_rfl
  rw [hbo] at hb
  refine ⟨l.map Prod.fst, by simp [h1], h2, h3, by unfold reachBytes at hb; omega, fun o ho => ?_, ?_⟩
  · obtain ⟨p, hp, rfl⟩ := List.mem_map.1 ho
    exact (hok p hp).1
  rcases h5 with h5 | ⟨b, o, rfl, hc⟩
  · exact .inl h5
  · refine .inr ⟨b, o, rfl, fun i s hs => ?_⟩
    rw [List.getElem?_map] at hs
    obtain ⟨q, hq, rfl⟩ := Option.map_eq_some_iff.1 hs
    obtain ⟨_, a', l', c', e, hb', hl'⟩ := hok q (List.mem_of_getElem? hq)
    refine ⟨a', l', c', fun j u hu => ?_, hb', hl'⟩
    rw [Nat.add_assoc]
    exact hc (i * 3 + j) u (flat_get (m := 3) (f := oc) (fun x _ => rfl) hq (by rw [← e] at hu; exact hu))
end
end Go.Proofs.Ytfjaoompdleljaa.Link
/-
  A link that lives beside blocks of the caller. Helper text; no statement is proved here.
-/
set_option linter.unusedVariables false
set_option maxRecDepth 20000
set_option linter.unusedSimpArgs false
namespace Go.Proofs.Ytfjaoompdleljaa.Link
open Go.RowKit Go.Proofs.Ytfjaoompdleljaa.Base Go.Proofs.Ytfjaoompdleljaa.Laws Go.Proofs.Ytfjaoompdleljaa.Disk Go.Proofs.Ytfjaoompdleljaa.Row Go.Proofs.Ytfjaoompdleljaa.Flat Go.Proofs.Ytfjaoompdleljaa.InvM
/-- a link of blocks from bl on; nothing of what was there at first has changed; the blocks R are the caller's, and those of A he may write -/
def Lf (w0 : World) (bl : Nat) (A : List Nat) (R : Nat → Prop) (k : Lk) (w : World) : Prop := ∃ V, LinkAt w bl V A k ∧ (∀ x, R x → x ∉ reach bl V ∧ x < w.heap.size) ∧ (∀ x ∈ A, R x ∧ w0.heap.size ≤ x) ∧ Below w0.heap.size w0 w ∧ w0.heap.size ≤ bl
def Stay (R : Nat → Prop) (w w' : World) : Prop := ∀ x, R x → w'.heap[x]? = w.heap[x]?
section
variable {w0 w w' : World} {bl : Nat} {A A' : List Nat} {R R' : Nat → Prop} {k k' : Lk}
theorem Stay.trans {w2 : World} (h : Stay R w w') (g : Stay R w' w2) : Stay R w w2 := fun x hx => (g x hx).trans (h x hx)
theorem Stay.blk {g : Nat} {cs : List Value} {t : TypeId} (h : Stay R w w') (hg : R g) (hb : Blk w g cs t) : Blk w' g cs t := (h g hg).trans hb
theorem Goes.lf {V V' : Nat → Value} (h : LinkAt w bl V A k) (hR : ∀ x, R x → x ∉ reach bl V ∧ x < w.heap.size) (hA : ∀ x ∈ A, R x ∧ w0.heap.size ≤ x) (hb : Below w0.heap.size w0 w) (hbl : w0.heap.size ≤ bl) (g : Goes w bl V A w' V' k') : Lf w0 bl A R k' w' ∧ Stay R w w' := by
  have h1 := hb.size
  refine ⟨⟨V', g.at_, fun x hx => ⟨fun hm => ?_, Nat.lt_of_lt_of_le (hR x hx).2 g.only.size⟩, hA, hb.trans ⟨g.only.os, g.only.tape, g.only.output, g.only.size, fun x hx => g.only.block x (by omega) fun hm => ?_⟩, hbl⟩, fun x hx => g.only.block x (hR x hx).2 (hR x hx).1⟩
  · rcases g.kin.reach hm with e | e
    · exact (hR x hx).1 e
    · have := (hR x hx).2; omega
  · have := h.reach_lt hm
    omega
theorem Lf.below (h : Lf w0 bl A R k w) : Below w0.heap.size w0 w := h.choose_spec.2.2.2.1
theorem Lf.base (h : Lf w0 bl A R k w) : w0.heap.size ≤ bl := h.choose_spec.2.2.2.2
theorem Lf.lt (h : Lf w0 bl A R k w) {x : Nat} (hx : R x) : x < w.heap.size := (h.choose_spec.2.1 x hx).2
/-- new blocks; they may be the caller's -/
theorem Lf.news (h : Lf w0 bl A R k w) (hb : Below w.heap.size w w') (hR : ∀ x, R' x → (R x ∨ w.heap.size ≤ x) ∧ x < w'.heap.size) (hA : ∀ x ∈ A', (x ∈ A ∨ w.heap.size ≤ x) ∧ R' x) : Lf w0 bl A' R' k w' := by
  obtain ⟨V, h1, h2, h3, h4, h5⟩ := h
  have hs := h4.size
  refine ⟨V, h1.move (T := []) (Only.of_below hb) (by simp) (by simp) (fun x hx => ⟨(hA x hx).1, (hR x (hA x hx).2).2⟩), fun x hx => ⟨fun hm => ?_, (hR x hx).2⟩, fun x hx => ⟨(hA x hx).2, ?_⟩, h4.trans (hb.mono hs), h5⟩
  · rcases (hR x hx).1 with e | e
    · exact (h2 x e).1 hm
    · have := h1.reach_lt hm; omega
  · rcases (hA x hx).1 with e | e
    · exact (h3 x e).2
    · omega
/-- the caller writes blocks of his, and makes new ones -/
theorem Lf.go (h : Lf w0 bl A R k w) {T : List Nat} (ho : Only T w w') (hT : ∀ x ∈ T, x ∈ A) (hR : ∀ x, R' x → (R x ∨ w.heap.size ≤ x) ∧ x < w'.heap.size) (hA : ∀ x ∈ A', (x ∈ A ∨ w.heap.size ≤ x) ∧ R' x) : Lf w0 bl A' R' k w' := by
  obtain ⟨V, h1, h2, h3, h4, h5⟩ := h
  have hs := h4.size
  refine ⟨V, h1.move ho hT (fun x hx => (h2 x (h3 x (hT x hx)).1).1) (fun x hx => ⟨(hA x hx).1, (hR x (hA x hx).2).2⟩), fun x hx => ⟨fun hm => ?_, (hR x hx).2⟩, fun x hx => ⟨(hA x hx).2, ?_⟩, h4.trans ⟨ho.os, ho.tape, ho.output, ho.size, fun x hx => ho.block x (by omega) (fun hm => ?_)⟩, h5⟩
  · rcases (hR x hx).1 with e | e
    · exact (h2 x e).1 hm
    · have := h1.reach_lt hm; omega
  · rcases (hA x hx).1 with e | e
    · exact (h3 x e).2
    · omega
  · have := (h3 x (hT x hm)).2
    omega
/-- the caller writes blocks of his -/
theorem Lf.wrote (h : Lf w0 bl A R k w) {T : List Nat} (ho : Only T w w') (hT : ∀ x ∈ T, x ∈ A) : Lf w0 bl A R k w' := by
  obtain ⟨V, h1, h2, h3, h4, h5⟩ := h
  have hs := h4.size
  refine ⟨V, h1.only ho hT (fun x hx => (h2 x (h3 x (hT x hx)).1).1), fun x hx => ⟨(h2 x hx).1, Nat.lt_of_lt_of_le (h2 x hx).2 ho.size⟩, h3, h4.trans ⟨ho.os, ho.tape, ho.output, ho.size, fun x hx => ho.block x (by omega) (fun hm => ?_)⟩, h5⟩
  have := (h3 x (hT x hm)).2
  omega
theorem lf_new (h : Below w0.heap.size w0 w) : Calls Try.prog 10 #[] w fun e w' => e = .returned (.pointer (some ⟨w.heap.size, 0, none⟩)) ∧ Lf w0 w.heap.size [] (fun _ => False) k0 w' := by
  refine (new_any w).mono ?_
  rintro e w' ⟨rfl, h1, h2⟩
  exact ⟨rfl, _, h1, fun x hx => hx.elim, (by simp), h.trans (h2.mono h.size), h.size⟩
theorem lf_send (h : Lf w0 bl A R k w) (n : Int) (a : Option Addr) (l c : Nat) (B : List UInt8) (hb : Bts w a l c B) (hin : 0 < l → ∀ g o, a = some ⟨g, o, none⟩ → g < w0.heap.size ∨ R g) : Calls Try.prog 11 #[.pointer (some ⟨bl, 0, none⟩), .int .i64 n, .slice a l c] w fun e w' => e = .returned (.int .i64 (k.sendE n l)) ∧ Lf w0 bl A R (k.sends n B) w' ∧ Stay R w w' := by
  obtain ⟨V, h1, h2, h3, h4, h5⟩ := h
  refine (send_any h1 n a l c B hb (fun hl g o e hx => by
    rcases hin hl g o e with h | h
    · have := h1.reach_lt hx; omega
    · exact (h2 g h).1 hx)).mono ?_
  rintro e w' ⟨rfl, V', g⟩
  exact ⟨rfl, Goes.lf h1 h2 h3 h4 h5 g⟩
theorem lf_flight (h : Lf w0 bl A R k w) (hfl : k.fl.length ≤ 1024) : Calls Try.prog 12 #[.pointer (some ⟨bl, 0, none⟩)] w fun e w' => ∃ a c, e = .returned (.slice a k.fl.length c) ∧ Lf w0 bl A R k w' ∧ Below w.heap.size w w' := by
  obtain ⟨V, h1, h2, h3, h4, h5⟩ := h
  refine (flight_any h1 hfl).mono ?_
  rintro e w' ⟨v, rfl, hr, hb⟩
  obtain ⟨ps, e, ho, _⟩ := hr
  obtain ⟨a, c, e1, _⟩ := own_slice ho (by decide)
  exact ⟨a, c, by rw [e1, ← e]; simp, (Goes.lf h1 h2 h3 h4 h5 (Goes.of_below h1 hb)).1, hb⟩
theorem lf_open (h : Lf w0 bl A R k w) (n : Nat) (hn : n < 2) : Calls Try.prog 14 #[.pointer (some ⟨bl, 0, none⟩), .int .i64 (n : Int)] w fun e w' => e = .returned (.int .i64 ((k.en n).op.length : Nat)) ∧ w = w' := by
  obtain ⟨V, h1, _⟩ := h
  exact open_any h1 n hn
theorem lf_deliver (h : Lf w0 bl A R k w) (i : Nat) (hi : i < k.fl.length) (hf : ∀ p ∈ k.fl, p.f < 2) (hg : ∀ n, n < 2 → ((k.en n).got.length + 1) * 24 ≤ 140737488355328) : Calls Try.prog 15 #[.pointer (some ⟨bl, 0, none⟩), .int .i64 (i : Int)] w fun e w' => e = .returned (.int .i64 0) ∧ Lf w0 bl A R (k.dels i) w' ∧ Stay R w w' := by
  obtain ⟨V, h1, h2, h3, h4, h5⟩ := h
  obtain ⟨p, hp⟩ : ∃ p, k.fl[i]? = some p := ⟨_, List.getElem?_eq_getElem hi⟩
  refine (deliver_any h1 i p hp (hf p (List.mem_of_getElem? hp)) hg).mono ?_
  rintro e w' ⟨rfl, V', g⟩
  refine ⟨rfl, ?_⟩
  unfold Lk.dels
  rw [hp]
  exact Goes.lf h1 h2 h3 h4 h5 g
theorem lf_got (h : Lf w0 bl A R k w) (n : Nat) (hn : n < 2) (hg : ((k.en n).got.length + 1) * 24 ≤ 140737488355328) : Calls Try.prog 16 #[.pointer (some ⟨bl, 0, none⟩), .int .i64 (n : Int)] w fun e w' => ∃ v, e = .returned v ∧ Txt w' v (k.en n).got ∧ Lf w0 bl A R k w' ∧ Below w.heap.size w w' := by
  obtain ⟨V, h1, h2, h3, h4, h5⟩ := h
  refine (got_any h1 n hn hg).mono ?_
  rintro e w' ⟨v, rfl, hr, hb⟩
  exact ⟨v, rfl, txt_of_row hr, (Goes.lf h1 h2 h3 h4 h5 (Goes.of_below h1 hb)).1, hb⟩
theorem lf_drop (h : Lf w0 bl A R k w) (i : Int) : Calls Try.prog 20 #[.pointer (some ⟨bl, 0, none⟩), .int .i64 i] w fun e w' => e = .returned (.int .i64 (if k.inR i then 0 else 2)) ∧ Lf w0 bl A R (if k.inR i then k.less i.toNat else k) w' ∧ Stay R w w' := by
  obtain ⟨V, h1, h2, h3, h4, h5⟩ := h
  by_cases hi : k.inR i
  · rw [if_pos hi, if_pos hi]
    obtain ⟨n, rfl⟩ := Int.eq_ofNat_of_zero_le hi.1
    have hn : n < k.fl.length := by have := hi.2; omega
    refine (drop_ok h1 n hn).mono ?_
    rintro e w' ⟨rfl, V', g⟩
    exact ⟨rfl, Goes.lf h1 h2 h3 h4 h5 g⟩
  · rw [if_neg hi, if_neg hi]
    refine (drop_no h1 i (by unfold Lk.inR at hi; omega)).mono ?_
    rintro e w' ⟨rfl, hb⟩
    exact ⟨rfl, Goes.lf h1 h2 h3 h4 h5 (Goes.of_below h1 hb)⟩
theorem lf_twin (h : Lf w0 bl A R k w) (i : Int) : Calls Try.prog 22 #[.pointer (some ⟨bl, 0, none⟩), .int .i64 i] w fun e w' => e = .returned (.int .i64 (if k.inR i then if k.fl.length < 1024 then 0 else 9 else 2)) ∧ Lf w0 bl A R (if k.inR i ∧ k.fl.length < 1024 then k.twin i.toNat else k) w' ∧ Stay R w w' := by
  obtain ⟨V, h1, h2, h3, h4, h5⟩ := h
  by_cases hi : k.inR i
  · obtain ⟨n, rfl⟩ := Int.eq_ofNat_of_zero_le hi.1
    have hn : n < k.fl.length := by have := hi.2; omega
    by_cases hf : k.fl.length < 1024
    · rw [if_pos hi, if_pos hf, if_pos ⟨hi, hf⟩]
      refine (twin_ok h1 n hn hf).mono ?_
      rintro e w' ⟨rfl, V', g⟩
      exact ⟨rfl, Goes.lf h1 h2 h3 h4 h5 g⟩
    · rw [if_pos hi, if_neg hf, if_neg (fun x => hf x.2)]
      refine (twin_full h1 n hn hf).mono ?_
      rintro e w' ⟨rfl, rfl⟩
      exact ⟨rfl, ⟨V, h1, h2, h3, h4, h5⟩, fun x hx => rfl⟩
  · rw [if_neg hi, if_neg (fun x => hi x.1)]
    refine (twin_no h1 i (by unfold Lk.inR at hi; omega)).mono ?_
    rintro e w' ⟨rfl, rfl⟩
    exact ⟨rfl, ⟨V, h1, h2, h3, h4, h5⟩, fun x hx => rfl⟩
theorem lf_tick (h : Lf w0 bl A R k w) (hfl : k.fl.length ≤ 1024) (hop : ∀ n, n < 2 → (k.en n).op.length ≤ 256) : Calls Try.prog 18 #[.pointer (some ⟨bl, 0, none⟩)] w fun e w' => e = .returned (.int .i64 ((k.tick.fl.length - k.fl.length : Nat) : Int)) ∧ Lf w0 bl A R k.tick w' ∧ Stay R w w' := by
  obtain ⟨V, h1, h2, h3, h4, h5⟩ := h
  refine (tick_any h1 hfl hop).mono ?_
  rintro e w' ⟨rfl, V', g⟩
  exact ⟨rfl, Goes.lf h1 h2 h3 h4 h5 g⟩
end
theorem Txt.below {w w' : World} {v : Value} {l : List (List UInt8)} (h : Txt w v l) (hb : Below w.heap.size w w') : Txt w' v l := by
  obtain ⟨a, c, e, h1, h2, h3⟩ := h
  refine ⟨a, c, e, h1, h2, fun i B hB => ?_⟩
  obtain ⟨g, a', c', e1, e2, e3⟩ := h3 i B hB
  exact ⟨g, a', c', e1, (Below.cell hb (p := ⟨g, i, none⟩) (block_lt_of_cell e2)).trans e2, e3.below hb (Nat.le_refl _)⟩
theorem Txt.drewN {w : World} {v : Value} {l : List (List UInt8)} (h : Txt w v l) (n : Nat) : Txt (w.drewN n) v l := h.below ⟨rfl, rfl, rfl, Nat.le_refl _, fun _ _ => rfl⟩
/-- a row of the caller's: slices of bytes that stood there at first -/
def Rws (w0 : World) (base : Nat) (w : World) (v : Value) (L : List (List UInt8)) : Prop := ∃ vals : List Value, w.ownsRow base 23 1 v L.length vals ∧ ∀ (i : Nat) (B : List UInt8), L[i]? = some B → ∃ (a : Option Addr) (c : Nat), vals[i]? = some (Value.slice a B.length c) ∧ Bts w0 a B.length c B
theorem Rws.nil (w0 : World) (base : Nat) (w : World) : Rws w0 base w (.slice none 0 0) [] := ⟨[], ⟨rfl, .inl ⟨rfl, rfl⟩⟩, fun i B hB => by simp at hB⟩
theorem Rws.stay {w0 w w' : World} {base : Nat} {v : Value} {L : List (List UInt8)} {R : Nat → Prop} (h : Rws w0 base w v L) (hs : Stay R w w') (hv : ∀ g, v.ownBlock = some g → R g) : Rws w0 base w' v L := by
  obtain ⟨vals, ⟨hl, h1⟩, h2⟩ := h
  refine ⟨vals, ⟨hl, ?_⟩, h2⟩
  rcases h1 with h1 | ⟨g, cap, cur, rfl, hb, hg, h3⟩
  · exact .inl h1
  · exact .inr ⟨g, cap, cur, rfl, hb, (hs g (hv g rfl)).trans hg, h3⟩
theorem Rws.lt {w0 w : World} {base : Nat} {v : Value} {L : List (List UInt8)} (h : Rws w0 base w v L) {g : Nat} (hg : v.ownBlock = some g) : base ≤ g ∧ g < w.heap.size := by
  obtain ⟨vals, h1, _⟩ := h
  exact own_lt h1 hg
theorem Rws.txt {w0 w : World} {base : Nat} {v : Value} {L : List (List UInt8)} (h : Rws w0 base w v L) (hb : Below w0.heap.size w0 w) : Txt w v L := by
  obtain ⟨vals, ⟨hl, h1⟩, h2⟩ := h
  rcases h1 with ⟨rfl, e⟩ | ⟨g, cap, cur, rfl, hbs, hg, hnc, hcm, hsz, htk⟩
  · have : L = [] := List.eq_nil_of_length_eq_zero e
    subst this
    exact ⟨none, 0, rfl, by unfold maxLen; simp, by simp, fun i B hB => by simp at hB⟩
  · refine ⟨some ⟨g, 0, none⟩, cap, rfl, by omega, hnc, fun i B hB => ?_⟩
    obtain ⟨a, c, e1, e2⟩ := h2 i B hB
    refine ⟨g, a, c, rfl, ?_, e2.below hb (Nat.le_refl _)⟩
    have hi := (List.getElem?_eq_some_iff.1 hB).1
    rw [← htk, List.getElem?_take_of_lt (by omega)] at e1
    rw [cell_of_row w g _ _ _ (0, 0) hg]
    simpa using e1
theorem Rws.append {w0 w : World} {base : Nat} {v : Value} {L : List (List UInt8)} (h : Rws w0 base w v L) (a : Option Addr) (c : Nat) (B : List UInt8) (hB : Bts w0 a B.length c B) {g : Nat} (hz : Blk w g [.slice a B.length c] 23) (hl : (L.length + 1) * 24 ≤ 140737488355328) (hbase : base ≤ w.heap.size) :
    ∃ v' w', (Builtin.append_ #[22, 22] 22 #[v, .slice (some ⟨g, 0, none⟩) 1 1]).run Try.prog w = .ok v' w' ∧ Rws w0 base w' v' (L ++ [B]) ∧ w.grownBy w' v.ownBlock ∧ (v'.ownBlock = v.ownBlock ∨ v'.ownBlock = some w.heap.size) ∧ (∃ a' c', v' = .slice a' (L.length + 1) c') := by
  obtain ⟨vals, h1, h2⟩ := h
  have hlv : vals.length = L.length := by have := h1.1; omega
  obtain ⟨v', w', hr, ho, hg, hv'⟩ := run_append_any_at (P := Try.prog) w base 22 22 23 (.slice none 0 0) 1 24 Try.underlying22 info_bs rfl (by decide) v L.length vals h1 (some ⟨g, 0, none⟩) 1 1 [.slice a B.length c] (src_blk hz rfl (by intro u hu; simp at hu; subst hu; rfl)) hl (by unfold maxLen; omega) hbase
  obtain ⟨a', c', e, _⟩ := own_slice ho (by decide)
  refine ⟨v', w', hr, ⟨vals ++ [.slice a B.length c], by rw [List.length_append]; exact ho, fun i C hC => ?_⟩, hg, hv', a', c', e⟩
  by_cases hi : i < L.length
  · rw [List.getElem?_append_left hi] at hC
    obtain ⟨a1, c1, e1, e2⟩ := h2 i C hC
    exact ⟨a1, c1, by rw [List.getElem?_append_left (by omega)]; exact e1, e2⟩
  · have hi' := (List.getElem?_eq_some_iff.1 hC).1
    rw [List.length_append] at hi'
    simp at hi'
    obtain rfl : i = L.length := by omega
    rw [List.getElem?_append_right (Nat.le_refl _)] at hC
    simp at hC
    subst hC
    exact ⟨a, c, by rw [List.getElem?_append_right (by omega), hlv]; simp, hB⟩
/-- SameTexts of the reference -/
theorem texts_any (va vb : Value) (la lb : List (List UInt8)) (w : World) (ha : Txt w va la) (hb : Txt w vb lb) : Calls Try.prog 19 #[va, vb] w fun e w' => e = .returned (.bool (decide (la = lb))) ∧ ∃ nd, w' = w.drewN nd := by
  obtain ⟨a, ca, rfl, h1, h2, h3⟩ := ha
  obtain ⟨b, cb, rfl, g1, g2, g3⟩ := hb
  unfold maxLen at h1 g1
  obtain ⟨n, hn⟩ : ∃ n, n = la.length := ⟨_, rfl⟩
  obtain ⟨m, hm⟩ : ∃ m, m = lb.length := ⟨_, rfl⟩
  rw [← hn] at h1 h2 ⊢
  rw [← hm] at g1 g2 ⊢
  have HA := Lib.hid h3
  have HB := Lib.hid g3
  have HN := Lib.hid hn
  have HM := Lib.hid hm
  clear h3 g3 hn hm
  by_cases hnm : n = m
  · subst hnm
    go_enter Try.func19, Try.ntmps19
    go_wp2
    go_loopw [5] (fun i wr => ∃ k nd : Nat, k ≤ n ∧ i = .int .i64 k ∧ la.take k = lb.take k ∧ wr = w.drewN nd) (fun i _ => n - (intOf i).toNat)
    case atStart => exact ⟨0, 0, by omega, rfl, rfl, rfl⟩
    case round =>
      obtain ⟨k, nd, hk, rfl, ht, rfl⟩ := hrel
      have HT := Lib.hid ht
      clear ht
      by_cases hkn : k < n
      · obtain ⟨x, hx⟩ : ∃ x, la[k]? = some x := ⟨_, List.getElem?_eq_getElem (by have := HN.out; omega)⟩
        obtain ⟨y, hy⟩ : ∃ y, lb[k]? = some y := ⟨_, List.getElem?_eq_getElem (by have := HM.out; omega)⟩
        obtain ⟨g, xa, xc, rfl, xcell, xb⟩ := HA.out k x hx
        obtain ⟨g', ya, yc, rfl, ycell, yb⟩ := HB.out k y hy
        have X1 := Lib.hid (take_snoc la k x hx)
        have Y1 := Lib.hid (take_snoc lb k y hy)
        have XG := Lib.hid hx
        have YG := Lib.hid hy
        have SM := Lib.hid (show ∀ q : Nat, Calls Try.prog 17 #[.slice xa x.length xc, .slice ya y.length yc] (w.drewN (nd + q)) fun e w' => e = .returned (.bool (decide (x = y))) ∧ ∃ n, w' = w.drewN (nd + n) from fun q =>
          (Same.same_any xa x.length xc x ya y.length yc y (w.drewN (nd + q)) (xb.below ⟨rfl, rfl, rfl, Nat.le_refl _, fun _ _ => rfl⟩ (Nat.le_refl _)) (yb.below ⟨rfl, rfl, rfl, Nat.le_refl _, fun _ _ => rfl⟩ (Nat.le_refl _))).mono (by
            rintro e w' ⟨rfl, m, rfl⟩
            exact ⟨rfl, q + m, by rw [World.drewN_drewN, Nat.add_assoc]⟩))
        obtain ⟨xl, hxl⟩ : ∃ xl, xl = x.length := ⟨_, rfl⟩
        obtain ⟨yl, hyl⟩ : ∃ yl, yl = y.length := ⟨_, rfl⟩
        rw [← hxl] at xcell SM
        rw [← hyl] at ycell SM
        clear hx hy xb yb hxl hyl
        by_cases hxy : x = y
        · have ED := Lib.hid (show decide (x = y) = true from decide_eq_true hxy)
          rw [ED.out] at SM
          clear ED
          go_wp2
          go_quiet (first | (go_at_call 17; exact SM.out _))
          go_wp2
          go_roundw
          case rel => exact ⟨k + 1, nd + nq, by omega, by go_num, by rw [X1.out, Y1.out, HT.out, hxy], rfl⟩
          case measure => simp [intOf]; omega
        · rw [decide_eq_false hxy] at SM
          go_wp2
          go_quiet (first | (go_at_call 17; exact SM.out _))
          go_wp2
          go_ret
          refine ⟨ret_bool (decide_eq_false fun e => hxy ?_).symm, nd + nq, by first | rfl | exact World.drewN_drewN ..⟩
          have := XG.out
          rw [e, YG.out] at this
          exact (Option.some.inj this).symm
      · go_wp2
        go_ret
        exact ⟨ret_bool (decide_eq_true (Same.take_eq_of (by have := HN.out; have := HM.out; omega) (by have := HN.out; omega) HT.out)).symm, _, rfl⟩
  · have HNE := Lib.hid (show la ≠ lb from fun e => by subst e; exact hnm (HN.out.trans HM.out.symm))
    go_enter Try.func19, Try.ntmps19
    go_wp2
    go_ret
    exact ⟨ret_bool (decide_eq_false HNE.out).symm, 0, rfl⟩
end Go.Proofs.Ytfjaoompdleljaa.Link
/-
  Two rows of what was sent, beside a link. Helper text; no statement is proved here.
-/
set_option linter.unusedVariables false
set_option maxRecDepth 20000
set_option linter.unusedSimpArgs false
namespace Go.Proofs.Ytfjaoompdleljaa.Link
open Go.RowKit Go.Proofs.Ytfjaoompdleljaa.Base Go.Proofs.Ytfjaoompdleljaa.Laws Go.Proofs.Ytfjaoompdleljaa.Disk Go.Proofs.Ytfjaoompdleljaa.Row Go.Proofs.Ytfjaoompdleljaa.Flat Go.Proofs.Ytfjaoompdleljaa.InvM
def A01 (sb : Nat) (v0 v1 : Value) : List Nat := sb :: (v0.ownBlock.toList ++ v1.ownBlock.toList)
theorem mem_A01 {sb x : Nat} {v0 v1 : Value} : x ∈ A01 sb v0 v1 ↔ x = sb ∨ v0.ownBlock = some x ∨ v1.ownBlock = some x := by
  simp [A01]
/-- the caller's blocks: two rows of what was sent -/
structure Bo (w0 : World) (bl sb : Nat) (k : Lk) (S : Nat → List (List UInt8)) (v0 v1 : Value) (w : World) : Prop where
  lf : Lf w0 bl (A01 sb v0 v1) (fun x => x ∈ A01 sb v0 v1) k w
  blk : Blk w sb [v0, v1] 38
  r0 : Rws w0 (sb + 1) w v0 (S 0)
  r1 : Rws w0 (sb + 1) w v1 (S 1)
  ne : ∀ g, v0.ownBlock = some g → v1.ownBlock ≠ some g
section
variable {w0 w w' : World} {bl sb : Nat} {k k' : Lk} {S : Nat → List (List UInt8)} {v0 v1 : Value}
theorem Bo.stay (h : Bo w0 bl sb k S v0 v1 w) (hl : Lf w0 bl (A01 sb v0 v1) (fun x => x ∈ A01 sb v0 v1) k' w') (hs : Stay (fun x => x ∈ A01 sb v0 v1) w w') : Bo w0 bl sb k' S v0 v1 w' :=
  ⟨hl, hs.blk (mem_A01.2 (.inl rfl)) h.blk, h.r0.stay hs (fun g hg => mem_A01.2 (.inr (.inl hg))), h.r1.stay hs (fun g hg => mem_A01.2 (.inr (.inr hg))), h.ne⟩
theorem Bo.below (h : Bo w0 bl sb k S v0 v1 w) (hb : Below w.heap.size w w') : Bo w0 bl sb k S v0 v1 w' :=
  h.stay (h.lf.news hb (fun x hx => ⟨.inl hx, Nat.lt_of_lt_of_le (h.lf.lt hx) hb.size⟩) (fun x hx => ⟨.inl hx, hx⟩)) (fun x hx => hb.block x (h.lf.lt hx))
/-- one more was sent: the rows, behind the append and the store -/
theorem Bo.grow (h : Bo w0 bl sb k S v0 v1 w) (j : Nat) (hj : j < 2) (a : Option Addr) (c : Nat) (B : List UInt8) (hB : Bts w0 a B.length c B) (hl : ((S j).length + 1) * 24 ≤ 140737488355328) :
    ∃ v' wD, (Builtin.append_ #[22, 22] 22 #[if j = 0 then v0 else v1, .slice (some ⟨w.heap.size, 0, none⟩) 1 1]).run Try.prog (w.drew.alloc (.cells #[.slice a B.length c] 23)) = .ok v' wD ∧ (∃ a' c', v' = .slice a' ((S j).length + 1) c') ∧ Below w0.heap.size w0 wD ∧ Blk wD sb [v0, v1] 38 ∧
      Bo w0 bl sb k (put2 S j B) (if j = 0 then v' else v0) (if j = 0 then v1 else v') (wD.setCell ⟨sb, j, none⟩ v') := by
  obtain ⟨wC, hwC⟩ : ∃ wC, wC = w.drew.alloc (.cells #[.slice a B.length c] 23) := ⟨_, rfl⟩
  have bC : Below w.heap.size w wC := hwC ▸ ((Below.refl w.heap.size w).drew.alloc (Nat.le_refl _) _)
  have zC : Blk wC w.heap.size [.slice a B.length c] 23 := by rw [hwC]; exact blk_at rfl rfl
  have HC := h.below bC
  have hsb := h.blk.lt
  have hsC := bC.size
  have hwb := h.lf.below.size
  have hsz0 : w0.heap.size ≤ sb := (h.lf.choose_spec.2.2.1 sb (mem_A01.2 (.inl rfl))).2
  rw [← hwC]
  have hst : ∀ (v : Value) (L : List (List UInt8)) (v' : Value) (wD : World), Rws w0 (sb + 1) wC v L → wC.grownBy wD v.ownBlock → (∀ g, v.ownBlock = some g → g ∈ A01 sb v0 v1) → (v'.ownBlock = v.ownBlock ∨ v'.ownBlock = some wC.heap.size) → Rws w0 (sb + 1) wD v' (L ++ [B]) → ∀ u L', Rws w0 (sb + 1) wC u L' → (∀ g, u.ownBlock = some g → v.ownBlock ≠ some g) → (∀ g, u.ownBlock = some g → g ∈ A01 sb v0 v1) →
      Below w0.heap.size w0 wD ∧ Blk wD sb [v0, v1] 38 ∧ (∀ A' : List Nat, (∀ x ∈ A', x = sb ∨ v'.ownBlock = some x ∨ u.ownBlock = some x) → (sb ∈ A') → Lf w0 bl A' (fun x => x ∈ A') k (wD.setCell ⟨sb, j, none⟩ v')) ∧ Rws w0 (sb + 1) (wD.setCell ⟨sb, j, none⟩ v') v' (L ++ [B]) ∧ Rws w0 (sb + 1) (wD.setCell ⟨sb, j, none⟩ v') u L' ∧ (∀ g, v'.ownBlock = some g → u.ownBlock ≠ some g) := by
    intro v L v' wD hr hg hvA hv' hr' u L' hu hne huA
    have ho : Only v.ownBlock.toList wC wD := ⟨hg.os, hg.tape, hg.output, hg.size, fun x hx hn => hg.block x hx (by intro e; apply hn; rw [← e]; simp)⟩
    have hos : Only (sb :: v.ownBlock.toList) wC (wD.setCell ⟨sb, j, none⟩ v') := by
      have : Only (sb :: v.ownBlock.toList) wC wD := ⟨ho.os, ho.tape, ho.output, ho.size, fun x hx hn => ho.block x hx (fun hm => hn (List.mem_cons_of_mem _ hm))⟩
      exact this.setCell (by simp) j v'
    have hvs : ∀ g, v.ownBlock = some g → sb ≠ g := fun g hg e => by have := (hr.lt hg).1; omega
    have hns : ∀ g, v'.ownBlock = some g → g ≠ sb ∧ g < wD.heap.size := fun g hg' => by
      have := hr'.lt hg'; omega
    have hus : ∀ g, u.ownBlock = some g → g ≠ sb := fun g hg' => by have := (hu.lt hg').1; omega
    have far : ∀ g : Nat, g ≠ sb → (wD.setCell ⟨sb, j, none⟩ v').heap[g]? = wD.heap[g]? := fun g hg' => Below.heap_setCell _ _ _ _ (by simpa using hg')
    refine ⟨?_, HC.blk.grownO hg hvs, fun A' hA' hsA => ?_, ?_, ?_, fun g e e2 => ?_⟩
    · refine ⟨ho.os.trans HC.lf.below.os, ho.tape.trans HC.lf.below.tape, ho.output.trans HC.lf.below.output, Nat.le_trans HC.lf.below.size ho.size, fun x hx => (ho.block x (by omega) (fun hm => ?_)).trans (HC.lf.below.block x hx)⟩
      have := (hr.lt (g := x) (by simpa using hm)).1
      omega
    · refine HC.lf.go hos (fun x hx => ?_) (fun x hx => ?_) (fun x hx => ?_)
      · rcases List.mem_cons.1 hx with rfl | hx
        · exact mem_A01.2 (.inl rfl)
        · exact hvA x (by simpa using hx)
      · have hsz : (wD.setCell ⟨sb, j, none⟩ v').heap.size = wD.heap.size := by simp
        rw [hsz]
        rcases hA' x hx with rfl | e | e
        · exact ⟨.inl (mem_A01.2 (.inl rfl)), by have := ho.size; omega⟩
        · refine ⟨?_, (hns x e).2⟩
          rcases hv' with e' | e'
          · exact .inl (hvA x (by rw [← e']; exact e))
          · rw [e'] at e; cases e; exact .inr (Nat.le_refl _)
        · exact ⟨.inl (huA x e), by have := (hu.lt e).2; have := ho.size; omega⟩
      · refine ⟨?_, hx⟩
        rcases hA' x hx with rfl | e | e
        · exact .inl (mem_A01.2 (.inl rfl))
        · rcases hv' with e' | e'
          · exact .inl (hvA x (by rw [← e']; exact e))
          · rw [e'] at e; cases e; exact .inr (Nat.le_refl _)
        · exact .inl (huA x e)
    · exact hr'.stay (R := fun x => x ≠ sb) (fun x hx => far x hx) (fun g hg' => (hns g hg').1)
    · refine (hu.stay (R := fun x => u.ownBlock = some x) (fun x hx => ?_) (fun g hg' => hg')).stay (R := fun x => x ≠ sb) (fun x hx => far x hx) (fun g hg' => hus g hg')
      exact hg.block x (hu.lt hx).2 (fun e => hne x hx e.symm)
    · rcases hv' with e' | e'
      · rw [e'] at e; exact hne g e2 e
      · rw [e'] at e; cases e; have := (hu.lt e2).2; omega
  rcases two hj with rfl | rfl
  · obtain ⟨v', wD, hrun, hr', hg, hv', hs⟩ := HC.r0.append a c B hB zC hl (by omega)
    obtain ⟨q1, q2, q3, q4, q5, q6⟩ := hst v0 (S 0) v' wD HC.r0 hg (fun g hg => mem_A01.2 (.inr (.inl hg))) hv' hr' v1 (S 1) HC.r1 (fun g e e2 => h.ne g e2 e) (fun g hg => mem_A01.2 (.inr (.inr hg)))
    exact ⟨v', wD, hrun, hs, q1, q2, ⟨q3 _ (fun x hx => mem_A01.1 hx) (mem_A01.2 (.inl rfl)), q2.setCell 0 v', q4, q5, q6⟩⟩
  · obtain ⟨v', wD, hrun, hr', hg, hv', hs⟩ := HC.r1.append a c B hB zC hl (by omega)
    obtain ⟨q1, q2, q3, q4, q5, q6⟩ := hst v1 (S 1) v' wD HC.r1 hg (fun g hg => mem_A01.2 (.inr (.inr hg))) hv' hr' v0 (S 0) HC.r0 (fun g e e2 => h.ne g e e2) (fun g hg => mem_A01.2 (.inr (.inl hg)))
    exact ⟨v', wD, hrun, hs, q1, q2, ⟨q3 _ (fun x hx => (mem_A01.1 hx).imp id Or.symm) (mem_A01.2 (.inl rfl)), q2.setCell 1 v', q5, q4, fun g e e2 => q6 g e2 e⟩⟩
end
theorem Ok.opLe {k : Lk} {S : Nat → List (List UInt8)} (h : Ok k S) (n : Nat) (hn : n < 2) : (k.en n).op.length ≤ (S n).length := by
  obtain ⟨a, _, e⟩ := h.op n hn
  rw [e, opens_len, List.length_drop]
  omega
theorem Ok.gotLe {k : Lk} {S : Nat → List (List UInt8)} (h : Ok k S) (n : Nat) (hn : n < 2) : (k.en n).got.length ≤ (S (1 - n)).length := by
  have := h.got (1 - n) (by omega)
  rw [show 1 - (1 - n) = n by omega] at this
  rw [this, List.length_take]
  omega
theorem dels_len {k : Lk} {i : Nat} (hi : i < k.fl.length) : (k.dels i).fl.length ≤ k.fl.length := by
  have hl : (k.less i).fl.length = k.fl.length - 1 := by
    show (k.fl.take i ++ k.fl.drop (i + 1)).length = _
    rw [List.length_append, List.length_take, List.length_drop]
    omega
  unfold Lk.dels
  cases hp : k.fl[i]? with
  | none => exact Nat.le_refl _
  | some p =>
    show ((k.less i).comes p).fl.length ≤ _
    unfold Lk.comes
    split
    · split
      · rw [ackd_fl]; omega
      · unfold Lk.answer
        split
        · show ((((k.less i).ackd (1 - p.f) p.m.k).handed (1 - p.f) p.m).fl ++ [_]).length ≤ _
          rw [(handed_keep _ _ _).1, ackd_fl, List.length_append]
          simp; omega
        · rw [(handed_keep _ _ _).1, ackd_fl]; omega
    · omega
theorem less_len {k : Lk} {i : Nat} (hi : i < k.fl.length) : (k.less i).fl.length = k.fl.length - 1 := by
  show (k.fl.take i ++ k.fl.drop (i + 1)).length = _
  rw [List.length_append, List.length_take, List.length_drop]
  omega
/-- a message that is taken -/
theorem Ok.sends1 {k : Lk} {S : Nat → List (List UInt8)} (h : Ok k S) (n : Nat) (hn : n < 2) (B : List UInt8) (hE : k.sendE (n : Int) B.length = 0) (hs : (S n).length + 1 < 4294967295) : Ok (k.sends (n : Int) B) (put2 S n B) ∧ (k.sends (n : Int) B).fl.length = k.fl.length + 1 := by
  have hE' := hE
  unfold Lk.sendE at hE'
  split at hE'
  · omega
  · rename_i h1
    split at hE'
    · rename_i h2
      have hB : B ≠ [] := fun e => by subst e; apply h1; simp
      unfold Lk.sends
      rw [if_pos hE]
      rw [Int.toNat_natCast] at h2 ⊢
      refine ⟨h.send n B hn hB h2.1 h2.2 hs, ?_⟩
      show (((k.bump n).addOpen n _).fl ++ [_]).length = _
      rw [sent_fl, List.length_append]
      rfl
    · omega
theorem sends_no {k : Lk} {n : Int} {B : List UInt8} (hE : ¬ k.sendE n B.length = 0) : k.sends n B = k := if_neg hE
end Go.Proofs.Ytfjaoompdleljaa.Link
/-
  Two rows of copies of what was sent, beside a link. Helper text; no statement is proved here.
-/
set_option linter.unusedVariables false
set_option maxRecDepth 20000
set_option linter.unusedSimpArgs false
namespace Go.Proofs.Ytfjaoompdleljaa.Link
open Go.RowKit Go.Proofs.Ytfjaoompdleljaa.Base Go.Proofs.Ytfjaoompdleljaa.Laws Go.Proofs.Ytfjaoompdleljaa.Disk Go.Proofs.Ytfjaoompdleljaa.Row Go.Proofs.Ytfjaoompdleljaa.Flat Go.Proofs.Ytfjaoompdleljaa.InvM Go.Proofs.Ytfjaoompdleljaa.Inv Go.Proofs.Ytfjaoompdleljaa.InvL Go.Proofs.Ytfjaoompdleljaa.InvC Go.Proofs.Ytfjaoompdleljaa.InvG
/-- A, then B behind p, C behind q, D behind r, E behind s -/
def At4 (p q r s : Nat) (A B C D E : World → Prop) (d : Array Bool) (w : World) : Prop := if d.getD s false = true then d.getD r false = true ∧ d.getD q false = true ∧ d.getD p false = true ∧ E w else At3 p q r A B C D d w
section
variable {p q r s i : Nat} {A B C D E : World → Prop} {d : Array Bool} {w w' : World}
theorem At4.keep (h1 : i ≠ p) (h2 : i ≠ q) (h3 : i ≠ r) (h4 : i ≠ s) (h : At4 p q r s A B C D E d w) : At4 p q r s A B C D E (d.setIfInBounds i true) w := by
  unfold At4 at *
  rw [getD_set_ne false h4]
  split at h
  · rename_i e
    rw [if_pos e, getD_set_ne false h1, getD_set_ne false h2, getD_set_ne false h3]
    exact h
  · rename_i e
    rw [if_neg e]
    exact At3.keep h1 h2 h3 h
theorem At4.start (h1 : d.getD p false = false) (h2 : d.getD q false = false) (h3 : d.getD r false = false) (h4 : d.getD s false = false) (h : A w) : At4 p q r s A B C D E d w := by
  unfold At4
  rw [if_neg (by rw [h4]; simp)]
  exact At3.start h1 h2 h3 h
theorem At4.three (hd : d.getD p true = false ∨ d.getD q true = false ∨ d.getD r true = false ∨ d.getD s true = false) (h : At4 p q r s A B C D E d w) : At3 p q r A B C D d w ∧ d.getD s false = false := by
  unfold At4 at h
  split at h
  · rcases hd with hd | hd | hd | hd <;> have := getD_true_of hd
    · rw [this] at h; simp at h
    · rw [this] at h; simp at h
    · rw [this] at h; simp at h
    · rename_i e; rw [this] at e; cases e
  · rename_i e
    exact ⟨h, by simpa using e⟩
theorem At4.at_p (hd : d.getD p true = false) (h : At4 p q r s A B C D E d w) : A w := (h.three (.inl hd)).1.at_p hd
theorem At4.did_p (hpq : p ≠ q) (hpr : p ≠ r) (hps : p ≠ s) (hd : d.getD p true = false) (h : At4 p q r s A B C D E d w) (h' : B w') : At4 p q r s A B C D E (d.setIfInBounds p true) w' := by
  obtain ⟨h2, h3⟩ := h.three (.inl hd)
  unfold At4
  rw [getD_set_ne false hps, if_neg (by rw [h3]; simp)]
  exact h2.did_p hpq hpr hd h'
theorem At4.at_q (hd : d.getD q true = false) (hp : d.getD p false = true) (h : At4 p q r s A B C D E d w) : B w := (h.three (.inr (.inl hd))).1.at_q hd hp
theorem At4.did_q (hpq : p ≠ q) (hqr : q ≠ r) (hqs : q ≠ s) (hd : d.getD q true = false) (hp : d.getD p false = true) (h : At4 p q r s A B C D E d w) (h' : C w') : At4 p q r s A B C D E (d.setIfInBounds q true) w' := by
  obtain ⟨h2, h3⟩ := h.three (.inr (.inl hd))
  unfold At4
  rw [getD_set_ne false hqs, if_neg (by rw [h3]; simp)]
  exact At3.did_q hpq hqr hd hp h2 h'
theorem At4.at_r (hd : d.getD r true = false) (hq : d.getD q false = true) (h : At4 p q r s A B C D E d w) : C w := (h.three (.inr (.inr (.inl hd)))).1.at_r hd hq
theorem At4.did_r (hpr : p ≠ r) (hqr : q ≠ r) (hrs : r ≠ s) (hd : d.getD r true = false) (hq : d.getD q false = true) (h : At4 p q r s A B C D E d w) (h' : D w') : At4 p q r s A B C D E (d.setIfInBounds r true) w' := by
  obtain ⟨h2, h3⟩ := h.three (.inr (.inr (.inl hd)))
  unfold At4
  rw [getD_set_ne false hrs, if_neg (by rw [h3]; simp)]
  exact At3.did_r hpr hqr hd hq h2 h'
theorem At4.at_s (hd : d.getD s true = false) (hr : d.getD r false = true) (h : At4 p q r s A B C D E d w) : D w := (h.three (.inr (.inr (.inr hd)))).1.done hr
theorem At4.did_s (hps : p ≠ s) (hqs : q ≠ s) (hrs : r ≠ s) (hd : d.getD s true = false) (hr : d.getD r false = true) (h : At4 p q r s A B C D E d w) (h' : E w') : At4 p q r s A B C D E (d.setIfInBounds s true) w' := by
  have h2 := (h.three (.inr (.inr (.inr hd)))).1
  unfold At3 at h2
  rw [if_pos hr] at h2
  unfold At4
  rw [InvG.now hd, if_pos rfl, getD_set_ne false (Ne.symm hps), getD_set_ne false (Ne.symm hqs), getD_set_ne false (Ne.symm hrs)]
  exact ⟨hr, h2.1, h2.2.1, h'⟩
theorem At4.done (hd : d.getD s false = true) (h : At4 p q r s A B C D E d w) : E w := by
  unfold At4 at h
  rw [if_pos hd] at h
  exact h.2.2.2
theorem At4.any (h : At4 p q r s A B C D E d w) : A w ∨ B w ∨ C w ∨ D w ∨ E w := by
  unfold At4 at h
  split at h
  · exact .inr (.inr (.inr (.inr h.2.2.2)))
  · rcases h.any with h | h | h | h
    · exact .inl h
    · exact .inr (.inl h)
    · exact .inr (.inr (.inl h))
    · exact .inr (.inr (.inr (.inl h)))
end
/-- bytes appended to a new empty slice, told exactly -/
theorem exec_append_grow {ρ : Operand → Value} {w : World} {o : Oper} {s x : Operand} (ho : o.op = .call { callee := .builtin .append, args := #[s, x], argTypes := #[23, 23] }) {g : Nat} (hs : ρ s = .slice (some ⟨g, 0, none⟩) 0 0) {ad : Addr} {n c : Nat} {l : List UInt8} (hx : ρ x = .slice (some ad) n c) (hb : Bts w (some ad) n c l) (hn0 : 0 < n) (hn : n ≤ 140737488355328) :
    (execOp ρ o).run Try.prog (w.alloc (.cells #[] 5)) = .ok (.value (.slice (some ⟨w.heap.size + 1, 0, none⟩) n (cloneC w n))) (cloneW w n l) := by
  obtain ⟨i, hi, hz, hsize, hby⟩ := info_parts OwnB.infou8
  obtain ⟨hl, h1, h2⟩ := OwnB.src_bts (Codec.bts_alloc hb (.cells #[] 5))
  rcases h2 with h2 | ⟨ad', e, hc⟩
  · omega
  obtain rfl := Option.some.inj e
  have hr := run_append_grow (P := Try.prog) (w.alloc (.cells #[] 5)) 23 o.type 5 i (.int .u8 0) Try.underlying23 hi hz ⟨g, 0, none⟩ 0 0 [] (by simp) (fun j u hu => by simp at hu) ad n c (bv l) (by rw [hl, hsize]) hc (by omega) (by omega) (by rw [hby]; exact growslice_fits (by omega) (by omega))
  unfold execOp
  simp only [ho, resolve, invoke, builtin, Sem.run_bind, Sem.run_pure, Result.andThen_ok, List.map_toArray, List.map_cons, List.map_nil, hs, hx, hr]
  simp only [Nat.zero_add, size_alloc]
  have e1 : cloneC w n = grownCap (w.alloc (.cells #[] 5)) n 0 5 := rfl
  have e2 : cloneW w n l = (w.alloc (.cells #[] 5)).drew.alloc (.cells (#[] ++ (bv l).toArray ++ Builtin.zeroCells (Value.int .u8 0).cells (grownCap (w.alloc (.cells #[] 5)) n 0 5 - n)) 5) := by
    simp only [cloneW, Array.empty_append]
    rfl
  rw [e1, e2]
/-- a row of the caller's: slices of copies that he keeps -/
def Rwc (C : Nat → Prop) (base : Nat) (w : World) (v : Value) (L : List (List UInt8)) : Prop := ∃ vals : List Value, w.ownsRow base 23 1 v L.length vals ∧ ∀ (i : Nat) (B : List UInt8), L[i]? = some B → ∃ (g o c : Nat), vals[i]? = some (Value.slice (some ⟨g, o, none⟩) B.length c) ∧ C g ∧ 0 < B.length ∧ Bts w (some ⟨g, o, none⟩) B.length c B
section
variable {C C' R : Nat → Prop} {base : Nat} {w w' : World} {v : Value} {L : List (List UInt8)}
theorem Rwc.nil : Rwc C base w (.slice none 0 0) [] := ⟨[], ⟨rfl, .inl ⟨rfl, rfl⟩⟩, fun i B hB => by simp at hB⟩
theorem bts_stay {g o n c : Nat} {B : List UInt8} (h : Bts w (some ⟨g, o, none⟩) n c B) (hg : w'.heap[g]? = w.heap[g]?) : Bts w' (some ⟨g, o, none⟩) n c B := by
  obtain ⟨h1, h2, h3, h4⟩ := h
  refine ⟨h1, h2, h3, ?_⟩
  rcases h4 with h4 | ⟨b, q, e, hc⟩
  · exact .inl h4
  · cases e
    exact .inr ⟨_, _, rfl, fun i u hu => (World.cell?_of_block (w := w) hg).trans (hc i u hu)⟩
theorem Rwc.stay (h : Rwc C base w v L) (hs : Stay R w w') (hv : ∀ g, v.ownBlock = some g → R g) (hC : ∀ g, C g → R g ∧ C' g) : Rwc C' base w' v L := by
  obtain ⟨vals, ⟨hl, h1⟩, h2⟩ := h
  refine ⟨vals, ⟨hl, ?_⟩, fun i B hB => ?_⟩
  · rcases h1 with h1 | ⟨g, cap, cur, rfl, hb, hg, h3⟩
    · exact .inl h1
    · exact .inr ⟨g, cap, cur, rfl, hb, (hs g (hv g rfl)).trans hg, h3⟩
  · obtain ⟨g, o, c, e1, e2, e3, e4⟩ := h2 i B hB
    exact ⟨g, o, c, e1, (hC g e2).2, e3, bts_stay e4 (hs g (hC g e2).1)⟩
theorem Rwc.lt (h : Rwc C base w v L) {g : Nat} (hg : v.ownBlock = some g) : base ≤ g ∧ g < w.heap.size := by
  obtain ⟨vals, h1, _⟩ := h
  exact own_lt h1 hg
theorem Rwc.txt (h : Rwc C base w v L) : Txt w v L := by
  obtain ⟨vals, ⟨hl, h1⟩, h2⟩ := h
  rcases h1 with ⟨rfl, e⟩ | ⟨g, cap, cur, rfl, hbs, hg, hnc, hcm, hsz, htk⟩
  · have : L = [] := List.eq_nil_of_length_eq_zero e
    subst this
    exact ⟨none, 0, rfl, by unfold maxLen; simp, by simp, fun i B hB => by simp at hB⟩
  · refine ⟨some ⟨g, 0, none⟩, cap, rfl, by omega, hnc, fun i B hB => ?_⟩
    obtain ⟨g', o, c, e1, e2, e3, e4⟩ := h2 i B hB
    refine ⟨g, some ⟨g', o, none⟩, c, rfl, ?_, e4⟩
    have hi := (List.getElem?_eq_some_iff.1 hB).1
    rw [← htk, List.getElem?_take_of_lt (by omega)] at e1
    rw [cell_of_row w g _ _ _ (0, 0) hg]
    simpa using e1
theorem Rwc.append (h : Rwc C base w v L) (cb c : Nat) (B : List UInt8) (hB : Bts w (some ⟨cb, 0, none⟩) B.length c B) (hB0 : 0 < B.length) (hcb : C cb) (hCv : ∀ g, C g → v.ownBlock ≠ some g ∧ g < w.heap.size) {g : Nat} (hz : Blk w g [.slice (some ⟨cb, 0, none⟩) B.length c] 23) (hl : (L.length + 1) * 24 ≤ 140737488355328) (hbase : base ≤ w.heap.size) :
    ∃ v' w', (Builtin.append_ #[22, 22] 22 #[v, .slice (some ⟨g, 0, none⟩) 1 1]).run Try.prog w = .ok v' w' ∧ Rwc C base w' v' (L ++ [B]) ∧ w.grownBy w' v.ownBlock ∧ (v'.ownBlock = v.ownBlock ∨ v'.ownBlock = some w.heap.size) ∧ (∃ a' c', v' = .slice a' (L.length + 1) c') := by
  obtain ⟨vals, h1, h2⟩ := h
  have hlv : vals.length = L.length := by have := h1.1; omega
  obtain ⟨v', w', hr, ho, hg, hv'⟩ := run_append_any_at (P := Try.prog) w base 22 22 23 (.slice none 0 0) 1 24 Try.underlying22 info_bs rfl (by decide) v L.length vals h1 (some ⟨g, 0, none⟩) 1 1 [.slice (some ⟨cb, 0, none⟩) B.length c] (src_blk hz rfl (by intro u hu; simp at hu; subst hu; rfl)) hl (by unfold maxLen; omega) hbase
  obtain ⟨a', c', e, _⟩ := own_slice ho (by decide)
  have hst : ∀ x, C x → w'.heap[x]? = w.heap[x]? := fun x hx => hg.block x (hCv x hx).2 (fun e => (hCv x hx).1 e.symm)
  refine ⟨v', w', hr, ⟨vals ++ [.slice (some ⟨cb, 0, none⟩) B.length c], by rw [List.length_append]; exact ho, fun i D hD => ?_⟩, hg, hv', a', c', e⟩
  by_cases hi : i < L.length
  · rw [List.getElem?_append_left hi] at hD
    obtain ⟨g1, o1, c1, e1, e2, e3, e4⟩ := h2 i D hD
    exact ⟨g1, o1, c1, by rw [List.getElem?_append_left (by omega)]; exact e1, e2, e3, bts_stay e4 (hst g1 e2)⟩
  · have hi' := (List.getElem?_eq_some_iff.1 hD).1
    rw [List.length_append] at hi'
    simp at hi'
    obtain rfl : i = L.length := by omega
    rw [List.getElem?_append_right (Nat.le_refl _)] at hD
    simp at hD
    subst hD
    exact ⟨cb, 0, c, by rw [List.getElem?_append_right (by omega), hlv]; simp, hcb, hB0, bts_stay hB (hst cb hcb)⟩
end
/-- the caller's blocks: two rows of copies -/
structure Bc (w0 : World) (bl sb : Nat) (C : Nat → Prop) (k : Lk) (S : Nat → List (List UInt8)) (v0 v1 : Value) (w : World) : Prop where
  lf : Lf w0 bl (A01 sb v0 v1) (fun x => x ∈ A01 sb v0 v1 ∨ C x) k w
  blk : Blk w sb [v0, v1] 38
  r0 : Rwc C (sb + 1) w v0 (S 0)
  r1 : Rwc C (sb + 1) w v1 (S 1)
  ne : ∀ g, v0.ownBlock = some g → v1.ownBlock ≠ some g
  cne : ∀ g, C g → g ∉ A01 sb v0 v1
section
variable {w0 w w' : World} {bl sb : Nat} {C : Nat → Prop} {k k' : Lk} {S : Nat → List (List UInt8)} {v0 v1 : Value}
theorem Bc.stay (h : Bc w0 bl sb C k S v0 v1 w) (hl : Lf w0 bl (A01 sb v0 v1) (fun x => x ∈ A01 sb v0 v1 ∨ C x) k' w') (hs : Stay (fun x => x ∈ A01 sb v0 v1 ∨ C x) w w') : Bc w0 bl sb C k' S v0 v1 w' :=
  ⟨hl, hs.blk (.inl (mem_A01.2 (.inl rfl))) h.blk, h.r0.stay hs (fun g hg => .inl (mem_A01.2 (.inr (.inl hg)))) (fun g hg => ⟨.inr hg, hg⟩), h.r1.stay hs (fun g hg => .inl (mem_A01.2 (.inr (.inr hg)))) (fun g hg => ⟨.inr hg, hg⟩), h.ne, h.cne⟩
theorem Bc.below (h : Bc w0 bl sb C k S v0 v1 w) (hb : Below w.heap.size w w') : Bc w0 bl sb C k S v0 v1 w' :=
  h.stay (h.lf.news hb (fun x hx => ⟨.inl hx, Nat.lt_of_lt_of_le (h.lf.lt hx) hb.size⟩) (fun x hx => ⟨.inl hx, .inl hx⟩)) (fun x hx => hb.block x (h.lf.lt hx))
/-- a copy stands in a new block; the row grows -/
theorem Bc.grow (h : Bc w0 bl sb C k S v0 v1 w) (j : Nat) (hj : j < 2) {w2 : World} (hb2 : Below w.heap.size w w2) (cb c : Nat) (B : List UInt8) (hcb : w.heap.size ≤ cb) (hB0 : 0 < B.length) (hB : Bts w2 (some ⟨cb, 0, none⟩) B.length c B) (hl : ((S j).length + 1) * 24 ≤ 140737488355328) :
    ∃ v' wD, (Builtin.append_ #[22, 22] 22 #[if j = 0 then v0 else v1, .slice (some ⟨w2.heap.size, 0, none⟩) 1 1]).run Try.prog (w2.alloc (.cells #[.slice (some ⟨cb, 0, none⟩) B.length c] 23)) = .ok v' wD ∧ (∃ a' c', v' = .slice a' ((S j).length + 1) c') ∧ Below w0.heap.size w0 wD ∧ Blk wD sb [v0, v1] 38 ∧
      w2.heap.size < wD.heap.size ∧ (∀ x, w2.heap.size ≤ x ∨ x < w.heap.size ∧ (x ∉ A01 sb v0 v1) → x < w.heap.size → wD.heap[x]? = w.heap[x]?) ∧
      Bc w0 bl sb (fun x => C x ∨ x = cb) k (put2 S j B) (if j = 0 then v' else v0) (if j = 0 then v1 else v') (wD.setCell ⟨sb, j, none⟩ v') := by
  obtain ⟨wC, hwC⟩ : ∃ wC, wC = w2.alloc (.cells #[.slice (some ⟨cb, 0, none⟩) B.length c] 23) := ⟨_, rfl⟩
  have hcb2 : cb < w2.heap.size := bts_block hB hB0
  have bC' : Below w2.heap.size w2 wC := hwC ▸ ((Below.refl w2.heap.size w2).alloc (Nat.le_refl _) _)
  have bC : Below w.heap.size w wC := hb2.trans (bC'.mono hb2.size)
  have zC : Blk wC w2.heap.size [.slice (some ⟨cb, 0, none⟩) B.length c] 23 := by rw [hwC]; exact blk_at rfl rfl
  have HC := h.below bC
  have hsb := h.blk.lt
  have hsC := bC.size
  have hs2C : w2.heap.size < wC.heap.size := zC.lt
  have hwb := h.lf.below.size
  have hsz0 : w0.heap.size ≤ sb := (h.lf.choose_spec.2.2.1 sb (mem_A01.2 (.inl rfl))).2
  have hBC : Bts wC (some ⟨cb, 0, none⟩) B.length c B := hB.below bC' (Nat.le_refl _)
  rw [← hwC]
  obtain ⟨C', hC'⟩ : ∃ C' : Nat → Prop, C' = fun x => C x ∨ x = cb := ⟨_, rfl⟩
  have hCC : ∀ x, C x → C' x := fun x hx => by rw [hC']; exact .inl hx
  have hcbC : C' cb := by rw [hC']; exact .inr rfl
  have hC'lt : ∀ x, C' x → x < wC.heap.size ∧ x ∉ A01 sb v0 v1 := fun x hx => by
    rw [hC'] at hx
    rcases hx with hx | rfl
    · exact ⟨HC.lf.lt (.inr hx), h.cne x hx⟩
    · exact ⟨by omega, fun hm => by have := h.lf.lt (.inl hm); omega⟩
  have R0' : Rwc C' (sb + 1) wC v0 (S 0) := HC.r0.stay (R := fun x => x < wC.heap.size) (fun x hx => rfl) (fun g hg => (HC.r0.lt hg).2) (fun g hg => ⟨HC.lf.lt (.inr hg), hCC g hg⟩)
  have R1' : Rwc C' (sb + 1) wC v1 (S 1) := HC.r1.stay (R := fun x => x < wC.heap.size) (fun x hx => rfl) (fun g hg => (HC.r1.lt hg).2) (fun g hg => ⟨HC.lf.lt (.inr hg), hCC g hg⟩)
  rw [← hC']
  have hst : ∀ (v : Value) (L : List (List UInt8)) (v' : Value) (wD : World), Rwc C' (sb + 1) wC v L → wC.grownBy wD v.ownBlock → (∀ g, v.ownBlock = some g → g ∈ A01 sb v0 v1) → (v'.ownBlock = v.ownBlock ∨ v'.ownBlock = some wC.heap.size) → Rwc C' (sb + 1) wD v' (L ++ [B]) → ∀ u L', Rwc C' (sb + 1) wC u L' → (∀ g, u.ownBlock = some g → v.ownBlock ≠ some g) → (∀ g, u.ownBlock = some g → g ∈ A01 sb v0 v1) →
      Below w0.heap.size w0 wD ∧ Blk wD sb [v0, v1] 38 ∧ (∀ A' : List Nat, (∀ x ∈ A', x = sb ∨ v'.ownBlock = some x ∨ u.ownBlock = some x) → (sb ∈ A') → Lf w0 bl A' (fun x => x ∈ A' ∨ C' x) k (wD.setCell ⟨sb, j, none⟩ v') ∧ ∀ g, C' g → g ∉ A') ∧ Rwc C' (sb + 1) (wD.setCell ⟨sb, j, none⟩ v') v' (L ++ [B]) ∧ Rwc C' (sb + 1) (wD.setCell ⟨sb, j, none⟩ v') u L' ∧ (∀ g, v'.ownBlock = some g → u.ownBlock ≠ some g) ∧ w2.heap.size < wD.heap.size ∧ (∀ x, w2.heap.size ≤ x ∨ x < w.heap.size ∧ (x ∉ A01 sb v0 v1) → x < w.heap.size → wD.heap[x]? = w.heap[x]?) := by
    intro v L v' wD hr hg hvA hv' hr' u L' hu hne huA
    have ho : Only v.ownBlock.toList wC wD := ⟨hg.os, hg.tape, hg.output, hg.size, fun x hx hn => hg.block x hx (by intro e; apply hn; rw [← e]; simp)⟩
    have hos : Only (sb :: v.ownBlock.toList) wC (wD.setCell ⟨sb, j, none⟩ v') := by
      have : Only (sb :: v.ownBlock.toList) wC wD := ⟨ho.os, ho.tape, ho.output, ho.size, fun x hx hn => ho.block x hx (fun hm => hn (List.mem_cons_of_mem _ hm))⟩
      exact this.setCell (by simp) j v'
    have hvs : ∀ g, v.ownBlock = some g → sb ≠ g := fun g hg e => by have := (hr.lt hg).1; omega
    have hns : ∀ g, v'.ownBlock = some g → g ≠ sb ∧ g < wD.heap.size := fun g hg' => by
      have := hr'.lt hg'; omega
    have hus : ∀ g, u.ownBlock = some g → g ≠ sb := fun g hg' => by have := (hu.lt hg').1; omega
    have hcs : ∀ g, C' g → g ≠ sb := fun g hg' e => (hC'lt g hg').2 (by rw [e]; exact mem_A01.2 (.inl rfl))
    have far : ∀ g : Nat, g ≠ sb → (wD.setCell ⟨sb, j, none⟩ v').heap[g]? = wD.heap[g]? := fun g hg' => Below.heap_setCell _ _ _ _ (by simpa using hg')
    refine ⟨?_, HC.blk.grownO hg hvs, fun A' hA' hsA => ⟨?_, fun g hgC hgA => ?_⟩, ?_, ?_, fun g e e2 => ?_, Nat.lt_of_lt_of_le hs2C ho.size, fun x hx1 hx2 => ?_⟩
    · refine ⟨ho.os.trans HC.lf.below.os, ho.tape.trans HC.lf.below.tape, ho.output.trans HC.lf.below.output, Nat.le_trans HC.lf.below.size ho.size, fun x hx => (ho.block x (by omega) (fun hm => ?_)).trans (HC.lf.below.block x hx)⟩
      have := (hr.lt (g := x) (by simpa using hm)).1
      omega
    · -- the link beside the new blocks
      have hmem : ∀ x, x = sb ∨ v'.ownBlock = some x ∨ u.ownBlock = some x → (x ∈ A01 sb v0 v1 ∨ wC.heap.size ≤ x) ∧ x < wD.heap.size := fun x hx => by
        rcases hx with rfl | e | e
        · exact ⟨.inl (mem_A01.2 (.inl rfl)), by have := ho.size; omega⟩
        · refine ⟨?_, (hns x e).2⟩
          rcases hv' with e' | e'
          · exact .inl (hvA x (by rw [← e']; exact e))
          · rw [e'] at e; cases e; exact .inr (Nat.le_refl _)
        · exact ⟨.inl (huA x e), by have := (hu.lt e).2; have := ho.size; omega⟩
      have hLfw : Lf w0 bl (A01 sb v0 v1) (fun x => x ∈ A01 sb v0 v1 ∨ C' x) k wC := by
        refine h.lf.news bC (fun x hx => ?_) (fun x hx => ⟨.inl hx, .inl hx⟩)
        rcases hx with hx | hx
        · exact ⟨.inl (.inl hx), by have := h.lf.lt (.inl hx); omega⟩
        · refine ⟨?_, (hC'lt x hx).1⟩
          rw [hC'] at hx
          rcases hx with hx | rfl
          · exact .inl (.inr hx)
          · exact .inr hcb
      refine hLfw.go hos (fun x hx => ?_) (fun x hx => ?_) (fun x hx => ⟨?_, .inl hx⟩)
      · rcases List.mem_cons.1 hx with rfl | hx
        · exact mem_A01.2 (.inl rfl)
        · exact hvA x (by simpa using hx)
      · have hsz : (wD.setCell ⟨sb, j, none⟩ v').heap.size = wD.heap.size := by simp
        rw [hsz]
        rcases hx with hx | hx
        · have := hmem x (hA' x hx)
          exact ⟨this.1.imp .inl id, this.2⟩
        · exact ⟨.inl (.inr hx), by have := (hC'lt x hx).1; have := ho.size; omega⟩
      · exact (hmem x (hA' x hx)).1
    · rcases hA' g hgA with rfl | e | e
      · exact hcs _ hgC rfl
      · rcases hv' with e' | e'
        · exact (hC'lt g hgC).2 (hvA g (by rw [← e']; exact e))
        · rw [e'] at e; cases e; have := (hC'lt _ hgC).1; omega
      · exact (hC'lt g hgC).2 (huA g e)
    · exact hr'.stay (R := fun x => x ≠ sb) (fun x hx => far x hx) (fun g hg' => (hns g hg').1) (fun g hg' => ⟨hcs g hg', hg'⟩)
    · refine (hu.stay (R := fun x => v.ownBlock ≠ some x ∧ x < wC.heap.size) (fun x hx => hg.block x hx.2 (fun e => hx.1 e.symm)) (fun g hg' => ⟨hne g hg', (hu.lt hg').2⟩) (fun g hg' => ⟨⟨fun e => (hC'lt g hg').2 (hvA g e), (hC'lt g hg').1⟩, hg'⟩)).stay (R := fun x => x ≠ sb) (fun x hx => far x hx) (fun g hg' => hus g hg') (fun g hg' => ⟨hcs g hg', hg'⟩)
    · rcases hv' with e' | e'
      · rw [e'] at e; exact hne g e2 e
      · rw [e'] at e; cases e; have := (hu.lt e2).2; omega
    · refine (hg.block x (by omega) (fun e => ?_)).trans (bC.block x hx2)
      rcases hx1 with hx1 | hx1
      · have := hb2.size; omega
      · exact hx1.2 (hvA x e.symm)
  have hCv : ∀ v : Value, (∀ g, v.ownBlock = some g → g ∈ A01 sb v0 v1) → ∀ g, C' g → v.ownBlock ≠ some g ∧ g < wC.heap.size := fun v hv g hg => ⟨fun e => (hC'lt g hg).2 (hv g e), (hC'lt g hg).1⟩
  rcases two hj with rfl | rfl
  · obtain ⟨v', wD, hrun, hr', hg, hv', hs⟩ := R0'.append cb c B hBC hB0 hcbC (hCv v0 (fun g hg => mem_A01.2 (.inr (.inl hg)))) zC hl (by omega)
    obtain ⟨q1, q2, q3, q4, q5, q6, q7, q8⟩ := hst v0 (S 0) v' wD R0' hg (fun g hg => mem_A01.2 (.inr (.inl hg))) hv' hr' v1 (S 1) R1' (fun g e e2 => h.ne g e2 e) (fun g hg => mem_A01.2 (.inr (.inr hg)))
    have q3' := q3 _ (fun x hx => mem_A01.1 hx) (mem_A01.2 (.inl rfl))
    exact ⟨v', wD, hrun, hs, q1, q2, q7, q8, ⟨q3'.1, q2.setCell 0 v', q4, q5, q6, q3'.2⟩⟩
  · obtain ⟨v', wD, hrun, hr', hg, hv', hs⟩ := R1'.append cb c B hBC hB0 hcbC (hCv v1 (fun g hg => mem_A01.2 (.inr (.inr hg)))) zC hl (by omega)
    obtain ⟨q1, q2, q3, q4, q5, q6, q7, q8⟩ := hst v1 (S 1) v' wD R1' hg (fun g hg => mem_A01.2 (.inr (.inr hg))) hv' hr' v0 (S 0) R0' (fun g e e2 => h.ne g e e2) (fun g hg => mem_A01.2 (.inr (.inl hg)))
    have q3' := q3 _ (fun x hx => (mem_A01.1 hx).imp id Or.symm) (mem_A01.2 (.inl rfl))
    exact ⟨v', wD, hrun, hs, q1, q2, q7, q8, ⟨q3'.1, q2.setCell 1 v', q5, q4, fun g e e2 => q6 g e2 e, q3'.2⟩⟩
end
end Go.Proofs.Ytfjaoompdleljaa.Link
/-
  Rows that are read, not written; end and with of the reference by contract. Helper text; no statement is proved here.
-/
set_option linter.unusedVariables false
set_option maxRecDepth 20000
set_option linter.unusedSimpArgs false
namespace Go.Proofs.Ytfjaoompdleljaa.Link
open Go.RowKit Go.Proofs.Ytfjaoompdleljaa.Base Go.Proofs.Ytfjaoompdleljaa.Laws Go.Proofs.Ytfjaoompdleljaa.Disk Go.Proofs.Ytfjaoompdleljaa.Row Go.Proofs.Ytfjaoompdleljaa.Flat Go.Proofs.Ytfjaoompdleljaa.InvM Go.Proofs.Ytfjaoompdleljaa.Inv Go.Proofs.Ytfjaoompdleljaa.InvL Go.Proofs.Ytfjaoompdleljaa.InvC Go.Proofs.Ytfjaoompdleljaa.InvG Go.Proofs.Ytfjaoompdleljaa.Codec
variable {N : Nat → Prop}
def BodyR (N : Nat → Prop) (w : World) (v : Value) (B : List UInt8) : Prop := ∃ a c, v = .slice a B.length c ∧ Bts w a B.length c B ∧ (B.length = 0 ∨ ∃ g o, a = some ⟨g, o, none⟩ ∧ ¬ N g)
/-- a row that reads as these -/
def Rd (N : Nat → Prop) {α : Type} (w : World) (t : TypeId) (f : α × Value → List Value) (body : α → List UInt8) (v : Value) (xs : List α) : Prop :=
  ∃ (ps : List (α × Value)) (a : Option Addr) (c : Nat), ps.map Prod.fst = xs ∧ v = .slice a xs.length c ∧ xs.length ≤ c ∧ c ≤ maxLen ∧ (xs.length = 0 ∨ ∃ g o, a = some ⟨g, o, none⟩ ∧ (∃ cs, Blk w g cs t ∧ ¬ N g) ∧ ∀ j u, (flat f ps)[j]? = some u → w.cell? ⟨g, o + j, none⟩ = some u) ∧ ∀ p ∈ ps, BodyR N w p.2 (body p.1)
theorem BodyR.below {w w' : World} {v : Value} {B : List UInt8} (h : BodyR N w v B) (hb : Below w.heap.size w w') : BodyR N w' v B := by
  obtain ⟨a, c, e, h, h0⟩ := h
  exact ⟨a, c, e, h.below hb (Nat.le_refl _), h0⟩
theorem BodyR.one {w : World} {v : Value} {B : List UInt8} (h : BodyR N w v B) : v.oneCell' = true := by
  obtain ⟨a, c, rfl, _⟩ := h
  rfl
section
variable {α : Type} {w w' : World} {t : TypeId} {f : α × Value → List Value} {body : α → List UInt8} {v : Value} {xs : List α}
theorem Rd.below (h : Rd N w t f body v xs) (hb : Below w.heap.size w w') : Rd N w' t f body v xs := by
  obtain ⟨ps, a, c, e1, e2, h1, h2, h3, h4⟩ := h
  refine ⟨ps, a, c, e1, e2, h1, h2, h3.imp id ?_, fun p hp => (h4 p hp).below hb⟩
  rintro ⟨g, o, e, ⟨cs, hz, hn⟩, hc⟩
  exact ⟨g, o, e, ⟨cs, hz.below hb hz.lt, hn⟩, fun j u hu => (Below.cell hb (p := ⟨g, o + j, none⟩) (block_lt_of_cell (hc j u hu))).trans (hc j u hu)⟩
theorem Rd.nil : Rd N w t f body (.slice none 0 0) ([] : List α) := ⟨[], none, 0, rfl, rfl, Nat.le_refl _, by unfold maxLen; omega, .inl rfl, by simp⟩
theorem Rd.form (h : Rd N w t f body v xs) : ∃ a c, v = .slice a xs.length c ∧ xs.length ≤ c ∧ c ≤ maxLen := by
  obtain ⟨ps, a, c, e1, e2, h1, h2, _⟩ := h
  exact ⟨a, c, e2, h1, h2⟩
/-- what stands at a place -/
theorem Rd.at_ {m : Nat} (h : Rd N w t f body v xs) (hm : ∀ p, (f p).length = m) {i : Nat} {x : α} (hx : xs[i]? = some x) : ∃ g o c y, v = .slice (some ⟨g, o, none⟩) xs.length c ∧ (∀ j u, (f (x, y))[j]? = some u → w.cell? ⟨g, o + i * m + j, none⟩ = some u) ∧ BodyR N w y (body x) := by
  obtain ⟨ps, a, c, e1, e2, h1, h2, h3, h4⟩ := h
  have hi := (List.getElem?_eq_some_iff.1 hx).1
  rcases h3 with h3 | ⟨g, o, rfl, _, hc⟩
  · omega
  have hlen : ps.length = xs.length := by rw [← e1]; simp
  obtain ⟨q, hq⟩ : ∃ q, ps[i]? = some q := ⟨_, List.getElem?_eq_getElem (by omega)⟩
  have hqx : q.1 = x := by
    have : xs[i]? = some q.1 := by rw [← e1, List.getElem?_map, hq]; rfl
    rw [hx] at this
    exact (Option.some.inj this).symm
  refine ⟨g, o, c, q.2, e2, fun j u hu => ?_, by rw [← hqx]; exact h4 q (List.mem_of_getElem? hq)⟩
  have := hc _ u (flat_get (m := m) (f := f) (fun x _ => hm x) hq (by rw [show (x, q.2) = q by rw [← hqx]] at hu; exact hu))
  rwa [← Nat.add_assoc] at this
end
/-- a body that lies not in block r -/
def BodyX (N : Nat → Prop) (w : World) (r : Option Nat) (v : Value) (B : List UInt8) : Prop := ∃ a c, v = .slice a B.length c ∧ Bts w a B.length c B ∧ (B.length = 0 ∨ ∃ g o, a = some ⟨g, o, none⟩ ∧ r ≠ some g ∧ ¬ N g)
theorem BodyX.r {w : World} {r : Option Nat} {v : Value} {B : List UInt8} (h : BodyX N w r v B) : BodyR N w v B := by
  obtain ⟨a, c, e, h, h2⟩ := h
  exact ⟨a, c, e, h, h2.imp id fun ⟨g, o, e, _, hn⟩ => ⟨g, o, e, hn⟩⟩
theorem BodyX.below {w w' : World} {r : Option Nat} {v : Value} {B : List UInt8} (h : BodyX N w r v B) (hb : Below w.heap.size w w') : BodyX N w' r v B := by
  obtain ⟨a, c, e, h, h2⟩ := h
  exact ⟨a, c, e, h.below hb (Nat.le_refl _), h2⟩
theorem BodyX.grown {w w' : World} {r r' : Option Nat} {v : Value} {B : List UInt8} (h : BodyX N w r v B) (hg : w.grownBy w' r) (hr : r' = r ∨ r' = some w.heap.size) : BodyX N w' r' v B := by
  obtain ⟨a, c, e, h, h2⟩ := h
  rcases h2 with h2 | ⟨g, o, rfl, hne, hnn⟩
  · have hB : B = [] := List.eq_nil_of_length_eq_zero h2
    subst hB
    exact ⟨a, c, e, ⟨h.1, h.2.1, h.2.2.1, .inl rfl⟩, .inl rfl⟩
  · by_cases hB : B.length = 0
    · have hB : B = [] := List.eq_nil_of_length_eq_zero hB
      subst hB
      exact ⟨_, c, e, ⟨h.1, h.2.1, h.2.2.1, .inl rfl⟩, .inl rfl⟩
    · have hlt := bts_block h (by omega)
      refine ⟨_, c, e, bts_stay h (hg.block g hlt (fun e => hne e.symm)), .inr ⟨g, o, rfl, ?_, hnn⟩⟩
      rcases hr with e | e
      · rw [e]; exact hne
      · rw [e]; intro e'; cases e'; omega
/-- an older body lies in no newer block -/
theorem BodyR.old {w0 w : World} {v : Value} {B : List UInt8} (h : BodyR N w0 v B) (hb : Below w0.heap.size w0 w) {r : Option Nat} (hr : ∀ g, r = some g → w0.heap.size ≤ g) : BodyX N w r v B := by
  obtain ⟨a, c, e, h, h0⟩ := h
  refine ⟨a, c, e, h.below hb (Nat.le_refl _), ?_⟩
  by_cases hB : B.length = 0
  · exact .inl hB
  · rcases h.2.2.2 with h4 | ⟨g, o, e2, hc⟩
    · exact absurd h4 hB
    · obtain ⟨g9, o9, e9, hn9⟩ := h0.resolve_left hB
      rw [e9] at e2
      cases e2
      refine .inr ⟨_, _, e9, fun e3 => ?_, hn9⟩
      subst e9
      have := bts_block h (by omega)
      have := hr _ e3
      omega
/-- a row of the function's own, with readable bodies -/
def Own (N : Nat → Prop) {α : Type} (w : World) (base : Nat) (t : TypeId) (m : Nat) (f : α × Value → List Value) (body : α → List UInt8) (v : Value) (xs : List α) : Prop :=
  ∃ ps : List (α × Value), ps.map Prod.fst = xs ∧ w.ownsRow base t m v xs.length (flat f ps) ∧ (∀ p ∈ ps, BodyX N w v.ownBlock p.2 (body p.1)) ∧ ∀ x, N x → x < base
section
variable {α : Type} {w0 w w' : World} {base : Nat} {t : TypeId} {m : Nat} {f : α × Value → List Value} {body : α → List UInt8} {v : Value} {xs : List α}
theorem Own.new (hno : ∀ x, N x → x < base) (g : Nat) (hb : base ≤ g) (hg : Blk w g [] t) : Own N w base t m f body (.slice (some ⟨g, 0, none⟩) 0 0) ([] : List α) :=
  ⟨[], rfl, ⟨by simp [flat], .inr ⟨g, 0, #[], rfl, hb, hg, Nat.le_refl _, by unfold maxLen; omega, by simp, by simp [flat]⟩⟩, by simp, hno⟩
theorem Own.lt (h : Own N w base t m f body v xs) {g : Nat} (hg : v.ownBlock = some g) : base ≤ g ∧ g < w.heap.size := by
  obtain ⟨ps, e, h1, _, _⟩ := h
  exact own_lt h1 hg
theorem Own.rd (h : Own N w base t m f body v xs) (hm : ∀ p, (f p).length = m) (hm0 : 0 < m) : Rd N w t f body v xs := by
  obtain ⟨ps, e, ⟨hl, h1⟩, h2, hno⟩ := h
  rcases h1 with ⟨rfl, e2⟩ | ⟨g, cap, cur, rfl, hb, hg, hnc, hcm, hsz, htk⟩
  · have : xs = [] := List.eq_nil_of_length_eq_zero e2
    subst this
    exact Rd.nil
  · refine ⟨ps, _, cap, e, rfl, hnc, hcm, .inr ⟨g, 0, rfl, ⟨cur.toList, by simpa [Blk] using hg, fun hN => by have := hno g hN; omega⟩, fun j u hu => ?_⟩, fun p hp => (h2 p hp).r⟩
    have hj := (List.getElem?_eq_some_iff.1 hu).1
    rw [hl] at hj
    rw [← htk, List.getElem?_take_of_lt hj] at hu
    rw [cell_of_row w g _ _ _ (0, 0) hg]
    simpa using hu
theorem Own.below (h : Own N w base t m f body v xs) (hb : Below w.heap.size w w') : Own N w' base t m f body v xs := by
  obtain ⟨ps, e, h1, h2, hno⟩ := h
  exact ⟨ps, e, own_only h1 (Only.of_below (S := []) hb) (by simp), fun p hp => (h2 p hp).below hb, hno⟩
/-- what was read before is appended to an own row -/
theorem Own.appendAll {ys : List α} {u : Value} (h : Own N w base t m f body v xs) (hu : Rd N w0 t f body u ys) (hb0 : Below w0.heap.size w0 w) (hbase0 : w0.heap.size ≤ base) (hm : ∀ p, (f p).length = m) (ts ty : TypeId) (z : Value) (bytes : Nat) (ht : Try.prog.underlying ts = some (.slice t)) (hi : (Try.prog.info? t).map (fun i => (i.zero, i.size, i.bytes)) = some (some z, m, bytes)) (hzs : z.cells.size = m) (hsz : 0 < m)
    (hf1 : ∀ p, p.2.oneCell' = true → ∀ q ∈ f p, q.oneCell' = true) (hb : (xs.length + ys.length) * bytes ≤ 140737488355328) (h63 : xs.length + ys.length ≤ maxLen) (hbase : base ≤ w.heap.size) :
    ∃ v' w', (Builtin.append_ #[ts, ts] ty #[v, u]).run Try.prog w = .ok v' w' ∧ Own N w' base t m f body v' (xs ++ ys) ∧ Below base w w' ∧ (∃ a' c', v' = .slice a' (xs ++ ys).length c') := by
  obtain ⟨ps, e, h1, h2, hno⟩ := h
  have hu' := hu.below hb0
  obtain ⟨qs, a, c, q1, rfl, q2, q3, q4, q5⟩ := hu
  have q4' : ys.length = 0 ∨ ∃ g o, a = some ⟨g, o, none⟩ ∧ ∀ j x, (flat f qs)[j]? = some x → w.cell? ⟨g, o + j, none⟩ = some x := q4.imp id (by
    rintro ⟨g, o, e, _, hc⟩
    exact ⟨g, o, e, fun j x hx => (Below.cell hb0 (p := ⟨g, o + j, none⟩) (block_lt_of_cell (hc j x hx))).trans (hc j x hx)⟩)
  have hql : qs.length = ys.length := by rw [← q1]; simp
  have hsrc : SrcOf w a ys.length m (flat f qs) := by
    refine ⟨by rw [flat_len (m := m) (fun x _ => hm x), hql], fun x hx => ?_, ?_⟩
    · obtain ⟨p, hp, hxp⟩ := flat_mem hx
      exact hf1 p (q5 p hp).one x hxp
    · rcases q4' with q4 | ⟨g, o, rfl, hc⟩
      · exact .inl q4
      · exact .inr ⟨_, rfl, fun j x hx => by rw [Addr.add_lit]; exact hc j x hx⟩
  obtain ⟨v', w', hr, ho, hg, hv⟩ := run_append_any_at (P := Try.prog) w base ts ty t z m bytes ht hi hzs hsz v xs.length (flat f ps) h1 a ys.length c (flat f qs) hsrc hb h63 hbase
  have hbl : Below base w w' := ⟨hg.os, hg.tape, hg.output, hg.size, fun x hx => hg.block x (by omega) (fun e => by
    have := (own_lt h1 (g := x) e.symm).1
    omega)⟩
  obtain ⟨a', c', ev, _⟩ := own_slice ho hsz
  refine ⟨v', w', hr, ⟨ps ++ qs, by rw [List.map_append, e, q1], by rw [List.length_append, flat_append]; exact ho, fun p hp => ?_, hno⟩, hbl, a', c', by rw [ev, List.length_append]⟩
  rcases List.mem_append.1 hp with hp | hp
  · exact (h2 p hp).grown hg hv
  · refine (BodyR.old (q5 p hp) hb0 (r := v.ownBlock) (fun g hg' => ?_)).grown hg hv
    have := (own_lt h1 hg').1
    omega
/-- one more -/
theorem Own.append (h : Own N w base t m f body v xs) (x : α) (y : Value) (hy : BodyX N w v.ownBlock y (body x)) {g cp : Nat} (hz : Blk w g (f (x, y)) t) (hm : ∀ p, (f p).length = m) (ts ty : TypeId) (z : Value) (bytes : Nat) (ht : Try.prog.underlying ts = some (.slice t)) (hi : (Try.prog.info? t).map (fun i => (i.zero, i.size, i.bytes)) = some (some z, m, bytes)) (hzs : z.cells.size = m) (hsz : 0 < m)
    (hf1 : ∀ p, p.2.oneCell' = true → ∀ q ∈ f p, q.oneCell' = true) (hb : (xs.length + 1) * bytes ≤ 140737488355328) (h63 : xs.length + 1 ≤ maxLen) (hbase : base ≤ w.heap.size) :
    ∃ v' w', (Builtin.append_ #[ts, ts] ty #[v, .slice (some ⟨g, 0, none⟩) 1 cp]).run Try.prog w = .ok v' w' ∧ Own N w' base t m f body v' (xs ++ [x]) ∧ w.grownBy w' v.ownBlock ∧ Below base w w' ∧ (∃ a' c', v' = .slice a' (xs.length + 1) c') := by
  obtain ⟨ps, e, h1, h2, hno⟩ := h
  obtain ⟨v', w', hr, ho, hg, hv⟩ := run_append_any_at (P := Try.prog) w base ts ty t z m bytes ht hi hzs hsz v xs.length (flat f ps) h1 (some ⟨g, 0, none⟩) 1 cp (f (x, y)) (src_blk hz (hm _) (hf1 (x, y) hy.r.one)) hb h63 hbase
  have hbl : Below base w w' := ⟨hg.os, hg.tape, hg.output, hg.size, fun x hx => hg.block x (by omega) (fun e => by
    have := (own_lt h1 (g := x) e.symm).1
    omega)⟩
  obtain ⟨a', c', ev, _⟩ := own_slice ho hsz
  refine ⟨v', w', hr, ⟨ps ++ [(x, y)], by rw [List.map_append, e]; rfl, by rw [List.length_append, flat_append, flat_one]; exact ho, fun p hp => ?_, hno⟩, hg, hbl, a', c', ev⟩
  rcases List.mem_append.1 hp with hp | hp
  · exact (h2 p hp).grown hg hv
  · obtain rfl := List.mem_singleton.1 hp
    exact hy.grown hg hv
end
/-- a link of the reference -/
structure Rk (N : Nat → Prop) (w : World) (V : Nat → Value) (k : Lk) : Prop where
  o : ∀ n, n < 2 → Rd N w 71 mc (·.B) (V (2 * n)) (k.en n).op
  g : ∀ n, n < 2 → Rd N w 23 gc id (V (2 * n + 1)) (k.en n).got
  fl : Rd N w 74 pc (·.m.B) (V 4) k.fl
  nt : ∀ x, N x → x < w.heap.size
theorem Rk.below {w w' : World} {V : Nat → Value} {k : Lk} (h : Rk N w V k) (hb : Below w.heap.size w w') : Rk N w' V k :=
  ⟨fun n hn => (h.o n hn).below hb, fun n hn => (h.g n hn).below hb, h.fl.below hb, fun x hx => Nat.lt_of_lt_of_le (h.nt x hx) hb.size⟩
def rl (k : Lk) (V : Nat → Value) : Value := .agg (lcells k V).toArray
def ecells (e : En) (o g : Value) : List Value := [o, .int .u32 (e.sent : Int), .int .u32 (e.come : Int), g]
def zlk : List Value := [.int .u32 0, .slice none 0 0, .int .u32 0, .int .u32 0, .slice none 0 0, .slice none 0 0, .int .u32 0, .int .u32 0, .slice none 0 0, .slice none 0 0]
def zen : List Value := [.slice none 0 0, .int .u32 0, .int .u32 0, .slice none 0 0]
theorem wpList_store_row {P : Program} {w : World} {ops : Array Oper} {rest : List Oper} {o : Oper} {a : Act} {Q : Exit → Act → World → Prop} (hgd : o.guard = none) (ty : TypeId) (x y : Operand) (ho : o.op = .store ty x y)
    (g off m : Nat) (hx : a.eval x = .pointer (some ⟨g, off, none⟩)) (t : TypeId) (cs vs : List Value) (hy : a.eval y = .agg vs.toArray) (hg : Blk w g cs t)
    (hi : (P.info? ty).map (·.size) = some m) (hl : vs.length = m) (hm : off + m ≤ cs.length) (h1 : ∀ v ∈ vs, v.oneCell' = true)
    (h : wpList P ops Q rest (a.put o.dst undef) (w.setRow g (put cs off vs).toArray)) : wpList P ops Q (o :: rest) a w := by
  refine wpList_plain hgd fun K hK => ?_
  unfold Oper.wp execOp
  simp only [ho, hx, hy, Instr.storeAt, Instr.sureAddr, Sem.run_bind, Sem.run_pure, Result.andThen_ok, run_store_blk hg hi hl hm h1]
  exact hK _ _ h
theorem lc_one (k : Lk) (V : Nat → Value) (hV : ∀ i, i < 5 → (V i).oneCell' = true) : ∀ u ∈ lcells k V, u.oneCell' = true := by
  intro u hu
  simp only [lcells, List.mem_cons, List.not_mem_nil, or_false] at hu
  rcases hu with rfl | rfl | rfl | rfl | rfl | rfl | rfl | rfl | rfl | rfl <;> first | rfl | exact hV _ (by decide)
theorem ec_one {e : En} {o g : Value} (h1 : o.oneCell' = true) (h2 : g.oneCell' = true) : ∀ u ∈ ecells e o g, u.oneCell' = true := by
  intro u hu
  simp only [ecells, List.mem_cons, List.not_mem_nil, or_false] at hu
  rcases hu with rfl | rfl | rfl | rfl <;> first | rfl | exact h1 | exact h2
theorem rend_any (k : Lk) (V : Nat → Value) (hV : ∀ i, i < 5 → (V i).oneCell' = true) (n : Nat) (hn : n < 2) (w : World) : ∃ w1, Calls Try.prog 38 #[rl k V, .int .i64 (n : Int)] w (fun e w' => e = .returned (.agg (ecells (k.en n) (V (2 * n)) (V (2 * n + 1))).toArray) ∧ w' = w1) ∧ Below w.heap.size w w1 := by
  obtain ⟨wa, hwa⟩ : ∃ wa, wa = w.alloc (.cells (lcells k V).toArray 52) := ⟨_, rfl⟩
  obtain ⟨wb, hwb⟩ : ∃ wb, wb = wa.alloc (.cells zen.toArray 50) := ⟨_, rfl⟩
  have ba : Below w.heap.size w wa := hwa ▸ (Below.refl _ _).alloc (Nat.le_refl _) _
  have za : Blk wa w.heap.size (lcells k V) 52 := by rw [hwa]; exact blk_at rfl rfl
  have bb : Below wa.heap.size wa wb := hwb ▸ (Below.refl _ _).alloc (Nat.le_refl _) _
  have zb : Blk wb wa.heap.size zen 50 := by rw [hwb]; exact blk_at rfl rfl
  have hsa : wa.heap.size = w.heap.size + 1 := by rw [hwa]; simp
  have zab : Blk wb w.heap.size (lcells k V) 52 := za.below bb za.lt
  have hsw : w.heap.size ≤ wa.heap.size := ba.size
  refine ⟨wb.setRow wa.heap.size (put zen 0 (ecells (k.en n) (V (2 * n)) (V (2 * n + 1)))).toArray, ?_, ?_⟩
  · unfold rl
    obtain ⟨ev, hev⟩ : ∃ ev, ev = ecells (k.en n) (V (2 * n)) (V (2 * n + 1)) := ⟨_, rfl⟩
    have hev4 : ev.length = 4 := by rw [hev]; rfl
    have hev1 : ∀ u ∈ ev, u.oneCell' = true := by rw [hev]; exact ec_one (hV _ (by omega)) (hV _ (by omega))
    have LD := Lib.hid (show ∀ j v, ev[j]? = some v → wb.cell? ((⟨w.heap.size, 1 + 4 * n, none⟩ : Addr).add j) = some v from fun j v hj => by
      have hj4 := (List.getElem?_eq_some_iff.1 hj).1
      rw [Addr.add_lit, zab.cell, ← hj, hev]
      rw [hev4] at hj4
      obtain rfl | rfl : n = 0 ∨ n = 1 := by omega
      · obtain rfl | rfl | rfl | rfl : j = 0 ∨ j = 1 ∨ j = 2 ∨ j = 3 := by omega
        · rfl
        · rfl
        · rfl
        · rfl
      · obtain rfl | rfl | rfl | rfl : j = 0 ∨ j = 1 ∨ j = 2 ∨ j = 3 := by omega
        · rfl
        · rfl
        · rfl
        · rfl)
    rw [← hev]
    have E4 := Lib.hid hev4
    have E1 := Lib.hid hev1
    have ZB := Lib.hid zb
    obtain ⟨lv, hlv⟩ : ∃ lv, lv = (lcells k V).toArray := ⟨_, rfl⟩
    rw [← hlv] at hwa ⊢
    have HWA := Lib.hid hwa
    have HWB := Lib.hid hwb
    have HSA := Lib.hid hsa
    clear ba za bb zab hsw hev hev4 hev1 zb hwa hwb hsa hlv hV
    obtain rfl | rfl : n = 0 ∨ n = 1 := by omega
    · go_enter Try.func38, Try.ntmps38
      go_upto_region 2 with (fail)
      rw [show (#[Value.slice none 0 0, Value.int .u32 0, Value.int .u32 0, Value.slice none 0 0] : Array Value) = zen.toArray from rfl, ← HWA.out, ← HWB.out, ← HSA.out]
      go_wp2_with (first | (refine wpList_value_g rfl (.agg ev.toArray) (exec_load_from rfl rfl LD.out Try.underlying50 rfl (by kernel_rfl) E4.out) ?_) | (refine wpList_store_row rfl 50 _ _ rfl wa.heap.size 0 4 rfl 50 zen ev rfl ZB.out (by kernel_rfl) E4.out (by decide) E1.out ?_))
      have P4 := put_all zen ev (by rw [E4.out]; rfl)
      have RR := setRow_heap wb wa.heap.size _ ev.toArray _ _ ZB.out
      rw [P4]
      exact bodyPost_ret (v := .agg ev.toArray) (results_cell_row rfl _ _ wa.heap.size 50 _ (0, 0) _ rfl RR Try.underlying50 rfl (by rw [List.size_toArray, E4.out]; kernel_rfl)) rfl ⟨rfl, rfl⟩
    · go_enter Try.func38, Try.ntmps38
      go_upto_region 3 with (fail)
      rw [show (#[Value.slice none 0 0, Value.int .u32 0, Value.int .u32 0, Value.slice none 0 0] : Array Value) = zen.toArray from rfl, ← HWA.out, ← HWB.out, ← HSA.out]
      go_wp2_with (first | (refine wpList_value_g rfl (.agg ev.toArray) (exec_load_from rfl rfl LD.out Try.underlying50 rfl (by kernel_rfl) E4.out) ?_) | (refine wpList_store_row rfl 50 _ _ rfl wa.heap.size 0 4 rfl 50 zen ev rfl ZB.out (by kernel_rfl) E4.out (by decide) E1.out ?_))
      have P4 := put_all zen ev (by rw [E4.out]; rfl)
      have RR := setRow_heap wb wa.heap.size _ ev.toArray _ _ ZB.out
      rw [P4]
      exact bodyPost_ret (v := .agg ev.toArray) (results_cell_row rfl _ _ wa.heap.size 50 _ (0, 0) _ rfl RR Try.underlying50 rfl (by rw [List.size_toArray, E4.out]; kernel_rfl)) rfl ⟨rfl, rfl⟩
  · exact (ba.trans (bb.mono hsw)).grown (grown_setRow _ _ _) (by have := bb.size; omega) (fun k e => by cases e; exact hsw)
end Go.Proofs.Ytfjaoompdleljaa.Link
/-
  with of the reference by contract. Helper text; no statement is proved here.
-/
set_option linter.unusedVariables false
set_option maxRecDepth 20000
set_option linter.unusedSimpArgs false
namespace Go.Proofs.Ytfjaoompdleljaa.Link
open Go.RowKit Go.Proofs.Ytfjaoompdleljaa.Base Go.Proofs.Ytfjaoompdleljaa.Laws Go.Proofs.Ytfjaoompdleljaa.Disk Go.Proofs.Ytfjaoompdleljaa.Row Go.Proofs.Ytfjaoompdleljaa.Flat Go.Proofs.Ytfjaoompdleljaa.InvM Go.Proofs.Ytfjaoompdleljaa.Inv Go.Proofs.Ytfjaoompdleljaa.InvL Go.Proofs.Ytfjaoompdleljaa.InvC Go.Proofs.Ytfjaoompdleljaa.InvG Go.Proofs.Ytfjaoompdleljaa.Codec
variable {N : Nat → Prop}
def updE (V : Nat → Value) (n : Nat) (o g : Value) : Nat → Value := upd (upd V (2 * n) o) (2 * n + 1) g
theorem updE_o (V : Nat → Value) (n : Nat) (o g : Value) : updE V n o g (2 * n) = o := by unfold updE; rw [upd_ne (by omega), upd_self]
theorem updE_g (V : Nat → Value) (n : Nat) (o g : Value) : updE V n o g (2 * n + 1) = g := upd_self ..
theorem updE_ne {V : Nat → Value} {n i : Nat} {o g : Value} (h1 : i ≠ 2 * n) (h2 : i ≠ 2 * n + 1) : updE V n o g i = V i := by unfold updE; rw [upd_ne h2, upd_ne h1]
theorem lcells_with (k : Lk) (V : Nat → Value) (n : Nat) (hn : n < 2) (e : En) (o g : Value) : put (lcells k V) (1 + 4 * n) (ecells e o g) = lcells (k.with n e) (updE V n o g) := by
  obtain rfl | rfl : n = 0 ∨ n = 1 := by omega
  · rfl
  · rfl
theorem Rk.with {w : World} {V : Nat → Value} {k : Lk} (h : Rk N w V k) (n : Nat) (hn : n < 2) (e : En) (o g : Value) (ho : Rd N w 71 mc (·.B) o e.op) (hg : Rd N w 23 gc id g e.got) : Rk N w (updE V n o g) (k.with n e) := by
  refine ⟨fun m hm => ?_, fun m hm => ?_, ?_, h.nt⟩
  · by_cases hmn : m = n
    · subst hmn
      rw [updE_o, en_with k m m e hn hm, if_pos rfl]; exact ho
    · rw [updE_ne (by omega) (by omega), en_with k n m e hn hm, if_neg hmn]; exact h.o m hm
  · by_cases hmn : m = n
    · subst hmn
      rw [updE_g, en_with k m m e hn hm, if_pos rfl]; exact hg
    · rw [updE_ne (by omega) (by omega), en_with k n m e hn hm, if_neg hmn]; exact h.g m hm
  · rw [updE_ne (by omega) (by omega), with_fl]; exact h.fl
theorem Rk.one {w : World} {V : Nat → Value} {k : Lk} (h : Rk N w V k) : ∀ i, i < 5 → (V i).oneCell' = true := fun i hi => by
  obtain rfl | rfl | rfl | rfl | rfl : i = 0 ∨ i = 1 ∨ i = 2 ∨ i = 3 ∨ i = 4 := by omega
  · obtain ⟨a, c, e, _⟩ := (h.o 0 (by decide)).form; rw [e]; rfl
  · obtain ⟨a, c, e, _⟩ := (h.g 0 (by decide)).form; rw [e]; rfl
  · obtain ⟨a, c, e, _⟩ := (h.o 1 (by decide)).form; rw [e]; rfl
  · obtain ⟨a, c, e, _⟩ := (h.g 1 (by decide)).form; rw [e]; rfl
  · obtain ⟨a, c, e, _⟩ := h.fl.form; rw [e]; rfl
theorem rwith_any (k : Lk) (V : Nat → Value) (hV : ∀ i, i < 5 → (V i).oneCell' = true) (n : Nat) (hn : n < 2) (e : En) (o g : Value) (ho : o.oneCell' = true) (hg : g.oneCell' = true) (w : World) : Calls Try.prog 40 #[rl k V, .int .i64 (n : Int), .agg (ecells e o g).toArray] w fun x w' => x = .returned (rl (k.with n e) (updE V n o g)) ∧ Below w.heap.size w w' := by
  obtain ⟨wa, hwa⟩ : ∃ wa, wa = w.alloc (.cells (lcells k V).toArray 52) := ⟨_, rfl⟩
  obtain ⟨wb, hwb⟩ : ∃ wb, wb = wa.alloc (.cells (ecells e o g).toArray 50) := ⟨_, rfl⟩
  obtain ⟨wc, hwc⟩ : ∃ wc, wc = wb.alloc (.cells zlk.toArray 52) := ⟨_, rfl⟩
  have ba : Below w.heap.size w wa := hwa ▸ (Below.refl _ _).alloc (Nat.le_refl _) _
  have za : Blk wa w.heap.size (lcells k V) 52 := by rw [hwa]; exact blk_at rfl rfl
  have hsa : wa.heap.size = w.heap.size + 1 := by rw [hwa]; simp
  have bb : Below wa.heap.size wa wb := hwb ▸ (Below.refl _ _).alloc (Nat.le_refl _) _
  have zb : Blk wb wa.heap.size (ecells e o g) 50 := by rw [hwb]; exact blk_at rfl rfl
  have hsb : wb.heap.size = w.heap.size + 2 := by rw [hwb]; simp [hsa]
  have bc : Below wb.heap.size wb wc := hwc ▸ (Below.refl _ _).alloc (Nat.le_refl _) _
  have zc : Blk wc wb.heap.size zlk 52 := by rw [hwc]; exact blk_at rfl rfl
  have hsc : wb.heap.size < wc.heap.size := zc.lt
  have ZA := Lib.hid ((za.below bb za.lt).below bc (by omega))
  have ZB := Lib.hid (zb.below bc zb.lt)
  have ZC := Lib.hid zc
  have BC := Lib.hid (show Below w.heap.size w wc from (ba.trans (bb.mono (by omega))).trans (bc.mono (by omega)))
  have L10 := Lib.hid (show (lcells k V).length = 10 from rfl)
  have E4 := Lib.hid (show (ecells e o g).length = 4 from rfl)
  have E1 := Lib.hid (ec_one (e := e) ho hg)
  obtain ⟨ev, hev⟩ : ∃ ev, ev = ecells e o g := ⟨_, rfl⟩
  obtain ⟨lv, hlv⟩ : ∃ lv, lv = lcells k V := ⟨_, rfl⟩
  obtain ⟨nv, hnv⟩ : ∃ nv, nv = lcells (k.with n e) (updE V n o g) := ⟨_, rfl⟩
  have NV := Lib.hid (show put lv (1 + 4 * n) ev = nv from by rw [hlv, hev, hnv]; exact lcells_with k V n hn e o g)
  have N10 := Lib.hid (show nv.length = 10 from by rw [hnv]; rfl)
  have N1 := Lib.hid (show ∀ u ∈ nv, u.oneCell' = true from by
    rw [hnv]
    refine lc_one _ _ (fun i hi => ?_)
    by_cases h1 : i = 2 * n
    · subst h1; rw [updE_o]; exact ho
    · by_cases h2 : i = 2 * n + 1
      · subst h2; rw [updE_g]; exact hg
      · rw [updE_ne h1 h2]; exact hV i hi)
  unfold rl
  rw [← hev, ← hlv, ← hnv]
  rw [← hev] at ZB E4 E1 hwb
  rw [← hlv] at ZA L10 hwa
  have HWA := Lib.hid hwa
  have HWB := Lib.hid hwb
  have HWC := Lib.hid hwc
  have HSA := Lib.hid hsa
  have HSB := Lib.hid hsb
  clear ba za bb zb bc zc hwa hwb hwc hev hlv hnv hV ho hg
  obtain rfl | rfl : n = 0 ∨ n = 1 := by omega
  · go_enter Try.func40, Try.ntmps40
    go_upto_region 2 with (fail)
    rw [show (#[Value.int .u32 0, Value.slice none 0 0, Value.int .u32 0, Value.int .u32 0, Value.slice none 0 0, Value.slice none 0 0, Value.int .u32 0, Value.int .u32 0, Value.slice none 0 0, Value.slice none 0 0] : Array Value) = zlk.toArray from rfl, ← HWA.out, ← HWB.out, ← HWC.out]
    go_upto_region 4 with (first | (refine wpList_value_g rfl (.agg ev.toArray) (exec_load (cs := ev) (t := 50) rfl (by rw [HSA.out]; rfl) ZB.out Try.underlying50 rfl (by kernel_rfl) E4.out) ?_) | (refine wpList_store_blk rfl 50 _ _ rfl w.heap.size 1 4 rfl 52 lv ev rfl ZA.out (by kernel_rfl) E4.out (by rw [L10.out]; decide) E1.out ?_; intro w4 z4 g4; rw [NV.out] at z4; have Z4 := Lib.hid z4; have G4 := Lib.hid g4; clear z4 g4))
    have B4 := Lib.hid (below_grown BC.out G4.out BC.out.size (Nat.le_refl _))
    have ZC4 := Lib.hid (ZC.out.grown G4.out (by have := HSB.out; omega))
    obtain ⟨rb, hrb⟩ : ∃ rb, rb = w.heap.size + 1 + 1 := ⟨_, rfl⟩
    have hrb' : wb.heap.size = rb := by rw [HSB.out, hrb]
    rw [hrb'] at ZC4
    rw [← hrb]
    have RB := Lib.hid (show w.heap.size ≤ rb by omega)
    clear ZC ZA ZB hrb hrb' G4
    simp only [Act.put]
    go_wp2_with (first | (refine wpList_value_g rfl (.agg nv.toArray) (exec_load (cs := nv) (t := 52) rfl rfl Z4.out Try.underlying52 rfl (by kernel_rfl) N10.out) ?_) | (refine wpList_store_blk rfl 52 _ _ rfl rb 0 10 rfl 52 zlk nv rfl ZC4.out (by kernel_rfl) N10.out (by decide) N1.out ?_; intro w5 z5 g5; have Z5 := Lib.hid (show Blk w5 rb nv 52 by (rw [put_all _ _ (by rw [N10.out]; rfl)] at z5; exact z5)); have L5 := Lib.hid (below_grown B4.out g5 B4.out.size RB.out); clear z5 g5))
    exact bodyPost_ret (v := .agg nv.toArray) (results_cell_row rfl _ _ rb 52 _ (0, 0) _ rfl Z5.out Try.underlying52 rfl (by rw [List.size_toArray, N10.out]; kernel_rfl)) rfl ⟨rfl, L5.out⟩
  · go_enter Try.func40, Try.ntmps40
    go_upto_region 3 with (fail)
    rw [show (#[Value.int .u32 0, Value.slice none 0 0, Value.int .u32 0, Value.int .u32 0, Value.slice none 0 0, Value.slice none 0 0, Value.int .u32 0, Value.int .u32 0, Value.slice none 0 0, Value.slice none 0 0] : Array Value) = zlk.toArray from rfl, ← HWA.out, ← HWB.out, ← HWC.out]
    go_upto_region 4 with (first | (refine wpList_value_g rfl (.agg ev.toArray) (exec_load (cs := ev) (t := 50) rfl (by rw [HSA.out]; rfl) ZB.out Try.underlying50 rfl (by kernel_rfl) E4.out) ?_) | (refine wpList_store_blk rfl 50 _ _ rfl w.heap.size 5 4 rfl 52 lv ev rfl ZA.out (by kernel_rfl) E4.out (by rw [L10.out]; decide) E1.out ?_; intro w4 z4 g4; rw [NV.out] at z4; have Z4 := Lib.hid z4; have G4 := Lib.hid g4; clear z4 g4))
    have B4 := Lib.hid (below_grown BC.out G4.out BC.out.size (Nat.le_refl _))
    have ZC4 := Lib.hid (ZC.out.grown G4.out (by have := HSB.out; omega))
    obtain ⟨rb, hrb⟩ : ∃ rb, rb = w.heap.size + 1 + 1 := ⟨_, rfl⟩
    have hrb' : wb.heap.size = rb := by rw [HSB.out, hrb]
    rw [hrb'] at ZC4
    rw [← hrb]
    have RB := Lib.hid (show w.heap.size ≤ rb by omega)
    clear ZC ZA ZB hrb hrb' G4
    simp only [Act.put]
    go_wp2_with (first | (refine wpList_value_g rfl (.agg nv.toArray) (exec_load (cs := nv) (t := 52) rfl rfl Z4.out Try.underlying52 rfl (by kernel_rfl) N10.out) ?_) | (refine wpList_store_blk rfl 52 _ _ rfl rb 0 10 rfl 52 zlk nv rfl ZC4.out (by kernel_rfl) N10.out (by decide) N1.out ?_; intro w5 z5 g5; have Z5 := Lib.hid (show Blk w5 rb nv 52 by (rw [put_all _ _ (by rw [N10.out]; rfl)] at z5; exact z5)); have L5 := Lib.hid (below_grown B4.out g5 B4.out.size RB.out); clear z5 g5))
    exact bodyPost_ret (v := .agg nv.toArray) (results_cell_row rfl _ _ rb 52 _ (0, 0) _ rfl Z5.out Try.underlying52 rfl (by rw [List.size_toArray, N10.out]; kernel_rfl)) rfl ⟨rfl, L5.out⟩
end Go.Proofs.Ytfjaoompdleljaa.Link
