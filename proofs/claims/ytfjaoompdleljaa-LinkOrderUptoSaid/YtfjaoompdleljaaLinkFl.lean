/-
  Flight of a link by contract. Helper text; no statement is proved here.
-/
import Derived.Test.YtfjaoompdleljaaLinkGot
set_option linter.unusedVariables false
set_option maxRecDepth 20000
set_option linter.unusedSimpArgs false
namespace Go.Proofs.Ytfjaoompdleljaa.Link
open Go.RowKit Go.Proofs.Ytfjaoompdleljaa.Base Go.Proofs.Ytfjaoompdleljaa.Laws Go.Proofs.Ytfjaoompdleljaa.Disk Go.Proofs.Ytfjaoompdleljaa.Row Go.Proofs.Ytfjaoompdleljaa.Flat Go.Proofs.Ytfjaoompdleljaa.InvM Go.Proofs.Ytfjaoompdleljaa.Codec
section
variable {w : World} {bl : Nat} {V : Nat → Value} {A : List Nat} {k : Lk}
set_option maxHeartbeats 2000000 in
theorem flight_any (h : LinkAt w bl V A k) (hfl : k.fl.length ≤ 1024) : Calls Try.prog 12 #[.pointer (some ⟨bl, 0, none⟩)] w fun e w' => ∃ v, e = .returned v ∧ RowOf w' w.heap.size (v.ownBlock.toList ++ (reach bl V ++ A)) 74 5 pc (·.m.B) v k.fl ∧ Below w.heap.size w w' := by
  obtain ⟨ga, gcp, ev, _⟩ := h.slF
  have co : w.cell? ⟨bl, 9, none⟩ = some (V 4) := h.cell 9
  rw [ev] at co
  have RW := Lib.hid h.fl
  rw [ev] at RW
  obtain ⟨gs, hgs⟩ : ∃ gs, gs = k.fl := ⟨_, rfl⟩
  obtain ⟨n, hn⟩ : ∃ n, n = gs.length := ⟨_, rfl⟩
  rw [← hgs] at RW hfl
  rw [← hgs, ← hn] at co
  have HN := Lib.hid hn
  have SS := Lib.hid (show ∀ x ∈ reach bl V ++ A, x < w.heap.size from fun x hx => by
    rcases List.mem_append.1 hx with hx | hx
    · exact (h.reach_lt hx).2
    · exact h.out x hx)
  have hlt := h.head.lt
  have HGS := Lib.hid hgs
  clear hn h ev hgs
  rw [show k.fl = gs from HGS.out.symm]
  rw [show gs.length = n from HN.out.symm] at hfl RW
  go_enter Try.func12, Try.ntmps12
  go_wp2
  go_loopw [13, 3] (fun i v wr => ∃ kk : Nat, kk ≤ n ∧ i = .int .i64 kk ∧ RowOf wr w.heap.size (v.ownBlock.toList ++ (reach bl V ++ A)) 74 5 pc (·.m.B) v (gs.take kk) ∧ Below w.heap.size w wr) (fun i _ _ => n - (intOf i).toNat)
  case atStart => exact ⟨0, by omega, rfl, RowOf.nil, Below.refl _ _⟩
  case round =>
    obtain ⟨kk, hk, rfl, hr, hb⟩ := hrel
    have HR := Lib.hid hr
    have HB := Lib.hid hb
    have hsz := hb.size
    clear hr hb
    by_cases hkn : kk < n
    · obtain ⟨p, hp⟩ : ∃ p, gs[kk]? = some p := ⟨_, List.getElem?_eq_getElem (by have := HN.out; omega)⟩
      have HPP := Lib.hid hp
      obtain ⟨g, c', y, ee, hg, hcy, hY⟩ := RW.out.at_ (fun _ => rfl) kk p hp
      rw [← HN.out] at ee
      cases ee
      obtain ⟨ya, yc, hy, _, _⟩ := hY.slice
      obtain ⟨yl, hyl⟩ : ∃ yl, yl = p.m.B.length := ⟨_, rfl⟩
      rw [← hyl] at hy
      obtain ⟨pv, hpv⟩ : ∃ pv, pv = pc (p, y) := ⟨_, rfl⟩
      have HPV := Lib.hid hpv
      have LD := Lib.hid (show ∀ j v, pv[j]? = some v → wr.cell? ((⟨g, kk * 5, none⟩ : Addr).add j) = some v from fun j v hj => by
        rw [Addr.add_lit]
        exact (Below.cell HB.out (p := ⟨g, kk * 5 + j, none⟩) hg).trans (hcy j v (by rw [← hpv]; exact hj)))
      have P5 := Lib.hid (show pv.length = 5 by rw [hpv]; rfl)
      have P1 := Lib.hid (show ∀ u ∈ pv, u.oneCell' = true by rw [hpv]; exact pc_one hY.one)
      have Z2 := Lib.hid (blk_at (w := wr) (g := wr.heap.size) (cs := zpk) (t := 74) (arr := #[.int .i64 0, .int .u32 0, .int .u32 0, .int .u32 0, .slice none 0 0]) rfl rfl)
      have HY := Lib.hid (hY.move (Only.of_below (S := []) HB.out) (by simp) (fun x hx => .inl hx))
      have HYS := Lib.hid hy
      clear hp hcy hY hpv hy hyl
      go_upto_region 7 with (first | (refine wpList_value_g rfl (.agg pv.toArray) (exec_load_from rfl rfl LD.out Try.underlying74 rfl (by kernel_rfl) P5.out) ?_) | (refine wpList_store_blk rfl 74 _ _ rfl wr.heap.size 0 5 rfl 74 zpk pv rfl Z2.out (by kernel_rfl) P5.out (by decide) P1.out ?_; intro w3 z3 g3; have Z3 := Lib.hid z3; have G3 := Lib.hid g3; clear z3 g3))
      have B3 := Lib.hid (below_grown ((Below.refl wr.heap.size wr).alloc (Nat.le_refl _) _) G3.out (by simp) (Nat.le_refl _))
      obtain ⟨pb, hpb⟩ : ∃ pb, pb = wr.heap.size := ⟨_, rfl⟩
      have P6 := Lib.hid (show Blk w3 pb (pc (p, y)) 74 from by have := Z3.out; rw [put_all _ _ (by rw [P5.out]; rfl), ← hpb, HPV.out] at this; exact this)
      have hs3 : pb < w3.heap.size := P6.out.lt
      have Y3 := HY.out.move (Only.of_below (S := []) B3.out) (by simp) (fun x hx => .inl hx)
      obtain ⟨ca, cc, w4, hcl, hY4, hb4⟩ := clone_body Y3 (pb :: (u3.ownBlock.toList ++ (reach bl V ++ A))) (fun x hx => by
        rcases List.mem_cons.1 hx with rfl | hx
        · exact hs3
        rcases List.mem_append.1 hx with hx | hx
        · have := (HR.out.lt (by simpa using hx)).2; omega
        · have := SS.out x hx; omega)
      have P64 := Lib.hid (P6.out.below hb4 hs3)
      rw [HYS.out] at hcl
      have CB := Lib.hid hcl
      have q4 : w3.cell? ⟨pb, 4, none⟩ = some (.slice ya yl yc) := by rw [← HYS.out]; exact P6.out.cell 4
      have q44 : w4.cell? ⟨pb, 4, none⟩ = some (.slice ya yl yc) := by rw [← HYS.out]; exact P64.out.cell 4
      have f44 : w4.frozen? ⟨pb, 4, none⟩ = false := P64.out.frozen 4
      rw [← hpb]
      have HPB := Lib.hid hpb
      clear Z3 Z2 LD G3 Y3 hcl hpb
      simp only [Act.put]
      go_upto_region 8 with (go_at_call 33; refine CB.out.mono ?_; intro e w' hh; have he := hh.1; have hw := hh.2; subst he; subst w'; clear hh)
      obtain ⟨w5, hw5⟩ : ∃ w5, w5 = w4.setCell ⟨pb, 4, none⟩ (.slice ca p.m.B.length cc) := ⟨_, rfl⟩
      obtain ⟨qv, hqv⟩ : ∃ qv, qv = pc (p, .slice ca p.m.B.length cc) := ⟨_, rfl⟩
      have Q5 := Lib.hid (show qv.length = 5 by rw [hqv]; rfl)
      have P65 := Lib.hid (show Blk w5 pb qv 74 from by rw [hw5, hqv]; exact P64.out.setCell 4 _)
      have hb5 : Below pb wr w5 := by
        have h4 : Below pb wr w4 := by rw [HPB.out]; exact B3.out.trans (hb4.mono (by have := HPB.out; omega))
        rw [hw5]
        exact h4.setCell (Nat.le_refl _) _
      have hs5 : pb < w5.heap.size := P65.out.lt
      have hY5 : Body w5 (pb :: (u3.ownBlock.toList ++ (reach bl V ++ A))) (.slice ca p.m.B.length cc) p.m.B := by
        rw [hw5]
        exact hY4.move (T := [pb]) ((Only.refl [pb] w4).setCell (by simp) 4 _) (by simp) (fun x hx => .inl hx)
      rw [← hw5]
      clear hw5 q44 f44 q4 P64 P6 hY4
      obtain ⟨w6, hw6⟩ : ∃ w6, w6 = w5.alloc (.cells qv.toArray 74) := ⟨_, rfl⟩
      have b6 : Below w5.heap.size w5 w6 := hw6 ▸ (Below.refl w5.heap.size w5).alloc (Nat.le_refl _) _
      have hb6 : Below pb wr w6 := hb5.trans (b6.mono (by omega))
      have hR6 := HR.out.below (N := 0) (HPB.out ▸ hb6)
      have hY6 : Body w6 (u3.ownBlock.toList ++ (reach bl V ++ A)) (.slice ca p.m.B.length cc) p.m.B := hY5.move (Only.of_below (S := []) b6) (by simp) (fun x hx => .inl (List.mem_cons_of_mem _ hx))
      have hz6 : Blk w6 w5.heap.size (pc (p, .slice ca p.m.B.length cc)) 74 := by rw [hw6, ← hqv]; exact blk_at rfl rfl
      have hlk : (gs.take kk).length = kk := by rw [List.length_take]; have := HN.out; omega
      obtain ⟨v', w7, hr7, hrow, hg7, hvb, va, vc, hvs⟩ := hR6.append 29 29 (.agg #[.int .i64 0, .int .u32 0, .int .u32 0, .int .u32 0, .slice none 0 0]) 48 Try.underlying29 info_pk rfl (by decide) p (.slice ca p.m.B.length cc) hY6 (c := 1) (src_blk hz6 rfl (pc_one rfl)) (by rw [hlk]; omega) (by rw [hlk]; unfold maxLen; omega) (by have := b6.size; have := HPB.out; omega) (fun g hg => List.mem_append_left _ (by rw [hg]; simp))
      rw [hlk] at hvs
      have HR7 := Lib.hid (show RowOf w7 w.heap.size (v'.ownBlock.toList ++ (reach bl V ++ A)) 74 5 pc (·.m.B) v' (gs.take (kk + 1)) from by
        rw [take_snoc gs kk p HPP.out]
        refine hrow _ (fun x hx => ?_)
        rcases List.mem_append.1 hx with hx | hx
        · rcases hvb with e | e
          · rw [e] at hx; exact .inl (List.mem_append_left _ hx)
          · rw [e] at hx; simp at hx; exact .inr (by have := HPB.out; omega)
        · exact .inl (List.mem_append_right _ hx))
      have HB7 := Lib.hid (show Below w.heap.size w w7 from by
        have h6 : Below w.heap.size w w6 := HB.out.trans (hb6.mono (by have := HPB.out; omega))
        exact h6.grown hg7 (by have := b6.size; have := HPB.out; omega) (fun k e => (HR.out.lt e).1))
      have HRUN := Lib.hid (hw6 ▸ hr7)
      subst hvs
      clear hr7 hrow hg7 hvb hw6 b6 hR6 hY6 hz6 hb6 hb5 hY5 hqv
      go_wp2_with (first | (refine wpList_value_g rfl (.agg qv.toArray) (exec_load (cs := qv) (t := 74) rfl rfl P65.out Try.underlying74 rfl (by kernel_rfl) Q5.out) ?_) | (refine wpList_world_gg rfl (.slice (some ⟨w5.heap.size, 0, none⟩) 1 1) (w' := w5.alloc (.cells qv.toArray 74)) (exec_build_one rfl rfl Try.underlying29 info_pk Q5.out (by decide) (by decide)) ?_) | (at_builtin; refine wpList_world_gg rfl (.slice va (kk + 1) vc) (w' := w7) (exec_append _ _ rfl rfl rfl HRUN.out) ?_))
      refine ⟨⟨kk + 1, by omega, by go_num, HR7.out, HB7.out⟩, ?_⟩
      simp [intOf]; omega
    · go_wp2
      go_ret
      refine ⟨_, rfl, ?_, HB.out⟩
      have := HR.out
      rwa [List.take_of_length_le (by have := HN.out; omega)] at this
end
end Go.Proofs.Ytfjaoompdleljaa.Link
