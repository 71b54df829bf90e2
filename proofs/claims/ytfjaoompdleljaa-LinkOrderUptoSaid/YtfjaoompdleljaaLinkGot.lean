/-
  Got of a link by contract. Helper text; no statement is proved here.
-/
import Derived.Test.YtfjaoompdleljaaLinkDv
set_option linter.unusedVariables false
set_option maxRecDepth 20000
set_option linter.unusedSimpArgs false
namespace Go.Proofs.Ytfjaoompdleljaa.Link
open Go.RowKit Go.Proofs.Ytfjaoompdleljaa.Base Go.Proofs.Ytfjaoompdleljaa.Laws Go.Proofs.Ytfjaoompdleljaa.Disk Go.Proofs.Ytfjaoompdleljaa.Row Go.Proofs.Ytfjaoompdleljaa.Flat Go.Proofs.Ytfjaoompdleljaa.InvM
/-- a body is cloned -/
theorem clone_body {w : World} {S : List Nat} {y : Value} {B : List UInt8} (hy : Body w S y B) (S' : List Nat) (hS : ∀ x ∈ S', x < w.heap.size) : ∃ a c w1, Calls Try.prog 33 #[y] w (fun e w' => e = .returned (.slice a B.length c) ∧ w' = w1) ∧ Body w1 S' (.slice a B.length c) B ∧ Below w.heap.size w w1 := by
  rcases hy with ⟨rfl, rfl⟩ | ⟨g, o, c, rfl, h1, h2, h3, h4⟩
  · exact ⟨none, 0, w, (clone_none w).mono (fun e w' h => ⟨h.1, h.2.symm⟩), .inl ⟨rfl, rfl⟩, Below.refl _ _⟩
  · obtain ⟨i1, i2, i3⟩ := cloneW_is w B.length B rfl (by omega)
    refine ⟨some ⟨w.heap.size + 1, 0, none⟩, cloneC w B.length, cloneW w B.length B, clone_exact ⟨g, o, none⟩ B.length c B h1 (by omega) w h3, .inr ⟨_, _, _, rfl, h1, h2, i1, fun hx => ?_⟩, i2⟩
    have := hS _ hx
    omega
theorem RowOf.below {α : Type} {w w' : World} {base : Nat} {S : List Nat} {t : TypeId} {m : Nat} {f : α × Value → List Value} {body : α → List UInt8} {v : Value} {xs : List α} (h : RowOf w base S t m f body v xs) {N : Nat} (hb : Below w.heap.size w w') : RowOf w' base S t m f body v xs :=
  h.move (Only.of_below (S := []) hb) (by simp) (fun x hx => .inl hx) (by simp)
/-- what stands at a place of a row -/
theorem RowOf.at_ {α : Type} {w : World} {base : Nat} {S : List Nat} {t : TypeId} {m : Nat} {f : α × Value → List Value} {body : α → List UInt8} {v : Value} {xs : List α} (h : RowOf w base S t m f body v xs) (hm : ∀ p, (f p).length = m) (i : Nat) (x : α) (hx : xs[i]? = some x) :
    ∃ g c y, v = .slice (some ⟨g, 0, none⟩) xs.length c ∧ g < w.heap.size ∧ (∀ j u, (f (x, y))[j]? = some u → w.cell? ⟨g, i * m + j, none⟩ = some u) ∧ Body w S y (body x) := by
  obtain ⟨ps, e, ⟨hl, h2⟩, h3⟩ := h
  have hlen : ps.length = xs.length := by rw [← e]; simp
  have hi : i < xs.length := (List.getElem?_eq_some_iff.1 hx).1
  rcases h2 with ⟨e1, e2⟩ | ⟨g, cap, cur, e1, hb, hg, hnc, hcm, hsz, htk⟩
  · omega
  obtain ⟨q, hq⟩ : ∃ q, ps[i]? = some q := ⟨_, List.getElem?_eq_getElem (by omega)⟩
  have hqx : q.1 = x := by
    have : xs[i]? = some q.1 := by rw [← e, List.getElem?_map, hq]; rfl
    rw [hx] at this
    exact (Option.some.inj this).symm
  refine ⟨g, cap, q.2, by rw [← hlen]; exact e1, (Array.getElem?_eq_some_iff.1 hg).1, fun j u hu => ?_, by rw [← hqx]; exact h3 q (List.mem_of_getElem? hq)⟩
  have hj : j < m := by have := (List.getElem?_eq_some_iff.1 hu).1; rw [hm] at this; exact this
  have := flat_get (m := m) (f := f) (fun x _ => hm x) hq (by rw [show (x, q.2) = q by rw [← hqx]] at hu; exact hu)
  rw [← htk, List.getElem?_take_of_lt (by
    have h1 : (i + 1) * m ≤ ps.length * m := Nat.mul_le_mul_right m (by omega)
    rw [Nat.add_mul] at h1
    omega)] at this
  rw [cell_of_row w g _ _ _ (0, 0) hg]
  simpa using this
section
variable {w : World} {bl : Nat} {V : Nat → Value} {A : List Nat} {k : Lk}
theorem got_ok0 (h : LinkAt w bl V A k) (hgot : ((k.en 0).got.length + 1) * 24 ≤ 140737488355328) : Calls Try.prog 16 #[.pointer (some ⟨bl, 0, none⟩), .int .i64 0] w fun e w' => ∃ v, e = .returned v ∧ RowOf w' w.heap.size (v.ownBlock.toList ++ (reach bl V ++ A)) 23 1 gc id v (k.en 0).got ∧ Below w.heap.size w w' := by
  obtain ⟨ga, gcp, ev, _⟩ := h.slG 0 (by decide)
  have co : w.cell? ⟨bl, 4, none⟩ = some (V 1) := h.cell 4
  rw [show V 1 = .slice ga (k.en 0).got.length gcp from ev] at co
  have RW := Lib.hid (h.g 0 (by decide))
  rw [ev] at RW
  obtain ⟨gs, hgs⟩ : ∃ gs, gs = (k.en 0).got := ⟨_, rfl⟩
  obtain ⟨n, hn⟩ : ∃ n, n = gs.length := ⟨_, rfl⟩
  rw [← hgs] at RW hgot
  rw [← hgs, ← hn] at co
  have HN := Lib.hid hn
  have SS := Lib.hid (show ∀ x ∈ reach bl V ++ A, x < w.heap.size from fun x hx => by
    rcases List.mem_append.1 hx with hx | hx
    · exact (h.reach_lt hx).2
    · exact h.out x hx)
  have hlt := h.head.lt
  have HGS := Lib.hid hgs
  clear hn h ev hgs
  rw [show (k.en 0).got = gs from HGS.out.symm]
  rw [show gs.length = n from HN.out.symm] at hgot RW
  go_enter Try.func16, Try.ntmps16
  go_wp2
  go_loopw [26, 5] (fun i v wr => ∃ kk : Nat, kk ≤ n ∧ i = .int .i64 kk ∧ RowOf wr w.heap.size (v.ownBlock.toList ++ (reach bl V ++ A)) 23 1 gc id v (gs.take kk) ∧ Below w.heap.size w wr) (fun i _ _ => n - (intOf i).toNat)
  case atStart => exact ⟨0, by omega, rfl, RowOf.nil, Below.refl _ _⟩
  case round =>
    obtain ⟨kk, hk, rfl, hr, hb⟩ := hrel
    have HR := Lib.hid hr
    have HB := Lib.hid hb
    have hsz := hb.size
    clear hr hb
    by_cases hkn : kk < n
    · obtain ⟨B, hB⟩ : ∃ B, gs[kk]? = some B := ⟨_, List.getElem?_eq_getElem (by have := HN.out; omega)⟩
      have HBB := Lib.hid hB
      obtain ⟨g, c', y, ee, hg, hcy, hY⟩ := RW.out.at_ (fun _ => rfl) kk B hB
      rw [← HN.out] at ee
      cases ee
      have cy : wr.cell? ⟨g, kk, none⟩ = some y := by
        have := hcy 0 y rfl
        rw [Nat.mul_one, Nat.add_zero] at this
        exact (Below.cell HB.out (p := ⟨g, kk, none⟩) hg).trans this
      have hYr := hY.move (Only.of_below (S := []) HB.out) (by simp) (fun x hx => .inl hx)
      obtain ⟨ca, cc, w1, hcl, hY1, hb1⟩ := clone_body hYr (u5.ownBlock.toList ++ (reach bl V ++ A)) (fun x hx => by
        rcases List.mem_append.1 hx with hx | hx
        · exact (HR.out.lt (by simpa using hx)).2
        · exact Nat.lt_of_lt_of_le (SS.out x hx) hsz)
      have CB := Lib.hid hcl
      have HB1 := Lib.hid hb1
      have hs1 := hb1.size
      obtain ⟨w2, hw2⟩ : ∃ w2, w2 = w1.alloc (.cells #[.slice ca B.length cc] 23) := ⟨_, rfl⟩
      have b2 : Below w1.heap.size w1 w2 := hw2 ▸ (Below.refl w1.heap.size w1).alloc (Nat.le_refl _) _
      have hR2 := (HR.out.below (N := 0) hb1).below (N := 0) b2
      have hY2 := hY1.move (Only.of_below (S := []) b2) (by simp) (fun x hx => .inl hx)
      have hz2 : Blk w2 w1.heap.size [.slice ca B.length cc] 23 := by rw [hw2]; exact blk_at rfl rfl
      have hlk : (gs.take kk).length = kk := by rw [List.length_take]; have := HN.out; omega
      obtain ⟨v', w3, hr3, hrow, hg3, hvb, va, vc, hvs⟩ := hR2.append 22 22 (.slice none 0 0) 24 Try.underlying22 info_bs rfl (by decide) B (.slice ca B.length cc) hY2 (c := 1) (src_blk hz2 rfl (gc_one rfl)) (by rw [hlk]; omega) (by rw [hlk]; unfold maxLen; omega) (by have := b2.size; omega) (fun g hg => List.mem_append_left _ (by rw [hg]; simp))
      rw [hlk] at hvs
      have HR3 := Lib.hid (show RowOf w3 w.heap.size (v'.ownBlock.toList ++ (reach bl V ++ A)) 23 1 gc id v' (gs.take (kk + 1)) from by
        rw [take_snoc gs kk B HBB.out]
        refine hrow _ (fun x hx => ?_)
        rcases List.mem_append.1 hx with hx | hx
        · rcases hvb with e | e
          · rw [e] at hx; exact .inl (List.mem_append_left _ hx)
          · rw [e] at hx; simp at hx; exact .inr (by omega)
        · exact .inl (List.mem_append_right _ hx))
      have HB3 := Lib.hid (show Below w.heap.size w w3 from by
        have hb2 : Below w.heap.size w w2 := (HB.out.trans (hb1.mono hsz)).trans (b2.mono (by omega))
        refine ⟨hg3.os.trans hb2.os, hg3.tape.trans hb2.tape, hg3.output.trans hb2.output, Nat.le_trans hb2.size hg3.size, fun x hx => (hg3.block x (Nat.lt_of_lt_of_le hx hb2.size) (fun e => ?_)).trans (hb2.block x hx)⟩
        have := (HR.out.lt e.symm).1
        omega)
      have HW2 := Lib.hid hw2
      have HRUN := Lib.hid (hw2 ▸ hr3)
      subst hvs
      clear hr3 hrow hg3 hvb hw2 b2 hR2 hY2 hz2 hcl hY1 hb1 hYr hB
      go_wp2_with (first | (go_at_call 33; refine CB.out.mono ?_; rintro e w' ⟨rfl, rfl⟩) | (at_builtin; refine wpList_world_gg rfl (.slice va (kk + 1) vc) (w' := w3) (exec_append _ _ rfl rfl rfl HRUN.out) ?_))
      refine ⟨⟨kk + 1, by omega, by go_num, HR3.out, HB3.out⟩, ?_⟩
      simp [intOf]; omega
    · go_wp2
      go_ret
      refine ⟨_, rfl, ?_, HB.out⟩
      have := HR.out
      rwa [List.take_of_length_le (by have := HN.out; omega)] at this
theorem got_ok1 (h : LinkAt w bl V A k) (hgot : ((k.en 1).got.length + 1) * 24 ≤ 140737488355328) : Calls Try.prog 16 #[.pointer (some ⟨bl, 0, none⟩), .int .i64 1] w fun e w' => ∃ v, e = .returned v ∧ RowOf w' w.heap.size (v.ownBlock.toList ++ (reach bl V ++ A)) 23 1 gc id v (k.en 1).got ∧ Below w.heap.size w w' := by
  obtain ⟨ga, gcp, ev, _⟩ := h.slG 1 (by decide)
  have co : w.cell? ⟨bl, 8, none⟩ = some (V 3) := h.cell 8
  rw [show V 3 = .slice ga (k.en 1).got.length gcp from ev] at co
  have RW := Lib.hid (h.g 1 (by decide))
  rw [ev] at RW
  obtain ⟨gs, hgs⟩ : ∃ gs, gs = (k.en 1).got := ⟨_, rfl⟩
  obtain ⟨n, hn⟩ : ∃ n, n = gs.length := ⟨_, rfl⟩
  rw [← hgs] at RW hgot
  rw [← hgs, ← hn] at co
  have HN := Lib.hid hn
  have SS := Lib.hid (show ∀ x ∈ reach bl V ++ A, x < w.heap.size from fun x hx => by
    rcases List.mem_append.1 hx with hx | hx
    · exact (h.reach_lt hx).2
    · exact h.out x hx)
  have hlt := h.head.lt
  have HGS := Lib.hid hgs
  clear hn h ev hgs
  rw [show (k.en 1).got = gs from HGS.out.symm]
  rw [show gs.length = n from HN.out.symm] at hgot RW
  go_enter Try.func16, Try.ntmps16
  go_wp2
  go_loopw [26, 5] (fun i v wr => ∃ kk : Nat, kk ≤ n ∧ i = .int .i64 kk ∧ RowOf wr w.heap.size (v.ownBlock.toList ++ (reach bl V ++ A)) 23 1 gc id v (gs.take kk) ∧ Below w.heap.size w wr) (fun i _ _ => n - (intOf i).toNat)
  case atStart => exact ⟨0, by omega, rfl, RowOf.nil, Below.refl _ _⟩
  case round =>
    obtain ⟨kk, hk, rfl, hr, hb⟩ := hrel
    have HR := Lib.hid hr
    have HB := Lib.hid hb
    have hsz := hb.size
    clear hr hb
    by_cases hkn : kk < n
    · obtain ⟨B, hB⟩ : ∃ B, gs[kk]? = some B := ⟨_, List.getElem?_eq_getElem (by have := HN.out; omega)⟩
      have HBB := Lib.hid hB
      obtain ⟨g, c', y, ee, hg, hcy, hY⟩ := RW.out.at_ (fun _ => rfl) kk B hB
      rw [← HN.out] at ee
      cases ee
      have cy : wr.cell? ⟨g, kk, none⟩ = some y := by
        have := hcy 0 y rfl
        rw [Nat.mul_one, Nat.add_zero] at this
        exact (Below.cell HB.out (p := ⟨g, kk, none⟩) hg).trans this
      have hYr := hY.move (Only.of_below (S := []) HB.out) (by simp) (fun x hx => .inl hx)
      obtain ⟨ca, cc, w1, hcl, hY1, hb1⟩ := clone_body hYr (u5.ownBlock.toList ++ (reach bl V ++ A)) (fun x hx => by
        rcases List.mem_append.1 hx with hx | hx
        · exact (HR.out.lt (by simpa using hx)).2
        · exact Nat.lt_of_lt_of_le (SS.out x hx) hsz)
      have CB := Lib.hid hcl
      have HB1 := Lib.hid hb1
      have hs1 := hb1.size
      obtain ⟨w2, hw2⟩ : ∃ w2, w2 = w1.alloc (.cells #[.slice ca B.length cc] 23) := ⟨_, rfl⟩
      have b2 : Below w1.heap.size w1 w2 := hw2 ▸ (Below.refl w1.heap.size w1).alloc (Nat.le_refl _) _
      have hR2 := (HR.out.below (N := 0) hb1).below (N := 0) b2
      have hY2 := hY1.move (Only.of_below (S := []) b2) (by simp) (fun x hx => .inl hx)
      have hz2 : Blk w2 w1.heap.size [.slice ca B.length cc] 23 := by rw [hw2]; exact blk_at rfl rfl
      have hlk : (gs.take kk).length = kk := by rw [List.length_take]; have := HN.out; omega
      obtain ⟨v', w3, hr3, hrow, hg3, hvb, va, vc, hvs⟩ := hR2.append 22 22 (.slice none 0 0) 24 Try.underlying22 info_bs rfl (by decide) B (.slice ca B.length cc) hY2 (c := 1) (src_blk hz2 rfl (gc_one rfl)) (by rw [hlk]; omega) (by rw [hlk]; unfold maxLen; omega) (by have := b2.size; omega) (fun g hg => List.mem_append_left _ (by rw [hg]; simp))
      rw [hlk] at hvs
      have HR3 := Lib.hid (show RowOf w3 w.heap.size (v'.ownBlock.toList ++ (reach bl V ++ A)) 23 1 gc id v' (gs.take (kk + 1)) from by
        rw [take_snoc gs kk B HBB.out]
        refine hrow _ (fun x hx => ?_)
        rcases List.mem_append.1 hx with hx | hx
        · rcases hvb with e | e
          · rw [e] at hx; exact .inl (List.mem_append_left _ hx)
          · rw [e] at hx; simp at hx; exact .inr (by omega)
        · exact .inl (List.mem_append_right _ hx))
      have HB3 := Lib.hid (show Below w.heap.size w w3 from by
        have hb2 : Below w.heap.size w w2 := (HB.out.trans (hb1.mono hsz)).trans (b2.mono (by omega))
        refine ⟨hg3.os.trans hb2.os, hg3.tape.trans hb2.tape, hg3.output.trans hb2.output, Nat.le_trans hb2.size hg3.size, fun x hx => (hg3.block x (Nat.lt_of_lt_of_le hx hb2.size) (fun e => ?_)).trans (hb2.block x hx)⟩
        have := (HR.out.lt e.symm).1
        omega)
      have HW2 := Lib.hid hw2
      have HRUN := Lib.hid (hw2 ▸ hr3)
      subst hvs
      clear hr3 hrow hg3 hvb hw2 b2 hR2 hY2 hz2 hcl hY1 hb1 hYr hB
      go_wp2_with (first | (go_at_call 33; refine CB.out.mono ?_; rintro e w' ⟨rfl, rfl⟩) | (at_builtin; refine wpList_world_gg rfl (.slice va (kk + 1) vc) (w' := w3) (exec_append _ _ rfl rfl rfl HRUN.out) ?_))
      refine ⟨⟨kk + 1, by omega, by go_num, HR3.out, HB3.out⟩, ?_⟩
      simp [intOf]; omega
    · go_wp2
      go_ret
      refine ⟨_, rfl, ?_, HB.out⟩
      have := HR.out
      rwa [List.take_of_length_le (by have := HN.out; omega)] at this
theorem got_any (h : LinkAt w bl V A k) (n : Nat) (hn : n < 2) (hgot : ((k.en n).got.length + 1) * 24 ≤ 140737488355328) : Calls Try.prog 16 #[.pointer (some ⟨bl, 0, none⟩), .int .i64 (n : Int)] w fun e w' => ∃ v, e = .returned v ∧ RowOf w' w.heap.size (v.ownBlock.toList ++ (reach bl V ++ A)) 23 1 gc id v (k.en n).got ∧ Below w.heap.size w w' := by
  obtain rfl | rfl : n = 0 ∨ n = 1 := by omega
  · exact got_ok0 h hgot
  · exact got_ok1 h hgot
theorem got_no (p : Option Addr) (n : Int) (hn : n < 0 ∨ 1 < n) (w : World) : Calls Try.prog 16 #[.pointer p, .int .i64 n] w fun e w' => e = .returned (.slice none 0 0) ∧ w = w' := by
  cases p with
  | none => exact got_nil n w
  | some p =>
    by_cases h1 : n < 0
    · go_enter Try.func16, Try.ntmps16
      go_wp2_with fail
      go_ret
      exact ⟨rfl, rfl⟩
    · have h2 : 1 < n := by omega
      go_enter Try.func16, Try.ntmps16
      go_wp2_with fail
      go_ret
      exact ⟨rfl, rfl⟩
end
end Go.Proofs.Ytfjaoompdleljaa.Link
