/-
  The walk of the statement on the order of messages. Helper text; no statement is proved here.
-/
import Derived.Test.YtfjaoompdleljaaBc
import Derived.Test.YtfjaoompdleljaaBulk
import Derived.Deep.DeepCutAuto
set_option linter.unusedVariables false
set_option maxRecDepth 20000
set_option linter.unusedSimpArgs false
namespace Go.Proofs.Ytfjaoompdleljaa.Link
open Go.RowKit Go.Proofs.Ytfjaoompdleljaa.Base Go.Proofs.Ytfjaoompdleljaa.Laws Go.Proofs.Ytfjaoompdleljaa.Disk Go.Proofs.Ytfjaoompdleljaa.Row Go.Proofs.Ytfjaoompdleljaa.Flat Go.Proofs.Ytfjaoompdleljaa.InvM Go.Proofs.Ytfjaoompdleljaa.Inv Go.Proofs.Ytfjaoompdleljaa.InvL Go.Proofs.Ytfjaoompdleljaa.InvC Go.Proofs.Ytfjaoompdleljaa.InvG
/-- a new block that is kept -/
theorem Bc.keep {w0 w w' : World} {bl sb : Nat} {C : Nat → Prop} {k : Lk} {S : Nat → List (List UInt8)} {v0 v1 : Value} (h : Bc w0 bl sb C k S v0 v1 w) (hb : Below w.heap.size w w') {pb : Nat} (h1 : w.heap.size ≤ pb) (h2 : pb < w'.heap.size) : Bc w0 bl sb (fun x => C x ∨ x = pb) k S v0 v1 w' := by
  have hlt := fun x hx => h.lf.lt (x := x) hx
  have hs : Stay (fun x => x ∈ A01 sb v0 v1 ∨ C x) w w' := fun x hx => hb.block x (hlt x hx)
  refine ⟨h.lf.news hb (fun x hx => ?_) (fun x hx => ⟨.inl hx, .inl hx⟩), hs.blk (.inl (mem_A01.2 (.inl rfl))) h.blk, h.r0.stay hs (fun g hg => .inl (mem_A01.2 (.inr (.inl hg)))) (fun g hg => ⟨.inr hg, .inl hg⟩), h.r1.stay hs (fun g hg => .inl (mem_A01.2 (.inr (.inr hg)))) (fun g hg => ⟨.inr hg, .inl hg⟩), h.ne, fun g hg hm => ?_⟩
  · rcases hx with hx | hx | rfl
    · exact ⟨.inl (.inl hx), Nat.lt_of_lt_of_le (hlt x (.inl hx)) hb.size⟩
    · exact ⟨.inl (.inr hx), Nat.lt_of_lt_of_le (hlt x (.inr hx)) hb.size⟩
    · exact ⟨.inr h1, h2⟩
  · rcases hg with hg | rfl
    · exact h.cne g hg hm
    · have := hlt g (.inl hm); omega
theorem Rwc.form {C : Nat → Prop} {base : Nat} {w : World} {v : Value} {L : List (List UInt8)} (h : Rwc C base w v L) : (v = .slice none 0 0 ∧ L = []) ∨ ∃ g cap, v = .slice (some ⟨g, 0, none⟩) L.length cap ∧ L.length ≤ cap ∧ cap ≤ maxLen := by
  obtain ⟨vals, ⟨hl, h1⟩, _⟩ := h
  rcases h1 with ⟨rfl, e⟩ | ⟨g, cap, cur, rfl, hb, hg, hnc, hcm, hsz, htk⟩
  · exact .inl ⟨rfl, List.eq_nil_of_length_eq_zero e⟩
  · exact .inr ⟨g, cap, rfl, hnc, hcm⟩
theorem Txt.take {w : World} {a : Option Addr} {n c m : Nat} {L : List (List UInt8)} (h : Txt w (.slice a n c) L) (hm : m ≤ L.length) : Txt w (.slice a m c) (L.take m) := by
  obtain ⟨a', c', e, h1, h2, h3⟩ := h
  cases e
  refine ⟨a, c, by rw [List.length_take, Nat.min_eq_left hm], by rw [List.length_take]; omega, by rw [List.length_take]; omega, fun i B hB => h3 i B ?_⟩
  rw [List.getElem?_take] at hB
  split at hB
  · exact hB
  · cases hB
set_option maxHeartbeats 16000000 in
theorem order_walk (a : Option Addr) (n cap : Nat) (os : List So) (w : World) (h : Scr w a n cap os) (hn20 : n ≤ 1048576) :
    Calls Try.prog 6 #[.slice a n cap] w fun e w' => e = .returned (.bool true) ∧ Below w.heap.size w w' := by
  obtain ⟨h1, h2, h3, h4, h5, h6⟩ := h
  unfold maxLen at h3
  have HSC := Lib.hid h6
  have HN := Lib.hid h1
  have HR := Lib.hid h5
  clear h6 h1 h5
  go_enter Try.func6, Try.ntmps6
  go_upto_region 4 with (first | (go_at_call 9; refine (awake_any w).mono ?_; rintro e w1 ⟨rfl, hb1⟩; have NW := Lib.hid (lf_new hb1); clear hb1) | (go_at_call 10; refine NW.out.mono ?_; rintro e w2 ⟨rfl, hl⟩; have L2 := Lib.hid hl; clear hl NW))
  go_upto_region 5 with (fail)
  obtain ⟨w3, hw3⟩ : ∃ w3, w3 = w2.alloc (.cells #[.slice none 0 0, .slice none 0 0] 38) := ⟨_, rfl⟩
  have b3 : Below w2.heap.size w2 w3 := hw3 ▸ (Below.refl w2.heap.size w2).alloc (Nat.le_refl _) _
  have z3 : Blk w3 w2.heap.size [.slice none 0 0, .slice none 0 0] 38 := by rw [hw3]; exact blk_at rfl rfl
  have hs2 := L2.out.below.size
  obtain ⟨sb, hsb⟩ : ∃ sb, sb = w2.heap.size := ⟨_, rfl⟩
  obtain ⟨bl, hbl⟩ : ∃ bl, bl = w1.heap.size := ⟨_, rfl⟩
  rw [← hbl] at L2
  have BO0 := Lib.hid (show Bc w bl sb (fun _ => False) k0 (fun _ => []) (.slice none 0 0) (.slice none 0 0) w3 from by
    refine ⟨L2.out.news b3 (fun x hx => ?_) (fun x hx => ?_), hsb ▸ z3, Rwc.nil, Rwc.nil, (fun g hg => by cases hg), (fun g hg => hg.elim)⟩
    · obtain rfl : x = sb := by simpa [A01, Value.ownBlock] using hx
      exact ⟨.inr (by omega), by have := z3.lt; omega⟩
    · obtain rfl : x = sb := by simpa [A01, Value.ownBlock] using hx
      exact ⟨.inr (by omega), .inl hx⟩)
  rw [← hw3, ← hsb]
  rw [← hbl]
  clear hw3 b3 z3 hs2 hsb L2 hbl
  go_wp2_with fail
  go_loopw [5] (fun i wr => ∃ kk : Nat, ∃ k S v0 v1 C, kk ≤ n ∧ i = .int .i64 kk ∧ Bc w bl sb C k S v0 v1 wr ∧ Ok k S ∧ (S 0).length ≤ kk ∧ (S 1).length ≤ kk) (fun i _ => n - (intOf i).toNat)
  case atStart => exact ⟨0, k0, fun _ => [], _, _, _, by omega, rfl, BO0.out, ok_k0, Nat.le_refl _, Nat.le_refl _⟩
  case round =>
    obtain ⟨kk, k, S, v0, v1, C, hk, rfl, hbo, hok, hl0, hl1⟩ := hrel
    have BO := Lib.hid hbo
    have OK := Lib.hid hok
    have SL0 := Lib.hid hl0
    have SL1 := Lib.hid hl1
    have GG := Lib.hid (show ∀ j, j < 2 → ((k.en j).got.length + 1) * 24 ≤ 140737488355328 from fun j hj => by
      have := hok.gotLe j hj
      have : (S (1 - j)).length ≤ kk := by
        rcases two hj with rfl | rfl
        · exact hl1
        · exact hl0
      omega)
    clear hbo hok hl0 hl1 BO0
    by_cases hkn : kk < n
    · obtain ⟨o, ho⟩ : ∃ o, os[kk]? = some o := ⟨_, List.getElem?_eq_getElem (by have := HN.out; omega)⟩
      obtain ⟨g, off, rfl, hc⟩ := HSC.out.resolve_left (by omega)
      obtain ⟨a', l', c', hcell, hbt, hl'⟩ := hc kk o ho
      have hrg := HR.out o (List.mem_of_getElem? ho)
      have hBel := BO.out.lf.below
      have hg : g < w.heap.size := block_lt_of_cell (hcell 0 _ rfl)
      obtain ⟨ov, hov⟩ : ∃ ov, ov = oc (o, .slice a' l' c') := ⟨_, rfl⟩
      have HOV := Lib.hid hov
      have LD := Lib.hid (show ∀ j v, ov[j]? = some v → wr.cell? ((⟨g, off + kk * 3, none⟩ : Addr).add j) = some v from fun j v hj => by
        rw [Addr.add_lit]
        exact (Below.cell hBel (p := ⟨g, off + kk * 3 + j, none⟩) hg).trans (hcell j v (by rw [← hov]; exact hj)))
      have O3 := Lib.hid (show ov.length = 3 by rw [hov]; rfl)
      have O1 := Lib.hid (show ∀ u ∈ ov, u.oneCell' = true by
        rw [hov]; intro u hu
        simp only [oc, List.mem_cons, List.not_mem_nil, or_false] at hu
        rcases hu with rfl | rfl | rfl <;> rfl)
      have Z2 := Lib.hid (blk_at (w := wr) (g := wr.heap.size) (cs := [.int .i64 0, .int .i64 0, .slice none 0 0]) (t := 44) (arr := #[.int .i64 0, .int .i64 0, .slice none 0 0]) rfl rfl)
      have HBT := Lib.hid hbt
      clear ho hc hcell hBel hg hov hbt
      go_upto_region 9 with (first | (refine wpList_value_g rfl (.agg ov.toArray) (exec_load_from rfl rfl LD.out Try.underlying44 rfl (by kernel_rfl) O3.out) ?_) | (refine wpList_store_blk rfl 44 _ _ rfl wr.heap.size 0 3 rfl 44 [.int .i64 0, .int .i64 0, .slice none 0 0] ov rfl Z2.out (by kernel_rfl) O3.out (by decide) O1.out ?_; intro w4 z3 g3; have Z3 := Lib.hid z3; have G3 := Lib.hid g3; clear z3 g3))
      have B3 := Lib.hid (below_grown ((Below.refl wr.heap.size wr).alloc (Nat.le_refl _) _) G3.out (by simp) (Nat.le_refl _))
      obtain ⟨pb, hpb⟩ : ∃ pb, pb = wr.heap.size := ⟨_, rfl⟩
      have P6 := Lib.hid (show Blk w4 pb (oc (o, .slice a' l' c')) 44 from by have := Z3.out; rw [put_all _ _ (by rw [O3.out]; rfl), ← hpb, HOV.out] at this; exact this)
      have BK := Lib.hid (BO.out.keep B3.out (pb := pb) (by omega) P6.out.lt)
      obtain ⟨C2, hC2⟩ : ∃ C2 : Nat → Prop, C2 = fun x => C x ∨ x = pb := ⟨_, rfl⟩
      have CPB := Lib.hid (show C2 pb from by rw [hC2]; exact .inr rfl)
      rw [← hC2] at BK
      have q0 : w4.cell? ⟨pb, 0, none⟩ = some (.int .i64 o.k) := P6.out.cell 0
      have q1 : w4.cell? ⟨pb, 1, none⟩ = some (.int .i64 o.n) := P6.out.cell 1
      have q2 : w4.cell? ⟨pb, 2, none⟩ = some (.slice a' l' c') := P6.out.cell 2
      rw [← hpb]
      clear Z3 Z2 LD G3 hpb hC2 BO
      simp only [Act.put]
      by_cases k1 : o.k = 1
      · rw [k1] at q0
        have SD := Lib.hid (lf_send BK.out.lf o.n a' l' c' o.B (HBT.out.below BK.out.lf.below (Nat.le_refl _)) (fun hl g o e => .inl (by subst e; exact bts_block HBT.out hl)))
        have hBl : o.B.length = l' := HBT.out.1
        have HBL := Lib.hid hBl
        obtain ⟨E, hE⟩ : ∃ E, E = k.sendE o.n l' := ⟨_, rfl⟩
        rw [← hE] at SD
        have HE := Lib.hid hE
        clear k1 hBl hE
        by_cases hE0 : E = 0
        · have hn01 : o.n = 0 ∨ o.n = 1 := by
            have := HE.out
            rw [hE0] at this
            unfold Lk.sendE at this
            split at this
            · omega
            · omega
          have hl0 : 0 < l' ∧ l' ≤ 64 := by
            have := HE.out
            rw [hE0] at this
            unfold Lk.sendE at this
            split at this
            · omega
            · omega
          obtain ⟨ga, oa, hga⟩ : ∃ ga oa, a' = some ⟨ga, oa, none⟩ := by
            rcases HBT.out.2.2.2 with h4 | ⟨b, o, e, _⟩
            · omega
            · exact ⟨b, o, e⟩
          subst hga
          subst hE0
          rcases hn01 with hn0 | hn1
          · -- a message of end 0
            have ok2 := OK.out.sends1 0 (by decide) o.B (by rw [HBL.out]; have := HE.out; rw [hn0] at this; exact this.symm) (by have := SL0.out; omega)
            have OK2 := Lib.hid ok2.1
            rw [hn0] at SD q1
            clear HE ok2
            go_upto_region 14 with (go_at_call 11; refine SD.out.mono ?_; rintro e w5 ⟨rfl, hl5, hs5⟩; have B5 := Lib.hid (BK.out.stay hl5 hs5); have P5 := Lib.hid (hs5.blk (.inr CPB.out) P6.out); have q1' : w5.cell? ⟨pb, 1, none⟩ = some (.int .i64 0) := (P5.out.cell 1).trans (by show some (Value.int .i64 o.n) = _; rw [hn0]); clear hl5 hs5 SD)
            obtain ⟨k1, hk1⟩ : ∃ k1, k1 = k.sends 0 o.B := ⟨_, rfl⟩
            rw [← hk1] at B5
            have OK3 := Lib.hid (show Ok k1 (put2 S 0 o.B) from hk1 ▸ OK2.out)
            clear hk1 OK2
            have bt5 : Bts w5.drew (some ⟨ga, oa, none⟩) l' c' o.B := HBT.out.below (B5.out.lf.below.trans ⟨rfl, rfl, rfl, Nat.le_refl _, fun _ _ => rfl⟩) (Nat.le_refl _)
            obtain ⟨x1, x2, x3⟩ := cloneW_is w5.drew l' o.B HBL.out (by omega)
            obtain ⟨W2, hW2⟩ : ∃ W2, W2 = cloneW w5.drew l' o.B := ⟨_, rfl⟩
            obtain ⟨cc, hcc⟩ : ∃ cc, cc = cloneC w5.drew l' := ⟨_, rfl⟩
            rw [← hW2, ← hcc] at x1
            rw [← hW2] at x2 x3
            have bW2 : Below w5.heap.size w5 W2 := (Below.refl w5.heap.size w5).drew.trans x2
            have x1' : Bts W2 (some ⟨w5.heap.size + 1, 0, none⟩) o.B.length cc o.B := by rw [HBL.out]; exact x1
            obtain ⟨v', wD, hrun, ⟨va, vc, hvs⟩, hbD, hblkD, hszD, hkeepD, hboD⟩ := B5.out.grow 0 (by decide) bW2 (w5.heap.size + 1) cc o.B (by omega) (by rw [HBL.out]; exact hl0.1) x1' (by have := SL0.out; omega)
            obtain ⟨sl, hsl⟩ : ∃ sl, sl = (S 0).length + 1 := ⟨_, rfl⟩
            rw [← hsl] at hvs
            subst hvs
            rw [HBL.out] at hrun
            obtain ⟨W1, hW1⟩ : ∃ W1, W1 = w5.drew.alloc (.cells #[] 5) := ⟨_, rfl⟩
            obtain ⟨W3, hW3⟩ : ∃ W3, W3 = W2.alloc (.cells #[.slice (some ⟨w5.heap.size + 1, 0, none⟩) l' cc] 23) := ⟨_, rfl⟩
            have bW1 : Below w5.heap.size w5 W1 := hW1 ▸ (Below.refl w5.heap.size w5).drew.alloc (Nat.le_refl _) _
            have bW3 : Below w5.heap.size w5 W3 := bW2.trans (hW3 ▸ ((Below.refl W2.heap.size W2).alloc (Nat.le_refl _) _).mono bW2.size)
            rw [← hW3] at hrun
            have hpb5 := P5.out.lt
            have PD : Blk wD pb (oc (o, .slice (some ⟨ga, oa, none⟩) l' c')) 44 := (hkeepD pb (.inr ⟨hpb5, B5.out.cne pb CPB.out⟩) hpb5).trans P5.out
            have hsb5 := B5.out.blk.lt
            have Q := Lib.hid (show ∀ d w', At4 6 9 10 11 (fun w' => w' = w5.drew) (fun w' => w' = W1) (fun w' => w' = W2) (fun w' => w' = W3) (fun w' => w' = wD) d w' → w'.cell? ⟨pb, 1, none⟩ = some (.int .i64 0) ∧ w'.cell? ⟨pb, 2, none⟩ = some (.slice (some ⟨ga, oa, none⟩) l' c') ∧ w'.cell? ⟨sb, 0, none⟩ = some v0 from fun d w' h => by
              have key : Blk w' pb (oc (o, .slice (some ⟨ga, oa, none⟩) l' c')) 44 ∧ Blk w' sb [v0, v1] 38 := by
                rcases h.any with rfl | rfl | rfl | rfl | rfl
                · exact ⟨P5.out.drew, B5.out.blk.drew⟩
                · exact ⟨P5.out.below bW1 hpb5, B5.out.blk.below bW1 hsb5⟩
                · exact ⟨P5.out.below bW2 hpb5, B5.out.blk.below bW2 hsb5⟩
                · exact ⟨P5.out.below bW3 hpb5, B5.out.blk.below bW3 hsb5⟩
                · exact ⟨PD, hblkD⟩
              exact ⟨(key.1.cell 1).trans (by show some (Value.int .i64 o.n) = _; rw [hn0]), key.1.cell 2, key.2.cell 0⟩)
            have HRUN := Lib.hid hrun
            have HBOD := Lib.hid hboD
            have HW1 := Lib.hid hW1
            have HW2 := Lib.hid hW2
            have HW3 := Lib.hid hW3
            have HCC := Lib.hid hcc
            have X3 := Lib.hid x3
            have HB5 := Lib.hid bt5
            have r3 : wD.cell? ⟨sb, 0, none⟩ = some v0 := hblkD.cell 0
            have r4 : wD.frozen? ⟨sb, 0, none⟩ = false := hblkD.frozen 0
            have QD := Lib.hid r3
            have FD := Lib.hid r4
            clear hrun hboD hW1 hW2 hW3 r3 r4 hbD hblkD hsl hcc x1 x2 x3 x1' bW1 bW2 bW3 PD hkeepD hszD q0 q1 q2 q1' bt5 hpb5 hsb5
            refine wp_region_gate_tail (fun d w' => At4 6 9 10 11 (fun w' => w' = w5.drew) (fun w' => w' = W1) (fun w' => w' = W2) (fun w' => w' = W3) (fun w' => w' = wD) d w') 12 (by kernel_rfl) (by kernel_rfl) ?hI ?_
            case hI => exact At4.start (by rfl) (by rfl) (by rfl) (by rfl) rfl
            simp only [List.take_succ_cons, List.take_zero, List.drop_succ_cons, List.drop_zero]
            refine InvC.invc_value (.pointer (some ⟨pb, 1, none⟩)) (fun u hu => by cases hu) rfl (fun d w' _ _ h => by go_simp; all_goals rfl) (fun d w' _ _ h => At4.keep (by decide) (by decide) (by decide) (by decide) h) ?_
            simp only [Act.put, List.setIfInBounds_toArray, List.set_cons_zero, List.set_cons_succ]
            refine InvC.invc_value (.int .i64 0) (fun u hu => by cases hu) rfl (fun d w' _ _ h => by have q := (Q.out d w' h).1; go_simp) (fun d w' _ _ h => At4.keep (by decide) (by decide) (by decide) (by decide) h) ?_
            simp only [Act.put, List.setIfInBounds_toArray, List.set_cons_zero, List.set_cons_succ]
            refine InvC.invc_value (.pointer (some ⟨pb, 1, none⟩)) (fun u hu => by cases hu) rfl (fun d w' _ _ h => by go_simp; all_goals rfl) (fun d w' _ _ h => At4.keep (by decide) (by decide) (by decide) (by decide) h) ?_
            simp only [Act.put, List.setIfInBounds_toArray, List.set_cons_zero, List.set_cons_succ]
            refine InvC.invc_value (.int .i64 0) (fun u hu => by cases hu) rfl (fun d w' _ _ h => by have q := (Q.out d w' h).1; go_simp) (fun d w' _ _ h => At4.keep (by decide) (by decide) (by decide) (by decide) h) ?_
            simp only [Act.put, List.setIfInBounds_toArray, List.set_cons_zero, List.set_cons_succ]
            refine InvC.invc_value (.pointer (some ⟨sb, 0, none⟩)) (fun u hu => by cases hu) rfl (fun d w' _ _ h => by go_simp; all_goals rfl) (fun d w' _ _ h => At4.keep (by decide) (by decide) (by decide) (by decide) h) ?_
            simp only [Act.put, List.setIfInBounds_toArray, List.set_cons_zero, List.set_cons_succ]
            refine InvC.invc_value (v0) (fun u hu => by cases hu) rfl (fun d w' _ _ h => by have q := (Q.out d w' h).2.2; go_simp) (fun d w' _ _ h => At4.keep (by decide) (by decide) (by decide) (by decide) h) ?_
            simp only [Act.put, List.setIfInBounds_toArray, List.set_cons_zero, List.set_cons_succ]
            refine InvC.invc_world (.slice (some ⟨w5.heap.size, 0, none⟩) 0 0) (fun u hu => by cases hu) rfl (fun d w' hd hG h => ⟨W1, by
              have e := h.at_p hd
              subst e
              rw [HW1.out]
              go_simp, At4.did_p (by decide) (by decide) (by decide) hd h rfl⟩) ?_
            simp only [Act.put, List.setIfInBounds_toArray, List.set_cons_zero, List.set_cons_succ]
            refine InvC.invc_value (.pointer (some ⟨pb, 2, none⟩)) (fun u hu => by cases hu) rfl (fun d w' _ _ h => by go_simp; all_goals rfl) (fun d w' _ _ h => At4.keep (by decide) (by decide) (by decide) (by decide) h) ?_
            simp only [Act.put, List.setIfInBounds_toArray, List.set_cons_zero, List.set_cons_succ]
            refine InvC.invc_value (.slice (some ⟨ga, oa, none⟩) l' c') (fun u hu => by cases hu) rfl (fun d w' _ _ h => by have q := (Q.out d w' h).2.1; go_simp) (fun d w' _ _ h => At4.keep (by decide) (by decide) (by decide) (by decide) h) ?_
            simp only [Act.put, List.setIfInBounds_toArray, List.set_cons_zero, List.set_cons_succ]
            refine InvC.invc_world (.slice (some ⟨w5.heap.size + 1, 0, none⟩) l' cc) (fun u hu => by cases hu) rfl (fun d w' hd hG h => ⟨W2, by
              have e := h.at_q hd (hG.of (by kernel_rfl))
              subst e
              rw [HW1.out, HW2.out, HCC.out]
              exact exec_append_grow rfl rfl rfl HB5.out hl0.1 (by omega), At4.did_q (by decide) (by decide) (by decide) hd (hG.of (by kernel_rfl)) h rfl⟩) ?_
            simp only [Act.put, List.setIfInBounds_toArray, List.set_cons_zero, List.set_cons_succ]
            refine InvC.invc_world (.slice (some ⟨W2.heap.size, 0, none⟩) 1 1) (fun u hu => by cases hu) rfl (fun d w' hd hG h => ⟨W3, by
              have e := h.at_r hd (hG.of (by kernel_rfl))
              subst e
              rw [HW3.out]
              go_simp, At4.did_r (by decide) (by decide) (by decide) hd (hG.of (by kernel_rfl)) h rfl⟩) ?_
            simp only [Act.put, List.setIfInBounds_toArray, List.set_cons_zero, List.set_cons_succ]
            refine InvC.invc_world (.slice va sl vc) (fun u hu => by cases hu) rfl (fun d w' hd hG h => ⟨wD, by
              have e := h.at_s hd (hG.of (by kernel_rfl))
              subst e
              exact exec_append _ _ rfl rfl rfl HRUN.out, At4.did_s (by decide) (by decide) (by decide) hd (hG.of (by kernel_rfl)) h rfl⟩) ?_
            simp only [Act.put, List.setIfInBounds_toArray, List.set_cons_zero, List.set_cons_succ]
            refine InvC.invc_nil fun w8 hI => ?_
            have e6 := hI.done (by rfl)
            subst e6
            have q4 := QD.out
            have f4 := FD.out
            clear Q QD FD HRUN HW1 HW2 HW3 HCC X3 HB5
            go_wp2_with fail
            refine ⟨⟨kk + 1, k1, put2 S 0 o.B, _, _, _, by omega, by go_num, HBOD.out, OK3.out, by show (if (0 : Nat) = 0 then S 0 ++ [o.B] else S 0).length ≤ _; have := SL0.out; simp; try omega, by show (if (1 : Nat) = 0 then S 1 ++ [o.B] else S 1).length ≤ _; have := SL1.out; simp; try omega⟩, ?_⟩
            simp [intOf]; omega
          · -- a message of end 1
            have ok2 := OK.out.sends1 1 (by decide) o.B (by rw [HBL.out]; have := HE.out; rw [hn1] at this; exact this.symm) (by have := SL1.out; omega)
            have OK2 := Lib.hid ok2.1
            rw [hn1] at SD q1
            clear HE ok2
            go_upto_region 14 with (go_at_call 11; refine SD.out.mono ?_; rintro e w5 ⟨rfl, hl5, hs5⟩; have B5 := Lib.hid (BK.out.stay hl5 hs5); have P5 := Lib.hid (hs5.blk (.inr CPB.out) P6.out); have q1' : w5.cell? ⟨pb, 1, none⟩ = some (.int .i64 1) := (P5.out.cell 1).trans (by show some (Value.int .i64 o.n) = _; rw [hn1]); clear hl5 hs5 SD)
            obtain ⟨k1, hk1⟩ : ∃ k1, k1 = k.sends 1 o.B := ⟨_, rfl⟩
            rw [← hk1] at B5
            have OK3 := Lib.hid (show Ok k1 (put2 S 1 o.B) from hk1 ▸ OK2.out)
            clear hk1 OK2
            have bt5 : Bts w5.drew (some ⟨ga, oa, none⟩) l' c' o.B := HBT.out.below (B5.out.lf.below.trans ⟨rfl, rfl, rfl, Nat.le_refl _, fun _ _ => rfl⟩) (Nat.le_refl _)
            obtain ⟨x1, x2, x3⟩ := cloneW_is w5.drew l' o.B HBL.out (by omega)
            obtain ⟨W2, hW2⟩ : ∃ W2, W2 = cloneW w5.drew l' o.B := ⟨_, rfl⟩
            obtain ⟨cc, hcc⟩ : ∃ cc, cc = cloneC w5.drew l' := ⟨_, rfl⟩
            rw [← hW2, ← hcc] at x1
            rw [← hW2] at x2 x3
            have bW2 : Below w5.heap.size w5 W2 := (Below.refl w5.heap.size w5).drew.trans x2
            have x1' : Bts W2 (some ⟨w5.heap.size + 1, 0, none⟩) o.B.length cc o.B := by rw [HBL.out]; exact x1
            obtain ⟨v', wD, hrun, ⟨va, vc, hvs⟩, hbD, hblkD, hszD, hkeepD, hboD⟩ := B5.out.grow 1 (by decide) bW2 (w5.heap.size + 1) cc o.B (by omega) (by rw [HBL.out]; exact hl0.1) x1' (by have := SL1.out; omega)
            obtain ⟨sl, hsl⟩ : ∃ sl, sl = (S 1).length + 1 := ⟨_, rfl⟩
            rw [← hsl] at hvs
            subst hvs
            rw [HBL.out] at hrun
            obtain ⟨W1, hW1⟩ : ∃ W1, W1 = w5.drew.alloc (.cells #[] 5) := ⟨_, rfl⟩
            obtain ⟨W3, hW3⟩ : ∃ W3, W3 = W2.alloc (.cells #[.slice (some ⟨w5.heap.size + 1, 0, none⟩) l' cc] 23) := ⟨_, rfl⟩
            have bW1 : Below w5.heap.size w5 W1 := hW1 ▸ (Below.refl w5.heap.size w5).drew.alloc (Nat.le_refl _) _
            have bW3 : Below w5.heap.size w5 W3 := bW2.trans (hW3 ▸ ((Below.refl W2.heap.size W2).alloc (Nat.le_refl _) _).mono bW2.size)
            rw [← hW3] at hrun
            have hpb5 := P5.out.lt
            have PD : Blk wD pb (oc (o, .slice (some ⟨ga, oa, none⟩) l' c')) 44 := (hkeepD pb (.inr ⟨hpb5, B5.out.cne pb CPB.out⟩) hpb5).trans P5.out
            have hsb5 := B5.out.blk.lt
            have Q := Lib.hid (show ∀ d w', At4 6 9 10 11 (fun w' => w' = w5.drew) (fun w' => w' = W1) (fun w' => w' = W2) (fun w' => w' = W3) (fun w' => w' = wD) d w' → w'.cell? ⟨pb, 1, none⟩ = some (.int .i64 1) ∧ w'.cell? ⟨pb, 2, none⟩ = some (.slice (some ⟨ga, oa, none⟩) l' c') ∧ w'.cell? ⟨sb, 1, none⟩ = some v1 from fun d w' h => by
              have key : Blk w' pb (oc (o, .slice (some ⟨ga, oa, none⟩) l' c')) 44 ∧ Blk w' sb [v0, v1] 38 := by
                rcases h.any with rfl | rfl | rfl | rfl | rfl
                · exact ⟨P5.out.drew, B5.out.blk.drew⟩
                · exact ⟨P5.out.below bW1 hpb5, B5.out.blk.below bW1 hsb5⟩
                · exact ⟨P5.out.below bW2 hpb5, B5.out.blk.below bW2 hsb5⟩
                · exact ⟨P5.out.below bW3 hpb5, B5.out.blk.below bW3 hsb5⟩
                · exact ⟨PD, hblkD⟩
              exact ⟨(key.1.cell 1).trans (by show some (Value.int .i64 o.n) = _; rw [hn1]), key.1.cell 2, key.2.cell 1⟩)
            have HRUN := Lib.hid hrun
            have HBOD := Lib.hid hboD
            have HW1 := Lib.hid hW1
            have HW2 := Lib.hid hW2
            have HW3 := Lib.hid hW3
            have HCC := Lib.hid hcc
            have X3 := Lib.hid x3
            have HB5 := Lib.hid bt5
            have r3 : wD.cell? ⟨sb, 1, none⟩ = some v1 := hblkD.cell 1
            have r4 : wD.frozen? ⟨sb, 1, none⟩ = false := hblkD.frozen 1
            have QD := Lib.hid r3
            have FD := Lib.hid r4
            clear hrun hboD hW1 hW2 hW3 r3 r4 hbD hblkD hsl hcc x1 x2 x3 x1' bW1 bW2 bW3 PD hkeepD hszD q0 q1 q2 q1' bt5 hpb5 hsb5
            refine wp_region_gate_tail (fun d w' => At4 6 9 10 11 (fun w' => w' = w5.drew) (fun w' => w' = W1) (fun w' => w' = W2) (fun w' => w' = W3) (fun w' => w' = wD) d w') 12 (by kernel_rfl) (by kernel_rfl) ?hI ?_
            case hI => exact At4.start (by rfl) (by rfl) (by rfl) (by rfl) rfl
            simp only [List.take_succ_cons, List.take_zero, List.drop_succ_cons, List.drop_zero]
            refine InvC.invc_value (.pointer (some ⟨pb, 1, none⟩)) (fun u hu => by cases hu) rfl (fun d w' _ _ h => by go_simp; all_goals rfl) (fun d w' _ _ h => At4.keep (by decide) (by decide) (by decide) (by decide) h) ?_
            simp only [Act.put, List.setIfInBounds_toArray, List.set_cons_zero, List.set_cons_succ]
            refine InvC.invc_value (.int .i64 1) (fun u hu => by cases hu) rfl (fun d w' _ _ h => by have q := (Q.out d w' h).1; go_simp) (fun d w' _ _ h => At4.keep (by decide) (by decide) (by decide) (by decide) h) ?_
            simp only [Act.put, List.setIfInBounds_toArray, List.set_cons_zero, List.set_cons_succ]
            refine InvC.invc_value (.pointer (some ⟨pb, 1, none⟩)) (fun u hu => by cases hu) rfl (fun d w' _ _ h => by go_simp; all_goals rfl) (fun d w' _ _ h => At4.keep (by decide) (by decide) (by decide) (by decide) h) ?_
            simp only [Act.put, List.setIfInBounds_toArray, List.set_cons_zero, List.set_cons_succ]
            refine InvC.invc_value (.int .i64 1) (fun u hu => by cases hu) rfl (fun d w' _ _ h => by have q := (Q.out d w' h).1; go_simp) (fun d w' _ _ h => At4.keep (by decide) (by decide) (by decide) (by decide) h) ?_
            simp only [Act.put, List.setIfInBounds_toArray, List.set_cons_zero, List.set_cons_succ]
            refine InvC.invc_value (.pointer (some ⟨sb, 1, none⟩)) (fun u hu => by cases hu) rfl (fun d w' _ _ h => by go_simp; all_goals rfl) (fun d w' _ _ h => At4.keep (by decide) (by decide) (by decide) (by decide) h) ?_
            simp only [Act.put, List.setIfInBounds_toArray, List.set_cons_zero, List.set_cons_succ]
            refine InvC.invc_value (v1) (fun u hu => by cases hu) rfl (fun d w' _ _ h => by have q := (Q.out d w' h).2.2; go_simp) (fun d w' _ _ h => At4.keep (by decide) (by decide) (by decide) (by decide) h) ?_
            simp only [Act.put, List.setIfInBounds_toArray, List.set_cons_zero, List.set_cons_succ]
            refine InvC.invc_world (.slice (some ⟨w5.heap.size, 0, none⟩) 0 0) (fun u hu => by cases hu) rfl (fun d w' hd hG h => ⟨W1, by
              have e := h.at_p hd
              subst e
              rw [HW1.out]
              go_simp, At4.did_p (by decide) (by decide) (by decide) hd h rfl⟩) ?_
            simp only [Act.put, List.setIfInBounds_toArray, List.set_cons_zero, List.set_cons_succ]
            refine InvC.invc_value (.pointer (some ⟨pb, 2, none⟩)) (fun u hu => by cases hu) rfl (fun d w' _ _ h => by go_simp; all_goals rfl) (fun d w' _ _ h => At4.keep (by decide) (by decide) (by decide) (by decide) h) ?_
            simp only [Act.put, List.setIfInBounds_toArray, List.set_cons_zero, List.set_cons_succ]
            refine InvC.invc_value (.slice (some ⟨ga, oa, none⟩) l' c') (fun u hu => by cases hu) rfl (fun d w' _ _ h => by have q := (Q.out d w' h).2.1; go_simp) (fun d w' _ _ h => At4.keep (by decide) (by decide) (by decide) (by decide) h) ?_
            simp only [Act.put, List.setIfInBounds_toArray, List.set_cons_zero, List.set_cons_succ]
            refine InvC.invc_world (.slice (some ⟨w5.heap.size + 1, 0, none⟩) l' cc) (fun u hu => by cases hu) rfl (fun d w' hd hG h => ⟨W2, by
              have e := h.at_q hd (hG.of (by kernel_rfl))
              subst e
              rw [HW1.out, HW2.out, HCC.out]
              exact exec_append_grow rfl rfl rfl HB5.out hl0.1 (by omega), At4.did_q (by decide) (by decide) (by decide) hd (hG.of (by kernel_rfl)) h rfl⟩) ?_
            simp only [Act.put, List.setIfInBounds_toArray, List.set_cons_zero, List.set_cons_succ]
            refine InvC.invc_world (.slice (some ⟨W2.heap.size, 0, none⟩) 1 1) (fun u hu => by cases hu) rfl (fun d w' hd hG h => ⟨W3, by
              have e := h.at_r hd (hG.of (by kernel_rfl))
              subst e
              rw [HW3.out]
              go_simp, At4.did_r (by decide) (by decide) (by decide) hd (hG.of (by kernel_rfl)) h rfl⟩) ?_
            simp only [Act.put, List.setIfInBounds_toArray, List.set_cons_zero, List.set_cons_succ]
            refine InvC.invc_world (.slice va sl vc) (fun u hu => by cases hu) rfl (fun d w' hd hG h => ⟨wD, by
              have e := h.at_s hd (hG.of (by kernel_rfl))
              subst e
              exact exec_append _ _ rfl rfl rfl HRUN.out, At4.did_s (by decide) (by decide) (by decide) hd (hG.of (by kernel_rfl)) h rfl⟩) ?_
            simp only [Act.put, List.setIfInBounds_toArray, List.set_cons_zero, List.set_cons_succ]
            refine InvC.invc_nil fun w8 hI => ?_
            have e6 := hI.done (by rfl)
            subst e6
            have q4 := QD.out
            have f4 := FD.out
            clear Q QD FD HRUN HW1 HW2 HW3 HCC X3 HB5
            go_wp2_with fail
            refine ⟨⟨kk + 1, k1, put2 S 1 o.B, _, _, _, by omega, by go_num, HBOD.out, OK3.out, by show (if (0 : Nat) = 1 then S 0 ++ [o.B] else S 0).length ≤ _; have := SL0.out; simp; try omega, by show (if (1 : Nat) = 1 then S 1 ++ [o.B] else S 1).length ≤ _; have := SL1.out; simp; try omega⟩, ?_⟩
            simp [intOf]; omega
        · have hE1 : (E == 0) = false := by simp [hE0]
          go_wp2_with (go_at_call 11; refine SD.out.mono ?_; rintro e w5 ⟨rfl, hl5, hs5⟩; have L5 := Lib.hid hl5; have S5 := Lib.hid hs5; clear hl5 hs5 SD)
          have L6 := L5.out
          rw [sends_no (by rw [HBL.out, ← HE.out]; exact hE0)] at L6
          refine ⟨⟨kk + 1, k, S, v0, v1, C2, by omega, by go_num, BK.out.stay L6 S5.out, OK.out, by have := SL0.out; omega, by have := SL1.out; omega⟩, ?_⟩
          simp [intOf]; omega
      by_cases k3 : o.k = 3
      · rw [k3] at q0
        have DR := Lib.hid (lf_drop BK.out.lf o.n)
        have O2 := Lib.hid (show Ok (if k.inR o.n then k.less o.n.toNat else k) S from by split; exact OK.out.less _; exact OK.out)
        clear k1 k3
        go_wp2_with (go_at_call 20; refine DR.out.mono ?_; rintro e w5 ⟨rfl, hl5, hs5⟩; have L5 := Lib.hid (BK.out.stay hl5 hs5); clear hl5 hs5 DR)
        refine ⟨⟨kk + 1, _, S, v0, v1, C2, by omega, by go_num, L5.out, O2.out, by have := SL0.out; omega, by have := SL1.out; omega⟩, ?_⟩
        simp [intOf]; omega
      by_cases k4 : o.k = 4
      · rw [k4] at q0
        have DR := Lib.hid (lf_twin BK.out.lf o.n)
        have O2 := Lib.hid (show Ok (if k.inR o.n ∧ k.fl.length < 1024 then k.twin o.n.toNat else k) S from by
          split
          · rename_i x; exact OK.out.twin _ x.2
          · exact OK.out)
        clear k1 k3 k4
        go_wp2_with (go_at_call 22; refine DR.out.mono ?_; rintro e w5 ⟨rfl, hl5, hs5⟩; have L5 := Lib.hid (BK.out.stay hl5 hs5); clear hl5 hs5 DR)
        refine ⟨⟨kk + 1, _, S, v0, v1, C2, by omega, by go_num, L5.out, O2.out, by have := SL0.out; omega, by have := SL1.out; omega⟩, ?_⟩
        simp [intOf]; omega
      by_cases k5 : o.k = 5
      · rw [k5] at q0
        have DR := Lib.hid (lf_tick BK.out.lf OK.out.room OK.out.few)
        obtain ⟨tn, htn⟩ : ∃ tn, tn = k.tick.fl.length - k.fl.length := ⟨_, rfl⟩
        rw [← htn] at DR
        clear k1 k3 k4 k5 htn
        go_wp2_with (go_at_call 18; refine DR.out.mono ?_; rintro e w5 ⟨rfl, hl5, hs5⟩; have L5 := Lib.hid (BK.out.stay hl5 hs5); clear hl5 hs5 DR)
        refine ⟨⟨kk + 1, _, S, v0, v1, C2, by omega, by go_num, L5.out, OK.out.tick, by have := SL0.out; omega, by have := SL1.out; omega⟩, ?_⟩
        simp [intOf]; omega
      by_cases k27 : o.k = 2 ∨ o.k = 7
      · have FL := Lib.hid (lf_flight BK.out.lf OK.out.room)
        obtain ⟨fn, hfn⟩ : ∃ fn, fn = k.fl.length := ⟨_, rfl⟩
        rw [← hfn] at FL
        have HFN := Lib.hid hfn
        have hf1024 : fn ≤ 1024 := by rw [hfn]; exact OK.out.room
        clear hfn
        by_cases hf0 : 0 < fn
        · have hf0' : (0 : Int) < fn := by omega
          have hin := restI_in (n := o.n) (b := (fn : Int)) (by omega)
          obtain ⟨r, hr⟩ := Int.eq_ofNat_of_zero_le hin.1
          have hrl : r < k.fl.length := by have := HFN.out; omega
          have RS := Lib.hid (fun w' => rest_any o.n (fn : Int) hrg.2.1 hrg.2.2 (by omega) (by omega) w')
          rw [hr] at RS
          have DV := Lib.hid (show ∀ w', Bc w bl sb C2 k S v0 v1 w' → Calls Try.prog 15 #[.pointer (some ⟨bl, 0, none⟩), .int .i64 (r : Int)] w' fun e w'' => e = .returned (.int .i64 0) ∧ Bc w bl sb C2 (k.dels r) S v0 v1 w'' from fun w' h => (lf_deliver h.lf r hrl (fun p hp => (OK.out.fl p hp).1) GG.out).mono (by
            rintro e w'' ⟨rfl, hl, hs⟩
            exact ⟨rfl, h.stay hl hs⟩))
          clear hin hr hrl hrg k1 k3 k4 k5
          rcases k27 with k2 | k7
          · rw [k2] at q0
            go_wp2_with (first | (go_at_call 12; refine FL.out.mono ?_; rintro e w5 ⟨fa, fc, rfl, hl5, hb5⟩; have P7 := P6.out.below hb5 P6.out.lt; have q1' : w5.cell? ⟨pb, 1, none⟩ = some (.int .i64 o.n) := P7.cell 1; have DV1 := Lib.hid (DV.out _ (BK.out.below hb5)); have RS1 := Lib.hid (RS.out w5); clear hl5 hb5 P7 FL) | (go_at_call 21; refine RS1.out.mono ?_; intro e w' hh; have he := hh.1; have hw := hh.2; subst he; subst w'; clear hh) | (go_at_call 15; refine DV1.out.mono ?_; rintro e w6 ⟨rfl, hl6⟩; have L6 := Lib.hid hl6; clear hl6))
            refine ⟨⟨kk + 1, _, S, v0, v1, C2, by omega, by go_num, L6.out, OK.out.dels r, by have := SL0.out; omega, by have := SL1.out; omega⟩, ?_⟩
            simp [intOf]; omega
          · rw [k7] at q0
            go_wp2_with (first | (go_at_call 12; refine FL.out.mono ?_; rintro e w5 ⟨fa, fc, rfl, hl5, hb5⟩; have P7 := P6.out.below hb5 P6.out.lt; have q1' : w5.cell? ⟨pb, 1, none⟩ = some (.int .i64 o.n) := P7.cell 1; have DV1 := Lib.hid (DV.out _ (BK.out.below hb5)); have RS1 := Lib.hid (RS.out w5); clear hl5 hb5 P7 FL) | (go_at_call 21; refine RS1.out.mono ?_; intro e w' hh; have he := hh.1; have hw := hh.2; subst he; subst w'; clear hh) | (go_at_call 15; refine DV1.out.mono ?_; rintro e w6 ⟨rfl, hl6⟩; have L6 := Lib.hid hl6; clear hl6))
            refine ⟨⟨kk + 1, _, S, v0, v1, C2, by omega, by go_num, L6.out, OK.out.dels r, by have := SL0.out; omega, by have := SL1.out; omega⟩, ?_⟩
            simp [intOf]; omega
        · have hf0' : fn = 0 := by omega
          subst hf0'
          clear k1 k3 k4 k5
          rcases k27 with k2 | k7
          all_goals
            first | rw [k2] at q0 | rw [k7] at q0
            go_wp2_with (go_at_call 12; refine FL.out.mono ?_; rintro e w5 ⟨fa, fc, rfl, hl5, hb5⟩; have B5 := Lib.hid (BK.out.below hb5); clear hl5 hb5 FL)
            refine ⟨⟨kk + 1, k, S, v0, v1, C2, by omega, by go_num, B5.out, OK.out, by have := SL0.out; omega, by have := SL1.out; omega⟩, ?_⟩
            simp [intOf]; omega
      · have k2 : ¬ o.k = 2 := fun e => k27 (.inl e)
        have k7 : ¬ o.k = 7 := fun e => k27 (.inr e)
        clear k27
        go_wp2_with fail
        refine ⟨⟨kk + 1, k, S, v0, v1, C2, by omega, by go_num, BK.out, OK.out, by have := SL0.out; omega, by have := SL1.out; omega⟩, ?_⟩
        simp [intOf]; omega
    · obtain rfl : kk = n := by omega
      go_upto_region 26 with (fail)
      go_wp2_with fail
      refine wp_loop_rounds 3 ?_
      rw [rounds_succ]
      have g0 : (k.en 1).got = (S 0).take (k.en 1).come := OK.out.got 0 (by decide)
      have c0 : (k.en 1).come ≤ (S 0).length := OK.out.come 0 (by decide)
      have GT0 := Lib.hid (lf_got BO.out.lf 1 (by decide) (GG.out 1 (by decide)))
      rw [g0] at GT0
      obtain ⟨m0, hm0⟩ : ∃ m, m = (k.en 1).come := ⟨_, rfl⟩
      rw [← hm0] at GT0 c0
      clear g0 hm0
      go_upto_region 30 with (go_at_call 16; refine GT0.out.mono ?_; rintro e wg0 ⟨gv0, rfl, ht0, hl0, hb0⟩; have BO0 := Lib.hid (BO.out.below hb0); have HT0 := Lib.hid ht0; clear hl0 hb0 ht0 GT0)
      obtain ⟨ga0, gc0, e0, _⟩ := HT0.out
      rw [List.length_take, Nat.min_eq_left c0] at e0
      subst e0
      obtain ⟨op0, hop0⟩ : ∃ x, x = (k.en 0).op.length := ⟨_, rfl⟩
      have hop20 : op0 ≤ (S 0).length := by rw [hop0]; exact OK.out.opLe 0 (by decide)
      have OP0 := Lib.hid (show ∀ q : Nat, Calls Try.prog 14 #[.pointer (some ⟨bl, 0, none⟩), .int .i64 0] (wg0.drewN q) fun e w'' => e = .returned (.int .i64 (op0 : Int)) ∧ ∃ n, w'' = wg0.drewN n from fun q => (lf_open (BO0.out.below (w' := wg0.drewN q) ⟨rfl, rfl, rfl, Nat.le_refl _, fun _ _ => rfl⟩).lf 0 (by decide)).mono (by
        rintro e w'' ⟨rfl, rfl⟩
        exact ⟨by rw [hop0], q, rfl⟩))
      have TX0 := Lib.hid (BO0.out.r0.txt)
      have c00 : wg0.cell? ⟨sb, 0, none⟩ = some v0 := BO0.out.blk.cell 0
      obtain ⟨va0, N0, vc0, hv0, hN0, hvn0, hvc0, hfm0⟩ : ∃ va N vc, v0 = .slice va N vc ∧ N = (S 0).length ∧ N ≤ vc ∧ vc ≤ maxLen ∧ ((va = none ∧ N = 0 ∧ vc = 0) ∨ ∃ g, va = some ⟨g, 0, none⟩) := by
        rcases BO0.out.r0.form with ⟨e1, e2⟩ | ⟨g, cap, e1, e2, e3⟩
        · exact ⟨none, 0, 0, e1, by rw [e2]; rfl, Nat.le_refl _, by unfold maxLen; omega, .inl ⟨rfl, rfl, rfl⟩⟩
        · exact ⟨_, _, _, e1, rfl, e2, e3, .inr ⟨g, rfl⟩⟩
      have FM0 := Lib.hid hfm0
      have hmN0 : m0 ≤ N0 := by omega
      have hoN0 : op0 ≤ N0 := by omega
      rw [hv0] at TX0 c00
      have ST0 := Lib.hid (show ∀ q : Nat, Calls Try.prog 19 #[.slice ga0 m0 gc0, .slice va0 m0 vc0] (wg0.drewN q) fun e w'' => e = .returned (.bool true) ∧ ∃ n, w'' = wg0.drewN n from fun q => (texts_any (.slice ga0 m0 gc0) (.slice va0 m0 vc0) ((S 0).take m0) ((S 0).take m0) (wg0.drewN q) (HT0.out.drewN q) ((TX0.out.take c0).drewN q)).mono (by
        rintro e w'' ⟨rfl, nd, rfl⟩
        exact ⟨by rw [decide_eq_true rfl], q + nd, by rw [World.drewN_drewN]⟩))
      have hi10 : ¬ ((N0 : Int) < m0) := by omega
      have hi20 : ¬ ((N0 : Int) < op0) := by omega
      have hd10 : decide ((N0 : Int) < m0) = false := decide_eq_false hi10
      have hd20 : decide ((N0 : Int) < op0) = false := decide_eq_false hi20
      have hmc0 : m0 ≤ vc0 := by omega
      unfold maxLen at hvc0
      clear HT0 TX0 hop0 hop20 hv0 hN0 c0 hfm0
      rcases FM0.out with ⟨e1, e2, e3⟩ | ⟨gg0, e1⟩
      · clear FM0
        subst e1
        subst e2
        subst e3
        obtain rfl : m0 = 0 := by omega
        go_quiet (first | (go_at_call 19; exact ST0.out _) | (go_at_call 14; exact OP0.out _))
        have BO := Lib.hid (BO0.out.below (w' := wg0.drewN nq) ⟨rfl, rfl, rfl, Nat.le_refl _, fun _ _ => rfl⟩)
        clear BO0 ST0 OP0 hd10 hd20
        go_wp2_with fail
        rw [rounds_succ]
        have g1 : (k.en 0).got = (S 1).take (k.en 0).come := OK.out.got 1 (by decide)
        have c1 : (k.en 0).come ≤ (S 1).length := OK.out.come 1 (by decide)
        have GT1 := Lib.hid (lf_got BO.out.lf 0 (by decide) (GG.out 0 (by decide)))
        rw [g1] at GT1
        obtain ⟨m1, hm1⟩ : ∃ m, m = (k.en 0).come := ⟨_, rfl⟩
        rw [← hm1] at GT1 c1
        clear g1 hm1
        go_upto_region 30 with (go_at_call 16; refine GT1.out.mono ?_; rintro e wg1 ⟨gv1, rfl, ht1, hl1, hb1⟩; have BO1 := Lib.hid (BO.out.below hb1); have HT1 := Lib.hid ht1; clear hl1 hb1 ht1 GT1)
        obtain ⟨ga1, gc1, e1, _⟩ := HT1.out
        rw [List.length_take, Nat.min_eq_left c1] at e1
        subst e1
        obtain ⟨op1, hop1⟩ : ∃ x, x = (k.en 1).op.length := ⟨_, rfl⟩
        have hop21 : op1 ≤ (S 1).length := by rw [hop1]; exact OK.out.opLe 1 (by decide)
        have OP1 := Lib.hid (show ∀ q : Nat, Calls Try.prog 14 #[.pointer (some ⟨bl, 0, none⟩), .int .i64 1] (wg1.drewN q) fun e w'' => e = .returned (.int .i64 (op1 : Int)) ∧ ∃ n, w'' = wg1.drewN n from fun q => (lf_open (BO1.out.below (w' := wg1.drewN q) ⟨rfl, rfl, rfl, Nat.le_refl _, fun _ _ => rfl⟩).lf 1 (by decide)).mono (by
          rintro e w'' ⟨rfl, rfl⟩
          exact ⟨by rw [hop1], q, rfl⟩))
        have TX1 := Lib.hid (BO1.out.r1.txt)
        have c01 : wg1.cell? ⟨sb, 1, none⟩ = some v1 := BO1.out.blk.cell 1
        obtain ⟨va1, N1, vc1, hv1, hN1, hvn1, hvc1, hfm1⟩ : ∃ va N vc, v1 = .slice va N vc ∧ N = (S 1).length ∧ N ≤ vc ∧ vc ≤ maxLen ∧ ((va = none ∧ N = 0 ∧ vc = 0) ∨ ∃ g, va = some ⟨g, 0, none⟩) := by
          rcases BO1.out.r1.form with ⟨e1, e2⟩ | ⟨g, cap, e1, e2, e3⟩
          · exact ⟨none, 0, 0, e1, by rw [e2]; rfl, Nat.le_refl _, by unfold maxLen; omega, .inl ⟨rfl, rfl, rfl⟩⟩
          · exact ⟨_, _, _, e1, rfl, e2, e3, .inr ⟨g, rfl⟩⟩
        have FM1 := Lib.hid hfm1
        have hmN1 : m1 ≤ N1 := by omega
        have hoN1 : op1 ≤ N1 := by omega
        rw [hv1] at TX1 c01
        have ST1 := Lib.hid (show ∀ q : Nat, Calls Try.prog 19 #[.slice ga1 m1 gc1, .slice va1 m1 vc1] (wg1.drewN q) fun e w'' => e = .returned (.bool true) ∧ ∃ n, w'' = wg1.drewN n from fun q => (texts_any (.slice ga1 m1 gc1) (.slice va1 m1 vc1) ((S 1).take m1) ((S 1).take m1) (wg1.drewN q) (HT1.out.drewN q) ((TX1.out.take c1).drewN q)).mono (by
          rintro e w'' ⟨rfl, nd, rfl⟩
          exact ⟨by rw [decide_eq_true rfl], q + nd, by rw [World.drewN_drewN]⟩))
        have hi11 : ¬ ((N1 : Int) < m1) := by omega
        have hi21 : ¬ ((N1 : Int) < op1) := by omega
        have hd11 : decide ((N1 : Int) < m1) = false := decide_eq_false hi11
        have hd21 : decide ((N1 : Int) < op1) = false := decide_eq_false hi21
        have hmc1 : m1 ≤ vc1 := by omega
        unfold maxLen at hvc1
        clear HT1 TX1 hop1 hop21 hv1 hN1 c1 hfm1
        rcases FM1.out with ⟨e1, e2, e3⟩ | ⟨gg1, e1⟩
        · clear FM1
          subst e1
          subst e2
          subst e3
          obtain rfl : m1 = 0 := by omega
          go_quiet (first | (go_at_call 19; exact ST1.out _) | (go_at_call 14; exact OP1.out _))
          have BOZ := Lib.hid (BO1.out.below (w' := wg1.drewN nq) ⟨rfl, rfl, rfl, Nat.le_refl _, fun _ _ => rfl⟩)
          clear BO1 ST1 OP1 hd11 hd21
          go_wp2_with fail
          rw [rounds_succ]
          go_wp2_with fail
          go_ret
          exact ⟨rfl, BOZ.out.lf.below⟩
        · clear FM1
          subst e1
          go_quiet (first | (go_at_call 19; exact ST1.out _) | (go_at_call 14; exact OP1.out _))
          have BOZ := Lib.hid (BO1.out.below (w' := wg1.drewN nq) ⟨rfl, rfl, rfl, Nat.le_refl _, fun _ _ => rfl⟩)
          clear BO1 ST1 OP1 hd11 hd21
          go_wp2_with fail
          rw [rounds_succ]
          go_wp2_with fail
          go_ret
          exact ⟨rfl, BOZ.out.lf.below⟩
      · clear FM0
        subst e1
        go_quiet (first | (go_at_call 19; exact ST0.out _) | (go_at_call 14; exact OP0.out _))
        have BO := Lib.hid (BO0.out.below (w' := wg0.drewN nq) ⟨rfl, rfl, rfl, Nat.le_refl _, fun _ _ => rfl⟩)
        clear BO0 ST0 OP0 hd10 hd20
        go_wp2_with fail
        rw [rounds_succ]
        have g1 : (k.en 0).got = (S 1).take (k.en 0).come := OK.out.got 1 (by decide)
        have c1 : (k.en 0).come ≤ (S 1).length := OK.out.come 1 (by decide)
        have GT1 := Lib.hid (lf_got BO.out.lf 0 (by decide) (GG.out 0 (by decide)))
        rw [g1] at GT1
        obtain ⟨m1, hm1⟩ : ∃ m, m = (k.en 0).come := ⟨_, rfl⟩
        rw [← hm1] at GT1 c1
        clear g1 hm1
        go_upto_region 30 with (go_at_call 16; refine GT1.out.mono ?_; rintro e wg1 ⟨gv1, rfl, ht1, hl1, hb1⟩; have BO1 := Lib.hid (BO.out.below hb1); have HT1 := Lib.hid ht1; clear hl1 hb1 ht1 GT1)
        obtain ⟨ga1, gc1, e1, _⟩ := HT1.out
        rw [List.length_take, Nat.min_eq_left c1] at e1
        subst e1
        obtain ⟨op1, hop1⟩ : ∃ x, x = (k.en 1).op.length := ⟨_, rfl⟩
        have hop21 : op1 ≤ (S 1).length := by rw [hop1]; exact OK.out.opLe 1 (by decide)
        have OP1 := Lib.hid (show ∀ q : Nat, Calls Try.prog 14 #[.pointer (some ⟨bl, 0, none⟩), .int .i64 1] (wg1.drewN q) fun e w'' => e = .returned (.int .i64 (op1 : Int)) ∧ ∃ n, w'' = wg1.drewN n from fun q => (lf_open (BO1.out.below (w' := wg1.drewN q) ⟨rfl, rfl, rfl, Nat.le_refl _, fun _ _ => rfl⟩).lf 1 (by decide)).mono (by
          rintro e w'' ⟨rfl, rfl⟩
          exact ⟨by rw [hop1], q, rfl⟩))
        have TX1 := Lib.hid (BO1.out.r1.txt)
        have c01 : wg1.cell? ⟨sb, 1, none⟩ = some v1 := BO1.out.blk.cell 1
        obtain ⟨va1, N1, vc1, hv1, hN1, hvn1, hvc1, hfm1⟩ : ∃ va N vc, v1 = .slice va N vc ∧ N = (S 1).length ∧ N ≤ vc ∧ vc ≤ maxLen ∧ ((va = none ∧ N = 0 ∧ vc = 0) ∨ ∃ g, va = some ⟨g, 0, none⟩) := by
          rcases BO1.out.r1.form with ⟨e1, e2⟩ | ⟨g, cap, e1, e2, e3⟩
          · exact ⟨none, 0, 0, e1, by rw [e2]; rfl, Nat.le_refl _, by unfold maxLen; omega, .inl ⟨rfl, rfl, rfl⟩⟩
          · exact ⟨_, _, _, e1, rfl, e2, e3, .inr ⟨g, rfl⟩⟩
        have FM1 := Lib.hid hfm1
        have hmN1 : m1 ≤ N1 := by omega
        have hoN1 : op1 ≤ N1 := by omega
        rw [hv1] at TX1 c01
        have ST1 := Lib.hid (show ∀ q : Nat, Calls Try.prog 19 #[.slice ga1 m1 gc1, .slice va1 m1 vc1] (wg1.drewN q) fun e w'' => e = .returned (.bool true) ∧ ∃ n, w'' = wg1.drewN n from fun q => (texts_any (.slice ga1 m1 gc1) (.slice va1 m1 vc1) ((S 1).take m1) ((S 1).take m1) (wg1.drewN q) (HT1.out.drewN q) ((TX1.out.take c1).drewN q)).mono (by
          rintro e w'' ⟨rfl, nd, rfl⟩
          exact ⟨by rw [decide_eq_true rfl], q + nd, by rw [World.drewN_drewN]⟩))
        have hi11 : ¬ ((N1 : Int) < m1) := by omega
        have hi21 : ¬ ((N1 : Int) < op1) := by omega
        have hd11 : decide ((N1 : Int) < m1) = false := decide_eq_false hi11
        have hd21 : decide ((N1 : Int) < op1) = false := decide_eq_false hi21
        have hmc1 : m1 ≤ vc1 := by omega
        unfold maxLen at hvc1
        clear HT1 TX1 hop1 hop21 hv1 hN1 c1 hfm1
        rcases FM1.out with ⟨e1, e2, e3⟩ | ⟨gg1, e1⟩
        · clear FM1
          subst e1
          subst e2
          subst e3
          obtain rfl : m1 = 0 := by omega
          go_quiet (first | (go_at_call 19; exact ST1.out _) | (go_at_call 14; exact OP1.out _))
          have BOZ := Lib.hid (BO1.out.below (w' := wg1.drewN nq) ⟨rfl, rfl, rfl, Nat.le_refl _, fun _ _ => rfl⟩)
          clear BO1 ST1 OP1 hd11 hd21
          go_wp2_with fail
          rw [rounds_succ]
          go_wp2_with fail
          go_ret
          exact ⟨rfl, BOZ.out.lf.below⟩
        · clear FM1
          subst e1
          go_quiet (first | (go_at_call 19; exact ST1.out _) | (go_at_call 14; exact OP1.out _))
          have BOZ := Lib.hid (BO1.out.below (w' := wg1.drewN nq) ⟨rfl, rfl, rfl, Nat.le_refl _, fun _ _ => rfl⟩)
          clear BO1 ST1 OP1 hd11 hd21
          go_wp2_with fail
          rw [rounds_succ]
          go_wp2_with fail
          go_ret
          exact ⟨rfl, BOZ.out.lf.below⟩
end Go.Proofs.Ytfjaoompdleljaa.Link
