/-
  take and Drop of a link by contract. Helper text; no statement is proved here.
-/
import Derived.Test.YtfjaoompdleljaaLinkDel
set_option linter.unusedVariables false
set_option maxRecDepth 20000
set_option linter.unusedSimpArgs false
namespace Go.Proofs.Ytfjaoompdleljaa.Link
open Go.RowKit Go.Proofs.Ytfjaoompdleljaa.Base Go.Proofs.Ytfjaoompdleljaa.Laws Go.Proofs.Ytfjaoompdleljaa.Disk Go.Proofs.Ytfjaoompdleljaa.Row Go.Proofs.Ytfjaoompdleljaa.Flat Go.Proofs.Ytfjaoompdleljaa.InvM
theorem Goes.body {w w' : World} {bl : Nat} {V V' : Nat → Value} {A : List Nat} {k' : Lk} {y : Value} {B : List UInt8} (h : Goes w bl V A w' V' k') (hy : Body w (reach bl V ++ A) y B) : Body w' (reach bl V' ++ A) y B :=
  hy.move h.only (fun x hx => List.mem_append_left _ hx) (fun x hx => by
    rcases List.mem_append.1 hx with hx | hx
    · exact (h.kin.reach hx).imp (List.mem_append_left _) id
    · exact .inl (List.mem_append_right _ hx))
def Lk.less (k : Lk) (i : Nat) : Lk := { k with fl := k.fl.take i ++ k.fl.drop (i + 1) }
section
variable {w : World} {bl : Nat} {V : Nat → Value} {A : List Nat} {k : Lk}
/-- the packet at i leaves the list -/
theorem LinkAt.lessAt (h : LinkAt w bl V A k) (i : Nat) (hi : i < k.fl.length) : ∃ g cap y p, k.fl[i]? = some p ∧ V 4 = .slice (some ⟨g, 0, none⟩) k.fl.length cap ∧ Body w (reach bl V ++ A) y p.m.B ∧ (∀ j u, (pc (p, y))[j]? = some u → w.cell? ⟨g, i * 5 + j, none⟩ = some u) ∧ g ∈ reach bl V ∧ k.fl.length ≤ maxLen := by
  obtain ⟨ps, e, h1, h2⟩ := h.fl
  have hlen : ps.length = k.fl.length := by rw [← e]; simp
  obtain ⟨hl, h3⟩ := h1
  rcases h3 with ⟨e1, e2⟩ | ⟨g, cap, cur, e1, hb, hg, hnc, hcm, hsz, htk⟩
  · omega
  obtain ⟨q, hq⟩ : ∃ q, ps[i]? = some q := ⟨_, List.getElem?_eq_getElem (by omega)⟩
  refine ⟨g, cap, q.2, q.1, by rw [← e, List.getElem?_map, hq]; rfl, by rw [← hlen]; exact e1, h2 q (List.mem_of_getElem? hq), fun j u hu => ?_, mem_reach.2 (.inr ⟨4, by decide, by rw [e1]; rfl⟩), by omega⟩
  have hj : j < 5 := (List.getElem?_eq_some_iff.1 hu).1
  have := flat_get (m := 5) (f := pc) (fun x _ => rfl) hq hu
  rw [← htk, List.getElem?_take_of_lt (by omega)] at this
  rw [cell_of_row w g _ _ _ (0, 0) hg]
  simpa using this
theorem LinkAt.delete (h : LinkAt w bl V A k) (i n g cap : Nat) (hn : n = k.fl.length) (hi : i < n) (hv : V 4 = .slice (some ⟨g, 0, none⟩) n cap) :
    Calls Try.prog 42 #[.slice (some ⟨g, 0, none⟩) n cap, .int .i64 (i : Int), .int .i64 ((i + 1 : Nat) : Int)] w fun e w' => e = .returned (.slice (some ⟨g, 0, none⟩) (n - 1) cap) ∧ Goes w bl V A (w'.setCell ⟨bl, 9, none⟩ (.slice (some ⟨g, 0, none⟩) (n - 1) cap)) (upd V 4 (.slice (some ⟨g, 0, none⟩) (n - 1) cap)) (k.less i) ∧ w'.cell? ⟨bl, 9, none⟩ = some (.slice (some ⟨g, 0, none⟩) n cap) ∧ w'.frozen? ⟨bl, 9, none⟩ = false ∧ w.grownBy w' (some g) := by
  obtain ⟨ps, e, h1, h2⟩ := h.fl
  have hlen : ps.length = k.fl.length := by rw [← e]; simp
  rw [hv, show ps.length = n by omega] at h1
  refine (delete_one w (bl + 1) g cap ps n i (by omega) h1 hi (fun p hp => (h2 p hp).one)).mono ?_
  rintro e' w' ⟨rfl, ho, hg⟩
  have hob : (V 4).ownBlock = some g := by rw [hv]; rfl
  have hg' : w.grownBy w' (V 4).ownBlock := by rw [hob]; exact hg
  have hgr : g ∈ reach bl V := mem_reach.2 (.inr ⟨4, by decide, hob⟩)
  have hhead := h.head.grownO hg' (fun x hx => by have := h.row 4 (by decide) hx; omega)
  have hvb : (Value.slice (some ⟨g, 0, none⟩) (n - 1) cap).ownBlock = (V 4).ownBlock := by rw [hob]; rfl
  refine ⟨rfl, h.turned 4 (by decide) _ 9 (k.less i) hg' (.inl hvb) rfl (fun n hn _ => by rfl) (fun n hn _ => by rfl) (fun e => absurd rfl e) (fun n hn e => by omega) (fun n hn e => by omega) (fun _ => ?_), by rw [← hv]; exact hhead.cell 9, hhead.frozen 9, hg⟩
  refine ⟨ps.take i ++ ps.drop (i + 1), by rw [List.map_append, List.map_take, List.map_drop, e]; rfl, ?_, fun p hp => ?_⟩
  · have hl : (ps.take i ++ ps.drop (i + 1)).length = n - 1 := by rw [List.length_append, List.length_take, List.length_drop]; omega
    rw [hl]
    exact ho
  · have hp' : p ∈ ps := by
      rcases List.mem_append.1 hp with hp | hp
      · exact List.mem_of_mem_take hp
      · exact List.mem_of_mem_drop hp
    exact (h2 p hp').move (Only.of_grown hg) (fun x hx => List.mem_append_left _ ((List.mem_singleton.1 hx).symm ▸ hgr)) (reach_upd (by decide) (.inl hvb))
theorem take_ok (h : LinkAt w bl V A k) (i : Nat) (hi : i < k.fl.length) : Calls Try.prog 35 #[.pointer (some ⟨bl, 0, none⟩), .int .i64 (i : Int)] w fun e w' => ∃ p y V', k.fl[i]? = some p ∧ e = .returned (.tuple #[.agg (pc (p, y)).toArray, .bool true]) ∧ Goes w bl V A w' V' (k.less i) ∧ Body w' (reach bl V' ++ A) y p.m.B := by
  obtain ⟨g, cap, y, p, hp, hv4, hy, hcs, hgr, hml⟩ := h.lessAt i hi
  unfold maxLen at hml
  have hlt := h.head.lt
  have c9 : w.cell? ⟨bl, 9, none⟩ = some (V 4) := h.cell 9
  rw [hv4] at c9
  obtain ⟨n, hn⟩ : ∃ n, n = k.fl.length := ⟨_, rfl⟩
  rw [← hn] at c9 hi hv4 hml
  have H0 := Lib.hid h
  have HN := Lib.hid hn
  have HV4 := Lib.hid hv4
  have HY := Lib.hid hy
  have HCS := Lib.hid hcs
  obtain ⟨pv, hpv⟩ : ∃ pv, pv = pc (p, y) := ⟨_, rfl⟩
  have HPV := Lib.hid hpv
  have hil : (i : Int) < n := by omega
  have hgl := (h.reach_lt hgr).2
  clear h hn hv4 hy hcs hpv
  have Z := Lib.hid (blk_at (w := w) (g := w.heap.size) (cs := zpk) (t := 74) (arr := #[.int .i64 0, .int .u32 0, .int .u32 0, .int .u32 0, .slice none 0 0]) rfl rfl)
  go_enter Try.func35, Try.ntmps35
  go_upto_region 1 with (fail)
  obtain ⟨w1, hw1⟩ : ∃ w1, w1 = w.alloc (.cells #[.int .i64 0, .int .u32 0, .int .u32 0, .int .u32 0, .slice none 0 0] 74) := ⟨_, rfl⟩
  have L1 := Lib.hid (show Below w.heap.size w w1 from hw1 ▸ ((Below.refl w.heap.size w).alloc (Nat.le_refl _) _))
  have c9' : w1.cell? ⟨bl, 9, none⟩ = some (.slice (some ⟨g, 0, none⟩) n cap) := (Below.cell L1.out (p := ⟨bl, 9, none⟩) hlt).trans c9
  have hs1 : w.heap.size < w1.heap.size := by rw [hw1]; simp
  rw [← hw1] at Z ⊢
  clear hw1 c9
  go_upto_region 3 with (fail)
  have LD := Lib.hid (show ∀ j v, pv[j]? = some v → w1.cell? ((⟨g, i * 5, none⟩ : Addr).add j) = some v from fun j v hj => by
    rw [Addr.add_lit]
    exact (Below.cell L1.out (p := ⟨g, i * 5 + j, none⟩) hgl).trans (HCS.out j v (by rw [← HPV.out]; exact hj)))
  have P5 := Lib.hid (show pv.length = 5 by rw [HPV.out]; rfl)
  have P1 := Lib.hid (show ∀ u ∈ pv, u.oneCell' = true by rw [HPV.out]; exact pc_one HY.out.one)
  have Z2 := Lib.hid (blk_at (w := w1) (g := w1.heap.size) (cs := zpk) (t := 74) (arr := #[.int .i64 0, .int .u32 0, .int .u32 0, .int .u32 0, .slice none 0 0]) rfl rfl)
  go_upto_region 4 with (first | (refine wpList_value_g rfl (.agg pv.toArray) (exec_load_from rfl rfl LD.out Try.underlying74 rfl (by kernel_rfl) P5.out) ?_) | (refine wpList_store_blk rfl 74 _ _ rfl w1.heap.size 0 5 rfl 74 zpk pv rfl Z2.out (by kernel_rfl) P5.out (by decide) P1.out ?_; intro w3 z3 g3; have Z3 := Lib.hid z3; have G3 := Lib.hid g3; clear z3 g3))
  have hs3 : w1.heap.size < w3.heap.size := Z3.out.lt
  have B3 := Lib.hid (below_grown (L1.out.alloc (Nat.le_of_lt hs1) _) G3.out (by simp; omega) (Nat.le_of_lt hs1))
  have K3 := Lib.hid (H0.out.move (T := []) (A' := w.heap.size :: A) (Only.of_below B3.out) (by simp) (by simp) (fun x hx => by
    have := B3.out.size
    rcases List.mem_cons.1 hx with rfl | hx
    · exact ⟨.inr (Nat.le_refl _), by omega⟩
    · exact ⟨.inl hx, Nat.lt_of_lt_of_le (H0.out.out x hx) this⟩))
  have ZR := Lib.hid (show Blk w3 w.heap.size zpk 74 from (Z.out.alloc _).grown G3.out (by omega))
  have DL := Lib.hid (K3.out.delete i n g cap HN.out hi HV4.out)
  obtain ⟨t6, ht6⟩ : ∃ t6, t6 = w1.heap.size := ⟨_, rfl⟩
  obtain ⟨t4, ht4⟩ : ∃ t4, t4 = w.heap.size := ⟨_, rfl⟩
  have HT4 := Lib.hid ht4
  rw [← ht6] at Z3 hs1 hs3 ⊢
  rw [← ht4] at ZR hs1 ⊢
  have c93 : w3.cell? ⟨bl, 9, none⟩ = some (.slice (some ⟨g, 0, none⟩) n cap) := by rw [← HV4.out]; exact K3.out.cell 9
  have P6 := Lib.hid (show Blk w3 t6 pv 74 from by have := Z3.out; rwa [put_all _ _ (by rw [P5.out]; rfl)] at this)
  have hgg : g < t4 := by omega
  have hbb : bl < t4 := by omega
  have hs4 : t4 < w3.heap.size := ZR.out.lt
  clear G3 Z3 LD Z Z2 c9' L1 HCS ht6 ht4
  have ei : ((i : Int) + 1) = ((i + 1 : Nat) : Int) := by omega
  obtain ⟨j, hj⟩ : ∃ j, j = i + 1 := ⟨_, rfl⟩
  have jb : (j : Int) ≤ 9223372036854775807 := by omega
  rw [← hj] at DL ei
  clear hj
  go_wp2_with fail
  refine DL.out.mono ?_
  rintro e w4 ⟨rfl, hG, hc4, hf4, hg4⟩
  have HG := Lib.hid hG
  have Z4 := Lib.hid ((ZR.out.grown hg4 (by simp; omega)).setCell_far (show t4 ≠ bl by omega) 9 (.slice (some ⟨g, 0, none⟩) (n - 1) cap))
  have P4 := Lib.hid ((P6.out.grown hg4 (by simp; omega)).setCell_far (show t6 ≠ bl by omega) 9 (.slice (some ⟨g, 0, none⟩) (n - 1) cap))
  clear hG hg4 DL
  go_upto_region 5 with (fail)
  obtain ⟨w5, hw5⟩ : ∃ w5, w5 = w4.setCell ⟨bl, 9, none⟩ (.slice (some ⟨g, 0, none⟩) (n - 1) cap) := ⟨_, rfl⟩
  rw [← hw5] at HG Z4 P4 ⊢
  clear hw5 hc4 hf4
  go_wp2_with (first | (refine wpList_value_g rfl (.agg pv.toArray) (exec_load (cs := pv) (t := 74) rfl rfl P4.out Try.underlying74 rfl (by kernel_rfl) P5.out) ?_) | (refine wpList_store_blk rfl 74 _ _ rfl t4 0 5 rfl 74 zpk pv rfl Z4.out (by kernel_rfl) P5.out (by decide) P1.out ?_; intro w6 z6 g6; have Z6 := Lib.hid (show Blk w6 t4 pv 74 by (rw [put_all _ _ (by rw [P5.out]; rfl)] at z6; exact z6)); have G6 := Lib.hid g6; clear z6 g6))
  have hGoes : Goes w bl V A w6 (upd V 4 (.slice (some ⟨g, 0, none⟩) (n - 1) cap)) (k.less i) := by
    have hG := HG.out
    have ht : t4 ∉ reach bl (upd V 4 (.slice (some ⟨g, 0, none⟩) (n - 1) cap)) := fun hx => by
      rcases hG.kin.reach hx with e | e
      · have := H0.out.reach_lt e; have := HT4.out; omega
      · omega
    have ho : Only [t4] w5 w6 := Only.of_grown G6.out
    refine ⟨hG.at_.move ho (by rw [← HT4.out]; simp) (by simpa using ht) (fun x hx => ⟨.inl (by simp [hx]), Nat.lt_of_lt_of_le (hG.at_.out x (by simp [hx])) ho.size⟩), ?_, fun i hi g hg => ?_⟩
    · refine ⟨ho.os.trans (hG.only.os.trans B3.out.os), ho.tape.trans (hG.only.tape.trans B3.out.tape), ho.output.trans (hG.only.output.trans B3.out.output), Nat.le_trans B3.out.size (Nat.le_trans hG.only.size ho.size), fun x hx hn => ?_⟩
      have := HT4.out
      have h3 := B3.out.size
      have h4 := hG.only.size
      exact (ho.block x (by omega) (by simp; omega)).trans ((hG.only.block x (by omega) hn).trans (B3.out.block x hx))
    · rcases hG.kin i hi g hg with e | e
      · exact .inl e
      · exact .inr (by have := B3.out.size; omega)
  have hY : Body w6 (reach bl (upd V 4 (.slice (some ⟨g, 0, none⟩) (n - 1) cap)) ++ A) y p.m.B := hGoes.body HY.out
  exact bodyPost_ret (v := .tuple #[.agg pv.toArray, .bool true]) (results_cell_two rfl _ _ t4 74 _ (0, 0) _ _ rfl rfl Z6.out Try.underlying74 rfl (by rw [List.size_toArray, P5.out]; kernel_rfl)) rfl ⟨p, y, _, hp, by rw [HPV.out], hGoes, hY⟩
end
end Go.Proofs.Ytfjaoompdleljaa.Link
