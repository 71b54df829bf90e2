/-
  Two rows of copies of what was sent, beside a link. Helper text; no statement is proved here.
-/
import Derived.Test.YtfjaoompdleljaaBo
set_option linter.unusedVariables false
set_option maxRecDepth 20000
set_option linter.unusedSimpArgs false
namespace Go.Proofs.Ytfjaoompdleljaa.Link
open Go.RowKit Go.Proofs.Ytfjaoompdleljaa.Base Go.Proofs.Ytfjaoompdleljaa.Laws Go.Proofs.Ytfjaoompdleljaa.Disk Go.Proofs.Ytfjaoompdleljaa.Row Go.Proofs.Ytfjaoompdleljaa.Flat Go.Proofs.Ytfjaoompdleljaa.InvM Go.Proofs.Ytfjaoompdleljaa.Inv Go.Proofs.Ytfjaoompdleljaa.InvL Go.Proofs.Ytfjaoompdleljaa.InvC Go.Proofs.Ytfjaoompdleljaa.InvG
/-- A, then B behind p, C behind q, D behind r, E behind s -/
def At4 (p q r s : Nat) (A B C D E : World → Prop) (d : Array Bool) (w : World) : Prop := if d.getD s false = true then d.getD r false = true ∧ d.getD q false = true ∧ d.getD p false = true ∧ E w else At3 p q r A B C D d w
section
variable {p q r s i : Nat} {A B C D E : World → Prop} {d : Array Bool} {w w' : World}
theorem At4.keep (h1 : i ≠ p) (h2 : i ≠ q) (h3 : i ≠ r) (h4 : i ≠ s) (h : At4 p q r s A B C D E d w) : At4 p q r s A B C D E (d.setIfInBounds i true) w := by
  unfold At4 at *
  rw [getD_set_ne false h4]
  split at h
  · rename_i e
    rw [if_pos e, getD_set_ne false h1, getD_set_ne false h2, getD_set_ne false h3]
    exact h
  · rename_i e
    rw [if_neg e]
    exact At3.keep h1 h2 h3 h
theorem At4.start (h1 : d.getD p false = false) (h2 : d.getD q false = false) (h3 : d.getD r false = false) (h4 : d.getD s false = false) (h : A w) : At4 p q r s A B C D E d w := by
  unfold At4
  rw [if_neg (by rw [h4]; simp)]
  exact At3.start h1 h2 h3 h
theorem At4.three (hd : d.getD p true = false ∨ d.getD q true = false ∨ d.getD r true = false ∨ d.getD s true = false) (h : At4 p q r s A B C D E d w) : At3 p q r A B C D d w ∧ d.getD s false = false := by
  unfold At4 at h
  split at h
  · rcases hd with hd | hd | hd | hd <;> have := getD_true_of hd
    · rw [this] at h; simp at h
    · rw [this] at h; simp at h
    · rw [this] at h; simp at h
    · rename_i e; rw [this] at e; cases e
  · rename_i e
    exact ⟨h, by simpa using e⟩
theorem At4.at_p (hd : d.getD p true = false) (h : At4 p q r s A B C D E d w) : A w := (h.three (.inl hd)).1.at_p hd
theorem At4.did_p (hpq : p ≠ q) (hpr : p ≠ r) (hps : p ≠ s) (hd : d.getD p true = false) (h : At4 p q r s A B C D E d w) (h' : B w') : At4 p q r s A B C D E (d.setIfInBounds p true) w' := by
  obtain ⟨h2, h3⟩ := h.three (.inl hd)
  unfold At4
  rw [getD_set_ne false hps, if_neg (by rw [h3]; simp)]
  exact h2.did_p hpq hpr hd h'
theorem At4.at_q (hd : d.getD q true = false) (hp : d.getD p false = true) (h : At4 p q r s A B C D E d w) : B w := (h.three (.inr (.inl hd))).1.at_q hd hp
theorem At4.did_q (hpq : p ≠ q) (hqr : q ≠ r) (hqs : q ≠ s) (hd : d.getD q true = false) (hp : d.getD p false = true) (h : At4 p q r s A B C D E d w) (h' : C w') : At4 p q r s A B C D E (d.setIfInBounds q true) w' := by
  obtain ⟨h2, h3⟩ := h.three (.inr (.inl hd))
  unfold At4
  rw [getD_set_ne false hqs, if_neg (by rw [h3]; simp)]
  exact At3.did_q hpq hqr hd hp h2 h'
theorem At4.at_r (hd : d.getD r true = false) (hq : d.getD q false = true) (h : At4 p q r s A B C D E d w) : C w := (h.three (.inr (.inr (.inl hd)))).1.at_r hd hq
theorem At4.did_r (hpr : p ≠ r) (hqr : q ≠ r) (hrs : r ≠ s) (hd : d.getD r true = false) (hq : d.getD q false = true) (h : At4 p q r s A B C D E d w) (h' : D w') : At4 p q r s A B C D E (d.setIfInBounds r true) w' := by
  obtain ⟨h2, h3⟩ := h.three (.inr (.inr (.inl hd)))
  unfold At4
  rw [getD_set_ne false hrs, if_neg (by rw [h3]; simp)]
  exact At3.did_r hpr hqr hd hq h2 h'
theorem At4.at_s (hd : d.getD s true = false) (hr : d.getD r false = true) (h : At4 p q r s A B C D E d w) : D w := (h.three (.inr (.inr (.inr hd)))).1.done hr
theorem At4.did_s (hps : p ≠ s) (hqs : q ≠ s) (hrs : r ≠ s) (hd : d.getD s true = false) (hr : d.getD r false = true) (h : At4 p q r s A B C D E d w) (h' : E w') : At4 p q r s A B C D E (d.setIfInBounds s true) w' := by
  have h2 := (h.three (.inr (.inr (.inr hd)))).1
  unfold At3 at h2
  rw [if_pos hr] at h2
  unfold At4
  rw [InvG.now hd, if_pos rfl, getD_set_ne false (Ne.symm hps), getD_set_ne false (Ne.symm hqs), getD_set_ne false (Ne.symm hrs)]
  exact ⟨hr, h2.1, h2.2.1, h'⟩
theorem At4.done (hd : d.getD s false = true) (h : At4 p q r s A B C D E d w) : E w := by
  unfold At4 at h
  rw [if_pos hd] at h
  exact h.2.2.2
theorem At4.any (h : At4 p q r s A B C D E d w) : A w ∨ B w ∨ C w ∨ D w ∨ E w := by
  unfold At4 at h
  split at h
  · exact .inr (.inr (.inr (.inr h.2.2.2)))
  · rcases h.any with h | h | h | h
    · exact .inl h
    · exact .inr (.inl h)
    · exact .inr (.inr (.inl h))
    · exact .inr (.inr (.inr (.inl h)))
end
/-- bytes appended to a new empty slice, told exactly -/
theorem exec_append_grow {ρ : Operand → Value} {w : World} {o : Oper} {s x : Operand} (ho : o.op = .call { callee := .builtin .append, args := #[s, x], argTypes := #[23, 23] }) {g : Nat} (hs : ρ s = .slice (some ⟨g, 0, none⟩) 0 0) {ad : Addr} {n c : Nat} {l : List UInt8} (hx : ρ x = .slice (some ad) n c) (hb : Bts w (some ad) n c l) (hn0 : 0 < n) (hn : n ≤ 140737488355328) :
    (execOp ρ o).run Try.prog (w.alloc (.cells #[] 5)) = .ok (.value (.slice (some ⟨w.heap.size + 1, 0, none⟩) n (cloneC w n))) (cloneW w n l) := by
  obtain ⟨i, hi, hz, hsize, hby⟩ := info_parts OwnB.infou8
  obtain ⟨hl, h1, h2⟩ := OwnB.src_bts (Codec.bts_alloc hb (.cells #[] 5))
  rcases h2 with h2 | ⟨ad', e, hc⟩
  · omega
  obtain rfl := Option.some.inj e
  have hr := run_append_grow (P := Try.prog) (w.alloc (.cells #[] 5)) 23 o.type 5 i (.int .u8 0) Try.underlying23 hi hz ⟨g, 0, none⟩ 0 0 [] (by simp) (fun j u hu => by simp at hu) ad n c (bv l) (by rw [hl, hsize]) hc (by omega) (by omega) (by rw [hby]; exact growslice_fits (by omega) (by omega))
  unfold execOp
  simp only [ho, resolve, invoke, builtin, Sem.run_bind, Sem.run_pure, Result.andThen_ok, List.map_toArray, List.map_cons, List.map_nil, hs, hx, hr]
  simp only [Nat.zero_add, size_alloc]
  have e1 : cloneC w n = grownCap (w.alloc (.cells #[] 5)) n 0 5 := rfl
  have e2 : cloneW w n l = (w.alloc (.cells #[] 5)).drew.alloc (.cells (#[] ++ (bv l).toArray ++ Builtin.zeroCells (Value.int .u8 0).cells (grownCap (w.alloc (.cells #[] 5)) n 0 5 - n)) 5) := by
    simp only [cloneW, Array.empty_append]
    rfl
  rw [e1, e2]
/-- a row of the caller's: slices of copies that he keeps -/
def Rwc (C : Nat → Prop) (base : Nat) (w : World) (v : Value) (L : List (List UInt8)) : Prop := ∃ vals : List Value, w.ownsRow base 23 1 v L.length vals ∧ ∀ (i : Nat) (B : List UInt8), L[i]? = some B → ∃ (g o c : Nat), vals[i]? = some (Value.slice (some ⟨g, o, none⟩) B.length c) ∧ C g ∧ 0 < B.length ∧ Bts w (some ⟨g, o, none⟩) B.length c B
section
variable {C C' R : Nat → Prop} {base : Nat} {w w' : World} {v : Value} {L : List (List UInt8)}
theorem Rwc.nil : Rwc C base w (.slice none 0 0) [] := ⟨[], ⟨rfl, .inl ⟨rfl, rfl⟩⟩, fun i B hB => by simp at hB⟩
theorem bts_stay {g o n c : Nat} {B : List UInt8} (h : Bts w (some ⟨g, o, none⟩) n c B) (hg : w'.heap[g]? = w.heap[g]?) : Bts w' (some ⟨g, o, none⟩) n c B := by
  obtain ⟨h1, h2, h3, h4⟩ := h
  refine ⟨h1, h2, h3, ?_⟩
  rcases h4 with h4 | ⟨b, q, e, hc⟩
  · exact .inl h4
  · cases e
    exact .inr ⟨_, _, rfl, fun i u hu => (World.cell?_of_block (w := w) hg).trans (hc i u hu)⟩
theorem Rwc.stay (h : Rwc C base w v L) (hs : Stay R w w') (hv : ∀ g, v.ownBlock = some g → R g) (hC : ∀ g, C g → R g ∧ C' g) : Rwc C' base w' v L := by
  obtain ⟨vals, ⟨hl, h1⟩, h2⟩ := h
  refine ⟨vals, ⟨hl, ?_⟩, fun i B hB => ?_⟩
  · rcases h1 with h1 | ⟨g, cap, cur, rfl, hb, hg, h3⟩
    · exact .inl h1
    · exact .inr ⟨g, cap, cur, rfl, hb, (hs g (hv g rfl)).trans hg, h3⟩
  · obtain ⟨g, o, c, e1, e2, e3, e4⟩ := h2 i B hB
    exact ⟨g, o, c, e1, (hC g e2).2, e3, bts_stay e4 (hs g (hC g e2).1)⟩
theorem Rwc.lt (h : Rwc C base w v L) {g : Nat} (hg : v.ownBlock = some g) : base ≤ g ∧ g < w.heap.size := by
  obtain ⟨vals, h1, _⟩ := h
  exact own_lt h1 hg
theorem Rwc.txt (h : Rwc C base w v L) : Txt w v L := by
  obtain ⟨vals, ⟨hl, h1⟩, h2⟩ := h
  rcases h1 with ⟨rfl, e⟩ | ⟨g, cap, cur, rfl, hbs, hg, hnc, hcm, hsz, htk⟩
  · have : L = [] := List.eq_nil_of_length_eq_zero e
    subst this
    exact ⟨none, 0, rfl, by unfold maxLen; simp, by simp, fun i B hB => by simp at hB⟩
  · refine ⟨some ⟨g, 0, none⟩, cap, rfl, by omega, hnc, fun i B hB => ?_⟩
    obtain ⟨g', o, c, e1, e2, e3, e4⟩ := h2 i B hB
    refine ⟨g, some ⟨g', o, none⟩, c, rfl, ?_, e4⟩
    have hi := (List.getElem?_eq_some_iff.1 hB).1
    rw [← htk, List.getElem?_take_of_lt (by omega)] at e1
    rw [cell_of_row w g _ _ _ (0, 0) hg]
    simpa using e1
theorem Rwc.append (h : Rwc C base w v L) (cb c : Nat) (B : List UInt8) (hB : Bts w (some ⟨cb, 0, none⟩) B.length c B) (hB0 : 0 < B.length) (hcb : C cb) (hCv : ∀ g, C g → v.ownBlock ≠ some g ∧ g < w.heap.size) {g : Nat} (hz : Blk w g [.slice (some ⟨cb, 0, none⟩) B.length c] 23) (hl : (L.length + 1) * 24 ≤ 140737488355328) (hbase : base ≤ w.heap.size) :
    ∃ v' w', (Builtin.append_ #[22, 22] 22 #[v, .slice (some ⟨g, 0, none⟩) 1 1]).run Try.prog w = .ok v' w' ∧ Rwc C base w' v' (L ++ [B]) ∧ w.grownBy w' v.ownBlock ∧ (v'.ownBlock = v.ownBlock ∨ v'.ownBlock = some w.heap.size) ∧ (∃ a' c', v' = .slice a' (L.length + 1) c') := by
  obtain ⟨vals, h1, h2⟩ := h
  have hlv : vals.length = L.length := by have := h1.1; omega
  obtain ⟨v', w', hr, ho, hg, hv'⟩ := run_append_any_at (P := Try.prog) w base 22 22 23 (.slice none 0 0) 1 24 Try.underlying22 info_bs rfl (by decide) v L.length vals h1 (some ⟨g, 0, none⟩) 1 1 [.slice (some ⟨cb, 0, none⟩) B.length c] (src_blk hz rfl (by intro u hu; simp at hu; subst hu; rfl)) hl (by unfold maxLen; omega) hbase
  obtain ⟨a', c', e, _⟩ := own_slice ho (by decide)
  have hst : ∀ x, C x → w'.heap[x]? = w.heap[x]? := fun x hx => hg.block x (hCv x hx).2 (fun e => (hCv x hx).1 e.symm)
  refine ⟨v', w', hr, ⟨vals ++ [.slice (some ⟨cb, 0, none⟩) B.length c], by rw [List.length_append]; exact ho, fun i D hD => ?_⟩, hg, hv', a', c', e⟩
  by_cases hi : i < L.length
  · rw [List.getElem?_append_left hi] at hD
    obtain ⟨g1, o1, c1, e1, e2, e3, e4⟩ := h2 i D hD
    exact ⟨g1, o1, c1, by rw [List.getElem?_append_left (by omega)]; exact e1, e2, e3, bts_stay e4 (hst g1 e2)⟩
  · have hi' := (List.getElem?_eq_some_iff.1 hD).1
    rw [List.length_append] at hi'
    simp at hi'
    obtain rfl : i = L.length := by omega
    rw [List.getElem?_append_right (Nat.le_refl _)] at hD
    simp at hD
    subst hD
    exact ⟨cb, 0, c, by rw [List.getElem?_append_right (by omega), hlv]; simp, hcb, hB0, bts_stay hB (hst cb hcb)⟩
end
/-- the caller's blocks: two rows of copies -/
structure Bc (w0 : World) (bl sb : Nat) (C : Nat → Prop) (k : Lk) (S : Nat → List (List UInt8)) (v0 v1 : Value) (w : World) : Prop where
  lf : Lf w0 bl (A01 sb v0 v1) (fun x => x ∈ A01 sb v0 v1 ∨ C x) k w
  blk : Blk w sb [v0, v1] 38
  r0 : Rwc C (sb + 1) w v0 (S 0)
  r1 : Rwc C (sb + 1) w v1 (S 1)
  ne : ∀ g, v0.ownBlock = some g → v1.ownBlock ≠ some g
  cne : ∀ g, C g → g ∉ A01 sb v0 v1
section
variable {w0 w w' : World} {bl sb : Nat} {C : Nat → Prop} {k k' : Lk} {S : Nat → List (List UInt8)} {v0 v1 : Value}
theorem Bc.stay (h : Bc w0 bl sb C k S v0 v1 w) (hl : Lf w0 bl (A01 sb v0 v1) (fun x => x ∈ A01 sb v0 v1 ∨ C x) k' w') (hs : Stay (fun x => x ∈ A01 sb v0 v1 ∨ C x) w w') : Bc w0 bl sb C k' S v0 v1 w' :=
  ⟨hl, hs.blk (.inl (mem_A01.2 (.inl rfl))) h.blk, h.r0.stay hs (fun g hg => .inl (mem_A01.2 (.inr (.inl hg)))) (fun g hg => ⟨.inr hg, hg⟩), h.r1.stay hs (fun g hg => .inl (mem_A01.2 (.inr (.inr hg)))) (fun g hg => ⟨.inr hg, hg⟩), h.ne, h.cne⟩
theorem Bc.below (h : Bc w0 bl sb C k S v0 v1 w) (hb : Below w.heap.size w w') : Bc w0 bl sb C k S v0 v1 w' :=
  h.stay (h.lf.news hb (fun x hx => ⟨.inl hx, Nat.lt_of_lt_of_le (h.lf.lt hx) hb.size⟩) (fun x hx => ⟨.inl hx, .inl hx⟩)) (fun x hx => hb.block x (h.lf.lt hx))
/-- a copy stands in a new block; the row grows -/
theorem Bc.grow (h : Bc w0 bl sb C k S v0 v1 w) (j : Nat) (hj : j < 2) {w2 : World} (hb2 : Below w.heap.size w w2) (cb c : Nat) (B : List UInt8) (hcb : w.heap.size ≤ cb) (hB0 : 0 < B.length) (hB : Bts w2 (some ⟨cb, 0, none⟩) B.length c B) (hl : ((S j).length + 1) * 24 ≤ 140737488355328) :
    ∃ v' wD, (Builtin.append_ #[22, 22] 22 #[if j = 0 then v0 else v1, .slice (some ⟨w2.heap.size, 0, none⟩) 1 1]).run Try.prog (w2.alloc (.cells #[.slice (some ⟨cb, 0, none⟩) B.length c] 23)) = .ok v' wD ∧ (∃ a' c', v' = .slice a' ((S j).length + 1) c') ∧ Below w0.heap.size w0 wD ∧ Blk wD sb [v0, v1] 38 ∧
      w2.heap.size < wD.heap.size ∧ (∀ x, w2.heap.size ≤ x ∨ x < w.heap.size ∧ (x ∉ A01 sb v0 v1) → x < w.heap.size → wD.heap[x]? = w.heap[x]?) ∧
      Bc w0 bl sb (fun x => C x ∨ x = cb) k (put2 S j B) (if j = 0 then v' else v0) (if j = 0 then v1 else v') (wD.setCell ⟨sb, j, none⟩ v') := by
  obtain ⟨wC, hwC⟩ : ∃ wC, wC = w2.alloc (.cells #[.slice (some ⟨cb, 0, none⟩) B.length c] 23) := ⟨_, rfl⟩
  have hcb2 : cb < w2.heap.size := bts_block hB hB0
  have bC' : Below w2.heap.size w2 wC := hwC ▸ ((Below.refl w2.heap.size w2).alloc (Nat.le_refl _) _)
  have bC : Below w.heap.size w wC := hb2.trans (bC'.mono hb2.size)
  have zC : Blk wC w2.heap.size [.slice (some ⟨cb, 0, none⟩) B.length c] 23 := by rw [hwC]; exact blk_at rfl rfl
  have HC := h.below bC
  have hsb := h.blk.lt
  have hsC := bC.size
  have hs2C : w2.heap.size < wC.heap.size := zC.lt
  have hwb := h.lf.below.size
  have hsz0 : w0.heap.size ≤ sb := (h.lf.choose_spec.2.2.1 sb (mem_A01.2 (.inl rfl))).2
  have hBC : Bts wC (some ⟨cb, 0, none⟩) B.length c B := hB.below bC' (Nat.le_refl _)
  rw [← hwC]
  obtain ⟨C', hC'⟩ : ∃ C' : Nat → Prop, C' = fun x => C x ∨ x = cb := ⟨_, rfl⟩
  have hCC : ∀ x, C x → C' x := fun x hx => by rw [hC']; exact .inl hx
  have hcbC : C' cb := by rw [hC']; exact .inr rfl
  have hC'lt : ∀ x, C' x → x < wC.heap.size ∧ x ∉ A01 sb v0 v1 := fun x hx => by
    rw [hC'] at hx
    rcases hx with hx | rfl
    · exact ⟨HC.lf.lt (.inr hx), h.cne x hx⟩
    · exact ⟨by omega, fun hm => by have := h.lf.lt (.inl hm); omega⟩
  have R0' : Rwc C' (sb + 1) wC v0 (S 0) := HC.r0.stay (R := fun x => x < wC.heap.size) (fun x hx => rfl) (fun g hg => (HC.r0.lt hg).2) (fun g hg => ⟨HC.lf.lt (.inr hg), hCC g hg⟩)
  have R1' : Rwc C' (sb + 1) wC v1 (S 1) := HC.r1.stay (R := fun x => x < wC.heap.size) (fun x hx => rfl) (fun g hg => (HC.r1.lt hg).2) (fun g hg => ⟨HC.lf.lt (.inr hg), hCC g hg⟩)
  rw [← hC']
  have hst : ∀ (v : Value) (L : List (List UInt8)) (v' : Value) (wD : World), Rwc C' (sb + 1) wC v L → wC.grownBy wD v.ownBlock → (∀ g, v.ownBlock = some g → g ∈ A01 sb v0 v1) → (v'.ownBlock = v.ownBlock ∨ v'.ownBlock = some wC.heap.size) → Rwc C' (sb + 1) wD v' (L ++ [B]) → ∀ u L', Rwc C' (sb + 1) wC u L' → (∀ g, u.ownBlock = some g → v.ownBlock ≠ some g) → (∀ g, u.ownBlock = some g → g ∈ A01 sb v0 v1) →
      Below w0.heap.size w0 wD ∧ Blk wD sb [v0, v1] 38 ∧ (∀ A' : List Nat, (∀ x ∈ A', x = sb ∨ v'.ownBlock = some x ∨ u.ownBlock = some x) → (sb ∈ A') → Lf w0 bl A' (fun x => x ∈ A' ∨ C' x) k (wD.setCell ⟨sb, j, none⟩ v') ∧ ∀ g, C' g → g ∉ A') ∧ Rwc C' (sb + 1) (wD.setCell ⟨sb, j, none⟩ v') v' (L ++ [B]) ∧ Rwc C' (sb + 1) (wD.setCell ⟨sb, j, none⟩ v') u L' ∧ (∀ g, v'.ownBlock = some g → u.ownBlock ≠ some g) ∧ w2.heap.size < wD.heap.size ∧ (∀ x, w2.heap.size ≤ x ∨ x < w.heap.size ∧ (x ∉ A01 sb v0 v1) → x < w.heap.size → wD.heap[x]? = w.heap[x]?) := by
    intro v L v' wD hr hg hvA hv' hr' u L' hu hne huA
    have ho : Only v.ownBlock.toList wC wD := ⟨hg.os, hg.tape, hg.output, hg.size, fun x hx hn => hg.block x hx (by intro e; apply hn; rw [← e]; simp)⟩
    have hos : Only (sb :: v.ownBlock.toList) wC (wD.setCell ⟨sb, j, none⟩ v') := by
      have : Only (sb :: v.ownBlock.toList) wC wD := ⟨ho.os, ho.tape, ho.output, ho.size, fun x hx hn => ho.block x hx (fun hm => hn (List.mem_cons_of_mem _ hm))⟩
      exact this.setCell (by simp) j v'
    have hvs : ∀ g, v.ownBlock = some g → sb ≠ g := fun g hg e => by have := (hr.lt hg).1; omega
    have hns : ∀ g, v'.ownBlock = some g → g ≠ sb ∧ g < wD.heap.size := fun g hg' => by
      have := hr'.lt hg'; omega
    have hus : ∀ g, u.ownBlock = some g → g ≠ sb := fun g hg' => by have := (hu.lt hg').1; omega
    have hcs : ∀ g, C' g → g ≠ sb := fun g hg' e => (hC'lt g hg').2 (by rw [e]; exact mem_A01.2 (.inl rfl))
    have far : ∀ g : Nat, g ≠ sb → (wD.setCell ⟨sb, j, none⟩ v').heap[g]? = wD.heap[g]? := fun g hg' => Below.heap_setCell _ _ _ _ (by simpa using hg')
    refine ⟨?_, HC.blk.grownO hg hvs, fun A' hA' hsA => ⟨?_, fun g hgC hgA => ?_⟩, ?_, ?_, fun g e e2 => ?_, Nat.lt_of_lt_of_le hs2C ho.size, fun x hx1 hx2 => ?_⟩
    · refine ⟨ho.os.trans HC.lf.below.os, ho.tape.trans HC.lf.below.tape, ho.output.trans HC.lf.below.output, Nat.le_trans HC.lf.below.size ho.size, fun x hx => (ho.block x (by omega) (fun hm => ?_)).trans (HC.lf.below.block x hx)⟩
      have := (hr.lt (g := x) (by simpa using hm)).1
      omega
    · -- the link beside the new blocks
      have hmem : ∀ x, x = sb ∨ v'.ownBlock = some x ∨ u.ownBlock = some x → (x ∈ A01 sb v0 v1 ∨ wC.heap.size ≤ x) ∧ x < wD.heap.size := fun x hx => by
        rcases hx with rfl | e | e
        · exact ⟨.inl (mem_A01.2 (.inl rfl)), by have := ho.size; omega⟩
        · refine ⟨?_, (hns x e).2⟩
          rcases hv' with e' | e'
          · exact .inl (hvA x (by rw [← e']; exact e))
          · rw [e'] at e; cases e; exact .inr (Nat.le_refl _)
        · exact ⟨.inl (huA x e), by have := (hu.lt e).2; have := ho.size; omega⟩
      have hLfw : Lf w0 bl (A01 sb v0 v1) (fun x => x ∈ A01 sb v0 v1 ∨ C' x) k wC := by
        refine h.lf.news bC (fun x hx => ?_) (fun x hx => ⟨.inl hx, .inl hx⟩)
        rcases hx with hx | hx
        · exact ⟨.inl (.inl hx), by have := h.lf.lt (.inl hx); omega⟩
        · refine ⟨?_, (hC'lt x hx).1⟩
          rw [hC'] at hx
          rcases hx with hx | rfl
          · exact .inl (.inr hx)
          · exact .inr hcb
      refine hLfw.go hos (fun x hx => ?_) (fun x hx => ?_) (fun x hx => ⟨?_, .inl hx⟩)
      · rcases List.mem_cons.1 hx with rfl | hx
        · exact mem_A01.2 (.inl rfl)
        · exact hvA x (by simpa using hx)
      · have hsz : (wD.setCell ⟨sb, j, none⟩ v').heap.size = wD.heap.size := by simp
        rw [hsz]
        rcases hx with hx | hx
        · have := hmem x (hA' x hx)
          exact ⟨this.1.imp .inl id, this.2⟩
        · exact ⟨.inl (.inr hx), by have := (hC'lt x hx).1; have := ho.size; omega⟩
      · exact (hmem x (hA' x hx)).1
    · rcases hA' g hgA with rfl | e | e
      · exact hcs _ hgC rfl
      · rcases hv' with e' | e'
        · exact (hC'lt g hgC).2 (hvA g (by rw [← e']; exact e))
        · rw [e'] at e; cases e; have := (hC'lt _ hgC).1; omega
      · exact (hC'lt g hgC).2 (huA g e)
    · exact hr'.stay (R := fun x => x ≠ sb) (fun x hx => far x hx) (fun g hg' => (hns g hg').1) (fun g hg' => ⟨hcs g hg', hg'⟩)
    · refine (hu.stay (R := fun x => v.ownBlock ≠ some x ∧ x < wC.heap.size) (fun x hx => hg.block x hx.2 (fun e => hx.1 e.symm)) (fun g hg' => ⟨hne g hg', (hu.lt hg').2⟩) (fun g hg' => ⟨⟨fun e => (hC'lt g hg').2 (hvA g e), (hC'lt g hg').1⟩, hg'⟩)).stay (R := fun x => x ≠ sb) (fun x hx => far x hx) (fun g hg' => hus g hg') (fun g hg' => ⟨hcs g hg', hg'⟩)
    · rcases hv' with e' | e'
      · rw [e'] at e; exact hne g e2 e
      · rw [e'] at e; cases e; have := (hu.lt e2).2; omega
    · refine (hg.block x (by omega) (fun e => ?_)).trans (bC.block x hx2)
      rcases hx1 with hx1 | hx1
      · have := hb2.size; omega
      · exact hx1.2 (hvA x e.symm)
  have hCv : ∀ v : Value, (∀ g, v.ownBlock = some g → g ∈ A01 sb v0 v1) → ∀ g, C' g → v.ownBlock ≠ some g ∧ g < wC.heap.size := fun v hv g hg => ⟨fun e => (hC'lt g hg).2 (hv g e), (hC'lt g hg).1⟩
  rcases two hj with rfl | rfl
  · obtain ⟨v', wD, hrun, hr', hg, hv', hs⟩ := R0'.append cb c B hBC hB0 hcbC (hCv v0 (fun g hg => mem_A01.2 (.inr (.inl hg)))) zC hl (by omega)
    obtain ⟨q1, q2, q3, q4, q5, q6, q7, q8⟩ := hst v0 (S 0) v' wD R0' hg (fun g hg => mem_A01.2 (.inr (.inl hg))) hv' hr' v1 (S 1) R1' (fun g e e2 => h.ne g e2 e) (fun g hg => mem_A01.2 (.inr (.inr hg)))
    have q3' := q3 _ (fun x hx => mem_A01.1 hx) (mem_A01.2 (.inl rfl))
    exact ⟨v', wD, hrun, hs, q1, q2, q7, q8, ⟨q3'.1, q2.setCell 0 v', q4, q5, q6, q3'.2⟩⟩
  · obtain ⟨v', wD, hrun, hr', hg, hv', hs⟩ := R1'.append cb c B hBC hB0 hcbC (hCv v1 (fun g hg => mem_A01.2 (.inr (.inr hg)))) zC hl (by omega)
    obtain ⟨q1, q2, q3, q4, q5, q6, q7, q8⟩ := hst v1 (S 1) v' wD R1' hg (fun g hg => mem_A01.2 (.inr (.inr hg))) hv' hr' v0 (S 0) R0' (fun g e e2 => h.ne g e e2) (fun g hg => mem_A01.2 (.inr (.inl hg)))
    have q3' := q3 _ (fun x hx => (mem_A01.1 hx).imp id Or.symm) (mem_A01.2 (.inl rfl))
    exact ⟨v', wD, hrun, hs, q1, q2, q7, q8, ⟨q3'.1, q2.setCell 1 v', q5, q4, fun g e e2 => q6 g e2 e, q3'.2⟩⟩
end
end Go.Proofs.Ytfjaoompdleljaa.Link
