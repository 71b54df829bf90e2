/-
  What a write or an append does to a link. Helper text; no statement is proved here.
-/
import Derived.Test.YtfjaoompdleljaaLink
set_option linter.unusedVariables false
set_option maxRecDepth 20000
set_option linter.unusedSimpArgs false
namespace Go.Proofs.Ytfjaoompdleljaa.Link
open Go.RowKit Go.Proofs.Ytfjaoompdleljaa.Base Go.Proofs.Ytfjaoompdleljaa.Laws Go.Proofs.Ytfjaoompdleljaa.Disk Go.Proofs.Ytfjaoompdleljaa.Row Go.Proofs.Ytfjaoompdleljaa.Flat Go.Proofs.Ytfjaoompdleljaa.InvL Go.Proofs.Ytfjaoompdleljaa.InvC Go.Proofs.Ytfjaoompdleljaa.Inv
def upd (V : Nat → Value) (i : Nat) (v : Value) : Nat → Value := fun j => if j = i then v else V j
theorem upd_self (V : Nat → Value) (i : Nat) (v : Value) : upd V i v i = v := if_pos rfl
theorem upd_ne {V : Nat → Value} {i j : Nat} {v : Value} (h : j ≠ i) : upd V i v j = V j := if_neg h
section
variable {α : Type} {P : Program} {w w' : World} {base : Nat} {S S' T : List Nat} {t : TypeId} {m : Nat} {f : α × Value → List Value} {body : α → List UInt8} {v : Value} {xs : List α}
theorem RowOf.append (h : RowOf w base S t m f body v xs) (ts ty : TypeId) (z : Value) (bytes : Nat) (ht : P.underlying ts = some (.slice t)) (hi : (P.info? t).map (fun i => (i.zero, i.size, i.bytes)) = some (some z, m, bytes))
    (hzs : z.cells.size = m) (hsz : 0 < m) (x : α) (y : Value) (hy : Body w S y (body x)) {a : Option Addr} {c : Nat} (hs : SrcOf w a 1 m (f (x, y))) (hb : (xs.length + 1) * bytes ≤ 140737488355328) (h63 : xs.length + 1 ≤ maxLen) (hbase : base ≤ w.heap.size)
    (hv : ∀ g, v.ownBlock = some g → g ∈ S) :
    ∃ v' w', (Builtin.append_ #[ts, ts] ty #[v, .slice a 1 c]).run P w = .ok v' w' ∧ (∀ S', (∀ x ∈ S', x ∈ S ∨ w.heap.size ≤ x) → RowOf w' base S' t m f body v' (xs ++ [x])) ∧ w.grownBy w' v.ownBlock ∧ (v'.ownBlock = v.ownBlock ∨ v'.ownBlock = some w.heap.size) ∧ (∃ a' c', v' = .slice a' (xs.length + 1) c') := by
  obtain ⟨ps, rfl, h1, h2⟩ := h
  simp only [List.length_map] at hb h63 ⊢
  obtain ⟨v', w', hr, ho, hg, hv'⟩ := run_append_any_at (P := P) w base ts ty t z m bytes ht hi hzs hsz v ps.length (flat f ps) h1 a 1 c (f (x, y)) hs hb h63 hbase
  obtain ⟨a', c', e, _⟩ := own_slice ho hsz
  refine ⟨v', w', hr, fun S' hS => ⟨ps ++ [(x, y)], by simp, ?_, ?_⟩, hg, hv', a', c', e⟩
  · rw [flat_append, flat_one]
    simpa using ho
  · have hl : Only v.ownBlock.toList w w' := ⟨hg.os, hg.tape, hg.output, hg.size, fun k hk hn => hg.block k hk (by intro e; apply hn; rw [← e]; simp)⟩
    intro p hp
    rcases List.mem_append.1 hp with hp | hp
    · exact (h2 p hp).move hl (fun x hx => hv x (by simpa using hx)) hS
    · obtain rfl : p = (x, y) := by simpa using hp
      exact hy.move hl (fun x hx => hv x (by simpa using hx)) hS
theorem RowOf.setCell (h : RowOf w base S t m f body v xs) {g : Nat} (hg : g ∈ S) (hv : ∀ b, v.ownBlock = some b → b ≠ g) (i : Nat) (x : Value) : RowOf (w.setCell ⟨g, i, none⟩ x) base S t m f body v xs :=
  h.move (T := [g]) ((Only.refl [g] w).setCell (by simp) i x) (by simpa using hg) (fun x hx => .inl hx) (fun b hb hx => hv b hb (by simpa using hx))
end
section
variable {w w' w1 : World} {bl : Nat} {V : Nat → Value} {A : List Nat} {k : Lk}
/-- a row has another value; one cell of the link is written -/
theorem LinkAt.turned (h : LinkAt w bl V A k) (i : Nat) (hi : i < 5) (v' : Value) (pos : Nat) (k' : Lk) (hg : w.grownBy w1 (V i).ownBlock) (hv : v'.ownBlock = (V i).ownBlock ∨ v'.ownBlock = some w.heap.size ∨ v'.ownBlock = none)
    (hh : lcells k' (upd V i v') = (lcells k V).set pos v') (ho : ∀ n, n < 2 → 2 * n ≠ i → (k'.en n).op = (k.en n).op) (hgot : ∀ n, n < 2 → 2 * n + 1 ≠ i → (k'.en n).got = (k.en n).got) (hfl : i ≠ 4 → k'.fl = k.fl)
    (no : ∀ n, n < 2 → 2 * n = i → RowOf w1 (bl + 1) (reach bl (upd V i v') ++ A) 71 4 mc (·.B) v' (k'.en n).op)
    (ng : ∀ n, n < 2 → 2 * n + 1 = i → RowOf w1 (bl + 1) (reach bl (upd V i v') ++ A) 23 1 gc id v' (k'.en n).got)
    (nf : i = 4 → RowOf w1 (bl + 1) (reach bl (upd V i v') ++ A) 74 5 pc (·.m.B) v' k'.fl) : Goes w bl V A (w1.setCell ⟨bl, pos, none⟩ v') (upd V i v') k' := by
  have hkin : Kin w V (upd V i v') := fun j hj g hgj => by
    by_cases e : j = i
    · subst e
      rw [upd_self] at hgj
      rcases hv with e | e | e <;> rw [e] at hgj
      · exact .inl hgj
      · cases hgj; exact .inr (Nat.le_refl _)
      · cases hgj
    · rw [upd_ne e] at hgj; exact .inl hgj
  have hin : ∀ x, (V i).ownBlock = some x → x ∈ reach bl V := fun x hx => mem_reach.2 (.inr ⟨i, hi, hx⟩)
  have hbi : ∀ x, (V i).ownBlock = some x → x ≠ bl := fun x hx => by have := h.row i hi hx; omega
  have hS : ∀ x ∈ reach bl (upd V i v') ++ A, x ∈ reach bl V ++ A ∨ w.heap.size ≤ x := fun x hx => by
    rcases List.mem_append.1 hx with hx | hx
    · exact (hkin.reach hx).imp (List.mem_append_left _) id
    · exact .inl (List.mem_append_right _ hx)
  have hb : bl ∈ reach bl (upd V i v') ++ A := List.mem_append_left _ (mem_reach.2 (.inl rfl))
  have hnb : ∀ j, j < 5 → ∀ b, (V j).ownBlock = some b → b ≠ bl := fun j hj b hb => by have := h.row j hj hb; omega
  have hnd : ∀ j, j < 5 → j ≠ i → ∀ g, (V j).ownBlock = some g → (V i).ownBlock ≠ some g := fun j hj hne g hgj => h.dist j i hj hi hne g hgj
  have hnv : ∀ b, v'.ownBlock = some b → b ≠ bl := fun b hb => by
    rcases hv with e | e | e <;> rw [e] at hb
    · exact hbi b hb
    · cases hb; have := h.head.lt; omega
    · cases hb
  refine ⟨?_, ?_, hkin⟩
  · refine { head := ?_, o := fun n hn => ?_, g := fun n hn => ?_, fl := ?_, dist := ?_, out := ?_ }
    · rw [hh]
      exact (h.head.grownO hg (fun x hx => (hbi x hx).symm)).setCell pos v'
    · by_cases e : 2 * n = i
      · rw [e, upd_self]
        exact (no n hn e).setCell hb hnv _ _
      · rw [upd_ne e, ho n hn e]
        exact ((h.o n hn).grown hg (fun x hx => List.mem_append_left _ (hin x hx)) hS (hnd _ (by omega) e)).setCell hb (hnb _ (by omega)) _ _
    · by_cases e : 2 * n + 1 = i
      · rw [e, upd_self]
        exact (ng n hn e).setCell hb hnv _ _
      · rw [upd_ne e, hgot n hn e]
        exact ((h.g n hn).grown hg (fun x hx => List.mem_append_left _ (hin x hx)) hS (hnd _ (by omega) e)).setCell hb (hnb _ (by omega)) _ _
    · by_cases e : i = 4
      · have e' : upd V i v' 4 = v' := by rw [← e]; exact upd_self ..
        rw [e']
        exact (nf e).setCell hb hnv _ _
      · rw [upd_ne (Ne.symm e), hfl e]
        exact (h.fl.grown hg (fun x hx => List.mem_append_left _ (hin x hx)) hS (hnd _ (by omega) (Ne.symm e))).setCell hb (hnb _ (by omega)) _ _
    · intro a b ha hb' hne g hga hgb
      by_cases e1 : a = i
      · subst e1
        rw [upd_self] at hga
        rw [upd_ne (Ne.symm hne)] at hgb
        rcases hv with e | e | e <;> rw [e] at hga
        · exact h.dist a b ha hb' hne g hga hgb
        · cases hga; have := h.row b hb' hgb; omega
        · cases hga
      · rw [upd_ne e1] at hga
        by_cases e2 : b = i
        · subst e2
          rw [upd_self] at hgb
          rcases hv with e | e | e <;> rw [e] at hgb
          · exact h.dist a b ha hb' hne g hga hgb
          · cases hgb; have := h.row a ha hga; omega
          · cases hgb
        · rw [upd_ne e2] at hgb
          exact h.dist a b ha hb' hne g hga hgb
    · intro x hx
      have := h.out x hx
      have := hg.size
      have e : (w1.setCell ⟨bl, pos, none⟩ v').heap.size = w1.heap.size := by simp
      omega
  · have h1 : Only (reach bl V) w w1 := ⟨hg.os, hg.tape, hg.output, hg.size, fun x hx hn => hg.block x hx fun e => hn (hin x e.symm)⟩
    exact h1.setCell (mem_reach.2 (.inl rfl)) _ _
/-- a number of the link is written -/
theorem LinkAt.scalar (h : LinkAt w bl V A k) (pos : Nat) (x : Value) (k' : Lk) (hh : lcells k' V = (lcells k V).set pos x) (ho : ∀ n, (k'.en n).op = (k.en n).op) (hgot : ∀ n, (k'.en n).got = (k.en n).got) (hfl : k'.fl = k.fl) : Goes w bl V A (w.setCell ⟨bl, pos, none⟩ x) V k' := by
  have hb : bl ∈ reach bl V ++ A := List.mem_append_left _ (mem_reach.2 (.inl rfl))
  have hnb : ∀ j, j < 5 → ∀ b, (V j).ownBlock = some b → b ≠ bl := fun j hj b hb => by have := h.row j hj hb; omega
  have hsz : (w.setCell ⟨bl, pos, none⟩ x).heap.size = w.heap.size := by simp
  refine ⟨{ head := by rw [hh]; exact h.head.setCell pos x, o := fun n hn => by rw [ho]; exact (h.o n hn).setCell hb (hnb _ (by omega)) _ _, g := fun n hn => by rw [hgot]; exact (h.g n hn).setCell hb (hnb _ (by omega)) _ _, fl := by rw [hfl]; exact h.fl.setCell hb (hnb _ (by omega)) _ _, dist := h.dist, out := fun y hy => by rw [hsz]; exact h.out y hy }, (Only.refl _ w).setCell (mem_reach.2 (.inl rfl)) _ _, Kin.refl _ _⟩
end
theorem src_blk {w : World} {g m : Nat} {cs : List Value} {t : TypeId} (h : Blk w g cs t) (hl : cs.length = m) (h1 : ∀ u ∈ cs, u.oneCell' = true) : SrcOf w (some ⟨g, 0, none⟩) 1 m cs := by
  refine ⟨by rw [hl, Nat.one_mul], h1, .inr ⟨_, rfl, fun j u hu => ?_⟩⟩
  rw [Addr.add_lit, Nat.zero_add, h.cell]
  exact hu
end Go.Proofs.Ytfjaoompdleljaa.Link
