/-
  Two rows of what was sent, beside a link. Helper text; no statement is proved here.
-/
import Derived.Test.YtfjaoompdleljaaLf
set_option linter.unusedVariables false
set_option maxRecDepth 20000
set_option linter.unusedSimpArgs false
namespace Go.Proofs.Ytfjaoompdleljaa.Link
open Go.RowKit Go.Proofs.Ytfjaoompdleljaa.Base Go.Proofs.Ytfjaoompdleljaa.Laws Go.Proofs.Ytfjaoompdleljaa.Disk Go.Proofs.Ytfjaoompdleljaa.Row Go.Proofs.Ytfjaoompdleljaa.Flat Go.Proofs.Ytfjaoompdleljaa.InvM
def A01 (sb : Nat) (v0 v1 : Value) : List Nat := sb :: (v0.ownBlock.toList ++ v1.ownBlock.toList)
theorem mem_A01 {sb x : Nat} {v0 v1 : Value} : x ∈ A01 sb v0 v1 ↔ x = sb ∨ v0.ownBlock = some x ∨ v1.ownBlock = some x := by
  simp [A01]
/-- the caller's blocks: two rows of what was sent -/
structure Bo (w0 : World) (bl sb : Nat) (k : Lk) (S : Nat → List (List UInt8)) (v0 v1 : Value) (w : World) : Prop where
  lf : Lf w0 bl (A01 sb v0 v1) (fun x => x ∈ A01 sb v0 v1) k w
  blk : Blk w sb [v0, v1] 38
  r0 : Rws w0 (sb + 1) w v0 (S 0)
  r1 : Rws w0 (sb + 1) w v1 (S 1)
  ne : ∀ g, v0.ownBlock = some g → v1.ownBlock ≠ some g
section
variable {w0 w w' : World} {bl sb : Nat} {k k' : Lk} {S : Nat → List (List UInt8)} {v0 v1 : Value}
theorem Bo.stay (h : Bo w0 bl sb k S v0 v1 w) (hl : Lf w0 bl (A01 sb v0 v1) (fun x => x ∈ A01 sb v0 v1) k' w') (hs : Stay (fun x => x ∈ A01 sb v0 v1) w w') : Bo w0 bl sb k' S v0 v1 w' :=
  ⟨hl, hs.blk (mem_A01.2 (.inl rfl)) h.blk, h.r0.stay hs (fun g hg => mem_A01.2 (.inr (.inl hg))), h.r1.stay hs (fun g hg => mem_A01.2 (.inr (.inr hg))), h.ne⟩
theorem Bo.below (h : Bo w0 bl sb k S v0 v1 w) (hb : Below w.heap.size w w') : Bo w0 bl sb k S v0 v1 w' :=
  h.stay (h.lf.news hb (fun x hx => ⟨.inl hx, Nat.lt_of_lt_of_le (h.lf.lt hx) hb.size⟩) (fun x hx => ⟨.inl hx, hx⟩)) (fun x hx => hb.block x (h.lf.lt hx))
/-- one more was sent: the rows, behind the append and the store -/
theorem Bo.grow (h : Bo w0 bl sb k S v0 v1 w) (j : Nat) (hj : j < 2) (a : Option Addr) (c : Nat) (B : List UInt8) (hB : Bts w0 a B.length c B) (hl : ((S j).length + 1) * 24 ≤ 140737488355328) :
    ∃ v' wD, (Builtin.append_ #[22, 22] 22 #[if j = 0 then v0 else v1, .slice (some ⟨w.heap.size, 0, none⟩) 1 1]).run Try.prog (w.drew.alloc (.cells #[.slice a B.length c] 23)) = .ok v' wD ∧ (∃ a' c', v' = .slice a' ((S j).length + 1) c') ∧ Below w0.heap.size w0 wD ∧ Blk wD sb [v0, v1] 38 ∧
      Bo w0 bl sb k (put2 S j B) (if j = 0 then v' else v0) (if j = 0 then v1 else v') (wD.setCell ⟨sb, j, none⟩ v') := by
  obtain ⟨wC, hwC⟩ : ∃ wC, wC = w.drew.alloc (.cells #[.slice a B.length c] 23) := ⟨_, rfl⟩
  have bC : Below w.heap.size w wC := hwC ▸ ((Below.refl w.heap.size w).drew.alloc (Nat.le_refl _) _)
  have zC : Blk wC w.heap.size [.slice a B.length c] 23 := by rw [hwC]; exact blk_at rfl rfl
  have HC := h.below bC
  have hsb := h.blk.lt
  have hsC := bC.size
  have hwb := h.lf.below.size
  have hsz0 : w0.heap.size ≤ sb := (h.lf.choose_spec.2.2.1 sb (mem_A01.2 (.inl rfl))).2
  rw [← hwC]
  have hst : ∀ (v : Value) (L : List (List UInt8)) (v' : Value) (wD : World), Rws w0 (sb + 1) wC v L → wC.grownBy wD v.ownBlock → (∀ g, v.ownBlock = some g → g ∈ A01 sb v0 v1) → (v'.ownBlock = v.ownBlock ∨ v'.ownBlock = some wC.heap.size) → Rws w0 (sb + 1) wD v' (L ++ [B]) → ∀ u L', Rws w0 (sb + 1) wC u L' → (∀ g, u.ownBlock = some g → v.ownBlock ≠ some g) → (∀ g, u.ownBlock = some g → g ∈ A01 sb v0 v1) →
      Below w0.heap.size w0 wD ∧ Blk wD sb [v0, v1] 38 ∧ (∀ A' : List Nat, (∀ x ∈ A', x = sb ∨ v'.ownBlock = some x ∨ u.ownBlock = some x) → (sb ∈ A') → Lf w0 bl A' (fun x => x ∈ A') k (wD.setCell ⟨sb, j, none⟩ v')) ∧ Rws w0 (sb + 1) (wD.setCell ⟨sb, j, none⟩ v') v' (L ++ [B]) ∧ Rws w0 (sb + 1) (wD.setCell ⟨sb, j, none⟩ v') u L' ∧ (∀ g, v'.ownBlock = some g → u.ownBlock ≠ some g) := by
    intro v L v' wD hr hg hvA hv' hr' u L' hu hne huA
    have ho : Only v.ownBlock.toList wC wD := ⟨hg.os, hg.tape, hg.output, hg.size, fun x hx hn => hg.block x hx (by intro e; apply hn; rw [← e]; simp)⟩
    have hos : Only (sb :: v.ownBlock.toList) wC (wD.setCell ⟨sb, j, none⟩ v') := by
      have : Only (sb :: v.ownBlock.toList) wC wD := ⟨ho.os, ho.tape, ho.output, ho.size, fun x hx hn => ho.block x hx (fun hm => hn (List.mem_cons_of_mem _ hm))⟩
      exact this.setCell (by simp) j v'
    have hvs : ∀ g, v.ownBlock = some g → sb ≠ g := fun g hg e => by have := (hr.lt hg).1; omega
    have hns : ∀ g, v'.ownBlock = some g → g ≠ sb ∧ g < wD.heap.size := fun g hg' => by
      have := hr'.lt hg'; omega
    have hus : ∀ g, u.ownBlock = some g → g ≠ sb := fun g hg' => by have := (hu.lt hg').1; omega
    have far : ∀ g : Nat, g ≠ sb → (wD.setCell ⟨sb, j, none⟩ v').heap[g]? = wD.heap[g]? := fun g hg' => Below.heap_setCell _ _ _ _ (by simpa using hg')
    refine ⟨?_, HC.blk.grownO hg hvs, fun A' hA' hsA => ?_, ?_, ?_, fun g e e2 => ?_⟩
    · refine ⟨ho.os.trans HC.lf.below.os, ho.tape.trans HC.lf.below.tape, ho.output.trans HC.lf.below.output, Nat.le_trans HC.lf.below.size ho.size, fun x hx => (ho.block x (by omega) (fun hm => ?_)).trans (HC.lf.below.block x hx)⟩
      have := (hr.lt (g := x) (by simpa using hm)).1
      omega
    · refine HC.lf.go hos (fun x hx => ?_) (fun x hx => ?_) (fun x hx => ?_)
      · rcases List.mem_cons.1 hx with rfl | hx
        · exact mem_A01.2 (.inl rfl)
        · exact hvA x (by simpa using hx)
      · have hsz : (wD.setCell ⟨sb, j, none⟩ v').heap.size = wD.heap.size := by simp
        rw [hsz]
        rcases hA' x hx with rfl | e | e
        · exact ⟨.inl (mem_A01.2 (.inl rfl)), by have := ho.size; omega⟩
        · refine ⟨?_, (hns x e).2⟩
          rcases hv' with e' | e'
          · exact .inl (hvA x (by rw [← e']; exact e))
          · rw [e'] at e; cases e; exact .inr (Nat.le_refl _)
        · exact ⟨.inl (huA x e), by have := (hu.lt e).2; have := ho.size; omega⟩
      · refine ⟨?_, hx⟩
        rcases hA' x hx with rfl | e | e
        · exact .inl (mem_A01.2 (.inl rfl))
        · rcases hv' with e' | e'
          · exact .inl (hvA x (by rw [← e']; exact e))
          · rw [e'] at e; cases e; exact .inr (Nat.le_refl _)
        · exact .inl (huA x e)
    · exact hr'.stay (R := fun x => x ≠ sb) (fun x hx => far x hx) (fun g hg' => (hns g hg').1)
    · refine (hu.stay (R := fun x => u.ownBlock = some x) (fun x hx => ?_) (fun g hg' => hg')).stay (R := fun x => x ≠ sb) (fun x hx => far x hx) (fun g hg' => hus g hg')
      exact hg.block x (hu.lt hx).2 (fun e => hne x hx e.symm)
    · rcases hv' with e' | e'
      · rw [e'] at e; exact hne g e2 e
      · rw [e'] at e; cases e; have := (hu.lt e2).2; omega
  rcases two hj with rfl | rfl
  · obtain ⟨v', wD, hrun, hr', hg, hv', hs⟩ := HC.r0.append a c B hB zC hl (by omega)
    obtain ⟨q1, q2, q3, q4, q5, q6⟩ := hst v0 (S 0) v' wD HC.r0 hg (fun g hg => mem_A01.2 (.inr (.inl hg))) hv' hr' v1 (S 1) HC.r1 (fun g e e2 => h.ne g e2 e) (fun g hg => mem_A01.2 (.inr (.inr hg)))
    exact ⟨v', wD, hrun, hs, q1, q2, ⟨q3 _ (fun x hx => mem_A01.1 hx) (mem_A01.2 (.inl rfl)), q2.setCell 0 v', q4, q5, q6⟩⟩
  · obtain ⟨v', wD, hrun, hr', hg, hv', hs⟩ := HC.r1.append a c B hB zC hl (by omega)
    obtain ⟨q1, q2, q3, q4, q5, q6⟩ := hst v1 (S 1) v' wD HC.r1 hg (fun g hg => mem_A01.2 (.inr (.inr hg))) hv' hr' v0 (S 0) HC.r0 (fun g e e2 => h.ne g e e2) (fun g hg => mem_A01.2 (.inr (.inl hg)))
    exact ⟨v', wD, hrun, hs, q1, q2, ⟨q3 _ (fun x hx => (mem_A01.1 hx).imp id Or.symm) (mem_A01.2 (.inl rfl)), q2.setCell 1 v', q5, q4, fun g e e2 => q6 g e2 e⟩⟩
end
theorem Ok.opLe {k : Lk} {S : Nat → List (List UInt8)} (h : Ok k S) (n : Nat) (hn : n < 2) : (k.en n).op.length ≤ (S n).length := by
  obtain ⟨a, _, e⟩ := h.op n hn
  rw [e, opens_len, List.length_drop]
  omega
theorem Ok.gotLe {k : Lk} {S : Nat → List (List UInt8)} (h : Ok k S) (n : Nat) (hn : n < 2) : (k.en n).got.length ≤ (S (1 - n)).length := by
  have := h.got (1 - n) (by omega)
  rw [show 1 - (1 - n) = n by omega] at this
  rw [this, List.length_take]
  omega
theorem dels_len {k : Lk} {i : Nat} (hi : i < k.fl.length) : (k.dels i).fl.length ≤ k.fl.length := by
  have hl : (k.less i).fl.length = k.fl.length - 1 := by
    show (k.fl.take i ++ k.fl.drop (i + 1)).length = _
    rw [List.length_append, List.length_take, List.length_drop]
    omega
  unfold Lk.dels
  cases hp : k.fl[i]? with
  | none => exact Nat.le_refl _
  | some p =>
    show ((k.less i).comes p).fl.length ≤ _
    unfold Lk.comes
    split
    · split
      · rw [ackd_fl]; omega
      · unfold Lk.answer
        split
        · show ((((k.less i).ackd (1 - p.f) p.m.k).handed (1 - p.f) p.m).fl ++ [_]).length ≤ _
          rw [(handed_keep _ _ _).1, ackd_fl, List.length_append]
          simp; omega
        · rw [(handed_keep _ _ _).1, ackd_fl]; omega
    · omega
theorem less_len {k : Lk} {i : Nat} (hi : i < k.fl.length) : (k.less i).fl.length = k.fl.length - 1 := by
  show (k.fl.take i ++ k.fl.drop (i + 1)).length = _
  rw [List.length_append, List.length_take, List.length_drop]
  omega
/-- a message that is taken -/
theorem Ok.sends1 {k : Lk} {S : Nat → List (List UInt8)} (h : Ok k S) (n : Nat) (hn : n < 2) (B : List UInt8) (hE : k.sendE (n : Int) B.length = 0) (hs : (S n).length + 1 < 4294967295) : Ok (k.sends (n : Int) B) (put2 S n B) ∧ (k.sends (n : Int) B).fl.length = k.fl.length + 1 := by
  have hE' := hE
  unfold Lk.sendE at hE'
  split at hE'
  · omega
  · rename_i h1
    split at hE'
    · rename_i h2
      have hB : B ≠ [] := fun e => by subst e; apply h1; simp
      unfold Lk.sends
      rw [if_pos hE]
      rw [Int.toNat_natCast] at h2 ⊢
      refine ⟨h.send n B hn hB h2.1 h2.2 hs, ?_⟩
      show (((k.bump n).addOpen n _).fl ++ [_]).length = _
      rw [sent_fl, List.length_append]
      rfl
    · omega
theorem sends_no {k : Lk} {n : Int} {B : List UInt8} (hE : ¬ k.sendE n B.length = 0) : k.sends n B = k := if_neg hE
end Go.Proofs.Ytfjaoompdleljaa.Link
