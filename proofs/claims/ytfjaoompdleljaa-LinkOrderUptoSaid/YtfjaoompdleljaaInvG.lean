/-
  A region whose order is open, in which an operation may lean on what it waits for: gates by what must be done ahead of it. Helper text; no statement is proved here.
-/
import Derived.Test.YtfjaoompdleljaaInvC
set_option linter.unusedVariables false
set_option maxRecDepth 20000
namespace Go.Proofs.Ytfjaoompdleljaa.InvG
open Go.RowKit Go.Proofs.Ytfjaoompdleljaa.Laws Go.Proofs.Ytfjaoompdleljaa.Inv Go.Proofs.Ytfjaoompdleljaa.InvL Go.Proofs.Ytfjaoompdleljaa.InvC
section
variable {P : Program}
/-- what operation i waits for is done -/
def Closed (ops : Array Oper) (d : Array Bool) : Prop := ∀ j o, ops[j]? = some o → d.getD j false = true → ∀ e ∈ o.after, Region.binds .any e = true → d.getD e.on false = true
def Gate (ops : Array Oper) (i : Nat) (d : Array Bool) : Prop := (∀ o, ops[i]? = some o → ∀ e ∈ o.after, Region.binds .any e = true → d.getD e.on false = true) ∧ Closed ops d
def waitsB (ops : Array Oper) (i p : Nat) : Bool := match ops[i]? with | some o => o.after.any fun e => Region.binds .any e && e.on == p | none => false
theorem Gate.of {ops : Array Oper} {i p : Nat} {d : Array Bool} (hG : Gate ops i d) (h : waitsB ops i p = true) : d.getD p false = true := by
  unfold waitsB at h
  cases ho : ops[i]? with
  | none => rw [ho] at h; cases h
  | some o =>
    rw [ho] at h
    obtain ⟨e, he, hbe⟩ := Array.any_eq_true'.1 h
    simp only [Bool.and_eq_true, beq_iff_eq] at hbe
    have := hG.1 o ho e he hbe.1
    rwa [hbe.2] at this
theorem Gate.of2 {ops : Array Oper} {i j p : Nat} {d : Array Bool} (hG : Gate ops i d) (h : waitsB ops i j = true) (h2 : waitsB ops j p = true) : d.getD p false = true := by
  have hj := hG.of h
  unfold waitsB at h2
  cases ho : ops[j]? with
  | none => rw [ho] at h2; cases h2
  | some o =>
    rw [ho] at h2
    obtain ⟨e, he, hbe⟩ := Array.any_eq_true'.1 h2
    simp only [Bool.and_eq_true, beq_iff_eq] at hbe
    have := hG.2 j o ho hj e he hbe.1
    rwa [hbe.2] at this
theorem wp_region_gate_tail {id : Nat} {Q : Exit → Act → World → Prop} {a : Act} {w : World} {l : List Oper} (I : Array Bool → World → Prop) (n : Nat) (hm : P.follows .mixedOrders = true) (hB : Region.lexTailB .any l.toArray n = true)
    (hI0 : I (doneTo l.length 0) w.drew)
    (h : wpInvC P I (Gate l.toArray) (fun _ => none) l.toArray (fun a' => ∀ w', I (doneTo l.length n) w' → wpList P l.toArray Q (l.drop n) a' w') 0 (l.take n) a) : (Code.region id l.toArray true).wp P Q a w := by
  simp only [Region.lexTailB, Bool.and_eq_true, decide_eq_true_eq] at hB
  obtain ⟨⟨⟨⟨hsel, hn⟩, hs⟩, hc⟩, hlex⟩ := hB
  have hn' : n < l.length := by simpa using hn
  have htl : (l.take n).length = n := by simp; omega
  have hdl : (l.drop n).length = l.toArray.size - n := by simp
  have inv0 : HeadInv .any l.toArray n (Array.replicate l.toArray.size false) :=
    ⟨by simp, fun j oj _ hl => (by rw [getD_replicate_false] at hl; cases hl), fun t _ ht => getD_in (by simpa using ht) (getD_replicate_false _ _)⟩
  have hlt : ∀ (i : Nat) listed, i < n → HeadInv .any l.toArray n listed → listed.getD i true = false → ∀ j ∈ Region.ready .any l.toArray listed, j < n := fun i listed hi inv hun j hj => by
    rcases Nat.lt_or_ge j n with h | h
    · exact h
    · exact absurd hj (tail_waits hs hc hn inv _ i rfl hi hun j h)
  have H := InvC.every_of_walk (md := .any) (s := l.length) (g := l.toArray.size - n) (J := HeadInv .any l.toArray n) hsel hlt (fun listed j hJ hj hjn => hJ.set hj hjn) (l.take n) 0 _ a (fun j hj => by
    have hj' : j < n := by rw [htl] at hj; exact hj
    simp [hj']) (by simpa using htl) inv0 (by simp [doneTo]) (by rw [htl]; exact hlex) h
  refine wp_region_any hm ?_
  have hset : ∀ (d : Array Bool) (i x : Nat), d.getD x false = true → (d.setIfInBounds i true).getD x false = true := fun d i x hx => by
    by_cases e : i = x
    · subst e
      have hp : i < d.size := by
        rcases Nat.lt_or_ge i d.size with h' | h'
        · exact h'
        · simp [Array.getElem?_eq_none h'] at hx
      simp [hp]
    · rw [getD_set_ne false e]; exact hx
  have hopen : ∀ (S : Unit → Prop) (d : Array Bool) (i : Nat), (S () ∧ Closed l.toArray d) → i ∈ Region.ready .any l.toArray d → i < n → (∃ κ, S κ ∧ Gate l.toArray i d) ∧ ((S () ∧ Gate l.toArray i d) ∧ Closed l.toArray (d.setIfInBounds i true)) := by
    intro S d i hg hi hin
    have hG1 : ∀ o, l.toArray[i]? = some o → ∀ e ∈ o.after, Region.binds .any e = true → d.getD e.on false = true := fun o ho e he hb => by
      obtain ⟨_, o', ho', hall⟩ := mem_ready.1 hi
      rw [ho] at ho'
      cases ho'
      exact hall e he hb
    have hG : Gate l.toArray i d := ⟨hG1, hg.2⟩
    refine ⟨⟨(), hg.1, hG⟩, ⟨hg.1, hG⟩, fun j o ho hj e he hb => ?_⟩
    by_cases eij : i = j
    · subst eij
      exact hset _ _ _ (hG1 o ho e he hb)
    · rw [getD_set_ne false eij] at hj
      exact hset _ _ _ (hg.2 j o ho hj e he hb)
  have := wpAny_of_classes (K := Unit) (Q := Q) (I := fun _ => I) (G := fun _ => Gate l.toArray) (T := fun _ _ => none) (n := n) (g := l.toArray.size - n) (Good := fun S d => S () ∧ Closed l.toArray d) hopen (fun _ _ _ _ _ _ _ _ h => h) (fun _ _ _ _ _ _ _ _ _ _ _ _ => .inl rfl) (fun κ listed a' w' hw' hL => by
    have := wpAny_of_seq (md := .any) (Q' := Q) (l.drop n) n listed a' w' (fun j => by simp [List.getElem?_drop]) (by rw [hdl]; exact hL.1) (hL.2.2 w' (hL.2.1 ▸ hw'))
    rwa [hdl] at this) _ (fun _ => True) _ _ _ ⟨(), trivial⟩ ⟨trivial, fun j o _ hj => (by rw [getD_replicate_false] at hj; cases hj)⟩ (fun κ _ => ⟨by simpa [doneTo] using hI0, H⟩)
  rw [htl, show n + (l.toArray.size - n) = l.toArray.size from by omega] at this
  exact this
end
/-- A, then B behind operation p, then C behind operation q, which waits for p -/
def At2 (p q : Nat) (A B C : World → Prop) (d : Array Bool) (w : World) : Prop := if d.getD q false = true then d.getD p false = true ∧ C w else if d.getD p false = true then B w else A w
section
variable {p q i : Nat} {A B C : World → Prop} {d : Array Bool} {w w' : World}
theorem At2.keep (h1 : i ≠ p) (h2 : i ≠ q) (h : At2 p q A B C d w) : At2 p q A B C (d.setIfInBounds i true) w := by
  unfold At2 at *
  rwa [getD_set_ne false h1, getD_set_ne false h2]
theorem At2.start (h1 : d.getD p false = false) (h2 : d.getD q false = false) (h : A w) : At2 p q A B C d w := by
  unfold At2
  rw [h1, h2]
  simpa using h
theorem At2.at_p (hd : d.getD p true = false) (h : At2 p q A B C d w) : A w ∧ d.getD q false = false := by
  have hd' := getD_true_of hd
  unfold At2 at h
  rw [hd'] at h
  split at h
  · simp at h
  · rename_i e
    exact ⟨by simpa using h, by simpa using e⟩
theorem now {i : Nat} (h : d.getD i true = false) : (d.setIfInBounds i true).getD i false = true := by
  have hp : i < d.size := by
    rcases Nat.lt_or_ge i d.size with h' | h'
    · exact h'
    · simp [Array.getElem?_eq_none h'] at h
  simp [hp]
theorem At2.did_p (hpq : p ≠ q) (hd : d.getD p true = false) (h : At2 p q A B C d w) (h' : B w') : At2 p q A B C (d.setIfInBounds p true) w' := by
  have h2 := (h.at_p hd).2
  unfold At2
  rw [now hd, getD_set_ne false hpq, h2]
  simpa using h'
theorem At2.at_q (hd : d.getD q true = false) (hp : d.getD p false = true) (h : At2 p q A B C d w) : B w := by
  have hd' := getD_true_of hd
  unfold At2 at h
  rw [hd', hp] at h
  simpa using h
theorem At2.did_q (hpq : p ≠ q) (hd : d.getD q true = false) (hp : d.getD p false = true) (h' : C w') : At2 p q A B C (d.setIfInBounds q true) w' := by
  unfold At2
  rw [now hd, getD_set_ne false (Ne.symm hpq), hp]
  simpa using h'
theorem At2.done (hd : d.getD q false = true) (h : At2 p q A B C d w) : C w := by
  unfold At2 at h
  rw [if_pos hd] at h
  exact h.2
theorem At2.any (h : At2 p q A B C d w) : A w ∨ B w ∨ C w := by
  unfold At2 at h
  split at h
  · exact .inr (.inr h.2)
  · split at h
    · exact .inr (.inl h)
    · exact .inl h
end
end Go.Proofs.Ytfjaoompdleljaa.InvG
