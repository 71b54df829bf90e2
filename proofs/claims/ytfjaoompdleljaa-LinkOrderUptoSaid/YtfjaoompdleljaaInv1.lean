/-
  A region whose order is open and whose first operation is a plain copy that no other waits for but the tail: it may be taken first. Helper text; no statement is proved here.
-/
import Derived.Test.YtfjaoompdleljaaInv
set_option linter.unusedVariables false
set_option maxRecDepth 20000
namespace Go.Proofs.Ytfjaoompdleljaa.Inv
open Go.RowKit Go.Proofs.Ytfjaoompdleljaa.Laws
section
variable {P : Program} {I : World → Prop} {ops : Array Oper} {md : Region.Mode}
/-- what may come up now may be taken first -/
theorem every_firstJ {J : Array Bool → Prop} {n i : Nat} {oi : Oper} {v : Value} {L : Array Bool → Act → Prop} (hi : ops[i]? = some oi) (hsel : ∀ (j : Nat) (o : Oper) cs b, ops[j]? = some o → o.op ≠ .select cs b)
    (hn : ∀ listed, J listed → listed.getD i true = false → ∀ j ∈ Region.ready md ops listed, j < n)
    (hset : ∀ (listed : Array Bool) (j : Nat), J listed → j ∈ Region.ready md ops listed → j < n → J (listed.setIfInBounds j true))
    (hdone : ∀ listed a, L listed a → ∀ j ∈ Region.ready md ops listed, n ≤ j) :
    ∀ (f : Nat) (listed : Array Bool) (a : Act), J listed →
      (∀ j oj, ops[j]? = some oj → j ≠ i → listed.getD j true = false → (∀ e ∈ oj.after, Region.binds md e = true → e.on ≠ i) → oi.apart ops oj = true) →
      i ∈ Region.ready md ops listed → Gives P I ops oi a v → every P I md ops n L f (listed.setIfInBounds i true) (a.put oi.dst v) → every P I md ops n L (f + 1) listed a := by
  intro f
  induction f with
  | zero =>
    intro listed a inv _ hr hg H
    refine ⟨fun h => (by rw [h] at hr; cases hr), fun j hj => ?_⟩
    have hjn := hn listed inv (mem_ready.1 hr).1 j hj
    refine ⟨hjn, ?_⟩
    by_cases e : j = i
    · subst e; exact (turn_some hi).2 ⟨v, hg, H⟩
    · have := hdone _ _ H j (ready_mono hj e)
      omega
  | succ f ih =>
    intro listed a inv hfree hr hg H
    refine ⟨fun h => (by rw [h] at hr; cases hr), fun j hj => ?_⟩
    have hjn := hn listed inv (mem_ready.1 hr).1 j hj
    refine ⟨hjn, ?_⟩
    by_cases e : j = i
    · subst e; exact (turn_some hi).2 ⟨v, hg, H⟩
    · have h1 := (H.2 j (ready_mono hj e)).2
      obtain ⟨hjun, oj, hoj, hall⟩ := mem_ready.1 hj
      have hnot : ∀ x ∈ oj.after, Region.binds md x = true → x.on ≠ i := fun x hx hb heq => by
        have h5 := hall x hx hb
        rw [heq, getD_both (mem_ready.1 hr).1] at h5
        cases h5
      have h2 := turn_past hoj (hfree j oj hoj e hjun hnot) (fun cs b => hsel i oi cs b hi) (fun cs b => hsel j oj cs b hoj) hg h1
      refine turn_mono (fun b h3 => ih (listed.setIfInBounds j true) b (hset _ _ inv hj hjn) (fun k ok hk hki hun hno => ?_) (ready_mono hr (Ne.symm e)) h3.1 ?_) h2
      · refine hfree k ok hk hki ?_ hno
        by_cases hjk : j = k
        · subst hjk; exact hjun
        · rwa [getD_set_ne true hjk] at hun
      · rw [Array.setIfInBounds_comm _ _ e]
        exact h3.2

/-- the walk in the text's order, up to place n, serves for every order -/
theorem every_of_walkJ {J : Array Bool → Prop} {n g : Nat} {Lq : Act → Prop} (hsel : Region.noSelect ops = true) (hn : ∀ (i : Nat) listed, i < n → J listed → listed.getD i true = false → ∀ j ∈ Region.ready md ops listed, j < n)
    (hset : ∀ (listed : Array Bool) (j : Nat), J listed → j ∈ Region.ready md ops listed → j < n → J (listed.setIfInBounds j true)) :
    ∀ (l : List Oper) (k : Nat) (listed : Array Bool) (a : Act), (∀ j, j < l.length → l[j]? = ops[k + j]?) → k + l.length = n → J listed →
    Region.lexHead md ops g l.length k listed = true → wpInv P I ops Lq l a → every P I md ops n (fun listed' a' => Region.seqB md ops g n listed' = true ∧ Lq a') l.length listed a
  | [], k, listed, a, _, hk, _, hB, h => by
    obtain rfl : k = n := by simpa using hk
    exact ⟨by simpa [Region.lexHead] using hB, h⟩
  | o :: l, k, listed, a, hl, hk, inv, hB, h => by
    have h0 : ops[k]? = some o := by simpa using (hl 0 (by simp)).symm
    simp only [List.length_cons, Region.lexHead, Bool.and_eq_true] at hB
    obtain ⟨⟨hr, hf⟩, hB'⟩ := hB
    have hkn : k < n := by simp only [List.length_cons] at hk; omega
    have hr' : k ∈ Region.ready md ops listed := by simpa using hr
    obtain ⟨v, hg, hK⟩ := h
    exact every_firstJ h0 (Region.noSelect_spec hsel) (fun listed => hn k listed hkn) hset (fun listed' a' hL => seqB_ready hL.1) l.length listed a inv (Region.free_spec h0 hf) hr' hg
      (every_of_walkJ hsel hn hset l (k + 1) _ _ (fun j hj => by have := hl (j + 1) (by simp; omega); simpa [Nat.add_assoc, Nat.add_comm 1 j] using this) (by simp only [List.length_cons] at hk; omega) (hset _ _ inv hr' hkn) hB' hK)


/-- each operation ahead of place n, but the first, is waited for -/
def sink1 (md : Region.Mode) (ops : Array Oper) (n : Nat) : Bool :=
  (List.range n).all fun i => i == 0 || (List.range (n + 1)).any fun j => decide (i < j) && Region.waitsFor md ops j i
def tail1 (md : Region.Mode) (ops : Array Oper) (n : Nat) : Bool :=
  Region.noSelect ops && decide (n < ops.size) && decide (0 < n) && sink1 md ops n && Region.chainB md ops n && Region.free md ops (Array.replicate ops.size false) 0 && (Region.ready md ops (Array.replicate ops.size false)).contains 0 && Region.lexHead md ops (ops.size - n) (n - 1) 1 ((Array.replicate ops.size false).setIfInBounds 0 true)
def Inv1 (md : Region.Mode) (ops : Array Oper) (n : Nat) (listed : Array Bool) : Prop := HeadInv md ops n listed ∧ listed.getD 0 false = true
theorem tail_waits1 {n : Nat} {listed : Array Bool} (hs : sink1 md ops n = true) (hc : Region.chainB md ops n = true) (hn : n < ops.size) (inv : Inv1 md ops n listed) :
    ∀ (d i : Nat), n - i = d → i < n → listed.getD i true = false → ∀ t, n ≤ t → t ∉ Region.ready md ops listed := by
  intro d
  induction d using Nat.strongRecOn with
  | _ d ih =>
    intro i hd hi hun t ht hr
    obtain ⟨_, ot, hot, hall⟩ := mem_ready.1 hr
    have htlt : t < ops.size := (Array.getElem?_eq_some_iff.1 hot).1
    have hi0 : i ≠ 0 := by
      intro e
      subst e
      have h1 := getD_both hun
      rw [inv.2] at h1
      cases h1
    by_cases htn : t = n
    · subst htn
      have h1 := List.all_eq_true.1 hs i (List.mem_range.2 hi)
      simp only [Bool.or_eq_true, beq_iff_eq] at h1
      have h1 := h1.resolve_left hi0
      obtain ⟨j, hj, hj2⟩ := List.any_eq_true.1 h1
      simp only [Bool.and_eq_true, decide_eq_true_eq] at hj2
      obtain ⟨oj, hoj, e, he, hb, hon⟩ := Region.waitsFor_spec hj2.2
      have hjle : j ≤ t := by have := List.mem_range.1 hj; omega
      by_cases hjt : j = t
      · subst hjt
        have : oj = ot := Option.some.inj (hoj.symm.trans hot)
        subst this
        have h2 := hall e he hb
        rw [hon, getD_both hun] at h2
        cases h2
      · cases hl : listed.getD j false with
        | true =>
          have h2 := inv.1.closed j oj hoj hl e he hb
          rw [hon, getD_both hun] at h2
          cases h2
        | false =>
          have hjs : j < listed.size := by rw [inv.1.size]; omega
          exact ih (t - j) (by omega) j rfl (by omega) (getD_in hjs hl) t (Nat.le_refl _) hr
    · have h1 := List.all_eq_true.1 hc t (List.mem_range.2 htlt)
      simp only [Bool.or_eq_true, decide_eq_true_eq] at h1
      rcases h1 with h1 | h1
      · omega
      · obtain ⟨o', ho', e, he, hb, hon⟩ := Region.waitsFor_spec h1
        have : o' = ot := Option.some.inj (ho'.symm.trans hot)
        subst this
        have h2 := hall e he hb
        rw [hon, getD_both (inv.1.tail (t - 1) (by omega) (by omega))] at h2
        cases h2
/-- A REGION WHOSE ORDER IS OPEN up to place n, its first operation a copy; behind it the tail, whose order is forced. -/
theorem wp_region_inv_one {id : Nat} {Q : Exit → Act → World → Prop} {a : Act} {w : World} {o : Oper} {l : List Oper} (I : World → Prop) (n : Nat) (x : Operand) (hm : P.follows .mixedOrders = true) (hB : tail1 .any (o :: l).toArray (n + 1) = true) (hI : I w.drew)
    (hg : o.guard = none) (ho : o.op = .move x) (hQ' : ∀ c (v : Value) a w, Q (.panic c) (a.put o.dst v) w → Q (.panic c) a w)
    (h : wpInv P I (o :: l).toArray (fun a' => ∀ w', I w' → wpList P (o :: l).toArray Q (l.drop n) a' w') (l.take n) (a.put o.dst (a.eval x))) : (Code.region id (o :: l).toArray true).wp P Q a w := by
  simp only [tail1, Bool.and_eq_true, decide_eq_true_eq] at hB
  obtain ⟨⟨⟨⟨⟨⟨⟨hsel, hn⟩, hn0⟩, hs⟩, hc⟩, hf⟩, hr⟩, hlex⟩ := hB
  have hsz : (o :: l).toArray.size = l.length + 1 := by simp
  have hn' : n < l.length := by rw [hsz] at hn; omega
  have htl : (l.take n).length = n := by simp; omega
  have hdl : (l.drop n).length = (o :: l).toArray.size - (n + 1) := by simp
  have h0 : (o :: l).toArray[0]? = some o := by simp
  have inv0 : HeadInv .any (o :: l).toArray (n + 1) (Array.replicate (o :: l).toArray.size false) :=
    ⟨by simp, fun j oj _ hl => (by rw [getD_replicate_false] at hl; cases hl), fun t _ ht => getD_in (by simpa using ht) (getD_replicate_false _ _)⟩
  have hr0 : 0 ∈ Region.ready .any (o :: l).toArray (Array.replicate (o :: l).toArray.size false) := by simpa using hr
  have inv1 : Inv1 .any (o :: l).toArray (n + 1) ((Array.replicate (o :: l).toArray.size false).setIfInBounds 0 true) :=
    ⟨inv0.set hr0 (by omega), by rw [hsz]; simp⟩
  have hset : ∀ (listed : Array Bool) (j : Nat), Inv1 .any (o :: l).toArray (n + 1) listed → j ∈ Region.ready .any (o :: l).toArray listed → j < n + 1 → Inv1 .any (o :: l).toArray (n + 1) (listed.setIfInBounds j true) := fun listed j hJ hj hjn =>
    ⟨hJ.1.set hj hjn, getD_set_true hJ.2⟩
  have hlt : ∀ (i : Nat) listed, i < n + 1 → Inv1 .any (o :: l).toArray (n + 1) listed → listed.getD i true = false → ∀ j ∈ Region.ready .any (o :: l).toArray listed, j < n + 1 := fun i listed hi inv hun j hj => by
    rcases Nat.lt_or_ge j (n + 1) with h | h
    · exact h
    · exact absurd hj (tail_waits1 hs hc hn inv _ i rfl hi hun j h)
  have H := every_of_walkJ (md := .any) (g := (o :: l).toArray.size - (n + 1)) (J := Inv1 .any (o :: l).toArray (n + 1)) hsel hlt hset (l.take n) 1 _ (a.put o.dst (a.eval x)) (fun j hj => by
    have hj' : j < n := by rw [htl] at hj; exact hj
    rw [show 1 + j = j + 1 from by omega]
    simp [hj']) (by rw [htl]; omega) inv1 (by rw [htl]; exact hlex) h
  refine wp_region_any hm ?_
  rw [show (o :: l).toArray.size = l.length + 1 from hsz]
  have hy : Yields P (o :: l).toArray o (a.eval x) a := by
    refine .inl ⟨by simp [Region.wanted, hg], fun w => ?_⟩
    unfold execOp
    rw [ho]
    rfl
  refine wpAny_take h0 hsel hf hr (fun c a w h => hQ' c _ a w h) hy ?_
  have := wpAny_of_every (Q := Q) (g := (o :: l).toArray.size - (n + 1)) (fun listed a' w' hw' hL => by
    have := wpAny_of_seq (md := .any) (Q' := Q) (l.drop n) (n + 1) listed a' w' (fun j => by simp [List.getElem?_drop]; rw [show n + 1 + j = (n + j) + 1 from by omega]; simp) (by rw [hdl]; exact hL.1) (hL.2 w' hw')
    rwa [hdl] at this) _ _ _ _ hI H
  rw [htl, show n + ((o :: l).toArray.size - (n + 1)) = l.length from by rw [hsz]; omega] at this
  rw [← hsz]
  exact this
/-- a still walk is one whose condition is to be the world -/
theorem inv_of_still {w : World} {Q : Act → Prop} : ∀ {l : List Oper} {a : Act}, wpStill P ops w Q l a → wpInv P (fun w' => w' = w) ops Q l a
  | [], a, h => h
  | o :: rest, a, h => by
    unfold wpStill at h
    by_cases hw : Region.wanted o (yielded ops a.tmps) = true
    · rw [if_pos hw] at h
      unfold Oper.still at h
      cases hr : (execOp a.eval o).run P w with
      | halt x w' => rw [hr] at h; exact h.elim
      | ok nx w' =>
        rw [hr] at h
        cases nx with
        | value v =>
          obtain ⟨rfl, h2⟩ := h
          exact ⟨v, .inl ⟨hw, fun w'' hw'' => by subst hw''; rw [hr]; exact ⟨rfl, rfl⟩⟩, inv_of_still h2⟩
        | skip =>
          obtain ⟨rfl, h2⟩ := h
          exact ⟨undef, .inl ⟨hw, fun w'' hw'' => by subst hw''; rw [hr]; exact ⟨rfl, rfl⟩⟩, inv_of_still h2⟩
        | enter f args =>
          obtain ⟨rfl, v, hc, h2⟩ := h
          exact ⟨v, .inl ⟨hw, fun w'' hw'' => by subst hw''; rw [hr]; exact hc⟩, inv_of_still h2⟩
        | _ => exact (h : False).elim
    · rw [if_neg hw] at h
      exact ⟨undef, .inr ⟨by simpa using hw, rfl⟩, inv_of_still h⟩
theorem wpInv_mono {Q Q' : Act → Prop} (hq : ∀ a, Q a → Q' a) : ∀ {l : List Oper} {a : Act}, wpInv P I ops Q l a → wpInv P I ops Q' l a
  | [], a, h => hq _ h
  | o :: rest, a, ⟨v, h1, h2⟩ => ⟨v, h1, wpInv_mono hq h2⟩
/-- the same with a still walk -/
theorem wp_region_still_one {id : Nat} {Q : Exit → Act → World → Prop} {a : Act} {w : World} {o : Oper} {l : List Oper} (n : Nat) (x : Operand) (hm : P.follows .mixedOrders = true) (hB : tail1 .any (o :: l).toArray (n + 1) = true)
    (hg : o.guard = none) (ho : o.op = .move x) (hQ' : ∀ c (v : Value) a w, Q (.panic c) (a.put o.dst v) w → Q (.panic c) a w)
    (h : wpStill P (o :: l).toArray w.drew (fun a' => wpList P (o :: l).toArray Q (l.drop n) a' w.drew) (l.take n) (a.put o.dst (a.eval x))) : (Code.region id (o :: l).toArray true).wp P Q a w :=
  wp_region_inv_one (fun w' => w' = w.drew) n x hm hB rfl hg ho hQ' (wpInv_mono (fun a' h w' hw' => by subst hw'; exact h) (inv_of_still h))
end
end Go.Proofs.Ytfjaoompdleljaa.Inv
