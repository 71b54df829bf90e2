/-
  A region whose order is open, over worlds known by a condition that may turn on which operations are done: an allocation among reads. Helper text; no statement is proved here.
-/
import Derived.Test.YtfjaoompdleljaaInv1
set_option linter.unusedVariables false
set_option maxRecDepth 20000
namespace Go.Proofs.Ytfjaoompdleljaa.InvL
open Go.RowKit Go.Proofs.Ytfjaoompdleljaa.Laws Go.Proofs.Ytfjaoompdleljaa.Inv
section
variable {P : Program} {I : Array Bool → World → Prop} {ops : Array Oper} {md : Region.Mode}
/-- operation i yields v in each world that the condition lets in while i is not done, and the condition with i done holds behind it -/
def GivesL (P : Program) (I : Array Bool → World → Prop) (ops : Array Oper) (i : Nat) (o : Oper) (a : Act) (v : Value) : Prop :=
  (Region.wanted o (yielded ops a.tmps) = true ∧ ∀ d w, d.getD i true = false → I d w → Meets P (I (d.setIfInBounds i true)) v ((execOp a.eval o).run P w)) ∨
  (Region.wanted o (yielded ops a.tmps) = false ∧ v = undef ∧ ∀ d w, d.getD i true = false → I d w → I (d.setIfInBounds i true) w)
def wpInvL (P : Program) (I : Array Bool → World → Prop) (ops : Array Oper) (Q : Act → Prop) : Nat → List Oper → Act → Prop
  | _, [], a => Q a
  | i, o :: rest, a => ∃ v, GivesL P I ops i o a v ∧ wpInvL P I ops Q (i + 1) rest (a.put o.dst v)
theorem GivesL.moved {i : Nat} {o : Oper} {v : Value} {a b : Act} (h : GivesL P I ops i o a v) (he : execOp b.eval o = execOp a.eval o) (hw : Region.wanted o (yielded ops b.tmps) = Region.wanted o (yielded ops a.tmps)) : GivesL P I ops i o b v := by
  unfold GivesL at *
  rw [he, hw]
  exact h
def turn (P : Program) (I : Array Bool → World → Prop) (ops : Array Oper) (i : Nat) (K : Act → Prop) (a : Act) : Prop :=
  match ops[i]? with
  | none => False
  | some o => ∃ v, GivesL P I ops i o a v ∧ K (a.put o.dst v)
theorem turn_some {i : Nat} {o : Oper} (ho : ops[i]? = some o) {K : Act → Prop} {a : Act} : turn P I ops i K a ↔ ∃ v, GivesL P I ops i o a v ∧ K (a.put o.dst v) := by
  unfold turn; rw [ho]
theorem turn_mono {i : Nat} {a : Act} {K K' : Act → Prop} (h : ∀ a, K a → K' a) (hh : turn P I ops i K a) : turn P I ops i K' a := by
  cases ho : ops[i]? with
  | none => simp only [turn, ho] at hh
  | some o =>
    obtain ⟨v, h1, h2⟩ := (turn_some ho).1 hh
    exact (turn_some ho).2 ⟨v, h1, h _ h2⟩
theorem turn_past {i j : Nat} {oi oj : Oper} {v : Value} (hj : ops[j]? = some oj) (hap : oi.apart ops oj = true) (hsi : ∀ cs b, oi.op ≠ .select cs b) (hsj : ∀ cs b, oj.op ≠ .select cs b) {K : Act → Prop} {a : Act}
    (hg : GivesL P I ops i oi a v) (h : turn P I ops j K (a.put oi.dst v)) : turn P I ops j (fun b => GivesL P I ops i oi b v ∧ K (b.put oi.dst v)) a := by
  obtain ⟨h1, h2, h3⟩ := Oper.apart_spec hap
  obtain ⟨u, hu, hk⟩ := (turn_some hj).1 h
  refine (turn_some hj).2 ⟨u, hu.moved (execOp_put oj hsj a oi.dst v h1).symm (wanted_put oj a oi.dst v h1).symm, hg.moved (execOp_put oi hsi a oj.dst u h3) (wanted_put oi a oj.dst u h3), ?_⟩
  rw [← Act.put_comm a v u h2]
  exact hk
def every (P : Program) (I : Array Bool → World → Prop) (md : Region.Mode) (ops : Array Oper) (n : Nat) (L : Array Bool → Act → Prop) : Nat → Array Bool → Act → Prop
  | 0, listed, a => L listed a
  | f + 1, listed, a => Region.ready md ops listed ≠ [] ∧ ∀ i ∈ Region.ready md ops listed, i < n ∧ turn P I ops i (every P I md ops n L f (listed.setIfInBounds i true)) a
theorem wp_of_meets {J : World → Prop} {o : Oper} {a : Act} {v : Value} {w : World} {K : Act → World → Prop} {Q : Exit → Act → World → Prop} (hg : Meets P J v ((execOp a.eval o).run P w)) (h : ∀ w', J w' → K (a.put o.dst v) w') : o.wp P a w K Q := by
  unfold Oper.wp
  generalize (execOp a.eval o).run P w = r at *
  cases r with
  | halt x w' => exact hg.elim
  | ok nx w' =>
    cases nx with
    | value u => obtain ⟨rfl, h2⟩ := hg; exact h _ h2
    | skip => obtain ⟨rfl, h2⟩ := hg; exact h _ h2
    | enter f args =>
      exact Calls.mono hg fun e w'' hh => by
        obtain ⟨he, h2⟩ := hh
        subst he
        exact h _ h2
    | _ => exact (hg : False).elim
theorem wpOp_of_turn {i : Nat} {a : Act} {d : Array Bool} {w : World} {K : Act → Prop} {K' : Act → World → Prop} {Q : Exit → Act → World → Prop} (hd : d.getD i true = false) (hw : I d w) (h : ∀ a w, I (d.setIfInBounds i true) w → K a → K' a w) (hh : turn P I ops i K a) : wpOp P ops Q i K' a w := by
  unfold wpOp
  cases ho : ops[i]? with
  | none => simp only [turn, ho] at hh
  | some o =>
    obtain ⟨v, hg, hk⟩ := (turn_some ho).1 hh
    rcases hg with ⟨h1, h2⟩ | ⟨h1, rfl, h2⟩
    · simp only [h1, if_true]
      exact .inl (wp_of_meets (h2 d w hd hw) fun w' hw' => h _ _ hw' hk)
    · simp only [h1]
      exact h _ _ (h2 d w hd hw) hk
theorem wpAny_of_every {n g : Nat} {L : Array Bool → Act → Prop} {Q : Exit → Act → World → Prop} (hL : ∀ listed a w, I listed w → L listed a → wpAny P md ops Q g listed a w) :
    ∀ (f : Nat) (listed : Array Bool) (a : Act) (w : World), I listed w → every P I md ops n L f listed a → wpAny P md ops Q (f + g) listed a w
  | 0, listed, a, w, hw, h => by rw [Nat.zero_add]; exact hL _ _ _ hw h
  | f + 1, listed, a, w, hw, h => by
    rw [show f + 1 + g = (f + g) + 1 from by omega]
    exact ⟨fun h0 => absurd h0 h.1, fun i hi => wpOp_of_turn (mem_ready.1 hi).1 hw (fun a' w' hw' h' => wpAny_of_every hL f _ a' w' hw' h') (h.2 i hi).2⟩
/-- what may come up now may be taken first -/
theorem every_first {J : Array Bool → Prop} {n i : Nat} {oi : Oper} {v : Value} {L : Array Bool → Act → Prop} (hi : ops[i]? = some oi) (hsel : ∀ (j : Nat) (o : Oper) cs b, ops[j]? = some o → o.op ≠ .select cs b)
    (hn : ∀ listed, J listed → listed.getD i true = false → ∀ j ∈ Region.ready md ops listed, j < n)
    (hset : ∀ (listed : Array Bool) (j : Nat), J listed → j ∈ Region.ready md ops listed → j < n → J (listed.setIfInBounds j true))
    (hdone : ∀ listed a, L listed a → ∀ j ∈ Region.ready md ops listed, n ≤ j) :
    ∀ (f : Nat) (listed : Array Bool) (a : Act), J listed →
      (∀ j oj, ops[j]? = some oj → j ≠ i → listed.getD j true = false → (∀ e ∈ oj.after, Region.binds md e = true → e.on ≠ i) → oi.apart ops oj = true) →
      i ∈ Region.ready md ops listed → GivesL P I ops i oi a v → every P I md ops n L f (listed.setIfInBounds i true) (a.put oi.dst v) → every P I md ops n L (f + 1) listed a := by
  intro f
  induction f with
  | zero =>
    intro listed a inv _ hr hg H
    refine ⟨fun h => (by rw [h] at hr; cases hr), fun j hj => ?_⟩
    have hjn := hn listed inv (mem_ready.1 hr).1 j hj
    refine ⟨hjn, ?_⟩
    by_cases e : j = i
    · subst e; exact (turn_some hi).2 ⟨v, hg, H⟩
    · have := hdone _ _ H j (ready_mono hj e)
      omega
  | succ f ih =>
    intro listed a inv hfree hr hg H
    refine ⟨fun h => (by rw [h] at hr; cases hr), fun j hj => ?_⟩
    have hjn := hn listed inv (mem_ready.1 hr).1 j hj
    refine ⟨hjn, ?_⟩
    by_cases e : j = i
    · subst e; exact (turn_some hi).2 ⟨v, hg, H⟩
    · have h1 := (H.2 j (ready_mono hj e)).2
      obtain ⟨hjun, oj, hoj, hall⟩ := mem_ready.1 hj
      have hnot : ∀ x ∈ oj.after, Region.binds md x = true → x.on ≠ i := fun x hx hb heq => by
        have h5 := hall x hx hb
        rw [heq, getD_both (mem_ready.1 hr).1] at h5
        cases h5
      have h2 := turn_past hoj (hfree j oj hoj e hjun hnot) (fun cs b => hsel i oi cs b hi) (fun cs b => hsel j oj cs b hoj) hg h1
      refine turn_mono (fun b h3 => ih (listed.setIfInBounds j true) b (hset _ _ inv hj hjn) (fun k ok hk hki hun hno => ?_) (ready_mono hr (Ne.symm e)) h3.1 ?_) h2
      · refine hfree k ok hk hki ?_ hno
        by_cases hjk : j = k
        · subst hjk; exact hjun
        · rwa [getD_set_ne true hjk] at hun
      · rw [Array.setIfInBounds_comm _ _ e]
        exact h3.2

/-- the operations ahead of place k are done -/
def doneTo (s k : Nat) : Array Bool := (List.range k).foldl (fun d i => d.setIfInBounds i true) (Array.replicate s false)
theorem done_succ (s k : Nat) : doneTo s (k + 1) = (doneTo s k).setIfInBounds k true := by simp [doneTo, List.range_succ]
theorem every_of_walk {J : Array Bool → Prop} {s n g : Nat} {Lq : Act → Prop} (hsel : Region.noSelect ops = true) (hn : ∀ (i : Nat) listed, i < n → J listed → listed.getD i true = false → ∀ j ∈ Region.ready md ops listed, j < n)
    (hset : ∀ (listed : Array Bool) (j : Nat), J listed → j ∈ Region.ready md ops listed → j < n → J (listed.setIfInBounds j true)) :
    ∀ (l : List Oper) (k : Nat) (listed : Array Bool) (a : Act), (∀ j, j < l.length → l[j]? = ops[k + j]?) → k + l.length = n → J listed → listed = doneTo s k →
    Region.lexHead md ops g l.length k listed = true → wpInvL P I ops Lq k l a → every P I md ops n (fun listed' a' => Region.seqB md ops g n listed' = true ∧ listed' = doneTo s n ∧ Lq a') l.length listed a
  | [], k, listed, a, _, hk, _, hd, hB, h => by
    obtain rfl : k = n := by simpa using hk
    exact ⟨by simpa [Region.lexHead] using hB, hd, h⟩
  | o :: l, k, listed, a, hl, hk, inv, hd, hB, h => by
    have h0 : ops[k]? = some o := by simpa using (hl 0 (by simp)).symm
    simp only [List.length_cons, Region.lexHead, Bool.and_eq_true] at hB
    obtain ⟨⟨hr, hf⟩, hB'⟩ := hB
    have hkn : k < n := by simp only [List.length_cons] at hk; omega
    have hr' : k ∈ Region.ready md ops listed := by simpa using hr
    obtain ⟨v, hg, hK⟩ := h
    exact every_first h0 (Region.noSelect_spec hsel) (fun listed => hn k listed hkn) hset (fun listed' a' hL => seqB_ready hL.1) l.length listed a inv (Region.free_spec h0 hf) hr' hg
      (every_of_walk hsel hn hset l (k + 1) _ _ (fun j hj => by have := hl (j + 1) (by simp; omega); simpa [Nat.add_assoc, Nat.add_comm 1 j] using this) (by simp only [List.length_cons] at hk; omega) (hset _ _ inv hr' hkn) (by rw [hd, done_succ]) hB' hK)
/-- A REGION WHOSE ORDER IS OPEN up to place n; behind it the tail, whose order is forced. -/
theorem wp_region_inv_tail {id : Nat} {Q : Exit → Act → World → Prop} {a : Act} {w : World} {l : List Oper} (I : Array Bool → World → Prop) (n : Nat) (hm : P.follows .mixedOrders = true) (hB : Region.lexTailB .any l.toArray n = true) (hI : I (doneTo l.length 0) w.drew)
    (h : wpInvL P I l.toArray (fun a' => ∀ w', I (doneTo l.length n) w' → wpList P l.toArray Q (l.drop n) a' w') 0 (l.take n) a) : (Code.region id l.toArray true).wp P Q a w := by
  simp only [Region.lexTailB, Bool.and_eq_true, decide_eq_true_eq] at hB
  obtain ⟨⟨⟨⟨hsel, hn⟩, hs⟩, hc⟩, hlex⟩ := hB
  have hn' : n < l.length := by simpa using hn
  have htl : (l.take n).length = n := by simp; omega
  have hdl : (l.drop n).length = l.toArray.size - n := by simp
  have inv0 : HeadInv .any l.toArray n (Array.replicate l.toArray.size false) :=
    ⟨by simp, fun j oj _ hl => (by rw [getD_replicate_false] at hl; cases hl), fun t _ ht => getD_in (by simpa using ht) (getD_replicate_false _ _)⟩
  have hlt : ∀ (i : Nat) listed, i < n → HeadInv .any l.toArray n listed → listed.getD i true = false → ∀ j ∈ Region.ready .any l.toArray listed, j < n := fun i listed hi inv hun j hj => by
    rcases Nat.lt_or_ge j n with h | h
    · exact h
    · exact absurd hj (tail_waits hs hc hn inv _ i rfl hi hun j h)
  have H := every_of_walk (md := .any) (s := l.length) (g := l.toArray.size - n) (J := HeadInv .any l.toArray n) hsel hlt (fun listed j hJ hj hjn => hJ.set hj hjn) (l.take n) 0 _ a (fun j hj => by
    have hj' : j < n := by rw [htl] at hj; exact hj
    simp [hj']) (by simpa using htl) inv0 (by simp [doneTo]) (by rw [htl]; exact hlex) h
  refine wp_region_any hm ?_
  have := wpAny_of_every (Q := Q) (I := I) (g := l.toArray.size - n) (fun listed a' w' hw' hL => by
    have := wpAny_of_seq (md := .any) (Q' := Q) (l.drop n) n listed a' w' (fun j => by simp [List.getElem?_drop]) (by rw [hdl]; exact hL.1) (hL.2.2 w' (hL.2.1 ▸ hw'))
    rwa [hdl] at this) _ _ _ _ (by simpa [doneTo] using hI) H
  rw [htl, show n + (l.toArray.size - n) = l.toArray.size from by omega] at this
  exact this
/-- the same where the first operation is a copy that only the tail waits for -/
theorem wp_region_inv_one {id : Nat} {Q : Exit → Act → World → Prop} {a : Act} {w : World} {o : Oper} {l : List Oper} (I : Array Bool → World → Prop) (n : Nat) (x : Operand) (hm : P.follows .mixedOrders = true) (hB : tail1 .any (o :: l).toArray (n + 1) = true) (hI : I (doneTo (l.length + 1) 1) w.drew)
    (hg : o.guard = none) (ho : o.op = .move x) (hQ' : ∀ c (v : Value) a w, Q (.panic c) (a.put o.dst v) w → Q (.panic c) a w)
    (h : wpInvL P I (o :: l).toArray (fun a' => ∀ w', I (doneTo (l.length + 1) (n + 1)) w' → wpList P (o :: l).toArray Q (l.drop n) a' w') 1 (l.take n) (a.put o.dst (a.eval x))) : (Code.region id (o :: l).toArray true).wp P Q a w := by
  simp only [tail1, Bool.and_eq_true, decide_eq_true_eq] at hB
  obtain ⟨⟨⟨⟨⟨⟨⟨hsel, hn⟩, hn0⟩, hs⟩, hc⟩, hf⟩, hr⟩, hlex⟩ := hB
  have hsz : (o :: l).toArray.size = l.length + 1 := by simp
  have hn' : n < l.length := by rw [hsz] at hn; omega
  have htl : (l.take n).length = n := by simp; omega
  have hdl : (l.drop n).length = (o :: l).toArray.size - (n + 1) := by simp
  have h0 : (o :: l).toArray[0]? = some o := by simp
  have inv0 : HeadInv .any (o :: l).toArray (n + 1) (Array.replicate (o :: l).toArray.size false) :=
    ⟨by simp, fun j oj _ hl => (by rw [getD_replicate_false] at hl; cases hl), fun t _ ht => getD_in (by simpa using ht) (getD_replicate_false _ _)⟩
  have hr0 : 0 ∈ Region.ready .any (o :: l).toArray (Array.replicate (o :: l).toArray.size false) := by simpa using hr
  have inv1 : Inv1 .any (o :: l).toArray (n + 1) ((Array.replicate (o :: l).toArray.size false).setIfInBounds 0 true) :=
    ⟨inv0.set hr0 (by omega), by rw [hsz]; simp⟩
  have hset : ∀ (listed : Array Bool) (j : Nat), Inv1 .any (o :: l).toArray (n + 1) listed → j ∈ Region.ready .any (o :: l).toArray listed → j < n + 1 → Inv1 .any (o :: l).toArray (n + 1) (listed.setIfInBounds j true) := fun listed j hJ hj hjn =>
    ⟨hJ.1.set hj hjn, getD_set_true hJ.2⟩
  have hlt : ∀ (i : Nat) listed, i < n + 1 → Inv1 .any (o :: l).toArray (n + 1) listed → listed.getD i true = false → ∀ j ∈ Region.ready .any (o :: l).toArray listed, j < n + 1 := fun i listed hi inv hun j hj => by
    rcases Nat.lt_or_ge j (n + 1) with h | h
    · exact h
    · exact absurd hj (tail_waits1 hs hc hn inv _ i rfl hi hun j h)
  have H := every_of_walk (md := .any) (s := l.length + 1) (g := (o :: l).toArray.size - (n + 1)) (J := Inv1 .any (o :: l).toArray (n + 1)) hsel hlt hset (l.take n) 1 _ (a.put o.dst (a.eval x)) (fun j hj => by
    have hj' : j < n := by rw [htl] at hj; exact hj
    rw [show 1 + j = j + 1 from by omega]
    simp [hj']) (by rw [htl]; omega) inv1 (by rw [hsz]; rfl) (by rw [htl]; exact hlex) h
  refine wp_region_any hm ?_
  rw [show (o :: l).toArray.size = l.length + 1 from hsz]
  have hy : Yields P (o :: l).toArray o (a.eval x) a := by
    refine .inl ⟨by simp [Region.wanted, hg], fun w => ?_⟩
    unfold execOp
    rw [ho]
    rfl
  refine wpAny_take h0 hsel hf hr (fun c a w h => hQ' c _ a w h) hy ?_
  have := wpAny_of_every (Q := Q) (I := I) (g := (o :: l).toArray.size - (n + 1)) (fun listed a' w' hw' hL => by
    have := wpAny_of_seq (md := .any) (Q' := Q) (l.drop n) (n + 1) listed a' w' (fun j => by simp [List.getElem?_drop]; rw [show n + 1 + j = (n + j) + 1 from by omega]; simp) (by rw [hdl]; exact hL.1) (hL.2.2 w' (hL.2.1 ▸ hw'))
    rwa [hdl] at this) _ _ _ _ (by rw [hsz]; exact hI) H
  rw [htl, show n + ((o :: l).toArray.size - (n + 1)) = l.length from by rw [hsz]; omega] at this
  rw [← hsz]
  exact this
theorem invl_nil {Q : Act → Prop} {i : Nat} {a : Act} (h : Q a) : wpInvL P I ops Q i [] a := h
/-- an operation that does not turn the world, nor the condition -/
theorem invl_value {Q : Act → Prop} {i : Nat} {a : Act} {o : Oper} {rest : List Oper} (v : Value) (hw : Region.wanted o (yielded ops a.tmps) = true) (hr : ∀ d w, I d w → (execOp a.eval o).run P w = .ok (.value v) w) (hk : ∀ d w, d.getD i true = false → I d w → I (d.setIfInBounds i true) w)
    (h : wpInvL P I ops Q (i + 1) rest (a.put o.dst v)) : wpInvL P I ops Q i (o :: rest) a :=
  ⟨v, .inl ⟨hw, fun d w hd hI => by rw [hr d w hI]; exact ⟨rfl, hk d w hd hI⟩⟩, h⟩
theorem invl_skip {Q : Act → Prop} {i : Nat} {a : Act} {o : Oper} {rest : List Oper} (hw : Region.wanted o (yielded ops a.tmps) = false) (hk : ∀ d w, d.getD i true = false → I d w → I (d.setIfInBounds i true) w) (h : wpInvL P I ops Q (i + 1) rest (a.put o.dst undef)) : wpInvL P I ops Q i (o :: rest) a :=
  ⟨undef, .inr ⟨hw, rfl, hk⟩, h⟩
/-- an operation that turns the world -/
theorem invl_world {Q : Act → Prop} {i : Nat} {a : Act} {o : Oper} {rest : List Oper} (v : Value) (hw : Region.wanted o (yielded ops a.tmps) = true) (hr : ∀ d w, d.getD i true = false → I d w → ∃ w', (execOp a.eval o).run P w = .ok (.value v) w' ∧ I (d.setIfInBounds i true) w')
    (h : wpInvL P I ops Q (i + 1) rest (a.put o.dst v)) : wpInvL P I ops Q i (o :: rest) a :=
  ⟨v, .inl ⟨hw, fun d w hd hI => by obtain ⟨w', h1, h2⟩ := hr d w hd hI; rw [h1]; exact ⟨rfl, h2⟩⟩, h⟩
/-- a call of a Go function -/
theorem invl_call {Q : Act → Prop} {i : Nat} {a : Act} {o : Oper} {rest : List Oper} (v : Value) (hw : Region.wanted o (yielded ops a.tmps) = true) (f : FuncId) (args : Array Value) (hr : ∀ d w, I d w → (execOp a.eval o).run P w = .ok (.enter f args) w)
    (hc : ∀ d w, d.getD i true = false → I d w → Calls P f args w fun e w' => e = .returned v ∧ I (d.setIfInBounds i true) w') (h : wpInvL P I ops Q (i + 1) rest (a.put o.dst v)) : wpInvL P I ops Q i (o :: rest) a :=
  ⟨v, .inl ⟨hw, fun d w hd hI => by rw [hr d w hI]; exact hc d w hd hI⟩, h⟩
/-- A ahead of operation p, B behind it -/
def At (p : Nat) (A B : World → Prop) (d : Array Bool) (w : World) : Prop := if d.getD p false = true then B w else A w
theorem At.keep {p i : Nat} {A B : World → Prop} {d : Array Bool} {w w' : World} (hne : i ≠ p) (hA : A w → A w') (hB : B w → B w') (h : At p A B d w) : At p A B (d.setIfInBounds i true) w' := by
  unfold At at *
  rw [getD_set_ne false hne]
  split at h
  · rename_i e; rw [if_pos e]; exact hB h
  · rename_i e; rw [if_neg e]; exact hA h
theorem At.before {p : Nat} {A B : World → Prop} {d : Array Bool} {w : World} (hd : d.getD p true = false) (h : At p A B d w) : A w := by
  unfold At at h
  rwa [if_neg (by rw [getD_both hd]; simp)] at h
theorem At.now {p : Nat} {A B : World → Prop} {d : Array Bool} {w : World} (hd : d.getD p true = false) (h : B w) : At p A B (d.setIfInBounds p true) w := by
  unfold At
  rw [if_pos ?_]
  · exact h
  · have hp : p < d.size := by
      rcases Nat.lt_or_ge p d.size with h' | h'
      · exact h'
      · simp [Array.getElem?_eq_none h'] at hd
    simp [hp]
theorem At.start {p : Nat} {A B : World → Prop} {d : Array Bool} {w : World} (hd : d.getD p false = false) (h : A w) : At p A B d w := by
  unfold At
  rw [if_neg (by rw [hd]; simp)]
  exact h
theorem At.done {p : Nat} {A B : World → Prop} {d : Array Bool} {w : World} (hd : d.getD p false = true) (h : At p A B d w) : B w := by
  unfold At at h
  rwa [if_pos hd] at h
end
end Go.Proofs.Ytfjaoompdleljaa.InvL
