/-
  A region whose order is open, over worlds that are known by a condition alone: each operation yields its value, and keeps the condition, in whatever world that meets it. Then one walk in the order of the text serves for every order. Helper text; no statement is proved here.
-/
import Derived.WalkKit
import Derived.StillTail
import Derived.Test.YtfjaoompdleljaaLaws
set_option linter.unusedVariables false
set_option maxRecDepth 20000
namespace Go.Proofs.Ytfjaoompdleljaa.Inv
open Go.RowKit Go.Proofs.Ytfjaoompdleljaa.Laws

section
variable {P : Program} {I : World → Prop} {ops : Array Oper} {md : Region.Mode}

/-- what one run of an operation comes to: the value v, in a world that meets I -/
def Meets (P : Program) (I : World → Prop) (v : Value) : Result Next → Prop
  | .ok (.value u) w' => u = v ∧ I w'
  | .ok .skip w' => undef = v ∧ I w'
  | .ok (.enter f args) w' => Calls P f args w' fun e w'' => e = .returned v ∧ I w''
  | _ => False

/-- the operation yields v in each world that meets I (or is passed over) -/
def Gives (P : Program) (I : World → Prop) (ops : Array Oper) (o : Oper) (a : Act) (v : Value) : Prop :=
  (Region.wanted o (yielded ops a.tmps) = true ∧ ∀ w, I w → Meets P I v ((execOp a.eval o).run P w)) ∨ (Region.wanted o (yielded ops a.tmps) = false ∧ v = undef)

/-- the walk in the order of the text -/
def wpInv (P : Program) (I : World → Prop) (ops : Array Oper) (Q : Act → Prop) : List Oper → Act → Prop
  | [], a => Q a
  | o :: rest, a => ∃ v, Gives P I ops o a v ∧ wpInv P I ops Q rest (a.put o.dst v)

theorem Gives.moved {o : Oper} {v : Value} {a b : Act} (h : Gives P I ops o a v) (he : execOp b.eval o = execOp a.eval o) (hw : Region.wanted o (yielded ops b.tmps) = Region.wanted o (yielded ops a.tmps)) : Gives P I ops o b v := by
  unfold Gives at *
  rw [he, hw]
  exact h

/-- one step at a place of the region -/
def turn (P : Program) (I : World → Prop) (ops : Array Oper) (i : Nat) (K : Act → Prop) (a : Act) : Prop :=
  match ops[i]? with
  | none => K a
  | some o => ∃ v, Gives P I ops o a v ∧ K (a.put o.dst v)
theorem turn_some {i : Nat} {o : Oper} (ho : ops[i]? = some o) {K : Act → Prop} {a : Act} : turn P I ops i K a ↔ ∃ v, Gives P I ops o a v ∧ K (a.put o.dst v) := by
  unfold turn; rw [ho]
theorem turn_mono {i : Nat} {a : Act} {K K' : Act → Prop} (h : ∀ a, K a → K' a) (hh : turn P I ops i K a) : turn P I ops i K' a := by
  cases ho : ops[i]? with
  | none => simp only [turn, ho] at hh ⊢; exact h _ hh
  | some o =>
    obtain ⟨v, h1, h2⟩ := (turn_some ho).1 hh
    exact (turn_some ho).2 ⟨v, h1, h _ h2⟩

/-- a step that another operation's value does not touch -/
theorem turn_past {j : Nat} {oi oj : Oper} {v : Value} (hj : ops[j]? = some oj) (hap : oi.apart ops oj = true) (hsi : ∀ cs b, oi.op ≠ .select cs b) (hsj : ∀ cs b, oj.op ≠ .select cs b) {K : Act → Prop} {a : Act}
    (hg : Gives P I ops oi a v) (h : turn P I ops j K (a.put oi.dst v)) : turn P I ops j (fun b => Gives P I ops oi b v ∧ K (b.put oi.dst v)) a := by
  obtain ⟨h1, h2, h3⟩ := Oper.apart_spec hap
  obtain ⟨u, hu, hk⟩ := (turn_some hj).1 h
  refine (turn_some hj).2 ⟨u, hu.moved (execOp_put oj hsj a oi.dst v h1).symm (wanted_put oj a oi.dst v h1).symm, hg.moved (execOp_put oi hsi a oj.dst u h3) (wanted_put oi a oj.dst u h3), ?_⟩
  rw [← Act.put_comm a v u h2]
  exact hk

/-- every order of what is left, up to a tail -/
def every (P : Program) (I : World → Prop) (md : Region.Mode) (ops : Array Oper) (n : Nat) (L : Array Bool → Act → Prop) : Nat → Array Bool → Act → Prop
  | 0, listed, a => L listed a
  | f + 1, listed, a => Region.ready md ops listed ≠ [] ∧ ∀ i ∈ Region.ready md ops listed, i < n ∧ turn P I ops i (every P I md ops n L f (listed.setIfInBounds i true)) a

theorem wp_of_gives {o : Oper} {a : Act} {v : Value} {w : World} {K : Act → World → Prop} {Q : Exit → Act → World → Prop} (hw : I w) (hg : Meets P I v ((execOp a.eval o).run P w)) (h : ∀ w', I w' → K (a.put o.dst v) w') : o.wp P a w K Q := by
  unfold Oper.wp
  generalize (execOp a.eval o).run P w = r at *
  cases r with
  | halt x w' => exact hg.elim
  | ok nx w' =>
    cases nx with
    | value u => obtain ⟨rfl, h2⟩ := hg; exact h _ h2
    | skip => obtain ⟨rfl, h2⟩ := hg; exact h _ h2
    | enter f args =>
      exact Calls.mono hg fun e w'' hh => by
        obtain ⟨he, h2⟩ := hh
        subst he
        exact h _ h2
    | _ => exact (hg : False).elim
theorem wpOp_of_turn {i : Nat} {a : Act} {w : World} {K : Act → Prop} {K' : Act → World → Prop} {Q : Exit → Act → World → Prop} (hw : I w) (h : ∀ a w, I w → K a → K' a w) (hh : turn P I ops i K a) : wpOp P ops Q i K' a w := by
  unfold wpOp
  cases ho : ops[i]? with
  | none => simp only [turn, ho] at hh; exact h _ _ hw hh
  | some o =>
    obtain ⟨v, hg, hk⟩ := (turn_some ho).1 hh
    rcases hg with ⟨h1, h2⟩ | ⟨h1, rfl⟩
    · simp only [h1, if_true]
      exact .inl (wp_of_gives hw (h2 w hw) fun w' hw' => h _ _ hw' hk)
    · simp only [h1]
      exact h _ _ hw hk
theorem wpAny_of_every {n g : Nat} {L : Array Bool → Act → Prop} {Q : Exit → Act → World → Prop} (hL : ∀ listed a w, I w → L listed a → wpAny P md ops Q g listed a w) :
    ∀ (f : Nat) (listed : Array Bool) (a : Act) (w : World), I w → every P I md ops n L f listed a → wpAny P md ops Q (f + g) listed a w
  | 0, listed, a, w, hw, h => by rw [Nat.zero_add]; exact hL _ _ _ hw h
  | f + 1, listed, a, w, hw, h => by
    rw [show f + 1 + g = (f + g) + 1 from by omega]
    exact ⟨fun h0 => absurd h0 h.1, fun i hi => wpOp_of_turn hw (fun a' w' hw' h' => wpAny_of_every hL f _ a' w' hw' h') (h.2 i hi).2⟩

/-- what may come up now may be taken first -/
theorem every_first {n i : Nat} {oi : Oper} {v : Value} {L : Array Bool → Act → Prop} (hi : ops[i]? = some oi) (hsel : ∀ (j : Nat) (o : Oper) cs b, ops[j]? = some o → o.op ≠ .select cs b)
    (hn : ∀ listed, HeadInv md ops n listed → listed.getD i true = false → ∀ j ∈ Region.ready md ops listed, j < n)
    (hdone : ∀ listed a, L listed a → ∀ j ∈ Region.ready md ops listed, n ≤ j) :
    ∀ (f : Nat) (listed : Array Bool) (a : Act), HeadInv md ops n listed →
      (∀ j oj, ops[j]? = some oj → j ≠ i → listed.getD j true = false → (∀ e ∈ oj.after, Region.binds md e = true → e.on ≠ i) → oi.apart ops oj = true) →
      i ∈ Region.ready md ops listed → Gives P I ops oi a v → every P I md ops n L f (listed.setIfInBounds i true) (a.put oi.dst v) → every P I md ops n L (f + 1) listed a := by
  intro f
  induction f with
  | zero =>
    intro listed a inv _ hr hg H
    refine ⟨fun h => (by rw [h] at hr; cases hr), fun j hj => ?_⟩
    have hjn := hn listed inv (mem_ready.1 hr).1 j hj
    refine ⟨hjn, ?_⟩
    by_cases e : j = i
    · subst e; exact (turn_some hi).2 ⟨v, hg, H⟩
    · have := hdone _ _ H j (ready_mono hj e)
      omega
  | succ f ih =>
    intro listed a inv hfree hr hg H
    refine ⟨fun h => (by rw [h] at hr; cases hr), fun j hj => ?_⟩
    have hjn := hn listed inv (mem_ready.1 hr).1 j hj
    refine ⟨hjn, ?_⟩
    by_cases e : j = i
    · subst e; exact (turn_some hi).2 ⟨v, hg, H⟩
    · have h1 := (H.2 j (ready_mono hj e)).2
      obtain ⟨hjun, oj, hoj, hall⟩ := mem_ready.1 hj
      have hnot : ∀ x ∈ oj.after, Region.binds md x = true → x.on ≠ i := fun x hx hb heq => by
        have h5 := hall x hx hb
        rw [heq, getD_both (mem_ready.1 hr).1] at h5
        cases h5
      have h2 := turn_past hoj (hfree j oj hoj e hjun hnot) (fun cs b => hsel i oi cs b hi) (fun cs b => hsel j oj cs b hoj) hg h1
      refine turn_mono (fun b h3 => ih (listed.setIfInBounds j true) b (inv.set hj hjn) (fun k ok hk hki hun hno => ?_) (ready_mono hr (Ne.symm e)) h3.1 ?_) h2
      · refine hfree k ok hk hki ?_ hno
        by_cases hjk : j = k
        · subst hjk; exact hjun
        · rwa [getD_set_ne true hjk] at hun
      · rw [Array.setIfInBounds_comm _ _ e]
        exact h3.2

/-- the walk in the text's order, up to place n, serves for every order -/
theorem every_of_walk {n g : Nat} {Lq : Act → Prop} (hsel : Region.noSelect ops = true) (hn : ∀ (i : Nat) listed, i < n → HeadInv md ops n listed → listed.getD i true = false → ∀ j ∈ Region.ready md ops listed, j < n) :
    ∀ (l : List Oper) (k : Nat) (listed : Array Bool) (a : Act), (∀ j, j < l.length → l[j]? = ops[k + j]?) → k + l.length = n → HeadInv md ops n listed →
    Region.lexHead md ops g l.length k listed = true → wpInv P I ops Lq l a → every P I md ops n (fun listed' a' => Region.seqB md ops g n listed' = true ∧ Lq a') l.length listed a
  | [], k, listed, a, _, hk, _, hB, h => by
    obtain rfl : k = n := by simpa using hk
    exact ⟨by simpa [Region.lexHead] using hB, h⟩
  | o :: l, k, listed, a, hl, hk, inv, hB, h => by
    have h0 : ops[k]? = some o := by simpa using (hl 0 (by simp)).symm
    simp only [List.length_cons, Region.lexHead, Bool.and_eq_true] at hB
    obtain ⟨⟨hr, hf⟩, hB'⟩ := hB
    have hkn : k < n := by simp only [List.length_cons] at hk; omega
    have hr' : k ∈ Region.ready md ops listed := by simpa using hr
    obtain ⟨v, hg, hK⟩ := h
    exact every_first h0 (Region.noSelect_spec hsel) (fun listed => hn k listed hkn) (fun listed' a' hL => seqB_ready hL.1) l.length listed a inv (Region.free_spec h0 hf) hr' hg
      (every_of_walk hsel hn l (k + 1) _ _ (fun j hj => by have := hl (j + 1) (by simp; omega); simpa [Nat.add_assoc, Nat.add_comm 1 j] using this) (by simp only [List.length_cons] at hk; omega) (inv.set hr' hkn) hB' hK)

/-- A REGION WHOSE ORDER IS OPEN up to place n; behind it the tail, whose order is forced. -/
theorem wp_region_inv_tail {id : Nat} {Q : Exit → Act → World → Prop} {a : Act} {w : World} {l : List Oper} (I : World → Prop) (n : Nat) (hm : P.follows .mixedOrders = true) (hB : Region.lexTailB .any l.toArray n = true) (hI : I w.drew)
    (h : wpInv P I l.toArray (fun a' => ∀ w', I w' → wpList P l.toArray Q (l.drop n) a' w') (l.take n) a) : (Code.region id l.toArray true).wp P Q a w := by
  simp only [Region.lexTailB, Bool.and_eq_true, decide_eq_true_eq] at hB
  obtain ⟨⟨⟨⟨hsel, hn⟩, hs⟩, hc⟩, hlex⟩ := hB
  have hn' : n < l.length := by simpa using hn
  have htl : (l.take n).length = n := by simp; omega
  have hdl : (l.drop n).length = l.toArray.size - n := by simp
  have inv0 : HeadInv .any l.toArray n (Array.replicate l.toArray.size false) :=
    ⟨by simp, fun j oj _ hl => (by rw [getD_replicate_false] at hl; cases hl), fun t _ ht => getD_in (by simpa using ht) (getD_replicate_false _ _)⟩
  have hlt : ∀ (i : Nat) listed, i < n → HeadInv .any l.toArray n listed → listed.getD i true = false → ∀ j ∈ Region.ready .any l.toArray listed, j < n := fun i listed hi inv hun j hj => by
    rcases Nat.lt_or_ge j n with h | h
    · exact h
    · exact absurd hj (tail_waits hs hc hn inv _ i rfl hi hun j h)
  have H := every_of_walk (md := .any) (g := l.toArray.size - n) hsel hlt (l.take n) 0 _ a (fun j hj => by
    have hj' : j < n := by rw [htl] at hj; exact hj
    simp [hj']) (by simpa using htl) inv0 (by rw [htl]; exact hlex) h
  refine wp_region_any hm ?_
  have := wpAny_of_every (Q := Q) (g := l.toArray.size - n) (fun listed a' w' hw' hL => by
    have := wpAny_of_seq (md := .any) (Q' := Q) (l.drop n) n listed a' w' (fun j => by simp [List.getElem?_drop]) (by rw [hdl]; exact hL.1) (hL.2 w' hw')
    rwa [hdl] at this) _ _ _ _ hI H
  rw [htl, show n + (l.toArray.size - n) = l.toArray.size from by omega] at this
  exact this

theorem inv_nil {Q : Act → Prop} {a : Act} (h : Q a) : wpInv P I ops Q [] a := h
/-- an operation that does not turn the world -/
theorem inv_value {Q : Act → Prop} {a : Act} {o : Oper} {rest : List Oper} (v : Value) (hw : Region.wanted o (yielded ops a.tmps) = true) (hr : ∀ w, I w → (execOp a.eval o).run P w = .ok (.value v) w)
    (h : wpInv P I ops Q rest (a.put o.dst v)) : wpInv P I ops Q (o :: rest) a :=
  ⟨v, .inl ⟨hw, fun w hI => by rw [hr w hI]; exact ⟨rfl, hI⟩⟩, h⟩
/-- an operation that is passed over -/
theorem inv_skip {Q : Act → Prop} {a : Act} {o : Oper} {rest : List Oper} (hw : Region.wanted o (yielded ops a.tmps) = false) (h : wpInv P I ops Q rest (a.put o.dst undef)) : wpInv P I ops Q (o :: rest) a :=
  ⟨undef, .inr ⟨hw, rfl⟩, h⟩
/-- a call of a Go function -/
theorem inv_call {Q : Act → Prop} {a : Act} {o : Oper} {rest : List Oper} (v : Value) (hw : Region.wanted o (yielded ops a.tmps) = true) (f : FuncId) (args : Array Value) (hr : ∀ w, I w → (execOp a.eval o).run P w = .ok (.enter f args) w)
    (hc : ∀ w, I w → Calls P f args w fun e w' => e = .returned v ∧ I w') (h : wpInv P I ops Q rest (a.put o.dst v)) : wpInv P I ops Q (o :: rest) a :=
  ⟨v, .inl ⟨hw, fun w hI => by rw [hr w hI]; exact hc w hI⟩, h⟩
/-- an operation that yields a value and another world -/
theorem inv_world {Q : Act → Prop} {a : Act} {o : Oper} {rest : List Oper} (v : Value) (hw : Region.wanted o (yielded ops a.tmps) = true) (hr : ∀ w, I w → ∃ w', (execOp a.eval o).run P w = .ok (.value v) w' ∧ I w')
    (h : wpInv P I ops Q rest (a.put o.dst v)) : wpInv P I ops Q (o :: rest) a :=
  ⟨v, .inl ⟨hw, fun w hI => by obtain ⟨w', h1, h2⟩ := hr w hI; rw [h1]; exact ⟨rfl, h2⟩⟩, h⟩
/-- a copy -/
theorem inv_move {Q : Act → Prop} {a : Act} {o : Oper} {rest : List Oper} (x : Operand) (hg : o.guard = none) (ho : o.op = .move x) (h : wpInv P I ops Q rest (a.put o.dst (a.eval x))) : wpInv P I ops Q (o :: rest) a :=
  inv_value _ (by simp [Region.wanted, hg]) (fun w _ => by unfold execOp; rw [ho]; rfl) h
theorem inv_assign {Q : Act → Prop} {a : Act} {o : Oper} {rest : List Oper} (x : Operand) (hg : o.guard = none) (ho : o.op = .assign x) (h : wpInv P I ops Q rest (a.put o.dst (a.eval x))) : wpInv P I ops Q (o :: rest) a :=
  inv_value _ (by simp [Region.wanted, hg]) (fun w _ => by unfold execOp; rw [ho]; rfl) h
/-- a whole piece of a block, loaded -/
theorem inv_load_blk {Q : Act → Prop} {a : Act} {o : Oper} {rest : List Oper} (hw : Region.wanted o (yielded ops a.tmps) = true) (ty : TypeId) (x : Operand) (ho : o.op = .load ty x)
    (g off m : Nat) (hx : a.eval x = .pointer (some ⟨g, off, none⟩)) (t : TypeId) (cs : List Value) (d : TypeDesc) (hg : ∀ w, I w → Blk w g cs t)
    (hu : P.underlying ty = some d) (hd : (match d with | .struct _ | .array _ _ => true | _ => false) = true) (hi : (P.info? ty).map (·.size) = some m) (hm : off + m ≤ cs.length)
    (vs : List Value) (hv : (cs.drop off).take m = vs) (h : wpInv P I ops Q rest (a.put o.dst (.agg vs.toArray))) : wpInv P I ops Q (o :: rest) a :=
  inv_value (.agg vs.toArray) hw (fun w hI => by
    subst hv
    unfold execOp
    simp only [ho, hx, Instr.loadAt, Instr.sureAddr, Sem.run_bind, Sem.run_pure, Result.andThen_ok, run_load_blk (hg w hI) hu hd hi hm]) h
end
end Go.Proofs.Ytfjaoompdleljaa.Inv
