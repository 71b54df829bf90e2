/-
  A region whose order is open and in which two operations that make memory come up in either order: the orders fall into two classes, each walked by itself. Helper text; no statement is proved here.
-/
import Derived.Test.YtfjaoompdleljaaInvM
set_option linter.unusedVariables false
set_option maxRecDepth 20000
namespace Go.Proofs.Ytfjaoompdleljaa.InvC
open Go.RowKit Go.Proofs.Ytfjaoompdleljaa.Laws Go.Proofs.Ytfjaoompdleljaa.Inv Go.Proofs.Ytfjaoompdleljaa.InvL
section
variable {P : Program} {I : Array Bool → World → Prop} {G : Nat → Array Bool → Prop} {T : Nat → Option Value} {ops : Array Oper} {md : Region.Mode}
/-- operation i yields v, the one of the table if it has one, wherever its gate is open -/
def GivesC (P : Program) (I : Array Bool → World → Prop) (G : Nat → Array Bool → Prop) (T : Nat → Option Value) (ops : Array Oper) (i : Nat) (o : Oper) (a : Act) (v : Value) : Prop :=
  (∀ u, T i = some u → v = u) ∧
  ((Region.wanted o (yielded ops a.tmps) = true ∧ ∀ d w, d.getD i true = false → G i d → I d w → Meets P (I (d.setIfInBounds i true)) v ((execOp a.eval o).run P w)) ∨
  (Region.wanted o (yielded ops a.tmps) = false ∧ v = undef ∧ ∀ d w, d.getD i true = false → G i d → I d w → I (d.setIfInBounds i true) w))
def wpInvC (P : Program) (I : Array Bool → World → Prop) (G : Nat → Array Bool → Prop) (T : Nat → Option Value) (ops : Array Oper) (Q : Act → Prop) : Nat → List Oper → Act → Prop
  | _, [], a => Q a
  | i, o :: rest, a => ∃ v, GivesC P I G T ops i o a v ∧ wpInvC P I G T ops Q (i + 1) rest (a.put o.dst v)
theorem GivesC.moved {i : Nat} {o : Oper} {v : Value} {a b : Act} (h : GivesC P I G T ops i o a v) (he : execOp b.eval o = execOp a.eval o) (hw : Region.wanted o (yielded ops b.tmps) = Region.wanted o (yielded ops a.tmps)) : GivesC P I G T ops i o b v := by
  unfold GivesC at *
  rw [he, hw]
  exact h
def turn (P : Program) (I : Array Bool → World → Prop) (G : Nat → Array Bool → Prop) (T : Nat → Option Value) (ops : Array Oper) (i : Nat) (K : Act → Prop) (a : Act) : Prop :=
  match ops[i]? with
  | none => False
  | some o => ∃ v, GivesC P I G T ops i o a v ∧ K (a.put o.dst v)
theorem turn_some {i : Nat} {o : Oper} (ho : ops[i]? = some o) {K : Act → Prop} {a : Act} : turn P I G T ops i K a ↔ ∃ v, GivesC P I G T ops i o a v ∧ K (a.put o.dst v) := by
  unfold turn; rw [ho]
theorem turn_mono {i : Nat} {a : Act} {K K' : Act → Prop} (h : ∀ a, K a → K' a) (hh : turn P I G T ops i K a) : turn P I G T ops i K' a := by
  cases ho : ops[i]? with
  | none => simp only [turn, ho] at hh
  | some o =>
    obtain ⟨v, h1, h2⟩ := (turn_some ho).1 hh
    exact (turn_some ho).2 ⟨v, h1, h _ h2⟩
theorem turn_past {i j : Nat} {oi oj : Oper} {v : Value} (hj : ops[j]? = some oj) (hap : oi.apart ops oj = true) (hsi : ∀ cs b, oi.op ≠ .select cs b) (hsj : ∀ cs b, oj.op ≠ .select cs b) {K : Act → Prop} {a : Act}
    (hg : GivesC P I G T ops i oi a v) (h : turn P I G T ops j K (a.put oi.dst v)) : turn P I G T ops j (fun b => GivesC P I G T ops i oi b v ∧ K (b.put oi.dst v)) a := by
  obtain ⟨h1, h2, h3⟩ := Oper.apart_spec hap
  obtain ⟨u, hu, hk⟩ := (turn_some hj).1 h
  refine (turn_some hj).2 ⟨u, hu.moved (execOp_put oj hsj a oi.dst v h1).symm (wanted_put oj a oi.dst v h1).symm, hg.moved (execOp_put oi hsi a oj.dst u h3) (wanted_put oi a oj.dst u h3), ?_⟩
  rw [← Act.put_comm a v u h2]
  exact hk
def every (P : Program) (I : Array Bool → World → Prop) (G : Nat → Array Bool → Prop) (T : Nat → Option Value) (md : Region.Mode) (ops : Array Oper) (n : Nat) (L : Array Bool → Act → Prop) : Nat → Array Bool → Act → Prop
  | 0, listed, a => L listed a
  | f + 1, listed, a => Region.ready md ops listed ≠ [] ∧ ∀ i ∈ Region.ready md ops listed, i < n ∧ turn P I G T ops i (every P I G T md ops n L f (listed.setIfInBounds i true)) a
/-- what may come up now may be taken first -/
theorem every_first {J : Array Bool → Prop} {n i : Nat} {oi : Oper} {v : Value} {L : Array Bool → Act → Prop} (hi : ops[i]? = some oi) (hsel : ∀ (j : Nat) (o : Oper) cs b, ops[j]? = some o → o.op ≠ .select cs b)
    (hn : ∀ listed, J listed → listed.getD i true = false → ∀ j ∈ Region.ready md ops listed, j < n)
    (hset : ∀ (listed : Array Bool) (j : Nat), J listed → j ∈ Region.ready md ops listed → j < n → J (listed.setIfInBounds j true))
    (hdone : ∀ listed a, L listed a → ∀ j ∈ Region.ready md ops listed, n ≤ j) :
    ∀ (f : Nat) (listed : Array Bool) (a : Act), J listed →
      (∀ j oj, ops[j]? = some oj → j ≠ i → listed.getD j true = false → (∀ e ∈ oj.after, Region.binds md e = true → e.on ≠ i) → oi.apart ops oj = true) →
      i ∈ Region.ready md ops listed → GivesC P I G T ops i oi a v → every P I G T md ops n L f (listed.setIfInBounds i true) (a.put oi.dst v) → every P I G T md ops n L (f + 1) listed a := by
  intro f
  induction f with
  | zero =>
    intro listed a inv _ hr hg H
    refine ⟨fun h => (by rw [h] at hr; cases hr), fun j hj => ?_⟩
    have hjn := hn listed inv (mem_ready.1 hr).1 j hj
    refine ⟨hjn, ?_⟩
    by_cases e : j = i
    · subst e; exact (turn_some hi).2 ⟨v, hg, H⟩
    · have := hdone _ _ H j (ready_mono hj e)
      omega
  | succ f ih =>
    intro listed a inv hfree hr hg H
    refine ⟨fun h => (by rw [h] at hr; cases hr), fun j hj => ?_⟩
    have hjn := hn listed inv (mem_ready.1 hr).1 j hj
    refine ⟨hjn, ?_⟩
    by_cases e : j = i
    · subst e; exact (turn_some hi).2 ⟨v, hg, H⟩
    · have h1 := (H.2 j (ready_mono hj e)).2
      obtain ⟨hjun, oj, hoj, hall⟩ := mem_ready.1 hj
      have hnot : ∀ x ∈ oj.after, Region.binds md x = true → x.on ≠ i := fun x hx hb heq => by
        have h5 := hall x hx hb
        rw [heq, getD_both (mem_ready.1 hr).1] at h5
        cases h5
      have h2 := turn_past hoj (hfree j oj hoj e hjun hnot) (fun cs b => hsel i oi cs b hi) (fun cs b => hsel j oj cs b hoj) hg h1
      refine turn_mono (fun b h3 => ih (listed.setIfInBounds j true) b (hset _ _ inv hj hjn) (fun k ok hk hki hun hno => ?_) (ready_mono hr (Ne.symm e)) h3.1 ?_) h2
      · refine hfree k ok hk hki ?_ hno
        by_cases hjk : j = k
        · subst hjk; exact hjun
        · rwa [getD_set_ne true hjk] at hun
      · rw [Array.setIfInBounds_comm _ _ e]
        exact h3.2

theorem every_of_walk {J : Array Bool → Prop} {s n g : Nat} {Lq : Act → Prop} (hsel : Region.noSelect ops = true) (hn : ∀ (i : Nat) listed, i < n → J listed → listed.getD i true = false → ∀ j ∈ Region.ready md ops listed, j < n)
    (hset : ∀ (listed : Array Bool) (j : Nat), J listed → j ∈ Region.ready md ops listed → j < n → J (listed.setIfInBounds j true)) :
    ∀ (l : List Oper) (k : Nat) (listed : Array Bool) (a : Act), (∀ j, j < l.length → l[j]? = ops[k + j]?) → k + l.length = n → J listed → listed = doneTo s k →
    Region.lexHead md ops g l.length k listed = true → wpInvC P I G T ops Lq k l a → every P I G T md ops n (fun listed' a' => Region.seqB md ops g n listed' = true ∧ listed' = doneTo s n ∧ Lq a') l.length listed a
  | [], k, listed, a, _, hk, _, hd, hB, h => by
    obtain rfl : k = n := by simpa using hk
    exact ⟨by simpa [Region.lexHead] using hB, hd, h⟩
  | o :: l, k, listed, a, hl, hk, inv, hd, hB, h => by
    have h0 : ops[k]? = some o := by simpa using (hl 0 (by simp)).symm
    simp only [List.length_cons, Region.lexHead, Bool.and_eq_true] at hB
    obtain ⟨⟨hr, hf⟩, hB'⟩ := hB
    have hkn : k < n := by simp only [List.length_cons] at hk; omega
    have hr' : k ∈ Region.ready md ops listed := by simpa using hr
    obtain ⟨v, hg, hK⟩ := h
    exact every_first h0 (Region.noSelect_spec hsel) (fun listed => hn k listed hkn) hset (fun listed' a' hL => seqB_ready hL.1) l.length listed a inv (Region.free_spec h0 hf) hr' hg
      (every_of_walk hsel hn hset l (k + 1) _ _ (fun j hj => by have := hl (j + 1) (by simp; omega); simpa [Nat.add_assoc, Nat.add_comm 1 j] using this) (by simp only [List.length_cons] at hk; omega) (hset _ _ inv hr' hkn) (by rw [hd, done_succ]) hB' hK)

/-- the orders fall into classes: each class with its own condition, gates and values -/
theorem wpAny_of_classes {K : Type} {I : K → Array Bool → World → Prop} {G : K → Nat → Array Bool → Prop} {T : K → Nat → Option Value} {n g : Nat} {L : K → Array Bool → Act → Prop} {Q : Exit → Act → World → Prop} {Good : (K → Prop) → Array Bool → Prop}
    (hopen : ∀ S d i, Good S d → i ∈ Region.ready md ops d → i < n → (∃ κ, S κ ∧ G κ i d) ∧ Good (fun κ => S κ ∧ G κ i d) (d.setIfInBounds i true))
    (hI : ∀ S d w κ κ', Good S d → S κ → S κ' → I κ d w → I κ' d w)
    (hT : ∀ S d i κ κ', Good S d → i ∈ Region.ready md ops d → i < n → S κ → S κ' → G κ i d → G κ' i d → κ = κ' ∨ ∃ u, T κ i = some u ∧ T κ' i = some u)
    (hL : ∀ κ listed a w, I κ listed w → L κ listed a → wpAny P md ops Q g listed a w) :
    ∀ (f : Nat) (S : K → Prop) (listed : Array Bool) (a : Act) (w : World), (∃ κ, S κ) → Good S listed → (∀ κ, S κ → I κ listed w ∧ every P (I κ) (G κ) (T κ) md ops n (L κ) f listed a) → wpAny P md ops Q (f + g) listed a w
  | 0, S, listed, a, w, ⟨κ, hS⟩, hg, h => by rw [Nat.zero_add]; exact hL κ _ _ _ (h κ hS).1 (h κ hS).2
  | f + 1, S, listed, a, w, ⟨κ0, hS0⟩, hg, h => by
    rw [show f + 1 + g = (f + g) + 1 from by omega]
    refine ⟨fun h0 => absurd h0 (h κ0 hS0).2.1, fun i hi => ?_⟩
    have hin := ((h κ0 hS0).2.2 i hi).1
    obtain ⟨⟨κ, hSκ, hGκ⟩, hg2⟩ := hopen S listed i hg hi hin
    obtain ⟨hIκ, hEκ⟩ := h κ hSκ
    have ht := (hEκ.2 i hi).2
    obtain ⟨hdi, o, ho, _⟩ := mem_ready.1 hi
    obtain ⟨v, hv, hk⟩ := (turn_some ho).1 ht
    have key : ∀ w', I κ (listed.setIfInBounds i true) w' → wpAny P md ops Q (f + g) (listed.setIfInBounds i true) (a.put o.dst v) w' := fun w' hw' => by
      refine wpAny_of_classes hopen hI hT hL f (fun κ => S κ ∧ G κ i listed) _ _ _ ⟨κ, hSκ, hGκ⟩ hg2 fun κ' ⟨hS', hG'⟩ => ⟨hI _ _ _ κ κ' hg2 ⟨hSκ, hGκ⟩ ⟨hS', hG'⟩ hw', ?_⟩
      rcases hT S listed i κ κ' hg hi hin hSκ hS' hGκ hG' with e | ⟨u, e1, e2⟩
      · subst e
        exact hk
      · obtain ⟨v', hv', hk'⟩ := (turn_some ho).1 (((h κ' hS').2.2 i hi).2)
        rw [show v = v' from by rw [hv.1 u e1, hv'.1 u e2]]
        exact hk'
    unfold wpOp
    simp only [ho]
    rcases hv.2 with ⟨h1, h2⟩ | ⟨h1, rfl, h2⟩
    · simp only [h1, if_true]
      exact .inl (wp_of_meets (h2 listed w hdi hGκ hIκ) key)
    · simp only [h1]
      exact key w (h2 listed w hdi hGκ hIκ)
/-- of two operations p and c: true: p comes ahead of c; false: behind it -/
def Two (p c : Nat) (κ : Bool) (i : Nat) (d : Array Bool) : Prop := match κ with | true => i = c → d.getD p false = true | false => i = p → d.getD c false = true
def GoodTwo (p c : Nat) (S : Bool → Prop) (d : Array Bool) : Prop := (d.getD p false = false ∧ d.getD c false = false ∧ S true ∧ S false) ∨ (S true ∧ ¬ S false ∧ d.getD p false = true) ∨ (S false ∧ ¬ S true ∧ d.getD c false = true)
/-- all but p and c have values that both classes share, or wait for p or c -/
def sharedB (T : Nat → Option Value) (ops : Array Oper) (n p c : Nat) : Bool :=
  (List.range n).all fun i => i == p || i == c || (T i).isSome || (match ops[i]? with | some o => o.after.any fun e => Region.binds .any e && (e.on == p || e.on == c) | none => true)
theorem getD_true_of {d : Array Bool} {i : Nat} (h : d.getD i true = false) : d.getD i false = false := by
  simp only [Array.getD_eq_getD_getElem?] at *
  cases hx : d[i]? with
  | none => rfl
  | some x => rw [hx] at h; exact h
theorem wp_region_two_tail {id : Nat} {Q : Exit → Act → World → Prop} {a : Act} {w : World} {l : List Oper} (I : Bool → Array Bool → World → Prop) (T : Nat → Option Value) (n p c : Nat) (hm : P.follows .mixedOrders = true) (hB : Region.lexTailB .any l.toArray n = true) (hpc : p ≠ c) (hpl : p < l.length) (hcl : c < l.length) (hsh : sharedB T l.toArray n p c = true)
    (hI : ∀ d w, d.getD p false = false → d.getD c false = false → (I true d w ↔ I false d w)) (hI0 : ∀ κ, I κ (doneTo l.length 0) w.drew)
    (h : ∀ κ, wpInvC P (I κ) (Two p c κ) T l.toArray (fun a' => ∀ w', I κ (doneTo l.length n) w' → wpList P l.toArray Q (l.drop n) a' w') 0 (l.take n) a) : (Code.region id l.toArray true).wp P Q a w := by
  simp only [Region.lexTailB, Bool.and_eq_true, decide_eq_true_eq] at hB
  obtain ⟨⟨⟨⟨hsel, hn⟩, hs⟩, hc⟩, hlex⟩ := hB
  have hn' : n < l.length := by simpa using hn
  have htl : (l.take n).length = n := by simp; omega
  have hdl : (l.drop n).length = l.toArray.size - n := by simp
  have inv0 : HeadInv .any l.toArray n (Array.replicate l.toArray.size false) :=
    ⟨by simp, fun j oj _ hl => (by rw [getD_replicate_false] at hl; cases hl), fun t _ ht => getD_in (by simpa using ht) (getD_replicate_false _ _)⟩
  have hlt : ∀ (i : Nat) listed, i < n → HeadInv .any l.toArray n listed → listed.getD i true = false → ∀ j ∈ Region.ready .any l.toArray listed, j < n := fun i listed hi inv hun j hj => by
    rcases Nat.lt_or_ge j n with h | h
    · exact h
    · exact absurd hj (tail_waits hs hc hn inv _ i rfl hi hun j h)
  have H := fun κ => every_of_walk (md := .any) (s := l.length) (g := l.toArray.size - n) (J := HeadInv .any l.toArray n) hsel hlt (fun listed j hJ hj hjn => hJ.set hj hjn) (l.take n) 0 _ a (fun j hj => by
    have hj' : j < n := by rw [htl] at hj; exact hj
    simp [hj']) (by simpa using htl) inv0 (by simp [doneTo]) (by rw [htl]; exact hlex) (h κ)
  refine wp_region_any hm ?_
  have hset : ∀ (d : Array Bool) (i j : Nat), i ≠ j → (d.setIfInBounds i true).getD j false = d.getD j false := fun d i j hij => getD_set_ne false hij
  have hsetS : ∀ (d : Array Bool) (i : Nat), d.getD i true = false → (d.setIfInBounds i true).getD i false = true := fun d i hd => by
    have hp : i < d.size := by
      rcases Nat.lt_or_ge i d.size with h' | h'
      · exact h'
      · simp [Array.getElem?_eq_none h'] at hd
    simp [hp]
  have hopen : ∀ (S : Bool → Prop) (d : Array Bool) (i : Nat), GoodTwo p c S d → i ∈ Region.ready .any l.toArray d → i < n → (∃ κ, S κ ∧ Two p c κ i d) ∧ GoodTwo p c (fun κ => S κ ∧ Two p c κ i d) (d.setIfInBounds i true) := by
    intro S d i hg hi hin
    have hdi := (mem_ready.1 hi).1
    have hdi' := getD_true_of hdi
    rcases hg with ⟨g1, g2, g3, g4⟩ | ⟨g1, g2, g3⟩ | ⟨g1, g2, g3⟩
    · by_cases e1 : i = p
      · subst e1
        refine ⟨⟨true, g3, fun e => absurd e hpc⟩, .inr (.inl ⟨⟨g3, fun e => absurd e hpc⟩, fun x => ?_, hsetS d i hdi⟩)⟩
        have := x.2 rfl
        rw [g2] at this
        cases this
      · by_cases e2 : i = c
        · subst e2
          refine ⟨⟨false, g4, fun e => absurd e e1⟩, .inr (.inr ⟨⟨g4, fun e => absurd e e1⟩, fun x => ?_, hsetS d i hdi⟩)⟩
          have := x.2 rfl
          rw [g1] at this
          cases this
        · refine ⟨⟨true, g3, fun e => absurd e e2⟩, .inl ⟨by rw [hset _ _ _ e1]; exact g1, by rw [hset _ _ _ e2]; exact g2, ⟨g3, fun e => absurd e e2⟩, ⟨g4, fun e => absurd e e1⟩⟩⟩
    · refine ⟨⟨true, g1, fun _ => g3⟩, .inr (.inl ⟨⟨g1, fun _ => g3⟩, fun x => g2 x.1, ?_⟩)⟩
      by_cases e : i = p
      · subst e; rw [hdi'] at g3; cases g3
      · rw [hset _ _ _ e]; exact g3
    · refine ⟨⟨false, g1, fun _ => g3⟩, .inr (.inr ⟨⟨g1, fun _ => g3⟩, fun x => g2 x.1, ?_⟩)⟩
      by_cases e : i = c
      · subst e; rw [hdi'] at g3; cases g3
      · rw [hset _ _ _ e]; exact g3
  have hII : ∀ (S : Bool → Prop) (d : Array Bool) (w : World) (κ κ' : Bool), GoodTwo p c S d → S κ → S κ' → I κ d w → I κ' d w := by
    intro S d w κ κ' hg h1 h2 hi
    rcases hg with ⟨g1, g2, _, _⟩ | ⟨_, g2, _⟩ | ⟨_, g2, _⟩
    · cases κ <;> cases κ' <;> first | exact hi | exact (hI d w g1 g2).1 hi | exact (hI d w g1 g2).2 hi
    · cases κ <;> cases κ' <;> first | exact hi | exact absurd h1 g2 | exact absurd h2 g2
    · cases κ <;> cases κ' <;> first | exact hi | exact absurd h1 g2 | exact absurd h2 g2
  have hTT : ∀ (S : Bool → Prop) (d : Array Bool) (i : Nat) (κ κ' : Bool), GoodTwo p c S d → i ∈ Region.ready .any l.toArray d → i < n → S κ → S κ' → Two p c κ i d → Two p c κ' i d → κ = κ' ∨ ∃ u, T i = some u ∧ T i = some u := by
    intro S d i κ κ' hg hi hin h1 h2 k1 k2
    rcases hg with ⟨g1, g2, _, _⟩ | ⟨_, g2, _⟩ | ⟨_, g2, _⟩
    · by_cases e0 : κ = κ'
      · exact .inl e0
      have hne1 : i ≠ p := fun e => by
        have : Two p c false i d := by cases κ <;> cases κ' <;> first | exact absurd rfl e0 | assumption
        have := this e
        rw [g2] at this; cases this
      have hne2 : i ≠ c := fun e => by
        have : Two p c true i d := by cases κ <;> cases κ' <;> first | exact absurd rfl e0 | assumption
        have := this e
        rw [g1] at this; cases this
      have hb := List.all_eq_true.1 hsh i (by simpa using hin)
      simp only [Bool.or_eq_true, beq_iff_eq] at hb
      rcases hb with ((hb | hb) | hb) | hb
      · exact absurd hb hne1
      · exact absurd hb hne2
      · obtain ⟨u, hu⟩ := Option.isSome_iff_exists.1 hb
        exact .inr ⟨u, hu, hu⟩
      · obtain ⟨_, o, ho, hall⟩ := mem_ready.1 hi
        rw [ho] at hb
        obtain ⟨e, he, hbe⟩ := Array.any_eq_true'.1 hb
        simp only [Bool.and_eq_true, Bool.or_eq_true, beq_iff_eq] at hbe
        have := hall e he hbe.1
        rcases hbe.2 with e3 | e3
        · rw [e3, g1] at this; cases this
        · rw [e3, g2] at this; cases this
    · cases κ <;> cases κ' <;> first | exact .inl rfl | exact absurd h1 g2 | exact absurd h2 g2
    · cases κ <;> cases κ' <;> first | exact .inl rfl | exact absurd h1 g2 | exact absurd h2 g2
  have := wpAny_of_classes (Q := Q) (I := I) (G := Two p c) (T := fun _ => T) (n := n) (g := l.toArray.size - n) (Good := GoodTwo p c) hopen hII hTT (fun κ listed a' w' hw' hL => by
    have := wpAny_of_seq (md := .any) (Q' := Q) (l.drop n) n listed a' w' (fun j => by simp [List.getElem?_drop]) (by rw [hdl]; exact hL.1) (hL.2.2 w' (hL.2.1 ▸ hw'))
    rwa [hdl] at this) _ (fun _ => True) _ _ _ ⟨true, trivial⟩ (.inl ⟨getD_replicate_false _ _, getD_replicate_false _ _, trivial, trivial⟩) (fun κ _ => ⟨by simpa [doneTo] using hI0 κ, H κ⟩)
  rw [htl, show n + (l.toArray.size - n) = l.toArray.size from by omega] at this
  exact this
theorem invc_nil {Q : Act → Prop} {i : Nat} {a : Act} (h : Q a) : wpInvC P I G T ops Q i [] a := h
theorem invc_value {Q : Act → Prop} {i : Nat} {a : Act} {o : Oper} {rest : List Oper} (v : Value) (hT : ∀ u, T i = some u → v = u) (hw : Region.wanted o (yielded ops a.tmps) = true) (hr : ∀ d w, d.getD i true = false → G i d → I d w → (execOp a.eval o).run P w = .ok (.value v) w) (hk : ∀ d w, d.getD i true = false → G i d → I d w → I (d.setIfInBounds i true) w)
    (h : wpInvC P I G T ops Q (i + 1) rest (a.put o.dst v)) : wpInvC P I G T ops Q i (o :: rest) a :=
  ⟨v, ⟨hT, .inl ⟨hw, fun d w hd hG hI => by rw [hr d w hd hG hI]; exact ⟨rfl, hk d w hd hG hI⟩⟩⟩, h⟩
theorem invc_world {Q : Act → Prop} {i : Nat} {a : Act} {o : Oper} {rest : List Oper} (v : Value) (hT : ∀ u, T i = some u → v = u) (hw : Region.wanted o (yielded ops a.tmps) = true) (hr : ∀ d w, d.getD i true = false → G i d → I d w → ∃ w', (execOp a.eval o).run P w = .ok (.value v) w' ∧ I (d.setIfInBounds i true) w')
    (h : wpInvC P I G T ops Q (i + 1) rest (a.put o.dst v)) : wpInvC P I G T ops Q i (o :: rest) a :=
  ⟨v, ⟨hT, .inl ⟨hw, fun d w hd hG hI => by obtain ⟨w', h1, h2⟩ := hr d w hd hG hI; rw [h1]; exact ⟨rfl, h2⟩⟩⟩, h⟩
theorem invc_call {Q : Act → Prop} {i : Nat} {a : Act} {o : Oper} {rest : List Oper} (v : Value) (hT : ∀ u, T i = some u → v = u) (hw : Region.wanted o (yielded ops a.tmps) = true) (f : FuncId) (args : Array Value) (hr : ∀ d w, I d w → (execOp a.eval o).run P w = .ok (.enter f args) w)
    (hc : ∀ d w, d.getD i true = false → G i d → I d w → Calls P f args w fun e w' => e = .returned v ∧ I (d.setIfInBounds i true) w') (h : wpInvC P I G T ops Q (i + 1) rest (a.put o.dst v)) : wpInvC P I G T ops Q i (o :: rest) a :=
  ⟨v, ⟨hT, .inl ⟨hw, fun d w hd hG hI => by rw [hr d w hI]; exact hc d w hd hG hI⟩⟩, h⟩
end
end Go.Proofs.Ytfjaoompdleljaa.InvC
