/-
  A region whose order is open, with three makings of memory: one anywhere, two of which the second waits for the first. Helper text; no statement is proved here.
-/
import Derived.Test.YtmmgejlfcehipaaInvC
set_option linter.unusedVariables false
namespace Go.Proofs.Ytmmgejlfcehipaa.InvC
open Go.RowKit Go.Proofs.Ytmmgejlfcehipaa.Laws Go.Proofs.Ytmmgejlfcehipaa.Inv Go.Proofs.Ytmmgejlfcehipaa.InvL
/-- p ahead of both, between them, behind both -/
inductive Th where
  | a
  | b
  | c
  deriving DecidableEq
section
variable {P : Program} {ops : Array Oper}
def Gate (p c1 c2 : Nat) (κ : Th) (i : Nat) (d : Array Bool) : Prop := match κ with | .a => i = c1 → d.getD p false = true | .b => (i = p → d.getD c1 false = true) ∧ (i = c2 → d.getD p false = true) | .c => i = p → d.getD c2 false = true
/-- and c2 waits for c1 -/
def GateW (p c1 c2 : Nat) (κ : Th) (i : Nat) (d : Array Bool) : Prop := Gate p c1 c2 κ i d ∧ (i = c2 → d.getD c1 false = true)
def GoodTh (p c1 c2 : Nat) (S : Th → Prop) (d : Array Bool) : Prop :=
  (d.getD p false = false ∧ d.getD c1 false = false ∧ d.getD c2 false = false ∧ S .a ∧ S .b ∧ S .c) ∨ (S .a ∧ ¬ S .b ∧ ¬ S .c ∧ d.getD p false = true) ∨
  (d.getD p false = false ∧ d.getD c1 false = true ∧ d.getD c2 false = false ∧ ¬ S .a ∧ S .b ∧ S .c) ∨ (¬ S .a ∧ S .b ∧ ¬ S .c ∧ d.getD p false = true ∧ d.getD c1 false = true) ∨ (¬ S .a ∧ ¬ S .b ∧ S .c ∧ d.getD c2 false = true)
/-- the values: those of the table; that of c1, if p is not ahead of it -/
def Tab (T : Nat → Option Value) (c1 : Nat) (v1 : Value) (κ : Th) (i : Nat) : Option Value := if i = c1 then (match κ with | .a => none | _ => some v1) else T i
def waitsB (ops : Array Oper) (i c : Nat) : Bool := match ops[i]? with | some o => o.after.any fun e => Region.binds .any e && e.on == c | none => true
def sharedTh (T : Nat → Option Value) (ops : Array Oper) (n p c1 c2 : Nat) : Bool := (List.range n).all fun i => i == p || i == c1 || i == c2 || (T i).isSome || waitsB ops i c2
theorem waits_not {md : Region.Mode} {d : Array Bool} {i c : Nat} (hmd : md = .any) (hw : waitsB ops i c = true) (hi : i ∈ Region.ready md ops d) : d.getD c false = true := by
  subst hmd
  obtain ⟨_, o, ho, hall⟩ := mem_ready.1 hi
  unfold waitsB at hw
  rw [ho] at hw
  obtain ⟨e, he, hbe⟩ := Array.any_eq_true'.1 hw
  simp only [Bool.and_eq_true, beq_iff_eq] at hbe
  have := hall e he hbe.1
  rwa [hbe.2] at this
theorem wp_region_three_tail {id : Nat} {Q : Exit → Act → World → Prop} {a : Act} {w : World} {l : List Oper} (I : Th → Array Bool → World → Prop) (T : Nat → Option Value) (v1 : Value) (n p c1 c2 : Nat) (hm : P.follows .mixedOrders = true) (hB : Region.lexTailB .any l.toArray n = true)
    (h12 : p ≠ c1) (h13 : p ≠ c2) (h23 : c1 ≠ c2) (hwt : waitsB l.toArray c2 c1 = true) (hsh : sharedTh T l.toArray n p c1 c2 = true)
    (hI : ∀ d w, d.getD p false = false → d.getD c1 false = false → d.getD c2 false = false → ∀ κ κ', I κ d w → I κ' d w) (hI2 : ∀ d w, d.getD p false = false → d.getD c1 false = true → d.getD c2 false = false → (I .b d w ↔ I .c d w)) (hI0 : ∀ κ, I κ (doneTo l.length 0) w.drew)
    (h : ∀ κ, wpInvC P (I κ) (GateW p c1 c2 κ) (Tab T c1 v1 κ) l.toArray (fun a' => ∀ w', I κ (doneTo l.length n) w' → wpList P l.toArray Q (l.drop n) a' w') 0 (l.take n) a) : (Code.region id l.toArray true).wp P Q a w := by
  simp only [Region.lexTailB, Bool.and_eq_true, decide_eq_true_eq] at hB
  obtain ⟨⟨⟨⟨hsel, hn⟩, hs⟩, hc⟩, hlex⟩ := hB
  have hn' : n < l.length := by simpa using hn
  have htl : (l.take n).length = n := by simp; omega
  have hdl : (l.drop n).length = l.toArray.size - n := by simp
  have inv0 : HeadInv .any l.toArray n (Array.replicate l.toArray.size false) :=
    ⟨by simp, fun j oj _ hl => (by rw [getD_replicate_false] at hl; cases hl), fun t _ ht => getD_in (by simpa using ht) (getD_replicate_false _ _)⟩
  have hlt : ∀ (i : Nat) listed, i < n → HeadInv .any l.toArray n listed → listed.getD i true = false → ∀ j ∈ Region.ready .any l.toArray listed, j < n := fun i listed hi inv hun j hj => by
    rcases Nat.lt_or_ge j n with h | h
    · exact h
    · exact absurd hj (tail_waits hs hc hn inv _ i rfl hi hun j h)
  have H := fun κ => every_of_walk (md := .any) (s := l.length) (g := l.toArray.size - n) (J := HeadInv .any l.toArray n) hsel hlt (fun listed j hJ hj hjn => hJ.set hj hjn) (l.take n) 0 _ a (fun j hj => by
    have hj' : j < n := by rw [htl] at hj; exact hj
    simp [hj']) (by simpa using htl) inv0 (by simp [doneTo]) (by rw [htl]; exact hlex) (h κ)
  refine wp_region_any hm ?_
  have hset : ∀ (d : Array Bool) (i j : Nat), i ≠ j → (d.setIfInBounds i true).getD j false = d.getD j false := fun d i j hij => getD_set_ne false hij
  have hsetS : ∀ (d : Array Bool) (i : Nat), d.getD i true = false → (d.setIfInBounds i true).getD i false = true := fun d i hd => by
    have hp : i < d.size := by
      rcases Nat.lt_or_ge i d.size with h' | h'
      · exact h'
      · simp [Array.getElem?_eq_none h'] at hd
    simp [hp]
  have hopen : ∀ (S : Th → Prop) (d : Array Bool) (i : Nat), GoodTh p c1 c2 S d → i ∈ Region.ready .any l.toArray d → i < n → (∃ κ, S κ ∧ Gate p c1 c2 κ i d) ∧ GoodTh p c1 c2 (fun κ => S κ ∧ Gate p c1 c2 κ i d) (d.setIfInBounds i true) := by
    intro S d i hg hi hin
    have hdi := (mem_ready.1 hi).1
    have hdi' := getD_true_of hdi
    have hset' : ∀ j, d.getD j false = true → (d.setIfInBounds i true).getD j false = true := fun j hj => by
      by_cases e : i = j
      · subst e; exact hsetS d i hdi
      · rw [hset _ _ _ e]; exact hj
    have hne : ∀ j, d.getD j false = true → i ≠ j := fun j hj e => by subst e; rw [hdi'] at hj; cases hj
    rcases hg with ⟨g1, g2, g3, sa, sb, sc⟩ | ⟨sa, sb, sc, g1⟩ | ⟨g1, g2, g3, sa, sb, sc⟩ | ⟨sa, sb, sc, g1, g2⟩ | ⟨sa, sb, sc, g1⟩
    · have nc2 : i ≠ c2 := fun e => by
        subst e
        have := waits_not rfl hwt hi
        rw [g2] at this; cases this
      by_cases e1 : i = p
      · subst e1
        refine ⟨⟨.a, sa, fun e => absurd e h12⟩, .inr (.inl ⟨⟨sa, fun e => absurd e h12⟩, fun x => ?_, fun x => ?_, hsetS d i hdi⟩)⟩
        · have := x.2.1 rfl; rw [g2] at this; cases this
        · have := x.2 rfl; rw [g3] at this; cases this
      · by_cases e2 : i = c1
        · subst e2
          refine ⟨⟨.b, sb, fun e => absurd e e1, fun e => absurd e nc2⟩, .inr (.inr (.inl ⟨by rw [hset _ _ _ e1]; exact g1, hsetS d i hdi, by rw [hset _ _ _ nc2]; exact g3, fun x => ?_, ⟨sb, fun e => absurd e e1, fun e => absurd e nc2⟩, ⟨sc, fun e => absurd e e1⟩⟩))⟩
          have := x.2 rfl; rw [g1] at this; cases this
        · exact ⟨⟨.a, sa, fun e => absurd e e2⟩, .inl ⟨by rw [hset _ _ _ e1]; exact g1, by rw [hset _ _ _ e2]; exact g2, by rw [hset _ _ _ nc2]; exact g3, ⟨sa, fun e => absurd e e2⟩, ⟨sb, fun e => absurd e e1, fun e => absurd e nc2⟩, ⟨sc, fun e => absurd e e1⟩⟩⟩
    · exact ⟨⟨.a, sa, fun _ => g1⟩, .inr (.inl ⟨⟨sa, fun _ => g1⟩, fun x => sb x.1, fun x => sc x.1, hset' _ g1⟩)⟩
    · have e2 := hne _ g2
      by_cases e1 : i = p
      · subst e1
        refine ⟨⟨.b, sb, fun _ => g2, fun e => absurd e h13⟩, .inr (.inr (.inr (.inl ⟨fun x => sa x.1, ⟨sb, fun _ => g2, fun e => absurd e h13⟩, fun x => ?_, hsetS d i hdi, hset' _ g2⟩)))⟩
        have := x.2 rfl; rw [g3] at this; cases this
      · by_cases e3 : i = c2
        · subst e3
          refine ⟨⟨.c, sc, fun e => absurd e e1⟩, .inr (.inr (.inr (.inr ⟨fun x => sa x.1, fun x => ?_, ⟨sc, fun e => absurd e e1⟩, hsetS d i hdi⟩)))⟩
          have := x.2.2 rfl; rw [g1] at this; cases this
        · exact ⟨⟨.b, sb, fun e => absurd e e1, fun e => absurd e e3⟩, .inr (.inr (.inl ⟨by rw [hset _ _ _ e1]; exact g1, hset' _ g2, by rw [hset _ _ _ e3]; exact g3, fun x => sa x.1, ⟨sb, fun e => absurd e e1, fun e => absurd e e3⟩, ⟨sc, fun e => absurd e e1⟩⟩))⟩
    · exact ⟨⟨.b, sb, fun _ => g2, fun _ => g1⟩, .inr (.inr (.inr (.inl ⟨fun x => sa x.1, ⟨sb, fun _ => g2, fun _ => g1⟩, fun x => sc x.1, hset' _ g1, hset' _ g2⟩)))⟩
    · exact ⟨⟨.c, sc, fun _ => g1⟩, .inr (.inr (.inr (.inr ⟨fun x => sa x.1, fun x => sb x.1, ⟨sc, fun _ => g1⟩, hset' _ g1⟩)))⟩
  have hII : ∀ (S : Th → Prop) (d : Array Bool) (w : World) (κ κ' : Th), GoodTh p c1 c2 S d → S κ → S κ' → I κ d w → I κ' d w := by
    intro S d w κ κ' hg h1 h2 hi
    rcases hg with ⟨g1, g2, g3, _⟩ | ⟨sa, sb, sc, _⟩ | ⟨g1, g2, g3, sa, sb, sc⟩ | ⟨sa, sb, sc, _⟩ | ⟨sa, sb, sc, _⟩
    · exact hI d w g1 g2 g3 κ κ' hi
    all_goals cases κ <;> cases κ' <;> first | exact hi | contradiction | exact (hI2 d w g1 g2 g3).1 hi | exact (hI2 d w g1 g2 g3).2 hi
  have hTT : ∀ (S : Th → Prop) (d : Array Bool) (i : Nat) (κ κ' : Th), GoodTh p c1 c2 S d → i ∈ Region.ready .any l.toArray d → i < n → S κ → S κ' → Gate p c1 c2 κ i d → Gate p c1 c2 κ' i d → κ = κ' ∨ ∃ u, Tab T c1 v1 κ i = some u ∧ Tab T c1 v1 κ' i = some u := by
    intro S d i κ κ' hg hi hin h1 h2 k1 k2
    by_cases e0 : κ = κ'
    · exact .inl e0
    right
    have tab : ∀ u, i ≠ c1 → T i = some u → ∀ κ, Tab T c1 v1 κ i = some u := fun u hne hu κ => by unfold Tab; rw [if_neg hne, hu]
    have hb := List.all_eq_true.1 hsh i (by simpa using hin)
    simp only [Bool.or_eq_true, beq_iff_eq] at hb
    rcases hg with ⟨g1, g2, g3, sa, sb, sc⟩ | ⟨sa, sb, sc, _⟩ | ⟨g1, g2, g3, sa, sb, sc⟩ | ⟨sa, sb, sc, _⟩ | ⟨sa, sb, sc, _⟩
    · have np : i ≠ p := fun e => by
        subst e
        have kb : ¬ Gate i c1 c2 .b i d := fun x => by have := x.1 rfl; rw [g2] at this; cases this
        have kc : ¬ Gate i c1 c2 .c i d := fun x => by have := x rfl; rw [g3] at this; cases this
        cases κ <;> cases κ' <;> first | exact e0 rfl | exact kb k1 | exact kc k1 | exact kb k2 | exact kc k2
      have nc2 : i ≠ c2 := fun e => by
        subst e
        have := waits_not rfl hwt hi
        rw [g2] at this; cases this
      by_cases e1 : i = c1
      · subst e1
        have ka : ¬ Gate p i c2 .a i d := fun x => by have := x rfl; rw [g1] at this; cases this
        refine ⟨v1, ?_, ?_⟩
        · cases κ <;> first | exact absurd k1 ka | (unfold Tab; rw [if_pos rfl])
        · cases κ' <;> first | exact absurd k2 ka | (unfold Tab; rw [if_pos rfl])
      · rcases hb with (((hb | hb) | hb) | hb) | hb
        · exact absurd hb np
        · exact absurd hb e1
        · exact absurd hb nc2
        · obtain ⟨u, hu⟩ := Option.isSome_iff_exists.1 hb
          exact ⟨u, tab u e1 hu κ, tab u e1 hu κ'⟩
        · have := waits_not rfl hb hi
          rw [g3] at this; cases this
    · cases κ <;> cases κ' <;> first | exact absurd rfl e0 | contradiction
    · have e1 : i ≠ c1 := fun e => by subst e; have := getD_true_of (mem_ready.1 hi).1; rw [g2] at this; cases this
      have np : i ≠ p := fun e => by
        subst e
        have kc : ¬ Gate i c1 c2 .c i d := fun x => by have := x rfl; rw [g3] at this; cases this
        cases κ <;> cases κ' <;> first | exact e0 rfl | contradiction | exact kc k1 | exact kc k2
      have nc2 : i ≠ c2 := fun e => by
        subst e
        have kb : ¬ Gate p c1 i .b i d := fun x => by have := x.2 rfl; rw [g1] at this; cases this
        cases κ <;> cases κ' <;> first | exact e0 rfl | contradiction | exact kb k1 | exact kb k2
      rcases hb with (((hb | hb) | hb) | hb) | hb
      · exact absurd hb np
      · exact absurd hb e1
      · exact absurd hb nc2
      · obtain ⟨u, hu⟩ := Option.isSome_iff_exists.1 hb
        exact ⟨u, tab u e1 hu κ, tab u e1 hu κ'⟩
      · have := waits_not rfl hb hi
        rw [g3] at this; cases this
    · cases κ <;> cases κ' <;> first | exact absurd rfl e0 | contradiction
    · cases κ <;> cases κ' <;> first | exact absurd rfl e0 | contradiction
  have hopen' : ∀ (S : Th → Prop) (d : Array Bool) (i : Nat), GoodTh p c1 c2 S d → i ∈ Region.ready .any l.toArray d → i < n → (∃ κ, S κ ∧ GateW p c1 c2 κ i d) ∧ GoodTh p c1 c2 (fun κ => S κ ∧ GateW p c1 c2 κ i d) (d.setIfInBounds i true) := by
    intro S d i hg hi hin
    obtain ⟨⟨κ, h1, h2⟩, h3⟩ := hopen S d i hg hi hin
    have h0 : i = c2 → d.getD c1 false = true := fun e => by subst e; exact waits_not rfl hwt hi
    have e : (fun κ => S κ ∧ GateW p c1 c2 κ i d) = (fun κ => S κ ∧ Gate p c1 c2 κ i d) := by
      funext κ
      exact propext ⟨fun x => ⟨x.1, x.2.1⟩, fun x => ⟨x.1, x.2, h0⟩⟩
    exact ⟨⟨κ, h1, h2, h0⟩, e ▸ h3⟩
  have := wpAny_of_classes (Q := Q) (I := I) (G := GateW p c1 c2) (T := Tab T c1 v1) (n := n) (g := l.toArray.size - n) (Good := GoodTh p c1 c2) hopen' hII (fun S d i κ κ' hg hi hin h1 h2 k1 k2 => hTT S d i κ κ' hg hi hin h1 h2 k1.1 k2.1) (fun κ listed a' w' hw' hL => by
    have := wpAny_of_seq (md := .any) (Q' := Q) (l.drop n) n listed a' w' (fun j => by simp [List.getElem?_drop]) (by rw [hdl]; exact hL.1) (hL.2.2 w' (hL.2.1 ▸ hw'))
    rwa [hdl] at this) _ (fun _ => True) _ _ _ ⟨.a, trivial⟩ (.inl ⟨getD_replicate_false _ _, getD_replicate_false _ _, getD_replicate_false _ _, trivial, trivial, trivial⟩) (fun κ _ => ⟨by simpa [doneTo] using hI0 κ, H κ⟩)
  rw [htl, show n + (l.toArray.size - n) = l.toArray.size from by omega] at this
  exact this
end
end Go.Proofs.Ytmmgejlfcehipaa.InvC
