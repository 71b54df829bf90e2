/-
  '==' on structs and arrays that are made of numbers alone, the cells given as one list. Helper text; no statement is proved here.
-/
import Derived.WalkKit
import Derived.DeepKeys
import Derived.Test.YtobblbplanimgaaInv
set_option linter.unusedVariables false
set_option maxRecDepth 20000
set_option linter.unusedSimpArgs false
namespace Go.Proofs.Ytobblbplanimgaa.Eq
open Go.RowKit

/-- a number as a value, and as a literal -/
def val (p : IntKind × Int) : Value := .int p.1 p.2
def lit (p : IntKind × Int) : Lit := .int p.1 p.2
theorem lit_inj {p q : IntKind × Int} (h : lit p = lit q) : p = q := by
  unfold lit at h
  simp only [Lit.int.injEq] at h
  exact Prod.ext h.1 h.2
theorem map_lit_inj : ∀ {l m : List (IntKind × Int)}, l.map lit = m.map lit → l = m
  | [], [], _ => rfl
  | p :: l, q :: m, h => by
    simp only [List.map_cons, List.cons.injEq] at h
    rw [lit_inj h.1, map_lit_inj h.2]
  | [], _ :: _, h => by simp at h
  | _ :: _, [], h => by simp at h

/-- the kinds of the cells of a type that is made of numbers alone -/
def kinds (P : Program) : Nat → TypeId → Option (List IntKind)
  | 0, _ => none
  | d + 1, t =>
    (match P.underlying t with
     | some (.int k) => some [k]
     | some (.struct fs) => fs.toList.foldlM (fun (acc : List IntKind) (f : Field) => if f.offset = acc.length ∧ (f.name != "_") = true then (kinds P d f.type).map (acc ++ ·) else none) []
     | some (.array n e) => (kinds P d e).map fun (ks : List IntKind) => (List.replicate n ks).flatten
     | _ => (none : Option (List IntKind))).bind fun (ks : List IntKind) => if ks.length = P.cellsOf t then some ks else none
theorem kinds_len {P : Program} {d : Nat} {t : TypeId} {ks : List IntKind} (h : kinds P d t = some ks) : ks.length = P.cellsOf t := by
  cases d with
  | zero => simp [kinds] at h
  | succ d =>
    unfold kinds at h
    rw [Option.bind_eq_some_iff] at h
    obtain ⟨ks', _, h⟩ := h
    split at h
    · cases h; assumption
    · cases h
theorem fold_prefix {P : Program} {d : Nat} : ∀ (fs : List Field) (acc ks : List IntKind), fs.foldlM (fun (acc : List IntKind) (f : Field) => if f.offset = acc.length ∧ (f.name != "_") = true then (kinds P d f.type).map (acc ++ ·) else none) acc = some ks → ∃ more, ks = acc ++ more
  | [], acc, ks, h => by simp at h; exact ⟨[], by simp [h]⟩
  | f :: fs, acc, ks, h => by
    simp only [List.foldlM_cons] at h
    by_cases ho : f.offset = acc.length ∧ (f.name != "_") = true
    · simp only [ho, and_self, if_true] at h
      cases hl : kinds P d f.type with
      | none => rw [hl] at h; simp at h
      | some kf =>
        rw [hl] at h
        simp only [Option.map_some, Option.bind_eq_bind, Option.bind_some] at h
        obtain ⟨more, e⟩ := fold_prefix fs _ _ h
        exact ⟨kf ++ more, by rw [e, List.append_assoc]⟩
    · rw [if_neg ho] at h
      simp at h

theorem keyLits_flat {P : Program} (d : Nat) : ∀ (t : TypeId) (ks : List IntKind), kinds P d t = some ks → ∀ ls : List (IntKind × Int), ls.map (·.1) = ks → (∀ p ∈ ls, (lit p).wf = true) → P.keyLits d t (ls.map val) = some (ls.map lit) := by
  induction d with
  | zero => intro t ks h; simp [kinds] at h
  | succ d ih =>
    intro t ks h ls hk hw
    have hcl := kinds_len h
    unfold kinds at h
    rw [Option.bind_eq_some_iff] at h
    obtain ⟨ks', h, h2⟩ := h
    split at h2
    case isFalse => cases h2
    case isTrue hlen =>
    cases h2
    have hll : (ls.map val).length = P.cellsOf t := by rw [List.length_map, ← hcl, ← hk, List.length_map]
    cases hu : P.underlying t with
    | none => rw [hu] at h; cases h
    | some u =>
    rw [hu] at h
    cases u with
    | int k =>
      cases h
      match ls, hk with
      | [p], hk =>
        simp at hk
        subst hk
        have hwp := hw p (by simp)
        unfold lit at hwp
        simp [Program.keyLits, hu, val, lit, hwp]
    | struct fs =>
      dsimp only at h
      have hnames : ∀ (rest : List Field) (acc ks : List IntKind), rest.foldlM (fun (acc : List IntKind) (f : Field) => if f.offset = acc.length ∧ (f.name != "_") = true then (kinds P d f.type).map (acc ++ ·) else none) acc = some ks → ∀ f ∈ rest, (f.name != "_") = true := by
        intro rest
        induction rest with
        | nil => intro _ _ _ f hf; cases hf
        | cons f rest ihr =>
          intro acc ks hh g hg
          simp only [List.foldlM_cons] at hh
          by_cases ho : f.offset = acc.length ∧ (f.name != "_") = true
          · rcases List.mem_cons.1 hg with rfl | hg
            · exact ho.2
            · simp only [ho, and_self, if_true] at hh
              cases hl : kinds P d f.type with
              | none => rw [hl] at hh; simp at hh
              | some kf =>
                rw [hl] at hh
                simp only [Option.map_some, Option.bind_eq_bind, Option.bind_some] at hh
                exact ihr _ _ hh g hg
          · rw [if_neg ho] at hh
            simp at hh
      have hall : fs.all (·.name != "_") = true := by
        rw [← Array.all_toList, List.all_eq_true]
        exact hnames _ _ _ h
      have key : ∀ (rest : List Field) (acc : List IntKind), rest.foldlM (fun (acc : List IntKind) (f : Field) => if f.offset = acc.length ∧ (f.name != "_") = true then (kinds P d f.type).map (acc ++ ·) else none) acc = some ks →
          ∃ parts, rest.mapM (fun f => P.keyLits d f.type (((ls.map val).drop f.offset).take (P.cellsOf f.type))) = some parts ∧ parts.flatten = (ls.map lit).drop acc.length := by
        intro rest
        induction rest with
        | nil =>
          intro acc hh
          simp at hh
          subst hh
          refine ⟨[], by simp, ?_⟩
          rw [List.drop_of_length_le (by rw [List.length_map, ← hk, List.length_map]; exact Nat.le_refl _)]
          rfl
        | cons f rest ihr =>
          intro acc hh
          have hh0 := hh
          simp only [List.foldlM_cons] at hh
          by_cases ho : f.offset = acc.length ∧ (f.name != "_") = true
          · simp only [ho, and_self, if_true] at hh
            cases hl : kinds P d f.type with
            | none => rw [hl] at hh; simp at hh
            | some kf =>
              rw [hl] at hh
              simp only [Option.map_some, Option.bind_eq_bind, Option.bind_some] at hh
              obtain ⟨parts, hp, hfl⟩ := ihr _ hh
              obtain ⟨more, hm⟩ := fold_prefix _ _ _ hh
              have kl := kinds_len hl
              have hd : ((ls.drop acc.length).take kf.length).map (·.1) = kf := by
                rw [List.map_take, List.map_drop, hk, hm, List.append_assoc]
                simp
              have hpart := ih _ _ hl ((ls.drop acc.length).take kf.length) hd (fun p hp => hw p (List.mem_of_mem_drop (List.mem_of_mem_take hp)))
              refine ⟨((ls.drop acc.length).take kf.length).map lit :: parts, ?_, ?_⟩
              · simp only [List.mapM_cons, ho.1, ← kl]
                rw [← List.map_drop, ← List.map_take, hpart]
                simp only [Option.bind_eq_bind, Option.bind_some, Option.pure_def]
                rw [hp]
                rfl
              · rw [List.flatten_cons, hfl, List.length_append, ← List.drop_drop, List.map_take, List.map_drop, List.take_append_drop]
          · rw [if_neg ho] at hh
            simp at hh
      obtain ⟨parts, hp, hfl⟩ := key _ _ h
      unfold Program.keyLits
      rw [hu]
      simp only [hll, hall, and_self, if_true]
      rw [hp]
      simp only [Option.map_some, hfl]
      simp
    | array n e =>
      dsimp only at h
      cases hl : kinds P d e with
      | none => rw [hl] at h; simp at h
      | some ke =>
        rw [hl] at h
        simp only [Option.map_some, Option.some.injEq] at h
        subst h
        have kl := kinds_len hl
        have key : ∀ m, m ≤ n → ∃ parts, (List.range m).mapM (fun i => P.keyLits d e (((ls.map val).drop (i * P.cellsOf e)).take (P.cellsOf e))) = some parts ∧ parts.flatten = (ls.map lit).take (m * P.cellsOf e) := by
          intro m
          induction m with
          | zero => intro _; exact ⟨[], by simp, by simp⟩
          | succ m ihm =>
            intro hm
            obtain ⟨parts, hp, hfl⟩ := ihm (by omega)
            have hd : ((ls.drop (m * P.cellsOf e)).take (P.cellsOf e)).map (·.1) = ke := by
              rw [List.map_take, List.map_drop, hk, show n = m + 1 + (n - (m + 1)) from by omega, ← List.replicate_append_replicate, List.flatten_append, List.replicate_succ', List.flatten_append]
              have hz : (List.replicate m ke).flatten.length = m * P.cellsOf e := by simp [List.length_flatten, kl]
              rw [List.append_assoc, List.drop_append, List.drop_of_length_le (by omega), hz, Nat.sub_self, List.drop_zero, List.nil_append]
              simp [kl]
            have hpart := ih _ _ hl _ hd (fun p hp => hw p (List.mem_of_mem_drop (List.mem_of_mem_take hp)))
            refine ⟨parts ++ [((ls.drop (m * P.cellsOf e)).take (P.cellsOf e)).map lit], ?_, ?_⟩
            · rw [List.range_succ, List.mapM_append, hp]
              simp only [List.mapM_cons, List.mapM_nil]
              rw [← List.map_drop, ← List.map_take, hpart]
              rfl
            · rw [List.flatten_append, hfl, Nat.succ_mul, List.take_add, List.map_take, List.map_drop]
              simp
        obtain ⟨parts, hp, hfl⟩ := key n (Nat.le_refl _)
        unfold Program.keyLits
        rw [hu]
        simp only [hll, if_true]
        rw [hp]
        have hz : (List.replicate n ke).flatten.length = n * P.cellsOf e := by simp [List.length_flatten, kl]
        have hlz : (ls.map lit).length = n * P.cellsOf e := by rw [List.length_map, ← hz, ← hk, List.length_map]
        simp only [Option.map_some, hfl, ← hlz, List.take_length]
    | _ => cases h

/-- two values of a flat type are alike just where their cells are -/
theorem run_eq_flat {P : Program} {t : TypeId} {ks : List IntKind} (d : Nat) (ha : (match P.underlying t with | some (.struct _) | some (.array _ _) => true | _ => false) = true) (hk : kinds P d t = some ks) (hkt : P.keyTypeAt 10 t = true)
    {l m : List (IntKind × Int)} (hl : l.map (·.1) = ks) (hm : m.map (·.1) = ks) (wl : ∀ p ∈ l, (lit p).wf = true) (wm : ∀ p ∈ m, (lit p).wf = true) (w : World) :
    (Op.equalIn 10000 t (.agg (l.map val).toArray) (.agg (m.map val).toArray)).run P w = .ok (decide (l = m)) w := by
  have fm : ∀ {x : List (IntKind × Int)}, x.map (·.1) = ks → (Value.agg (x.map val).toArray).formed P t = true := by
    intro x hx
    have hs : (x.map val).toArray.size = P.cellsOf t := by rw [List.size_toArray, List.length_map, ← kinds_len hk, ← hx, List.length_map]
    unfold Value.formed
    cases hu : P.underlying t with
    | none => rw [hu] at ha; cases ha
    | some u =>
      rw [hu] at ha
      cases u <;> first | (simp [hs]; done) | cases ha
  obtain ⟨r, hr, hiff⟩ := run_equalIn_deep (P := P) 9990 10 t hkt w d d _ _ _ _ (fm hl) (fm hm) (keyLits_flat d t ks hk l hl wl) (keyLits_flat d t ks hk m hm wm)
  rw [hr]
  congr 1
  rw [Bool.eq_iff_iff, hiff, decide_eq_true_eq]
  exact ⟨map_lit_inj, fun h => by rw [h]⟩
theorem exec_eql {P : Program} {w : World} {ρ : Operand → Value} {o : Oper} {t yt : TypeId} {x y : Operand} {xs ys : Array Value} {b : Bool} (ho : o.op = .binOp .eql t x y yt) (hx : ρ x = .agg xs) (hy : ρ y = .agg ys) (hm : P.eqGuardType P.depth t = false)
    (he : (Op.equalIn 10000 t (.agg xs) (.agg ys)).run P w = .ok b w) : (execOp ρ o).run P w = .ok (.value (.bool b)) w := by
  unfold execOp
  simp only [ho, hx, hy, Sem.run_bind, run_eqGuard_agg w .eql t x y xs ys hm, Result.andThen_ok, run_eql_struct, he, Sem.run_pure]
theorem exec_neq {P : Program} {w : World} {ρ : Operand → Value} {o : Oper} {t yt : TypeId} {x y : Operand} {xs ys : Array Value} {b : Bool} (ho : o.op = .binOp .neq t x y yt) (hx : ρ x = .agg xs) (hy : ρ y = .agg ys) (hm : P.eqGuardType P.depth t = false)
    (he : (Op.equalIn 10000 t (.agg xs) (.agg ys)).run P w = .ok b w) : (execOp ρ o).run P w = .ok (.value (.bool (!b))) w := by
  unfold execOp
  simp only [ho, hx, hy, Sem.run_bind, run_eqGuard_agg w .neq t x y xs ys hm, Result.andThen_ok, run_neq_struct, he, Sem.run_pure]
theorem wpList_eql {P : Program} {w : World} {ops : Array Oper} {rest : List Oper} {o : Oper} {a : Act} {Q : Exit → Act → World → Prop} (hgd : o.guard = none) {t yt : TypeId} {x y : Operand} {xs ys : Array Value} {b : Bool} (ho : o.op = .binOp .eql t x y yt) (hx : a.eval x = .agg xs) (hy : a.eval y = .agg ys) (hm : P.eqGuardType P.depth t = false)
    (he : (Op.equalIn 10000 t (.agg xs) (.agg ys)).run P w = .ok b w) (h : wpList P ops Q rest (a.put o.dst (.bool b)) w) : wpList P ops Q (o :: rest) a w := by
  refine wpList_plain hgd fun K hK => ?_
  unfold Oper.wp
  rw [exec_eql ho hx hy hm he]
  exact hK _ _ h
theorem wpList_neq {P : Program} {w : World} {ops : Array Oper} {rest : List Oper} {o : Oper} {a : Act} {Q : Exit → Act → World → Prop} (hgd : o.guard = none) {t yt : TypeId} {x y : Operand} {xs ys : Array Value} {b : Bool} (ho : o.op = .binOp .neq t x y yt) (hx : a.eval x = .agg xs) (hy : a.eval y = .agg ys) (hm : P.eqGuardType P.depth t = false)
    (he : (Op.equalIn 10000 t (.agg xs) (.agg ys)).run P w = .ok b w) (h : wpList P ops Q rest (a.put o.dst (.bool (!b))) w) : wpList P ops Q (o :: rest) a w := by
  refine wpList_plain hgd fun K hK => ?_
  unfold Oper.wp
  rw [exec_neq ho hx hy hm he]
  exact hK _ _ h
theorem inv_eql {P : Program} {I : World → Prop} {ops : Array Oper} {Q : Act → Prop} {a : Act} {o : Oper} {rest : List Oper} (hw : Region.wanted o (yielded ops a.tmps) = true) {t yt : TypeId} {x y : Operand} {xs ys : Array Value} {b : Bool} (ho : o.op = .binOp .eql t x y yt) (hx : a.eval x = .agg xs) (hy : a.eval y = .agg ys) (hm : P.eqGuardType P.depth t = false)
    (he : ∀ w, I w → (Op.equalIn 10000 t (.agg xs) (.agg ys)).run P w = .ok b w) (h : Inv.wpInv P I ops Q rest (a.put o.dst (.bool b))) : Inv.wpInv P I ops Q (o :: rest) a :=
  Inv.inv_value (.bool b) hw (fun w hI => exec_eql ho hx hy hm (he w hI)) h
theorem inv_neq {P : Program} {I : World → Prop} {ops : Array Oper} {Q : Act → Prop} {a : Act} {o : Oper} {rest : List Oper} (hw : Region.wanted o (yielded ops a.tmps) = true) {t yt : TypeId} {x y : Operand} {xs ys : Array Value} {b : Bool} (ho : o.op = .binOp .neq t x y yt) (hx : a.eval x = .agg xs) (hy : a.eval y = .agg ys) (hm : P.eqGuardType P.depth t = false)
    (he : ∀ w, I w → (Op.equalIn 10000 t (.agg xs) (.agg ys)).run P w = .ok b w) (h : Inv.wpInv P I ops Q rest (a.put o.dst (.bool (!b)))) : Inv.wpInv P I ops Q (o :: rest) a :=
  Inv.inv_value (.bool (!b)) hw (fun w hI => exec_neq ho hx hy hm (he w hI)) h
end Go.Proofs.Ytobblbplanimgaa.Eq
