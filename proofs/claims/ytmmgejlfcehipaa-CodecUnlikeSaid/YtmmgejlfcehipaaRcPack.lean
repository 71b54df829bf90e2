/-
  Packing of records; rows that grow side by side. Helper text; no statement is proved here.
-/
import Derived.Test.YtmmgejlfcehipaaScan
import Derived.Test.YtmmgejlfcehipaaSameRecs
import Derived.Test.YtmmgejlfcehipaaAwake4
import Derived.Test.YtmmgejlfcehipaaRefPack
set_option linter.unusedVariables false
set_option linter.unusedSimpArgs false
namespace Go.Proofs.Ytmmgejlfcehipaa.Codec
open Go.RowKit Go.Proofs.Ytmmgejlfcehipaa.Base Go.Proofs.Ytmmgejlfcehipaa.Laws Go.Proofs.Ytmmgejlfcehipaa.InvM
theorem rc_pack_yes {r : Rc} (hv : r.Valid) (hg : r.Good) (base : Nat) (w : World) (hb : base ≤ w.heap.size) : Calls Try.prog 11 #[.agg r.cells.toArray] w fun e w' => ∃ p, e = .returned (.tuple #[p, .int .i64 0]) ∧ w'.ownsRow base 5 1 p 37 (bv r.bytes) ∧ Below base w w' := by
  obtain ⟨k, v, a, l⟩ := r
  obtain ⟨hl, hv, hk, ha⟩ := hv
  have h0 : 0 ≤ a := hg.2.1
  obtain ⟨n, rfl⟩ : ∃ n : Nat, a = n := ⟨a.toNat, by omega⟩
  exact pack_yes (k := k) (v := v) (a := n) (l := l) hl hv hg base w hb
theorem rc_pack_no {r : Rc} (hv : r.Valid) (hg : ¬ r.Good) (w : World) : Calls Try.prog 11 #[.agg r.cells.toArray] w fun e w' => e = .returned (.tuple #[.slice none 0 0, .int .i64 2]) ∧ Below w.heap.size w w' :=
  pack_no (k := r.k) (v := r.v) (a := r.a) (l := r.l) hv.1 hg w
theorem rc_rpack_yes {r : Rc} (hv : r.Valid) (hg : r.Good) (w : World) : Calls Try.prog 12 #[.agg r.cells.toArray] w fun e w' => ∃ p, e = .returned (.tuple #[p, .int .i64 0]) ∧ w'.ownsRow w.heap.size 5 1 p 37 (bv r.bytes) ∧ Below w.heap.size w w' := by
  obtain ⟨k, v, a, l⟩ := r
  obtain ⟨hl, hv, hk, ha⟩ := hv
  have h0 : 0 ≤ a := hg.2.1
  obtain ⟨n, rfl⟩ : ∃ n : Nat, a = n := ⟨a.toNat, by omega⟩
  exact rpack_yes (k := k) (v := v) (a := n) (l := l) hl hv hg w
theorem rc_rpack_no {r : Rc} (hv : r.Valid) (hg : ¬ r.Good) (w : World) : Calls Try.prog 12 #[.agg r.cells.toArray] w fun e w' => e = .returned (.tuple #[.slice none 0 0, .int .i64 2]) ∧ Below w.heap.size w w' :=
  rpack_no (k := r.k) (v := r.v) (a := r.a) (l := r.l) hv.1 hg w
/-- the records that can be packed -/
def good (rs : List Rc) : List Rc := rs.filter fun r => decide r.Good
theorem good_snoc_yes {rs : List Rc} {r : Rc} (h : r.Good) : good (rs ++ [r]) = good rs ++ [r] := by unfold good; rw [List.filter_append]; simp [h]
theorem good_snoc_no {rs : List Rc} {r : Rc} (h : ¬ r.Good) : good (rs ++ [r]) = good rs := by unfold good; rw [List.filter_append]; simp [h]
theorem good_len (rs : List Rc) : (good rs).length ≤ rs.length := List.length_filter_le _ _
theorem good_all {rs : List Rc} (h : ∀ r ∈ rs, r.Valid) : ∀ r ∈ good rs, r.Valid ∧ r.Good := fun r hr => by
  unfold good at hr
  rw [List.mem_filter] at hr
  exact ⟨h r hr.1, of_decide_eq_true hr.2⟩
theorem own_apart {w : World} {b b' : Nat} {e e' : TypeId} {s s' : Nat} {v v' : Value} {n n' : Nat} {xs xs' : List Value} (h : w.ownsRow b e s v n xs) (g : w.ownsRow b' e' s' v' n' xs') (hne : e ≠ e') : v.ownBlock = none ∨ v.ownBlock ≠ v'.ownBlock := by
  rcases h.2 with ⟨rfl, _⟩ | ⟨g1, cap, cur, rfl, _, hg, _⟩
  · exact .inl rfl
  · refine .inr fun e => ?_
    rcases g.2 with ⟨rfl, _⟩ | ⟨g2, cap2, cur2, rfl, _, hg2, _⟩
    · simp [Value.ownBlock] at e
    · simp only [Value.ownBlock, Option.some.injEq] at e
      subst e
      rw [hg] at hg2
      simp only [Option.some.injEq, Obj.cells.injEq] at hg2
      exact hne hg2.2.1
theorem take_rs {rs : List Rc} (h : ∀ r ∈ rs, r.Valid) (k : Nat) : ∀ r ∈ rs.take k, r.Valid := fun r hr => h r (List.mem_of_mem_take hr)
theorem map_add_zero (a : Option Addr) (s : Nat) : a.map (·.add (0 * s)) = a := by
  cases a with
  | none => rfl
  | some a => cases a; simp [Addr.add]
theorem shifted_zero (a : Option Addr) (m : Nat) : shifted a 0 m = a := by
  unfold shifted
  split
  · rfl
  · exact map_add_zero a 1
theorem sizerec (w : World) : (sizeOf 26).run Try.prog w = .ok 19 w := by
  obtain ⟨i, hi, hz, hs, hb⟩ := info_parts info_rec
  simp [sizeOf, typeInfo, hi, hs]
theorem slice_recs_to (w : World) (a : Option Addr) (len cap j : Nat) (k : IntKind) (hj : j ≤ cap) : (Instr.sliceAt 36 (.slice a len cap) none (some (.int k j)) none).run Try.prog w = .ok (.slice a j cap) w := by
  have hu := run_underlying (P := Try.prog) (w := w) Try.underlying36
  have hb := run_sliceBound (P := Try.prog) (w := w) k j cap .sliceAcap (by omega) (by omega)
  simp only [Instr.sliceAt, Sem.run_bind, hu, Result.andThen_ok, Instr.slice, Instr.sliceBounds, Option.isSome_none, Sem.run_pure, sizerec w]
  simp [hb, sizerec w]
  intro _
  cases a with
  | none => rfl
  | some a => cases a; simp [Addr.add]
theorem slice_bytes_to (w : World) (a : Option Addr) (len cap j : Nat) (k : IntKind) (hj : j ≤ cap) : (Instr.sliceAt 27 (.slice a len cap) none (some (.int k j)) none).run Try.prog w = .ok (.slice a j cap) w := by
  rw [slice_to w a len cap j k hj, shifted_zero]
theorem recs_to {w : World} {a : Option Addr} {n cap j : Nat} {rs : List Rc} (h : Recs w a n cap rs) (hj : j ≤ n) : Recs w a j cap (rs.take j) := by
  obtain ⟨h1, h2, h3, h5, h4⟩ := h
  refine ⟨by rw [List.length_take]; omega, by omega, h3, take_rs h5 j, ?_⟩
  rcases h4 with h4 | ⟨b, o, e, hc⟩
  · exact .inl (by omega)
  · refine .inr ⟨b, o, e, fun i u hu => hc i u ?_⟩
    have e2 : rv rs = rv (rs.take j) ++ rv (rs.drop j) := by rw [← rv_append, List.take_append_drop]
    rw [e2, List.getElem?_append_left (List.getElem?_eq_some_iff.1 hu).1]
    exact hu
end Go.Proofs.Ytmmgejlfcehipaa.Codec
