/-
  What the bound of an '..Upto' statement gives. Helper text (after the page's own lemmas); no statement is proved here.
-/
import Derived.Test.YtfjaoompdleljaaRows
import Derived.Test.YtfjaoompdleljaaOpens
set_option linter.unusedVariables false
set_option maxRecDepth 20000
namespace Go.Proofs.Ytfjaoompdleljaa.Bulk
open Go.RowKit

theorem length_le {H : Type} (l : List (DataW H)) : l.length ≤ Rows.uptoBulkAll l := by
  induction l with
  | nil => simp [Rows.uptoBulkAll]
  | cons x r ih =>
    have : 1 ≤ Rows.uptoBulk x := by
      cases x with
      | lit l => cases l <;> simp [Rows.uptoBulk]
      | nil => simp [Rows.uptoBulk]
      | ptr d => simp [Rows.uptoBulk]
      | slice elems spare => simp [Rows.uptoBulk]
      | agg parts => simp [Rows.uptoBulk]
      | iface t d => simp [Rows.uptoBulk]
      | map entries => simp [Rows.uptoBulk]
      | held h => simp [Rows.uptoBulk]
    simp only [Rows.uptoBulkAll, List.length_cons]
    omega

/-- the bulks of a list's parts, one beside the other -/
theorem sum_le {H α : Type} (g : α → Nat) : ∀ (l : List α) (ds : List (DataW H)), (∀ (i : Nat) (u : α), l[i]? = some u → ∃ d, ds[i]? = some d ∧ g u ≤ Rows.uptoBulk d) → (l.map g).sum ≤ Rows.uptoBulkAll ds := by
  intro l
  induction l with
  | nil => intro ds _; simp
  | cons x l ih =>
    intro ds h
    obtain ⟨d, hd, hg⟩ := h 0 x rfl
    cases ds with
    | nil => simp at hd
    | cons d' ds =>
      simp at hd
      subst hd
      have := ih ds fun i u hu => by
        obtain ⟨d, h1, h2⟩ := h (i + 1) u (by simpa using hu)
        exact ⟨d, by simpa using h1, h2⟩
      simp only [List.map_cons, List.sum_cons, Rows.uptoBulkAll]
      omega

section
variable {H : Type} {enc : TypeId × Value → H} {P : Program} {w : World} {base : Nat} {spare : Nat → Bool} {held : Bool}
/-- a slice's reading, its elements' data beside the cells -/
theorem open_elems {t e : TypeId} {a : Option Addr} {len cap : Nat} {x : DataW H} {p : List MemPlace} (ht : P.underlying t = some (.slice e)) (h : DataW.Trod enc P w base spare held t (.slice a len cap) x p)
    (hw : ∀ m ∈ x.weights P t, m ≤ reachBytes) :
    (a = none ∧ len = 0 ∧ cap = 0) ∨ ∃ ad elems rest, a = some ad ∧ x = .slice elems rest ∧ elems.length = len ∧ len ≤ cap ∧ cap ≤ maxLen ∧ len * P.bytesOf e ≤ reachBytes ∧
      ∀ i, i < len → ∃ cs n y, w.cells? base (ad.add (i * P.cellsOf e)) (P.cellsOf e) = some cs ∧ DataW.trod enc P w base spare held n e cs = some y ∧ elems[i]? = some y.1 ∧ ∀ m ∈ y.1.weights P e, m ≤ reachBytes := by
  obtain ⟨fuel, hf⟩ := h
  rcases DataW.trod_slice ht hf with ⟨h1, _⟩ | ⟨a', len', cap', elems, rest, n, _, h1, hx, hb, hl, hm, hel, hr, _, _⟩
  · simp [Value.cells] at h1
    obtain ⟨rfl, rfl, rfl⟩ := h1
    exact .inl ⟨rfl, rfl, rfl⟩
  · simp [Value.cells] at h1
    obtain ⟨rfl, rfl, rfl⟩ := h1
    simp only [Prod.mk.injEq] at hx
    obtain ⟨rfl, _⟩ := hx
    simp only [DataW.weights, ht] at hw
    refine .inr ⟨a', _, _, rfl, rfl, by simpa using hel, hl, hm, ?_, fun j hj => ?_⟩
    · have := hw _ (List.mem_cons_self ..)
      simp only [List.length_map] at this
      rw [hel] at this
      exact Nat.le_trans (Nat.mul_le_mul_right _ (Nat.le_add_right _ _)) this
    · have hj' := hr j hj
      obtain ⟨y, hy⟩ : ∃ y, elems[j]? = some y := ⟨elems[j]'(by omega), List.getElem?_eq_getElem (by omega)⟩
      rw [hy, Option.bind_eq_some_iff] at hj'
      obtain ⟨cs', h1, h2⟩ := hj'
      refine ⟨cs', n, y, h1, h2, by rw [List.getElem?_map, hy]; rfl, fun m hmm => hw m (List.mem_cons_of_mem _ (List.mem_append.2 (.inl (Opens.weights_mem_all (List.mem_map.2 ⟨y, List.mem_of_getElem? hy, rfl⟩) m hmm))))⟩

/-- a slice's bulk is at least its length and one -/
theorem slice_len {t e : TypeId} {fuel : Nat} {a : Option Addr} {len cap : Nat} {y : DataW H × List MemPlace} (ht : P.underlying t = some (.slice e)) (h : DataW.trod enc P w base spare held fuel t [.slice a len cap] = some y) : len + 1 ≤ Rows.uptoBulk y.1 := by
  rcases DataW.trod_slice ht h with ⟨h1, rfl⟩ | ⟨a', len', cap', elems, rest, n, _, h1, rfl, hb, hl, hm, hel, hr, _, _⟩
  · simp at h1
    obtain ⟨rfl, rfl, rfl⟩ := h1
    simp [Rows.uptoBulk]
  · simp at h1
    obtain ⟨rfl, rfl, rfl⟩ := h1
    have := length_le (elems.map (·.1))
    simp only [List.length_map] at this
    simp only [Rows.uptoBulk]
    omega
end
end Go.Proofs.Ytfjaoompdleljaa.Bulk
