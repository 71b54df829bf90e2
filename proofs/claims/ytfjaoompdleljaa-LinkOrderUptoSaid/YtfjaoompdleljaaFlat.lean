/-
  Pieces of one size, one behind the other. Helper text; no statement is proved here.
-/
import Derived.Test.YtfjaoompdleljaaBase
set_option linter.unusedVariables false
set_option maxRecDepth 20000
set_option linter.unusedSimpArgs false
namespace Go.Proofs.Ytfjaoompdleljaa.Flat
open Go.RowKit Go.Proofs.Ytfjaoompdleljaa.Base Go.Proofs.Ytfjaoompdleljaa.Laws
section
variable {α : Type} {f : α → List Value} {m : Nat}
/-- pieces of one size, one behind the other -/
def flat (f : α → List Value) (l : List α) : List Value := (l.map f).flatten
theorem flat_nil : flat f [] = [] := rfl
theorem flat_cons (x : α) (l : List α) : flat f (x :: l) = f x ++ flat f l := rfl
theorem flat_append (k l : List α) : flat f (k ++ l) = flat f k ++ flat f l := by simp [flat]
theorem flat_one (x : α) : flat f [x] = f x := by simp [flat]
theorem flat_len {l : List α} (h : ∀ x ∈ l, (f x).length = m) : (flat f l).length = l.length * m := by
  induction l with
  | nil => simp [flat]
  | cons x l ih => rw [flat_cons, List.length_append, h x (by simp), ih (fun y hy => h y (by simp [hy])), List.length_cons, Nat.succ_mul]; omega
theorem flat_mem {l : List α} {u : Value} (h : u ∈ flat f l) : ∃ x ∈ l, u ∈ f x := by
  unfold flat at h
  rw [List.mem_flatten] at h
  obtain ⟨q, hq, hu⟩ := h
  obtain ⟨x, hx, rfl⟩ := List.mem_map.1 hq
  exact ⟨x, hx, hu⟩
theorem flat_split {l : List α} {i : Nat} {x : α} (h : ∀ x ∈ l, (f x).length = m) (hx : l[i]? = some x) : ∃ A B, flat f l = A ++ (f x ++ B) ∧ A.length = i * m ∧ flat f (l.take i) = A ∧ flat f (l.drop (i + 1)) = B := by
  obtain ⟨hi, rfl⟩ := List.getElem?_eq_some_iff.1 hx
  refine ⟨flat f (l.take i), flat f (l.drop (i + 1)), ?_, ?_, rfl, rfl⟩
  · rw [← flat_cons, ← flat_append, ← List.drop_eq_getElem_cons, List.take_append_drop]
  · rw [flat_len (m := m) (fun x hx => h x (List.mem_of_mem_take hx)), List.length_take]
    congr 1
    omega
theorem flat_piece {l : List α} {i : Nat} {x : α} (h : ∀ x ∈ l, (f x).length = m) (hx : l[i]? = some x) : ((flat f l).drop (i * m)).take m = f x := by
  obtain ⟨A, B, e, hA, _, _⟩ := flat_split h hx
  have hm := h x (List.mem_of_getElem? hx)
  rw [e, ← hA, List.drop_left, ← hm, List.take_left]
theorem flat_get {l : List α} {i j : Nat} {x : α} {u : Value} (h : ∀ x ∈ l, (f x).length = m) (hx : l[i]? = some x) (hu : (f x)[j]? = some u) : (flat f l)[i * m + j]? = some u := by
  obtain ⟨A, B, e, hA, _, _⟩ := flat_split h hx
  have hj := (List.getElem?_eq_some_iff.1 hu).1
  rw [e, List.getElem?_append_right (by omega), hA, show i * m + j - i * m = j from by omega, List.getElem?_append_left hj]
  exact hu
theorem flat_put {l : List α} {i : Nat} {x : α} (h : ∀ x ∈ l, (f x).length = m) (hx : (f x).length = m) (hi : i < l.length) : put (flat f l) (i * m) (f x) = flat f (l.set i x) := by
  have h0 := h l[i] (List.getElem_mem hi)
  obtain ⟨A, B, e, hA, e1, e2⟩ := flat_split h (List.getElem?_eq_getElem hi)
  have es : flat f (l.set i x) = A ++ (f x ++ B) := by
    rw [List.set_eq_take_append_cons_drop, if_pos hi, flat_append, flat_cons, e1, e2]
  rw [es, e]
  unfold put
  rw [← hA, List.take_left, hx, ← h0, ← List.drop_drop, List.drop_left, List.drop_left]
theorem flat_inb {l : List α} {i : Nat} {x : α} (h : ∀ x ∈ l, (f x).length = m) (hx : l[i]? = some x) : i * m + m ≤ (flat f l).length := by
  have hi := (List.getElem?_eq_some_iff.1 hx).1
  rw [flat_len h]
  have := Nat.mul_le_mul_right m (show i + 1 ≤ l.length from hi)
  rw [Nat.succ_mul] at this
  exact this

/-- a slice reads as a list -/
def Sl (w : World) (f : α → List Value) (m : Nat) (a : Option Addr) (n cap : Nat) (l : List α) : Prop :=
  l.length = n ∧ n ≤ cap ∧ cap ≤ maxLen ∧ (∀ x ∈ l, (f x).length = m) ∧ (n = 0 ∨ ∃ b o, a = some ⟨b, o, none⟩ ∧ ∀ j u, (flat f l)[j]? = some u → w.cell? ⟨b, o + j, none⟩ = some u)
theorem Sl.below {w w' : World} {a : Option Addr} {n cap : Nat} {l : List α} (h : Sl w f m a n cap l) {B : Nat} (hb : Below B w w') (hB : w.heap.size ≤ B) : Sl w' f m a n cap l := by
  obtain ⟨h1, h2, h3, h5, h4⟩ := h
  refine ⟨h1, h2, h3, h5, ?_⟩
  rcases h4 with h4 | ⟨b, o, e, hc⟩
  · exact .inl h4
  · exact .inr ⟨b, o, e, fun j u hu => (hb.cell (p := ⟨b, o + j, none⟩) (Nat.lt_of_lt_of_le (block_lt_of_cell (hc j u hu)) hB)).trans (hc j u hu)⟩
theorem Sl.src {w : World} {a : Option Addr} {n cap : Nat} {l : List α} (h : Sl w f m a n cap l) (h1 : ∀ x ∈ l, ∀ u ∈ f x, u.oneCell' = true) : SrcOf w a n m (flat f l) := by
  obtain ⟨e, _, _, h5, h4⟩ := h
  refine ⟨by rw [flat_len h5, e], fun u hu => ?_, ?_⟩
  · obtain ⟨x, hx, hu⟩ := flat_mem hu
    exact h1 x hx u hu
  · rcases h4 with h4 | ⟨b, o, e, hc⟩
    · exact .inl h4
    · exact .inr ⟨_, e, fun j u hu => by rw [Addr.add_lit]; exact hc j u hu⟩
/-- the i-th of them lies there -/
theorem Sl.at {w : World} {a : Option Addr} {n cap i : Nat} {l : List α} {x : α} (h : Sl w f m a n cap l) (hx : l[i]? = some x) : ∃ b o, a = some ⟨b, o, none⟩ ∧ ∀ j u, (f x)[j]? = some u → w.cell? ⟨b, o + i * m + j, none⟩ = some u := by
  obtain ⟨e, _, _, h5, h4⟩ := h
  have hi := (List.getElem?_eq_some_iff.1 hx).1
  rcases h4 with h4 | ⟨b, o, rfl, hc⟩
  · omega
  · exact ⟨b, o, rfl, fun j u hu => by rw [Nat.add_assoc]; exact hc _ u (flat_get h5 hx hu)⟩
theorem Sl.take {w : World} {a : Option Addr} {n cap k : Nat} {l : List α} (h : Sl w f m a n cap l) (hk : k ≤ n) : Sl w f m a k cap (l.take k) := by
  obtain ⟨h1, h2, h3, h5, h4⟩ := h
  refine ⟨by rw [List.length_take]; omega, by omega, h3, fun x hx => h5 x (List.mem_of_mem_take hx), ?_⟩
  rcases h4 with h4 | ⟨b, o, e, hc⟩
  · exact .inl (by omega)
  · refine .inr ⟨b, o, e, fun j u hu => hc j u ?_⟩
    have : flat f l = flat f (l.take k) ++ flat f (l.drop k) := by rw [← flat_append, List.take_append_drop]
    rw [this, List.getElem?_append_left (List.getElem?_eq_some_iff.1 hu).1]
    exact hu
theorem sl_nil (w : World) (a : Option Addr) {cap : Nat} (hc : cap ≤ maxLen) : Sl w f m a 0 cap [] := ⟨rfl, Nat.zero_le _, hc, by simp, .inl rfl⟩
theorem sl_own {w : World} {base : Nat} {e : TypeId} {v : Value} {n : Nat} {l : List α} (hn : l.length = n) (hv : ∀ x ∈ l, (f x).length = m) (h0 : 0 < m) (h : w.ownsRow base e m v n (flat f l)) : ∃ a cap, v = .slice a n cap ∧ Sl w f m a n cap l := by
  obtain ⟨a, cap, rfl, h1, h2, h3⟩ := own_slice h h0
  refine ⟨a, cap, rfl, hn, h1, h2, hv, ?_⟩
  rcases h3 with h3 | ⟨g, rfl, _, hc⟩
  · exact .inl h3
  · exact .inr ⟨g, 0, rfl, fun j u hu => hc j u hu⟩
theorem sl_blk {w : World} {g : Nat} {l : List α} {t : TypeId} {n cap : Nat} (h : Blk w g (flat f l) t) (hv : ∀ x ∈ l, (f x).length = m) (hn : l.length = n) (hc : n ≤ cap) (hm : cap ≤ maxLen) : Sl w f m (some ⟨g, 0, none⟩) n cap l :=
  ⟨hn, hc, hm, hv, .inr ⟨g, 0, rfl, fun j u hu => by rw [Nat.zero_add, h.cell]; exact hu⟩⟩
end
end Go.Proofs.Ytfjaoompdleljaa.Flat
