/-
  How data that came in read, cell by cell: numbers, bools and slices, whatever structs and arrays they stand in. Helper text of this seat's claims; no statement is proved here.
-/
import Derived.WalkKit
import Derived.ProofKit
import Derived.OpenShut
import Derived.ChangeOld
import Derived.SizedLaws
set_option linter.unusedSimpArgs false
set_option linter.unusedVariables false
set_option maxRecDepth 20000
namespace Go.Proofs.Ytfjaoompdleljaa.Opens
open Go.ChangeShapes Go.WideShapes Go.ChangeAt Go.RowKit

/-- what a cell of a type is -/
inductive Lf where
  | int (k : IntKind)
  | bool
  | slice (e : TypeId)
  deriving DecidableEq

section
variable {H : Type} (enc : TypeId × Value → H) (P : Program) (w : World) (base : Nat) (spare : Nat → Bool) (held : Bool)

def LfOk : Lf → Value → Prop
  | .int k, c => ∃ n, c = .int k n ∧ (Lit.int k n).wf = true
  | .bool, c => ∃ b, c = .bool b
  | .slice e, c => c = .slice none 0 0 ∨ ∃ a len cap, c = .slice (some a) len cap ∧ base ≤ a.block ∧ len ≤ cap ∧ cap ≤ maxLen ∧
      len * P.bytesOf e ≤ reachBytes ∧
      ∀ i, i < len → ∃ cs n x, w.cells? base (a.add (i * P.cellsOf e)) (P.cellsOf e) = some cs ∧ DataW.trod enc P w base spare held n e cs = some x ∧ ∀ m ∈ x.1.weights P e, m ≤ reachBytes

/-- the cells of a type in their order -/
def leaves : Nat → TypeId → Option (List Lf)
  | 0, _ => none
  | d + 1, t =>
    (match P.underlying t with
     | some (.int k) => some [Lf.int k]
     | some .bool => some [Lf.bool]
     | some (.slice e) => some [Lf.slice e]
     | some (.struct fs) => fs.toList.foldlM (fun (acc : List Lf) (f : Field) => if f.offset = acc.length then (leaves d f.type).map (acc ++ ·) else none) []
     | some (.array n e) => (leaves d e).map fun (ks : List Lf) => (List.replicate n ks).flatten
     | _ => (none : Option (List Lf))).bind fun (ks : List Lf) => if ks.length = P.cellsOf t then some ks else none

def Fits (ks : List Lf) (cs : List Value) : Prop := ∀ (i : Nat) (k : Lf), ks[i]? = some k → ∃ c, cs[i]? = some c ∧ LfOk enc P w base spare held k c
end

section
variable {H : Type} {enc : TypeId × Value → H} {P : Program} {w : World} {base : Nat} {spare : Nat → Bool} {held : Bool}

theorem leaves_len {d : Nat} {t : TypeId} {ks : List Lf} (h : leaves P d t = some ks) : ks.length = P.cellsOf t := by
  cases d with
  | zero => simp [leaves] at h
  | succ d =>
    unfold leaves at h
    rw [Option.bind_eq_some_iff] at h
    obtain ⟨ks', _, h⟩ := h
    split at h
    · cases h; assumption
    · cases h

theorem Fits.append {ks ks' : List Lf} {cs : List Value} {m : Nat} (hm : ks'.length ≤ m) (h : Fits enc P w base spare held ks cs) (h' : Fits enc P w base spare held ks' ((cs.drop ks.length).take m)) :
    Fits enc P w base spare held (ks ++ ks') cs := by
  intro i k hk
  by_cases hi : i < ks.length
  · rw [List.getElem?_append_left hi] at hk
    exact h i k hk
  · rw [List.getElem?_append_right (by omega)] at hk
    obtain ⟨c, hc, ok⟩ := h' _ _ hk
    have hlt : i - ks.length < m := Nat.lt_of_lt_of_le (List.getElem?_eq_some_iff.1 hk).1 hm
    rw [List.getElem?_take, if_pos hlt, List.getElem?_drop] at hc
    exact ⟨c, by rwa [show ks.length + (i - ks.length) = i from by omega] at hc, ok⟩

theorem weights_mem_all {e : TypeId} : ∀ {ds : List (DataW H)} {d : DataW H}, d ∈ ds → ∀ n ∈ d.weights P e, n ∈ DataW.weightsAll P e ds
  | d0 :: ds, d, hd, n, hn => by
    simp only [DataW.weightsAll, List.mem_append]
    rcases List.mem_cons.1 hd with rfl | hd
    · exact .inl hn
    · exact .inr (weights_mem_all hd n hn)
  | [], d, hd, _, _ => by cases hd

/-- what a slice's reading says of it -/
theorem lf_of_slice {t e : TypeId} {fuel : Nat} {a : Addr} {len cap : Nat} {elems rest : List (DataW H × List MemPlace)} {n : Nat} {ps : List MemPlace} (hu : P.underlying t = some (.slice e))
    (hb : base ≤ a.block) (hl : len ≤ cap) (hm : cap ≤ maxLen) (hel : elems.length = len)
    (hr : ∀ i, i < len → (w.cells? base (a.add (i * P.cellsOf e)) (P.cellsOf e)).bind (DataW.trod enc P w base spare held n e) = elems[i]?)
    (hw : ∀ m ∈ (DataW.slice (elems.map (·.1)) (rest.map (·.1))).weights P t, m ≤ reachBytes) : LfOk enc P w base spare held (.slice e) (.slice (some a) len cap) := by
  simp only [DataW.weights, hu] at hw
  refine .inr ⟨a, len, cap, rfl, hb, hl, hm, ?_, fun j hj => ?_⟩
  · have := hw _ (List.mem_cons_self ..)
    simp only [List.length_map] at this
    rw [hel] at this
    exact Nat.le_trans (Nat.mul_le_mul_right _ (Nat.le_add_right _ _)) this
  · have hj' := hr j hj
    obtain ⟨y, hy⟩ : ∃ y, elems[j]? = some y := ⟨elems[j]'(by omega), List.getElem?_eq_getElem (by omega)⟩
    rw [hy, Option.bind_eq_some_iff] at hj'
    obtain ⟨cs', h1, h2⟩ := hj'
    refine ⟨cs', n, y, h1, h2, fun m hmm => hw m (List.mem_cons_of_mem _ (List.mem_append.2 (.inl (weights_mem_all (List.mem_map.2 ⟨y, List.mem_of_getElem? hy, rfl⟩) m hmm))))⟩

theorem fits_nil (cs : List Value) : Fits enc P w base spare held [] cs := fun i k h => by simp at h

theorem fits_of_trod (d : Nat) : ∀ (t : TypeId) (ks : List Lf), leaves P d t = some ks → ∀ (fuel : Nat) (cs : List Value) (x : DataW H × List MemPlace), DataW.trod enc P w base spare held fuel t cs = some x →
    (∀ m ∈ x.1.weights P t, m ≤ reachBytes) → Fits enc P w base spare held ks cs := by
  induction d with
  | zero => intro t ks h; simp [leaves] at h
  | succ d ih =>
    intro t ks h fuel cs x hx hw
    unfold leaves at h
    rw [Option.bind_eq_some_iff] at h
    obtain ⟨ks', h, h2⟩ := h
    split at h2
    case isFalse => cases h2
    case isTrue hlen =>
    cases h2
    cases hu : P.underlying t with
    | none => rw [hu] at h; cases h
    | some u =>
    rw [hu] at h
    cases u with
    | int k =>
      cases h
      obtain ⟨n, rfl, _, hwf⟩ := DataW.trod_int hu hx
      intro i k' hk
      cases i with
      | zero => simp at hk; subst hk; exact ⟨_, rfl, n, rfl, hwf⟩
      | succ i => simp at hk
    | bool =>
      cases h
      obtain ⟨b, rfl, _⟩ := DataW.trod_bool hu hx
      intro i k' hk
      cases i with
      | zero => simp at hk; subst hk; exact ⟨_, rfl, b, rfl⟩
      | succ i => simp at hk
    | slice e =>
      cases h
      intro i k' hk
      cases i with
      | succ i => simp at hk
      | zero =>
        simp at hk
        subst hk
        rcases DataW.trod_slice hu hx with ⟨rfl, _⟩ | ⟨a, len, cap, elems, rest, n, _, rfl, rfl, hb, hl, hm, hel, hr, _, _⟩
        · exact ⟨_, rfl, .inl rfl⟩
        · exact ⟨_, rfl, lf_of_slice (fuel := 0) (ps := []) hu hb hl hm hel hr hw⟩
    | struct fs =>
      obtain ⟨xs, n, _, rfl, _, hxl, hf⟩ := DataW.trod_struct hu hx
      simp only [DataW.weights, hu] at hw
      have key : ∀ (rest done : List Field) (acc ks : List Lf), fs.toList = done ++ rest → Fits enc P w base spare held acc cs →
          rest.foldlM (fun (acc : List Lf) (f : Field) => if f.offset = acc.length then (leaves P d f.type).map (acc ++ ·) else none) acc = some ks → Fits enc P w base spare held ks cs := by
        intro rest
        induction rest with
        | nil => intro done acc ks _ ha hk; simp at hk; subst hk; exact ha
        | cons f rest ihr =>
          intro done acc ks hfs ha hk
          simp only [List.foldlM_cons] at hk
          by_cases ho : f.offset = acc.length
          · simp only [ho, if_true] at hk
            cases hl : leaves P d f.type with
            | none => rw [hl] at hk; simp at hk
            | some kf =>
              rw [hl] at hk
              simp only [Option.map_some, Option.bind_eq_bind, Option.bind_some] at hk
              have hj : fs[done.length]? = some f := by
                rw [← Array.getElem?_toList, hfs]
                simp
              have hlt : done.length < fs.size := (Array.getElem?_eq_some_iff.1 hj).1
              obtain ⟨y, hy⟩ : ∃ y, xs[done.length]? = some y := ⟨xs[done.length]'(by omega), List.getElem?_eq_getElem (by omega)⟩
              have ht := hf _ f hj
              rw [hy, ho] at ht
              exact ihr (done ++ [f]) (acc ++ kf) ks (by rw [hfs]; simp) (ha.append (by rw [leaves_len hl]; exact Nat.le_refl _) (ih _ _ hl _ _ _ ht (fun m hm => hw m (DataW.weights_mem_each (j := done.length) (by rw [List.getElem?_map, Array.getElem?_toList, hj]; rfl) (by rw [List.getElem?_map, hy]; rfl) m hm)))) hk
          · simp [ho] at hk
      exact key fs.toList [] [] _ rfl (fits_nil cs) h
    | array n e =>
      obtain ⟨xs, m, _, rfl, _, hxl, hf⟩ := DataW.trod_array hu hx
      simp only [DataW.weights, hu] at hw
      dsimp only at h
      cases hl : leaves P d e with
      | none => rw [hl] at h; simp at h
      | some ke =>
        rw [hl] at h
        simp only [Option.map_some, Option.some.injEq] at h
        subst h
        have kl := leaves_len hl
        have key : ∀ j, j ≤ n → Fits enc P w base spare held (List.replicate j ke).flatten cs := by
          intro j
          induction j with
          | zero => intro _; exact fits_nil cs
          | succ j ihj =>
            intro hj
            rw [List.replicate_succ', List.flatten_append]
            obtain ⟨y, hy⟩ : ∃ y, xs[j]? = some y := ⟨xs[j]'(by omega), List.getElem?_eq_getElem (by omega)⟩
            have ht := hf j (by omega)
            rw [hy] at ht
            have hz : (List.replicate j ke).flatten.length = j * P.cellsOf e := by simp [List.length_flatten, kl]
            refine (ihj (by omega)).append (m := P.cellsOf e) (by simp [kl]) ?_
            rw [hz]
            simp only [List.flatten_cons, List.flatten_nil, List.append_nil]
            exact ih _ _ hl _ _ _ ht (fun m' hm' => hw m' (weights_mem_all (List.mem_map.2 ⟨y, List.mem_of_getElem? hy, rfl⟩) m' hm'))
        exact key n (Nat.le_refl _)
    | _ => cases h

/-- a byte as a value -/
def u8 (b : UInt8) : Value := .int .u8 (b.toNat : Int)

theorem wf_u8 {n : Int} (h : (Lit.int .u8 n).wf = true) : ∃ b : UInt8, n = (b.toNat : Int) := by
  simp only [Lit.wf, IntKind.min, IntKind.max, IntKind.signed, IntKind.bits, Bool.and_eq_true, decide_eq_true_eq] at h
  refine ⟨UInt8.ofNat n.toNat, ?_⟩
  rw [UInt8.toNat_ofNat']
  simp at h
  omega
theorem wf_u16 {n : Int} (h : (Lit.int .u16 n).wf = true) : ∃ m : Nat, m < 65536 ∧ n = (m : Int) := by
  simp only [Lit.wf, IntKind.min, IntKind.max, IntKind.signed, IntKind.bits, Bool.and_eq_true, decide_eq_true_eq] at h
  simp at h
  exact ⟨n.toNat, by omega, by omega⟩
theorem wf_u32 {n : Int} (h : (Lit.int .u32 n).wf = true) : ∃ m : Nat, m < 4294967296 ∧ n = (m : Int) := by
  simp only [Lit.wf, IntKind.min, IntKind.max, IntKind.signed, IntKind.bits, Bool.and_eq_true, decide_eq_true_eq] at h
  simp at h
  exact ⟨n.toNat, by omega, by omega⟩
theorem wf_u64 {n : Int} (h : (Lit.int .u64 n).wf = true) : ∃ m : Nat, m < 18446744073709551616 ∧ n = (m : Int) := by
  simp only [Lit.wf, IntKind.min, IntKind.max, IntKind.signed, IntKind.bits, Bool.and_eq_true, decide_eq_true_eq] at h
  simp at h
  exact ⟨n.toNat, by omega, by omega⟩
theorem wf_i64 {n : Int} (h : (Lit.int .i64 n).wf = true) : -9223372036854775808 ≤ n ∧ n ≤ 9223372036854775807 := by
  simp only [Lit.wf, IntKind.min, IntKind.max, IntKind.signed, IntKind.bits, Bool.and_eq_true, decide_eq_true_eq] at h
  simp at h
  exact h

theorem Fits.next {k : Lf} {ks : List Lf} {cs : List Value} (h : Fits enc P w base spare held (k :: ks) cs) : ∃ c cs', cs = c :: cs' ∧ LfOk enc P w base spare held k c ∧ Fits enc P w base spare held ks cs' := by
  obtain ⟨c, hc, ok⟩ := h 0 k rfl
  cases cs with
  | nil => simp at hc
  | cons c' cs' =>
    simp at hc
    subst hc
    refine ⟨_, _, rfl, ok, fun i k' hk => ?_⟩
    obtain ⟨c, hc, ok⟩ := h (i + 1) k' (by simpa using hk)
    exact ⟨c, by simpa using hc, ok⟩
theorem Fits.int {k : IntKind} {ks : List Lf} {cs : List Value} (h : Fits enc P w base spare held (.int k :: ks) cs) : ∃ n cs', cs = .int k n :: cs' ∧ (Lit.int k n).wf = true ∧ Fits enc P w base spare held ks cs' := by
  obtain ⟨c, cs', rfl, ⟨n, rfl, hn⟩, hf⟩ := h.next
  exact ⟨n, cs', rfl, hn, hf⟩
theorem Fits.bytes (n : Nat) : ∀ {ks : List Lf} {cs : List Value}, Fits enc P w base spare held (List.replicate n (.int .u8) ++ ks) cs → ∃ (l : List UInt8) (cs' : List Value), l.length = n ∧ cs = l.map u8 ++ cs' ∧ Fits enc P w base spare held ks cs' := by
  induction n with
  | zero => intro ks cs h; exact ⟨[], cs, rfl, rfl, h⟩
  | succ n ih =>
    intro ks cs h
    rw [List.replicate_succ, List.cons_append] at h
    obtain ⟨m, cs', rfl, hm, hf⟩ := h.int
    obtain ⟨b, rfl⟩ := wf_u8 hm
    obtain ⟨l, cs'', rfl, rfl, hf'⟩ := ih hf
    exact ⟨b :: l, cs'', rfl, rfl, hf'⟩

/-- an argument that is a struct or an array: its cells -/
theorem open_agg {r : Reach} {b0 : Nat} {t : TypeId} {v : Value} {x : DataW H} {p : List MemPlace} {ks : List Lf} (d : Nat) (ha : (match P.underlying t with | some (.struct _) | some (.array _ _) => true | _ => false) = true) (hk : leaves P d t = some ks)
    (hv : Value.okWide P w r b0 t v) (h : DataW.Trod enc P w base spare held t v x p) (hw : ∀ m ∈ x.weights P t, m ≤ reachBytes) :
    ∃ cs : List Value, v = .agg cs.toArray ∧ cs.length = ks.length ∧ Fits enc P w base spare held ks cs := by
  have : ∃ cs, v = .agg cs ∧ cs.size = P.cellsOf t := by
    unfold Value.okWide at hv
    split at hv
    · obtain ⟨cs, h1, h2, _⟩ := hv; exact ⟨cs, h1, h2⟩
    · obtain ⟨cs, h1, h2, _⟩ := hv; exact ⟨cs, h1, h2⟩
    · rename_i n1 n2
      split at ha
      · rename_i hs; exact absurd hs (n1 _)
      · rename_i hs; exact absurd hs (n2 _ _)
      · cases ha
  obtain ⟨cs, rfl, hsz⟩ := this
  obtain ⟨fuel, hf⟩ := h
  exact ⟨cs.toList, by simp, by rw [leaves_len hk, ← hsz]; simp, fits_of_trod d t ks hk fuel _ _ hf hw⟩

/-- an argument that is a slice -/
theorem open_any_slice {t e : TypeId} {a : Option Addr} {len cap : Nat} {x : DataW H} {p : List MemPlace} (ht : P.underlying t = some (.slice e)) (h : DataW.Trod enc P w base spare held t (.slice a len cap) x p)
    (hw : ∀ m ∈ x.weights P t, m ≤ reachBytes) : LfOk enc P w base spare held (.slice e) (.slice a len cap) := by
  obtain ⟨fuel, hf⟩ := h
  rcases DataW.trod_slice ht hf with ⟨h1, _⟩ | ⟨a', len', cap', elems, rest, n, _, h1, hx, hb, hl, hm, hel, hr, _, _⟩
  · simp [Value.cells] at h1
    obtain ⟨rfl, rfl, rfl⟩ := h1
    exact .inl rfl
  · simp [Value.cells] at h1
    obtain ⟨rfl, rfl, rfl⟩ := h1
    simp only [Prod.mk.injEq] at hx
    obtain ⟨rfl, _⟩ := hx
    exact lf_of_slice (fuel := 0) (ps := []) ht hb hl hm hel hr hw

/-- cells one behind the other, chosen -/
theorem choose_list {α : Type} {q : Nat → α → Prop} : ∀ n : Nat, (∀ i, i < n → ∃ u, q i u) → ∃ l : List α, l.length = n ∧ ∀ i u, l[i]? = some u → q i u
  | 0, _ => ⟨[], rfl, fun i u h => by simp at h⟩
  | n + 1, h => by
    obtain ⟨l, hl, hq⟩ := choose_list n fun i hi => h i (by omega)
    obtain ⟨u, hu⟩ := h n (by omega)
    refine ⟨l ++ [u], by simp [hl], fun i v hv => ?_⟩
    by_cases hi : i < n
    · rw [List.getElem?_append_left (by omega)] at hv
      exact hq i v hv
    · rw [List.getElem?_append_right (by omega)] at hv
      obtain rfl : i = n := by
        have := (List.getElem?_eq_some_iff.1 hv).1
        simp at this
        omega
      rw [hl] at hv
      simp at hv
      subst hv
      exact hu

theorem cells_one {a : Addr} {cs : List Value} (h : w.cells? base a 1 = some cs) : ∃ v, cs = [v] ∧ w.cell? (a.add 0) = some v := by
  unfold World.cells? at h
  split at h
  · simp [List.range_succ] at h
    cases hc : w.cell? (a.add 0) with
    | none => rw [hc] at h; simp at h
    | some v =>
      rw [hc] at h
      simp at h
      exact ⟨v, h.symm, rfl⟩
  · cases h

/-- a slice of bytes that came in -/
theorem bytes_of_lf {e : TypeId} {a : Option Addr} {len cap : Nat} (hu : P.underlying e = some (.int .u8)) (hc : P.cellsOf e = 1) (hbo : P.bytesOf e = 1) (h : LfOk enc P w base spare held (.slice e) (.slice a len cap)) :
    ∃ l : List UInt8, l.length = len ∧ len ≤ cap ∧ cap ≤ maxLen ∧ len ≤ 140737488351232 ∧ (len = 0 ∨ ∃ b o, a = some ⟨b, o, none⟩ ∧ ∀ i u, l[i]? = some u → w.cell? ⟨b, o + i, none⟩ = some (u8 u)) := by
  rcases h with h | ⟨ad, len', cap', h, hb, hl, hm, hr, hcells⟩
  · simp only [Value.slice.injEq] at h
    obtain ⟨rfl, rfl, rfl⟩ := h
    exact ⟨[], rfl, by omega, by unfold maxLen; omega, by omega, .inl rfl⟩
  · simp only [Value.slice.injEq] at h
    obtain ⟨rfl, rfl, rfl⟩ := h
    rw [hbo, Nat.mul_one] at hr
    rw [hc] at hcells
    obtain ⟨l, hll, hq⟩ := choose_list (q := fun i u => w.cell? (ad.add i) = some (u8 u)) len fun i hi => by
      obtain ⟨cs, n, x, h1, h2, _⟩ := hcells i hi
      obtain ⟨v, rfl, hv⟩ := cells_one h1
      obtain ⟨m, hm', _, hwf⟩ := DataW.trod_int hu h2
      simp at hm'
      subst hm'
      obtain ⟨b, rfl⟩ := wf_u8 hwf
      exact ⟨b, by unfold u8; simpa [Addr.add] using hv⟩
    refine ⟨l, hll, hl, hm, hr, ?_⟩
    by_cases h0 : len = 0
    · exact .inl h0
    · obtain ⟨u, hu0⟩ : ∃ u, l[0]? = some u := ⟨l[0]'(by omega), List.getElem?_eq_getElem (by omega)⟩
      have hs := World.cell?_spot (hq 0 u hu0)
      obtain ⟨b, o, sp⟩ := ad
      have hsp : sp = none := by simpa [Addr.add] using hs
      subst hsp
      exact .inr ⟨b, o, rfl, fun i u hu => by
        have := hq i u hu
        by_cases hi : i = 0
        · subst hi; simpa [Addr.add] using this
        · simpa [Addr.add, hi] using this⟩
end
end Go.Proofs.Ytfjaoompdleljaa.Opens
