/-
  Helper texts, joined in build order; no statement is proved here.
-/
import Derived.WalkKit
import Derived.ProofKit
import Derived.OpenShut
import Derived.ChangeOld
import Derived.SizedLaws
import Derived.Test.YtobblbplanimgaaRows
import Derived.StillTailTactics
import Derived.Deep.Cut
import Derived.Deep.RegionHeld3
import Derived.Test.YtobblbplanimgaaPls1
/-
  How data that came in read, cell by cell: numbers, bools and slices, whatever structs and arrays they stand in. Helper text of this seat's claims; no statement is proved here.
-/
set_option linter.unusedSimpArgs false
set_option linter.unusedVariables false
set_option maxRecDepth 20000
namespace Go.Proofs.Ytobblbplanimgaa.Opens
open Go.ChangeShapes Go.WideShapes Go.ChangeAt Go.RowKit

/-- what a cell of a type is -/
inductive Lf where
  | int (k : IntKind)
  | bool
  | slice (e : TypeId)
  deriving DecidableEq

section
variable {H : Type} (enc : TypeId × Value → H) (P : Program) (w : World) (base : Nat) (spare : Nat → Bool) (held : Bool)

def LfOk : Lf → Value → Prop
  | .int k, c => ∃ n, c = .int k n ∧ (Lit.int k n).wf = true
  | .bool, c => ∃ b, c = .bool b
  | .slice e, c => c = .slice none 0 0 ∨ ∃ a len cap, c = .slice (some a) len cap ∧ base ≤ a.block ∧ len ≤ cap ∧ cap ≤ maxLen ∧
      len * P.bytesOf e ≤ reachBytes ∧
      ∀ i, i < len → ∃ cs n x, w.cells? base (a.add (i * P.cellsOf e)) (P.cellsOf e) = some cs ∧ DataW.trod enc P w base spare held n e cs = some x ∧ ∀ m ∈ x.1.weights P e, m ≤ reachBytes

/-- the cells of a type in their order -/
def leaves : Nat → TypeId → Option (List Lf)
  | 0, _ => none
  | d + 1, t =>
    (match P.underlying t with
     | some (.int k) => some [Lf.int k]
     | some .bool => some [Lf.bool]
     | some (.slice e) => some [Lf.slice e]
     | some (.struct fs) => fs.toList.foldlM (fun (acc : List Lf) (f : Field) => if f.offset = acc.length then (leaves d f.type).map (acc ++ ·) else none) []
     | some (.array n e) => (leaves d e).map fun (ks : List Lf) => (List.replicate n ks).flatten
     | _ => (none : Option (List Lf))).bind fun (ks : List Lf) => if ks.length = P.cellsOf t then some ks else none

def Fits (ks : List Lf) (cs : List Value) : Prop := ∀ (i : Nat) (k : Lf), ks[i]? = some k → ∃ c, cs[i]? = some c ∧ LfOk enc P w base spare held k c
end

section
variable {H : Type} {enc : TypeId × Value → H} {P : Program} {w : World} {base : Nat} {spare : Nat → Bool} {held : Bool}

theorem leaves_len {d : Nat} {t : TypeId} {ks : List Lf} (h : leaves P d t = some ks) : ks.length = P.cellsOf t := by
  cases d with
  | zero => simp [leaves] at h
  | succ d =>
    unfold leaves at h
    rw [Option.bind_eq_some_iff] at h
    obtain ⟨ks', _, h⟩ := h
    split at h
    · cases h; assumption
    · cases h

theorem Fits.append {ks ks' : List Lf} {cs : List Value} {m : Nat} (hm : ks'.length ≤ m) (h : Fits enc P w base spare held ks cs) (h' : Fits enc P w base spare held ks' ((cs.drop ks.length).take m)) :
    Fits enc P w base spare held (ks ++ ks') cs := by
  intro i k hk
  by_cases hi : i < ks.length
  · rw [List.getElem?_append_left hi] at hk
    exact h i k hk
  · rw [List.getElem?_append_right (by omega)] at hk
    obtain ⟨c, hc, ok⟩ := h' _ _ hk
    have hlt : i - ks.length < m := Nat.lt_of_lt_of_le (List.getElem?_eq_some_iff.1 hk).1 hm
    rw [List.getElem?_take, if_pos hlt, List.getElem?_drop] at hc
    exact ⟨c, by rwa [show ks.length + (i - ks.length) = i from by omega] at hc, ok⟩

theorem weights_mem_all {e : TypeId} : ∀ {ds : List (DataW H)} {d : DataW H}, d ∈ ds → ∀ n ∈ d.weights P e, n ∈ DataW.weightsAll P e ds
  | d0 :: ds, d, hd, n, hn => by
    simp only [DataW.weightsAll, List.mem_append]
    rcases List.mem_cons.1 hd with rfl | hd
    · exact .inl hn
    · exact .inr (weights_mem_all hd n hn)
  | [], d, hd, _, _ => by cases hd

/-- what a slice's reading says of it -/
theorem lf_of_slice {t e : TypeId} {fuel : Nat} {a : Addr} {len cap : Nat} {elems rest : List (DataW H × List MemPlace)} {n : Nat} {ps : List MemPlace} (hu : P.underlying t = some (.slice e))
    (hb : base ≤ a.block) (hl : len ≤ cap) (hm : cap ≤ maxLen) (hel : elems.length = len)
    (hr : ∀ i, i < len → (w.cells? base (a.add (i * P.cellsOf e)) (P.cellsOf e)).bind (DataW.trod enc P w base spare held n e) = elems[i]?)
    (hw : ∀ m ∈ (DataW.slice (elems.map (·.1)) (rest.map (·.1))).weights P t, m ≤ reachBytes) : LfOk enc P w base spare held (.slice e) (.slice (some a) len cap) := by
  simp only [DataW.weights, hu] at hw
  refine .inr ⟨a, len, cap, rfl, hb, hl, hm, ?_, fun j hj => ?_⟩
  · have := hw _ (List.mem_cons_self ..)
    simp only [List.length_map] at this
    rw [hel] at this
    exact Nat.le_trans (Nat.mul_le_mul_right _ (Nat.le_add_right _ _)) this
  · have hj' := hr j hj
    obtain ⟨y, hy⟩ : ∃ y, elems[j]? = some y := ⟨elems[j]'(by omega), List.getElem?_eq_getElem (by omega)⟩
    rw [hy, Option.bind_eq_some_iff] at hj'
    obtain ⟨cs', h1, h2⟩ := hj'
    refine ⟨cs', n, y, h1, h2, fun m hmm => hw m (List.mem_cons_of_mem _ (List.mem_append.2 (.inl (weights_mem_all (List.mem_map.2 ⟨y, List.mem_of_getElem? hy, rfl⟩) m hmm))))⟩

theorem fits_nil (cs : List Value) : Fits enc P w base spare held [] cs := fun i k h => by simp at h

theorem fits_of_trod (d : Nat) : ∀ (t : TypeId) (ks : List Lf), leaves P d t = some ks → ∀ (fuel : Nat) (cs : List Value) (x : DataW H × List MemPlace), DataW.trod enc P w base spare held fuel t cs = some x →
    (∀ m ∈ x.1.weights P t, m ≤ reachBytes) → Fits enc P w base spare held ks cs := by
  induction d with
  | zero => intro t ks h; simp [leaves] at h
  | succ d ih =>
    intro t ks h fuel cs x hx hw
    unfold leaves at h
    rw [Option.bind_eq_some_iff] at h
    obtain ⟨ks', h, h2⟩ := h
    split at h2
    case isFalse => cases h2
    case isTrue hlen =>
    cases h2
    cases hu : P.underlying t with
    | none => rw [hu] at h; cases h
    | some u =>
    rw [hu] at h
    cases u with
    | int k =>
      cases h
      obtain ⟨n, rfl, _, hwf⟩ := DataW.trod_int hu hx
      intro i k' hk
      cases i with
      | zero => simp at hk; subst hk; exact ⟨_, rfl, n, rfl, hwf⟩
      | succ i => simp at hk
    | bool =>
      cases h
      obtain ⟨b, rfl, _⟩ := DataW.trod_bool hu hx
      intro i k' hk
      cases i with
      | zero => simp at hk; subst hk; exact ⟨_, rfl, b, rfl⟩
      | succ i => simp at hk
    | slice e =>
      cases h
      intro i k' hk
      cases i with
      | succ i => simp at hk
      | zero =>
        simp at hk
        subst hk
        rcases DataW.trod_slice hu hx with ⟨rfl, _⟩ | ⟨a, len, cap, elems, rest, n, _, rfl, rfl, hb, hl, hm, hel, hr, _, _⟩
        · exact ⟨_, rfl, .inl rfl⟩
        · exact ⟨_, rfl, lf_of_slice (fuel := 0) (ps := []) hu hb hl hm hel hr hw⟩
    | struct fs =>
      obtain ⟨xs, n, _, rfl, _, hxl, hf⟩ := DataW.trod_struct hu hx
      simp only [DataW.weights, hu] at hw
      have key : ∀ (rest done : List Field) (acc ks : List Lf), fs.toList = done ++ rest → Fits enc P w base spare held acc cs →
          rest.foldlM (fun (acc : List Lf) (f : Field) => if f.offset = acc.length then (leaves P d f.type).map (acc ++ ·) else none) acc = some ks → Fits enc P w base spare held ks cs := by
        intro rest
        induction rest with
        | nil => intro done acc ks _ ha hk; simp at hk; subst hk; exact ha
        | cons f rest ihr =>
          intro done acc ks hfs ha hk
          simp only [List.foldlM_cons] at hk
          by_cases ho : f.offset = acc.length
          · simp only [ho, if_true] at hk
            cases hl : leaves P d f.type with
            | none => rw [hl] at hk; simp at hk
            | some kf =>
              rw [hl] at hk
              simp only [Option.map_some, Option.bind_eq_bind, Option.bind_some] at hk
              have hj : fs[done.length]? = some f := by
                rw [← Array.getElem?_toList, hfs]
                simp
              have hlt : done.length < fs.size := (Array.getElem?_eq_some_iff.1 hj).1
              obtain ⟨y, hy⟩ : ∃ y, xs[done.length]? = some y := ⟨xs[done.length]'(by omega), List.getElem?_eq_getElem (by omega)⟩
              have ht := hf _ f hj
              rw [hy, ho] at ht
              exact ihr (done ++ [f]) (acc ++ kf) ks (by rw [hfs]; simp) (ha.append (by rw [leaves_len hl]; exact Nat.le_refl _) (ih _ _ hl _ _ _ ht (fun m hm => hw m (DataW.weights_mem_each (j := done.length) (by rw [List.getElem?_map, Array.getElem?_toList, hj]; rfl) (by rw [List.getElem?_map, hy]; rfl) m hm)))) hk
          · simp [ho] at hk
      exact key fs.toList [] [] _ rfl (fits_nil cs) h
    | array n e =>
      obtain ⟨xs, m, _, rfl, _, hxl, hf⟩ := DataW.trod_array hu hx
      simp only [DataW.weights, hu] at hw
      dsimp only at h
      cases hl : leaves P d e with
      | none => rw [hl] at h; simp at h
      | some ke =>
        rw [hl] at h
        simp only [Option.map_some, Option.some.injEq] at h
        subst h
        have kl := leaves_len hl
        have key : ∀ j, j ≤ n → Fits enc P w base spare held (List.replicate j ke).flatten cs := by
          intro j
          induction j with
          | zero => intro _; exact fits_nil cs
          | succ j ihj =>
            intro hj
            rw [List.replicate_succ', List.flatten_append]
            obtain ⟨y, hy⟩ : ∃ y, xs[j]? = some y := ⟨xs[j]'(by omega), List.getElem?_eq_getElem (by omega)⟩
            have ht := hf j (by omega)
            rw [hy] at ht
            have hz : (List.replicate j ke).flatten.length = j * P.cellsOf e := by simp [List.length_flatten, kl]
            refine (ihj (by omega)).append (m := P.cellsOf e) (by simp [kl]) ?_
            rw [hz]
            simp only [List.flatten_cons, List.flatten_nil, List.append_nil]
            exact ih _ _ hl _ _ _ ht (fun m' hm' => hw m' (weights_mem_all (List.mem_map.2 ⟨y, List.mem_of_getElem? hy, rfl⟩) m' hm'))
        exact key n (Nat.le_refl _)
    | _ => cases h

/-- a byte as a value -/
def u8 (b : UInt8) : Value := .int .u8 (b.toNat : Int)

theorem wf_u8 {n : Int} (h : (Lit.int .u8 n).wf = true) : ∃ b : UInt8, n = (b.toNat : Int) := by
  simp only [Lit.wf, IntKind.min, IntKind.max, IntKind.signed, IntKind.bits, Bool.and_eq_true, decide_eq_true_eq] at h
  refine ⟨UInt8.ofNat n.toNat, ?_⟩
  rw [UInt8.toNat_ofNat']
  simp at h
  omega
theorem wf_u16 {n : Int} (h : (Lit.int .u16 n).wf = true) : ∃ m : Nat, m < 65536 ∧ n = (m : Int) := by
  simp only [Lit.wf, IntKind.min, IntKind.max, IntKind.signed, IntKind.bits, Bool.and_eq_true, decide_eq_true_eq] at h
  simp at h
  exact ⟨n.toNat, by omega, by omega⟩
theorem wf_u32 {n : Int} (h : (Lit.int .u32 n).wf = true) : ∃ m : Nat, m < 4294967296 ∧ n = (m : Int) := by
  simp only [Lit.wf, IntKind.min, IntKind.max, IntKind.signed, IntKind.bits, Bool.and_eq_true, decide_eq_true_eq] at h
  simp at h
  exact ⟨n.toNat, by omega, by omega⟩
theorem wf_u64 {n : Int} (h : (Lit.int .u64 n).wf = true) : ∃ m : Nat, m < 18446744073709551616 ∧ n = (m : Int) := by
  simp only [Lit.wf, IntKind.min, IntKind.max, IntKind.signed, IntKind.bits, Bool.and_eq_true, decide_eq_true_eq] at h
  simp at h
  exact ⟨n.toNat, by omega, by omega⟩
theorem wf_i64 {n : Int} (h : (Lit.int .i64 n).wf = true) : -9223372036854775808 ≤ n ∧ n ≤ 9223372036854775807 := by
  simp only [Lit.wf, IntKind.min, IntKind.max, IntKind.signed, IntKind.bits, Bool.and_eq_true, decide_eq_true_eq] at h
  simp at h
  exact h

theorem Fits.next {k : Lf} {ks : List Lf} {cs : List Value} (h : Fits enc P w base spare held (k :: ks) cs) : ∃ c cs', cs = c :: cs' ∧ LfOk enc P w base spare held k c ∧ Fits enc P w base spare held ks cs' := by
  obtain ⟨c, hc, ok⟩ := h 0 k rfl
  cases cs with
  | nil => simp at hc
  | cons c' cs' =>
    simp at hc
    subst hc
    refine ⟨_, _, rfl, ok, fun i k' hk => ?_⟩
    obtain ⟨c, hc, ok⟩ := h (i + 1) k' (by simpa using hk)
    exact ⟨c, by simpa using hc, ok⟩
theorem Fits.int {k : IntKind} {ks : List Lf} {cs : List Value} (h : Fits enc P w base spare held (.int k :: ks) cs) : ∃ n cs', cs = .int k n :: cs' ∧ (Lit.int k n).wf = true ∧ Fits enc P w base spare held ks cs' := by
  obtain ⟨c, cs', rfl, ⟨n, rfl, hn⟩, hf⟩ := h.next
  exact ⟨n, cs', rfl, hn, hf⟩
theorem Fits.bytes (n : Nat) : ∀ {ks : List Lf} {cs : List Value}, Fits enc P w base spare held (List.replicate n (.int .u8) ++ ks) cs → ∃ (l : List UInt8) (cs' : List Value), l.length = n ∧ cs = l.map u8 ++ cs' ∧ Fits enc P w base spare held ks cs' := by
  induction n with
  | zero => intro ks cs h; exact ⟨[], cs, rfl, rfl, h⟩
  | succ n ih =>
    intro ks cs h
    rw [List.replicate_succ, List.cons_append] at h
    obtain ⟨m, cs', rfl, hm, hf⟩ := h.int
    obtain ⟨b, rfl⟩ := wf_u8 hm
    obtain ⟨l, cs'', rfl, rfl, hf'⟩ := ih hf
    exact ⟨b :: l, cs'', rfl, rfl, hf'⟩

/-- an argument that is a struct or an array: its cells -/
theorem open_agg {r : Reach} {b0 : Nat} {t : TypeId} {v : Value} {x : DataW H} {p : List MemPlace} {ks : List Lf} (d : Nat) (ha : (match P.underlying t with | some (.struct _) | some (.array _ _) => true | _ => false) = true) (hk : leaves P d t = some ks)
    (hv : Value.okWide P w r b0 t v) (h : DataW.Trod enc P w base spare held t v x p) (hw : ∀ m ∈ x.weights P t, m ≤ reachBytes) :
    ∃ cs : List Value, v = .agg cs.toArray ∧ cs.length = ks.length ∧ Fits enc P w base spare held ks cs := by
  have : ∃ cs, v = .agg cs ∧ cs.size = P.cellsOf t := by
    unfold Value.okWide at hv
    split at hv
    · obtain ⟨cs, h1, h2, _⟩ := hv; exact ⟨cs, h1, h2⟩
    · obtain ⟨cs, h1, h2, _⟩ := hv; exact ⟨cs, h1, h2⟩
    · rename_i n1 n2
      split at ha
      · rename_i hs; exact absurd hs (n1 _)
      · rename_i hs; exact absurd hs (n2 _ _)
      · cases ha
  obtain ⟨cs, rfl, hsz⟩ := this
  obtain ⟨fuel, hf⟩ := h
  exact ⟨cs.toList, by simp, by rw [leaves_len hk, ← hsz]; simp, fits_of_trod d t ks hk fuel _ _ hf hw⟩

/-- an argument that is a slice -/
theorem open_any_slice {t e : TypeId} {a : Option Addr} {len cap : Nat} {x : DataW H} {p : List MemPlace} (ht : P.underlying t = some (.slice e)) (h : DataW.Trod enc P w base spare held t (.slice a len cap) x p)
    (hw : ∀ m ∈ x.weights P t, m ≤ reachBytes) : LfOk enc P w base spare held (.slice e) (.slice a len cap) := by
  obtain ⟨fuel, hf⟩ := h
  rcases DataW.trod_slice ht hf with ⟨h1, _⟩ | ⟨a', len', cap', elems, rest, n, _, h1, hx, hb, hl, hm, hel, hr, _, _⟩
  · simp [Value.cells] at h1
    obtain ⟨rfl, rfl, rfl⟩ := h1
    exact .inl rfl
  · simp [Value.cells] at h1
    obtain ⟨rfl, rfl, rfl⟩ := h1
    simp only [Prod.mk.injEq] at hx
    obtain ⟨rfl, _⟩ := hx
    exact lf_of_slice (fuel := 0) (ps := []) ht hb hl hm hel hr hw

/-- cells one behind the other, chosen -/
theorem choose_list {α : Type} {q : Nat → α → Prop} : ∀ n : Nat, (∀ i, i < n → ∃ u, q i u) → ∃ l : List α, l.length = n ∧ ∀ i u, l[i]? = some u → q i u
  | 0, _ => ⟨[], rfl, fun i u h => by simp at h⟩
  | n + 1, h => by
    obtain ⟨l, hl, hq⟩ := choose_list n fun i hi => h i (by omega)
    obtain ⟨u, hu⟩ := h n (by omega)
    refine ⟨l ++ [u], by simp [hl], fun i v hv => ?_⟩
    by_cases hi : i < n
    · rw [List.getElem?_append_left (by omega)] at hv
      exact hq i v hv
    · rw [List.getElem?_append_right (by omega)] at hv
      obtain rfl : i = n := by
        have := (List.getElem?_eq_some_iff.1 hv).1
        simp at this
        omega
      rw [hl] at hv
      simp at hv
      subst hv
      exact hu

theorem cells_one {a : Addr} {cs : List Value} (h : w.cells? base a 1 = some cs) : ∃ v, cs = [v] ∧ w.cell? (a.add 0) = some v := by
  unfold World.cells? at h
  split at h
  · simp [List.range_succ] at h
    cases hc : w.cell? (a.add 0) with
    | none => rw [hc] at h; simp at h
    | some v =>
      rw [hc] at h
      simp at h
      exact ⟨v, h.symm, rfl⟩
  · cases h

/-- a slice of bytes that came in -/
theorem bytes_of_lf {e : TypeId} {a : Option Addr} {len cap : Nat} (hu : P.underlying e = some (.int .u8)) (hc : P.cellsOf e = 1) (hbo : P.bytesOf e = 1) (h : LfOk enc P w base spare held (.slice e) (.slice a len cap)) :
    ∃ l : List UInt8, l.length = len ∧ len ≤ cap ∧ cap ≤ maxLen ∧ len ≤ 140737488351232 ∧ (len = 0 ∨ ∃ b o, a = some ⟨b, o, none⟩ ∧ ∀ i u, l[i]? = some u → w.cell? ⟨b, o + i, none⟩ = some (u8 u)) := by
  rcases h with h | ⟨ad, len', cap', h, hb, hl, hm, hr, hcells⟩
  · simp only [Value.slice.injEq] at h
    obtain ⟨rfl, rfl, rfl⟩ := h
    exact ⟨[], rfl, by omega, by unfold maxLen; omega, by omega, .inl rfl⟩
  · simp only [Value.slice.injEq] at h
    obtain ⟨rfl, rfl, rfl⟩ := h
    rw [hbo, Nat.mul_one] at hr
    rw [hc] at hcells
    obtain ⟨l, hll, hq⟩ := choose_list (q := fun i u => w.cell? (ad.add i) = some (u8 u)) len fun i hi => by
      obtain ⟨cs, n, x, h1, h2, _⟩ := hcells i hi
      obtain ⟨v, rfl, hv⟩ := cells_one h1
      obtain ⟨m, hm', _, hwf⟩ := DataW.trod_int hu h2
      simp at hm'
      subst hm'
      obtain ⟨b, rfl⟩ := wf_u8 hwf
      exact ⟨b, by unfold u8; simpa [Addr.add] using hv⟩
    refine ⟨l, hll, hl, hm, hr, ?_⟩
    by_cases h0 : len = 0
    · exact .inl h0
    · obtain ⟨u, hu0⟩ : ∃ u, l[0]? = some u := ⟨l[0]'(by omega), List.getElem?_eq_getElem (by omega)⟩
      have hs := World.cell?_spot (hq 0 u hu0)
      obtain ⟨b, o, sp⟩ := ad
      have hsp : sp = none := by simpa [Addr.add] using hs
      subst hsp
      exact .inr ⟨b, o, rfl, fun i u hu => by
        have := hq i u hu
        by_cases hi : i = 0
        · subst hi; simpa [Addr.add] using this
        · simpa [Addr.add, hi] using this⟩
end
end Go.Proofs.Ytobblbplanimgaa.Opens
/-
  Records that came in, and '==' on records. Helper text; no statement is proved here.
-/
set_option linter.unusedVariables false
set_option maxRecDepth 20000
set_option linter.unusedSimpArgs false
namespace Go.Proofs.Ytobblbplanimgaa.Codec
open Go.RowKit Go.Proofs.Ytobblbplanimgaa.Base Go.Proofs.Ytobblbplanimgaa.Laws
/-- a record's numbers, with their kinds -/
def recP (k : Int) (v : Nat) (a : Int) (l : List UInt8) : List (IntKind × Int) := [(.i64, k), (.u64, (v : Int)), (.i64, a)] ++ l.map fun b => (.u8, (b.toNat : Int))
theorem recP_val (k : Int) (v : Nat) (a : Int) (l : List UInt8) : (recP k v a l).map Eq.val = recV k v a l := by
  unfold recP recV bv
  simp [Eq.val, Base.u8]
theorem val_inj {p q : IntKind × Int} (h : Eq.val p = Eq.val q) : p = q := by
  unfold Eq.val at h
  simp only [Value.int.injEq] at h
  exact Prod.ext h.1 h.2
theorem map_val_inj : ∀ {l m : List (IntKind × Int)}, l.map Eq.val = m.map Eq.val → l = m
  | [], [], _ => rfl
  | p :: l, q :: m, h => by
    simp only [List.map_cons, List.cons.injEq] at h
    rw [val_inj h.1, map_val_inj h.2]
  | [], _ :: _, h => by simp at h
  | _ :: _, [], h => by simp at h
def I64 (k : Int) : Prop := -9223372036854775808 ≤ k ∧ k ≤ 9223372036854775807
theorem recP_wf {k : Int} {v : Nat} {a : Int} {l : List UInt8} (hk : I64 k) (hv : v < 18446744073709551616) (ha : I64 a) : ∀ p ∈ recP k v a l, (Eq.lit p).wf = true := by
  intro p hp
  unfold recP at hp
  rcases List.mem_append.1 hp with h | h
  · simp only [List.mem_cons, List.not_mem_nil, or_false] at h
    unfold I64 at *
    rcases h with rfl | rfl | rfl <;> simp only [Eq.lit, Lit.wf, IntKind.min, IntKind.max, IntKind.signed, IntKind.bits, Bool.and_eq_true, decide_eq_true_eq] <;> simp <;> omega
  · obtain ⟨x, _, rfl⟩ := List.mem_map.1 h
    have := x.toNat_lt
    simp only [Eq.lit, Lit.wf, IntKind.min, IntKind.max, IntKind.signed, IntKind.bits, Bool.and_eq_true, decide_eq_true_eq]
    simp
    omega
theorem recP_kinds {k : Int} {v : Nat} {a : Int} {l : List UInt8} (hl : l.length = 16) : (recP k v a l).map (·.1) = [.i64, .u64, .i64] ++ List.replicate 16 .u8 := by
  unfold recP
  obtain ⟨x0, x1, x2, x3, x4, x5, x6, x7, x8, x9, x10, x11, x12, x13, x14, x15, rfl⟩ := list16 l hl
  rfl
theorem rec_eq {k k' : Int} {v v' : Nat} {a a' : Int} {l l' : List UInt8} (hl : l.length = 16) (hl' : l'.length = 16) (hk : I64 k) (hv : v < 18446744073709551616) (ha : I64 a) (hk' : I64 k') (hv' : v' < 18446744073709551616) (ha' : I64 a') (w : World) :
    (Op.equalIn 10000 27 (.agg (recV k v a l).toArray) (.agg (recV k' v' a' l').toArray)).run Try.prog w = .ok (decide (recP k v a l = recP k' v' a' l')) w := by
  rw [← recP_val, ← recP_val]
  exact Eq.run_eq_flat (P := Try.prog) (t := 27) (ks := [.i64, .u64, .i64] ++ List.replicate 16 .u8) 6 (by kernel_rfl) (by kernel_rfl) (by kernel_rfl) (recP_kinds hl) (recP_kinds hl') (recP_wf hk hv ha) (recP_wf hk' hv' ha') w
section
variable {H : Type} {enc : TypeId × Value → H} {P : Program} {base : Nat} {spare : Nat → Bool} {held : Bool} {W : World}
/-- a record that came in, other cells behind it -/
theorem rec_next {c : List Value} {ks : List Opens.Lf} (h : Opens.Fits enc P W base spare held (.int .i64 :: .int .u64 :: .int .i64 :: (List.replicate 16 (.int .u8) ++ ks)) c) : ∃ k v a l c', l.length = 16 ∧ v < 18446744073709551616 ∧ I64 k ∧ I64 a ∧ c = recV k v a l ++ c' ∧ Opens.Fits enc P W base spare held ks c' := by
  obtain ⟨k, c1, rfl, hk, h1⟩ := h.int
  obtain ⟨v, c2, rfl, hv, h2⟩ := h1.int
  obtain ⟨a, c3, rfl, ha, h3⟩ := h2.int
  obtain ⟨l, c4, hl, rfl, h4⟩ := h3.bytes 16
  obtain ⟨n, hn, rfl⟩ := Opens.wf_u64 hv
  exact ⟨k, n, a, l, c4, hl, hn, Opens.wf_i64 hk, Opens.wf_i64 ha, by simp [recV, bv, Base.u8, Opens.u8], h4⟩
theorem rec_in {c : List Value} {ks : List Opens.Lf} (hl : c.length = 19) (hk : ks = [.int .i64, .int .u64, .int .i64] ++ List.replicate 16 (.int .u8)) (h : Opens.Fits enc P W base spare held ks c) : ∃ k v a l, l.length = 16 ∧ v < 18446744073709551616 ∧ I64 k ∧ I64 a ∧ c = recV k v a l := by
  subst hk
  have h' : Opens.Fits enc P W base spare held (.int .i64 :: .int .u64 :: .int .i64 :: (List.replicate 16 (.int .u8) ++ [])) c := by simpa using h
  obtain ⟨k, v, a, l, c', hl16, hv, hk, ha, rfl, _⟩ := rec_next h'
  obtain rfl : c' = [] := List.eq_nil_of_length_eq_zero (by rw [List.length_append, recV_len _ _ _ _ hl16] at hl; omega)
  exact ⟨k, v, a, l, hl16, hv, hk, ha, List.append_nil _⟩
end
end Go.Proofs.Ytobblbplanimgaa.Codec
/-
  What the bound of an '..Upto' statement gives. Helper text (after the page's own lemmas); no statement is proved here.
-/
set_option linter.unusedVariables false
set_option maxRecDepth 20000
namespace Go.Proofs.Ytobblbplanimgaa.Bulk
open Go.RowKit

theorem length_le {H : Type} (l : List (DataW H)) : l.length ≤ Rows.uptoBulkAll l := by
  induction l with
  | nil => simp [Rows.uptoBulkAll]
  | cons x r ih =>
    have : 1 ≤ Rows.uptoBulk x := by
      cases x with
      | lit l => cases l <;> simp [Rows.uptoBulk]
      | nil => simp [Rows.uptoBulk]
      | ptr d => simp [Rows.uptoBulk]
      | slice elems spare => simp [Rows.uptoBulk]
      | agg parts => simp [Rows.uptoBulk]
      | iface t d => simp [Rows.uptoBulk]
      | map entries => simp [Rows.uptoBulk]
      | held h => simp [Rows.uptoBulk]
    simp only [Rows.uptoBulkAll, List.length_cons]
    omega

/-- the bulks of a list's parts, one beside the other -/
theorem sum_le {H α : Type} (g : α → Nat) : ∀ (l : List α) (ds : List (DataW H)), (∀ (i : Nat) (u : α), l[i]? = some u → ∃ d, ds[i]? = some d ∧ g u ≤ Rows.uptoBulk d) → (l.map g).sum ≤ Rows.uptoBulkAll ds := by
  intro l
  induction l with
  | nil => intro ds _; simp
  | cons x l ih =>
    intro ds h
    obtain ⟨d, hd, hg⟩ := h 0 x rfl
    cases ds with
    | nil => simp at hd
    | cons d' ds =>
      simp at hd
      subst hd
      have := ih ds fun i u hu => by
        obtain ⟨d, h1, h2⟩ := h (i + 1) u (by simpa using hu)
        exact ⟨d, by simpa using h1, h2⟩
      simp only [List.map_cons, List.sum_cons, Rows.uptoBulkAll]
      omega

section
variable {H : Type} {enc : TypeId × Value → H} {P : Program} {w : World} {base : Nat} {spare : Nat → Bool} {held : Bool}
/-- a slice's reading, its elements' data beside the cells -/
theorem open_elems {t e : TypeId} {a : Option Addr} {len cap : Nat} {x : DataW H} {p : List MemPlace} (ht : P.underlying t = some (.slice e)) (h : DataW.Trod enc P w base spare held t (.slice a len cap) x p)
    (hw : ∀ m ∈ x.weights P t, m ≤ reachBytes) :
    (a = none ∧ len = 0 ∧ cap = 0) ∨ ∃ ad elems rest, a = some ad ∧ x = .slice elems rest ∧ elems.length = len ∧ len ≤ cap ∧ cap ≤ maxLen ∧ len * P.bytesOf e ≤ reachBytes ∧
      ∀ i, i < len → ∃ cs n y, w.cells? base (ad.add (i * P.cellsOf e)) (P.cellsOf e) = some cs ∧ DataW.trod enc P w base spare held n e cs = some y ∧ elems[i]? = some y.1 ∧ ∀ m ∈ y.1.weights P e, m ≤ reachBytes := by
  obtain ⟨fuel, hf⟩ := h
  rcases DataW.trod_slice ht hf with ⟨h1, _⟩ | ⟨a', len', cap', elems, rest, n, _, h1, hx, hb, hl, hm, hel, hr, _, _⟩
  · simp [Value.cells] at h1
    obtain ⟨rfl, rfl, rfl⟩ := h1
    exact .inl ⟨rfl, rfl, rfl⟩
  · simp [Value.cells] at h1
    obtain ⟨rfl, rfl, rfl⟩ := h1
    simp only [Prod.mk.injEq] at hx
    obtain ⟨rfl, _⟩ := hx
    simp only [DataW.weights, ht] at hw
    refine .inr ⟨a', _, _, rfl, rfl, by simpa using hel, hl, hm, ?_, fun j hj => ?_⟩
    · have := hw _ (List.mem_cons_self ..)
      simp only [List.length_map] at this
      rw [hel] at this
      exact Nat.le_trans (Nat.mul_le_mul_right _ (Nat.le_add_right _ _)) this
    · have hj' := hr j hj
      obtain ⟨y, hy⟩ : ∃ y, elems[j]? = some y := ⟨elems[j]'(by omega), List.getElem?_eq_getElem (by omega)⟩
      rw [hy, Option.bind_eq_some_iff] at hj'
      obtain ⟨cs', h1, h2⟩ := hj'
      refine ⟨cs', n, y, h1, h2, by rw [List.getElem?_map, hy]; rfl, fun m hmm => hw m (List.mem_cons_of_mem _ (List.mem_append.2 (.inl (Opens.weights_mem_all (List.mem_map.2 ⟨y, List.mem_of_getElem? hy, rfl⟩) m hmm))))⟩

/-- a slice's bulk is at least its length and one -/
theorem slice_len {t e : TypeId} {fuel : Nat} {a : Option Addr} {len cap : Nat} {y : DataW H × List MemPlace} (ht : P.underlying t = some (.slice e)) (h : DataW.trod enc P w base spare held fuel t [.slice a len cap] = some y) : len + 1 ≤ Rows.uptoBulk y.1 := by
  rcases DataW.trod_slice ht h with ⟨h1, rfl⟩ | ⟨a', len', cap', elems, rest, n, _, h1, rfl, hb, hl, hm, hel, hr, _, _⟩
  · simp at h1
    obtain ⟨rfl, rfl, rfl⟩ := h1
    simp [Rows.uptoBulk]
  · simp at h1
    obtain ⟨rfl, rfl, rfl⟩ := h1
    have := length_le (elems.map (·.1))
    simp only [List.length_map] at this
    simp only [Rows.uptoBulk]
    omega
end
end Go.Proofs.Ytobblbplanimgaa.Bulk
/-
  Rows of records. Helper text; no statement is proved here.
-/
set_option linter.unusedVariables false
set_option maxRecDepth 20000
set_option linter.unusedSimpArgs false
namespace Go.Proofs.Ytobblbplanimgaa.Codec
open Go.RowKit Go.Proofs.Ytobblbplanimgaa.Base Go.Proofs.Ytobblbplanimgaa.Laws Go.Proofs.Ytobblbplanimgaa.InvM
/-- a record -/
structure Rc where
  k : Int
  v : Nat
  a : Int
  l : List UInt8
  deriving DecidableEq
def Rc.cells (r : Rc) : List Value := recV r.k r.v r.a r.l
def Rc.p (r : Rc) : List (IntKind × Int) := recP r.k r.v r.a r.l
def Rc.Valid (r : Rc) : Prop := r.l.length = 16 ∧ r.v < 18446744073709551616 ∧ I64 r.k ∧ I64 r.a
theorem Rc.len {r : Rc} (h : r.Valid) : r.cells.length = 19 := recV_len _ _ _ _ h.1
theorem Rc.one (r : Rc) : ∀ u ∈ r.cells, u.oneCell' = true := recV_one _ _ _ _
theorem map_u8_inj : ∀ {l m : List UInt8}, (l.map fun b => ((IntKind.u8, (b.toNat : Int)) : IntKind × Int)) = m.map (fun b => (.u8, (b.toNat : Int))) → l = m
  | [], [], _ => rfl
  | p :: l, q :: m, h => by
    simp only [List.map_cons, List.cons.injEq, Prod.mk.injEq, true_and] at h
    rw [UInt8.toNat_inj.1 (show p.toNat = q.toNat by omega), map_u8_inj h.2]
  | [], _ :: _, h => by simp at h
  | _ :: _, [], h => by simp at h
theorem Rc.p_inj {r q : Rc} (h : r.p = q.p) : r = q := by
  obtain ⟨k, v, a, l⟩ := r
  obtain ⟨k', v', a', l'⟩ := q
  unfold Rc.p recP at h
  simp only [List.cons_append, List.nil_append, List.cons.injEq, Prod.mk.injEq, true_and] at h
  obtain ⟨h1, h2, h3, h4⟩ := h
  have := map_u8_inj h4
  subst h1
  subst h3
  subst this
  obtain rfl : v = v' := by omega
  rfl
theorem Rc.eq {r q : Rc} (h : r.Valid) (g : q.Valid) (w : World) : (Op.equalIn 10000 27 (.agg r.cells.toArray) (.agg q.cells.toArray)).run Try.prog w = .ok (decide (r = q)) w := by
  obtain ⟨h1, h2, h3, h4⟩ := h
  obtain ⟨g1, g2, g3, g4⟩ := g
  have := rec_eq h1 g1 h3 h2 h4 g3 g2 g4 w
  unfold Rc.cells
  rw [this]
  congr 1
  by_cases e : r = q
  · subst e; simp
  · rw [decide_eq_false e, decide_eq_false (p := recP r.k r.v r.a r.l = recP q.k q.v q.a q.l) (fun e2 => e (Rc.p_inj e2))]
/-- the cells of records, one behind the other -/
def rv : List Rc → List Value
  | [] => []
  | r :: rs => r.cells ++ rv rs
theorem rv_append (rs qs : List Rc) : rv (rs ++ qs) = rv rs ++ rv qs := by
  induction rs with
  | nil => rfl
  | cons r rs ih => simp [rv, ih]
theorem rv_one (r : Rc) : rv [r] = r.cells := by simp [rv]
theorem rv_cells : ∀ (rs : List Rc), ∀ u ∈ rv rs, u.oneCell' = true
  | [], u, h => by simp [rv] at h
  | r :: rs, u, h => by
    rcases List.mem_append.1 h with h | h
    · exact Rc.one r u h
    · exact rv_cells rs u h
theorem rv_len : ∀ {rs : List Rc}, (∀ r ∈ rs, r.Valid) → (rv rs).length = rs.length * 19
  | [], _ => rfl
  | r :: rs, h => by
    rw [rv, List.length_append, Rc.len (h r (by simp)), rv_len (fun q hq => h q (by simp [hq])), List.length_cons]
    omega
theorem rv_get : ∀ {rs : List Rc}, (∀ r ∈ rs, r.Valid) → ∀ (i : Nat) (r : Rc), rs[i]? = some r → ∀ (j : Nat) (u : Value), r.cells[j]? = some u → (rv rs)[i * 19 + j]? = some u
  | [], _, i, r, h, j, u, hu => by simp at h
  | q :: rs, hv, i, r, h, j, u, hu => by
    have hq := Rc.len (hv q (by simp))
    cases i with
    | zero =>
      simp at h
      subst h
      rw [rv, Nat.zero_mul, Nat.zero_add, List.getElem?_append_left (List.getElem?_eq_some_iff.1 hu).1]
      exact hu
    | succ i =>
      rw [rv, List.getElem?_append_right (by omega), hq, show (i + 1) * 19 + j - 19 = i * 19 + j from by omega]
      exact rv_get (fun q hq => hv q (by simp [hq])) i r (by simpa using h) j u hu
/-- a slice of records reads as a list -/
def Recs (w : World) (a : Option Addr) (n cap : Nat) (rs : List Rc) : Prop :=
  rs.length = n ∧ n ≤ cap ∧ cap ≤ maxLen ∧ (∀ r ∈ rs, r.Valid) ∧ (n = 0 ∨ ∃ b o, a = some ⟨b, o, none⟩ ∧ ∀ j u, (rv rs)[j]? = some u → w.cell? ⟨b, o + j, none⟩ = some u)
theorem Recs.below {w w' : World} {a : Option Addr} {n cap : Nat} {rs : List Rc} (h : Recs w a n cap rs) {B : Nat} (hb : Below B w w') (hB : w.heap.size ≤ B) : Recs w' a n cap rs := by
  obtain ⟨h1, h2, h3, h5, h4⟩ := h
  refine ⟨h1, h2, h3, h5, ?_⟩
  rcases h4 with h4 | ⟨b, o, e, hc⟩
  · exact .inl h4
  · exact .inr ⟨b, o, e, fun j u hu => (hb.cell (p := ⟨b, o + j, none⟩) (Nat.lt_of_lt_of_le (block_lt_of_cell (hc j u hu)) hB)).trans (hc j u hu)⟩
theorem Recs.src {w : World} {a : Option Addr} {n cap : Nat} {rs : List Rc} (h : Recs w a n cap rs) : SrcOf w a n 19 (rv rs) := by
  obtain ⟨h1, _, _, h5, h4⟩ := h
  refine ⟨by rw [rv_len h5, h1], rv_cells rs, ?_⟩
  rcases h4 with h4 | ⟨b, o, e, hc⟩
  · exact .inl h4
  · exact .inr ⟨_, e, fun j u hu => by rw [Addr.add_lit]; exact hc j u hu⟩
theorem recs_own {w : World} {base : Nat} {e : TypeId} {v : Value} {n : Nat} {rs : List Rc} (hn : rs.length = n) (hv : ∀ r ∈ rs, r.Valid) (h : w.ownsRow base e 19 v n (rv rs)) : ∃ a cap, v = .slice a n cap ∧ Recs w a n cap rs := by
  obtain ⟨a, cap, rfl, h1, h2, h3⟩ := own_slice h (by decide)
  refine ⟨a, cap, rfl, hn, h1, h2, hv, ?_⟩
  rcases h3 with h3 | ⟨g, rfl, _, hc⟩
  · exact .inl h3
  · exact .inr ⟨g, 0, rfl, fun j u hu => hc j u hu⟩
theorem info_rec : (Try.prog.info? 27).map (fun i => (i.zero, i.size, i.bytes)) = some (some (.agg zrec.toArray), 19, 40) := by kernel_rfl
/-- one new block as what is appended -/
theorem src_rec {w : World} {r : Rc} (hv : r.Valid) {t : TypeId} {g : Nat} (h : Blk w g r.cells t) : SrcOf w (some ⟨g, 0, none⟩) 1 19 r.cells := by
  refine ⟨by rw [Rc.len hv], Rc.one r, .inr ⟨_, rfl, fun j u hu => ?_⟩⟩
  rw [Addr.add_lit, Nat.zero_add, h.cell]
  exact hu
section
variable {H : Type} {enc : TypeId × Value → H} {base : Nat} {spare : Nat → Bool} {held : Bool} {W : World}
theorem leavesRec : Opens.leaves Try.prog 8 27 = some ([.int .i64, .int .u64, .int .i64] ++ List.replicate 16 (.int .u8)) := by kernel_rfl
theorem cellsRec : Try.prog.cellsOf 27 = 19 := by kernel_rfl
/-- records that came in -/
theorem recs_elems {ad : Addr} {len cap : Nat} (hl : len ≤ cap) (hm : cap ≤ maxLen) (hq : ∀ i, i < len → ∃ cs n y, W.cells? base (ad.add (i * Try.prog.cellsOf 27)) (Try.prog.cellsOf 27) = some cs ∧ DataW.trod enc Try.prog W base spare held n 27 cs = some y ∧ ∀ m ∈ y.1.weights Try.prog 27, m ≤ reachBytes) :
    ∃ rs, Recs W (some ad) len cap rs := by
  rw [cellsRec] at hq
  obtain ⟨rs, hrl, hrs⟩ := Opens.choose_list (q := fun i (r : Rc) => r.Valid ∧ ∀ j u, r.cells[j]? = some u → W.cell? ((ad.add (i * 19)).add j) = some u) len fun i hi => by
    obtain ⟨cs, n, y, h1, h2, h3⟩ := hq i hi
    have hf := Opens.fits_of_trod 8 _ _ leavesRec n cs y h2 h3
    obtain ⟨hb, hcl, hc⟩ := World.cells?_some h1
    obtain ⟨k, v, a, l, hl16, hv, hk, ha, rfl⟩ := rec_in hcl rfl hf
    exact ⟨⟨k, v, a, l⟩, ⟨hl16, hv, hk, ha⟩, fun j u hu => by
      have hj := (List.getElem?_eq_some_iff.1 hu).1
      have hlen : (recV k v a l).length = 19 := recV_len _ _ _ _ hl16
      have hj2 : j < 19 := by
        have : (Rc.cells ⟨k, v, a, l⟩).length = 19 := hlen
        omega
      have := hc j hj2
      rw [this]
      exact hu⟩
  have hval : ∀ r ∈ rs, r.Valid := fun r hr => by
    obtain ⟨i, hi⟩ := List.mem_iff_getElem?.1 hr
    exact (hrs i r hi).1
  refine ⟨rs, hrl, hl, hm, hval, ?_⟩
  by_cases h0 : len = 0
  · exact .inl h0
  · obtain ⟨r0, hr0⟩ : ∃ u, rs[0]? = some u := ⟨rs[0]'(by omega), List.getElem?_eq_getElem (by omega)⟩
    have hc0 := (hrs 0 r0 hr0).2 0 (.int .i64 r0.k) rfl
    have hs := World.cell?_spot hc0
    obtain ⟨b, o, sp⟩ := ad
    have hsp : sp = none := by simpa [Addr.add] using hs
    subst hsp
    refine .inr ⟨b, o, rfl, fun j u hu => ?_⟩
    have hj := (List.getElem?_eq_some_iff.1 hu).1
    rw [rv_len hval] at hj
    have hi : j / 19 < rs.length := by omega
    obtain ⟨r, hr⟩ : ∃ r, rs[j / 19]? = some r := ⟨_, List.getElem?_eq_getElem hi⟩
    obtain ⟨hrv, hcells⟩ := hrs _ r hr
    have hm19 : j % 19 < r.cells.length := by rw [Rc.len hrv]; omega
    have hg : r.cells[j % 19]? = some (r.cells[j % 19]'hm19) := List.getElem?_eq_getElem hm19
    have e := rv_get hval _ r hr _ _ hg
    rw [show j / 19 * 19 + j % 19 = j from by omega, hu] at e
    have := hcells _ _ hg
    rw [← Option.some.inj e] at this
    simp only [Addr.add_lit] at this
    rw [show o + j = o + j / 19 * 19 + j % 19 from by omega]
    exact this
theorem recs_in {a : Option Addr} {len cap : Nat} {d : DataW H} {p : List MemPlace} (h : DataW.Trod enc Try.prog W base spare held 22 (.slice a len cap) d p) (hw : ∀ m ∈ d.weights Try.prog 22, m ≤ reachBytes) :
    ∃ rs, Recs W a len cap rs ∧ len ≤ Rows.uptoBulk d := by
  rcases Bulk.open_elems Try.underlying22 h hw with ⟨rfl, rfl, rfl⟩ | ⟨ad, elems, rest, rfl, rfl, hel, hl, hm, _, hq⟩
  · exact ⟨[], ⟨rfl, by omega, by unfold maxLen; omega, by simp, .inl rfl⟩, by simp⟩
  · obtain ⟨rs, hrs⟩ := recs_elems (ad := ad) hl hm (fun i hi => by
      obtain ⟨cs, n, y, h1, h2, h3, h4⟩ := hq i hi
      exact ⟨cs, n, y, h1, h2, h4⟩)
    refine ⟨rs, hrs, ?_⟩
    have := Bulk.length_le elems
    simp only [Rows.uptoBulk]
    omega
end
end Go.Proofs.Ytobblbplanimgaa.Codec
/-
  What a scan reads: plain. Helper text; no statement is proved here.
-/
set_option linter.unusedVariables false
set_option maxRecDepth 20000
set_option linter.unusedSimpArgs false
namespace Go.Proofs.Ytobblbplanimgaa.Codec
open Go.RowKit Go.Proofs.Ytobblbplanimgaa.Base Go.Proofs.Ytobblbplanimgaa.Laws
def recOf (l : List UInt8) : Rc := ⟨kindOf l, verOf l, lbaOf l, dataOf l⟩
def scan : Nat → List UInt8 → List Rc
  | 0, _ => []
  | n + 1, l => if IsRec l then recOf l :: scan n (l.drop 37) else []
def scanAll (l : List UInt8) : List Rc := scan l.length l
theorem scan_fuel : ∀ (n m : Nat) (l : List UInt8), l.length ≤ n → l.length ≤ m → scan n l = scan m l := by
  intro n
  induction n with
  | zero =>
    intro m l h1 h2
    obtain rfl : l = [] := List.eq_nil_of_length_eq_zero (by omega)
    cases m with
    | zero => rfl
    | succ m => rw [scan, scan, if_neg (fun h => by have := h.1; simp at this)]
  | succ n ih =>
    intro m l h1 h2
    cases m with
    | zero =>
      obtain rfl : l = [] := List.eq_nil_of_length_eq_zero (by omega)
      rw [scan, scan, if_neg (fun h => by have := h.1; simp at this)]
    | succ m =>
      rw [scan, scan]
      by_cases h : IsRec l
      · rw [if_pos h, if_pos h, ih m (l.drop 37) (by rw [List.length_drop]; have := h.1; omega) (by rw [List.length_drop]; have := h.1; omega)]
      · rw [if_neg h, if_neg h]
theorem scanAll_yes {l : List UInt8} (h : IsRec l) : scanAll l = recOf l :: scanAll (l.drop 37) := by
  unfold scanAll
  have hl := h.1
  rw [show l.length = (l.length - 1) + 1 from by omega, scan, if_pos h]
  rw [scan_fuel (l.length - 1) (l.drop 37).length _ (by rw [List.length_drop]; omega) (Nat.le_refl _)]
theorem scanAll_no {l : List UInt8} (h : ¬ IsRec l) : scanAll l = [] := by
  unfold scanAll
  cases hn : l.length with
  | zero => rfl
  | succ n => rw [scan, if_neg h]
theorem recOf_valid {l : List UInt8} (h : IsRec l) : (recOf l).Valid := by
  obtain ⟨h1, ⟨⟨h2, h3⟩, ⟨h4, h5⟩⟩, _⟩ := h
  refine ⟨?_, verOf_lt l, ?_, ?_⟩
  · show (dataOf l).length = 16
    unfold dataOf; rw [List.length_take, List.length_drop]; omega
  · show I64 (kindOf l)
    unfold I64; omega
  · show I64 (lbaOf l)
    unfold I64; omega
theorem scan_valid : ∀ (n : Nat) (l : List UInt8), ∀ r ∈ scan n l, r.Valid := by
  intro n
  induction n with
  | zero => intro l r h; simp [scan] at h
  | succ n ih =>
    intro l r h
    rw [scan] at h
    by_cases hi : IsRec l
    · rw [if_pos hi] at h
      rcases List.mem_cons.1 h with rfl | h
      · exact recOf_valid hi
      · exact ih _ r h
    · rw [if_neg hi] at h
      simp at h
theorem scanAll_valid (l : List UInt8) : ∀ r ∈ scanAll l, r.Valid := scan_valid _ _
theorem scan_len : ∀ (n : Nat) (l : List UInt8), (scan n l).length * 37 ≤ l.length := by
  intro n
  induction n with
  | zero => intro l; simp [scan]
  | succ n ih =>
    intro l
    rw [scan]
    by_cases hi : IsRec l
    · rw [if_pos hi, List.length_cons]
      have := ih (l.drop 37)
      rw [List.length_drop] at this
      have := hi.1
      omega
    · rw [if_neg hi]; simp
theorem scanAll_len (l : List UInt8) : (scanAll l).length * 37 ≤ l.length := scan_len _ _
/-- a record that can be packed -/
def Rc.Good (r : Rc) : Prop := Ok r.k r.a
instance (r : Rc) : Decidable r.Good := by unfold Rc.Good; infer_instance
/-- its bytes -/
def Rc.bytes (r : Rc) : List UInt8 := rec37 r.k r.v r.a.toNat r.l
theorem Rc.bytes_len {r : Rc} (h : r.Valid) : r.bytes.length = 37 := rec37_len _ _ _ _ h.1
theorem Rc.back {r : Rc} (h : r.Valid) (g : r.Good) (t : List UInt8) : IsRec (r.bytes ++ t) ∧ recOf (r.bytes ++ t) = r ∧ (r.bytes ++ t).drop 37 = t := by
  obtain ⟨k, v, a, l⟩ := r
  obtain ⟨hl, hv, hk, ha⟩ := h
  have ha0 : 0 ≤ a := g.2.1
  obtain ⟨n, rfl⟩ : ∃ n : Nat, a = n := ⟨a.toNat, by omega⟩
  have hb : Rc.bytes ⟨k, v, (n : Int), l⟩ = rec37 k v n l := by unfold Rc.bytes; simp
  rw [hb]
  obtain ⟨e1, e2, e3, e4, _, _⟩ := rec_parts (r := t) (k := k) (v := v) (a := n) (l := l) hl hv g
  refine ⟨(rec_back t hl hv g).1, ?_, ?_⟩
  · unfold recOf
    rw [e1, e2, e3, e4]
  · have := rec37_len k v n l hl
    rw [← this, List.drop_left]
/-- records' bytes, one behind the other -/
def laidAll : List Rc → List UInt8
  | [] => []
  | r :: rs => r.bytes ++ laidAll rs
theorem laidAll_append (rs qs : List Rc) : laidAll (rs ++ qs) = laidAll rs ++ laidAll qs := by
  induction rs with
  | nil => rfl
  | cons r rs ih => simp [laidAll, ih]
theorem laidAll_len : ∀ {rs : List Rc}, (∀ r ∈ rs, r.Valid) → (laidAll rs).length = 37 * rs.length
  | [], _ => rfl
  | r :: rs, h => by
    rw [laidAll, List.length_append, Rc.bytes_len (h r (by simp)), laidAll_len (fun q hq => h q (by simp [hq])), List.length_cons]
    omega
/-- of records that are cut short, the whole ones are read -/
theorem scan_cut : ∀ (rs : List Rc), (∀ r ∈ rs, r.Valid ∧ r.Good) → ∀ cut, cut ≤ (laidAll rs).length → scanAll ((laidAll rs).take cut) = rs.take (cut / 37)
  | [], _, cut, hc => by
    simp only [laidAll, List.length_nil] at hc
    obtain rfl : cut = 0 := by omega
    rw [scanAll_no (fun h => by have := h.1; simp [laidAll] at this)]
    simp
  | r :: rs, h, cut, hc => by
    have hr := h r (by simp)
    have hrl := Rc.bytes_len hr.1
    rw [laidAll]
    by_cases h37 : cut < 37
    · rw [scanAll_no (fun h => by have := h.1; rw [List.length_take] at this; omega), show cut / 37 = 0 from by omega]
      rfl
    · obtain ⟨c, rfl⟩ : ∃ c, cut = 37 + c := ⟨cut - 37, by omega⟩
      have e : (r.bytes ++ laidAll rs).take (37 + c) = r.bytes ++ (laidAll rs).take c := by
        rw [List.take_append, List.take_of_length_le (by omega), hrl, show 37 + c - 37 = c from by omega]
      obtain ⟨b1, b2, b3⟩ := Rc.back hr.1 hr.2 ((laidAll rs).take c)
      rw [laidAll, List.length_append, hrl] at hc
      rw [e, scanAll_yes b1, b2, b3, scan_cut rs (fun q hq => h q (by simp [hq])) c (by omega), show (37 + c) / 37 = c / 37 + 1 from by omega]
      rfl
theorem scan_laid (rs : List Rc) (h : ∀ r ∈ rs, r.Valid ∧ r.Good) : scanAll (laidAll rs) = rs := by
  have := scan_cut rs h (laidAll rs).length (Nat.le_refl _)
  rw [List.take_length, laidAll_len (fun r hr => (h r hr).1), show 37 * rs.length / 37 = rs.length from by omega, List.take_length] at this
  exact this
end Go.Proofs.Ytobblbplanimgaa.Codec
/-
  Pieces of slices of bytes, wherever they lie; a slice built of one whole value. Helper text; no statement is proved here.
-/
set_option linter.unusedVariables false
set_option maxRecDepth 20000
set_option linter.unusedSimpArgs false
namespace Go.Proofs.Ytobblbplanimgaa.Codec
open Go.RowKit Go.Proofs.Ytobblbplanimgaa.Base Go.Proofs.Ytobblbplanimgaa.Laws Go.Proofs.Ytobblbplanimgaa.InvM
/-- the address behind a slicing -/
def shifted (a : Option Addr) (i m : Nat) : Option Addr := if m = i then a else a.map (·.add (i * 1))
theorem sizeu8 (w : World) : (sizeOf 5).run Try.prog w = .ok 1 w := by
  obtain ⟨i, hi, hz, hs, hb⟩ := info_parts OwnB.infou8
  simp [sizeOf, typeInfo, hi, hs]
theorem slice_from (w : World) (a : Option Addr) (len cap i : Nat) (k : IntKind) (hi : i ≤ len) (hc : len ≤ cap) : (Instr.sliceAt 46 (.slice a len cap) (some (.int k i)) none none).run Try.prog w = .ok (.slice (shifted a i cap) (len - i) (cap - i)) w := by
  have hu := run_underlying (P := Try.prog) (w := w) Try.underlying46
  have hb := run_sliceBound (P := Try.prog) (w := w) k i len .sliceB (by omega) (by omega)
  simp only [Instr.sliceAt, Sem.run_bind, hu, Result.andThen_ok, Instr.slice, Instr.sliceBounds, Option.isSome_none, Sem.run_pure, sizeu8 w]
  simp [hb, shifted, sizeu8 w]
theorem slice_to (w : World) (a : Option Addr) (len cap j : Nat) (k : IntKind) (hj : j ≤ cap) : (Instr.sliceAt 46 (.slice a len cap) none (some (.int k j)) none).run Try.prog w = .ok (.slice (shifted a 0 cap) j cap) w := by
  have hu := run_underlying (P := Try.prog) (w := w) Try.underlying46
  have hb := run_sliceBound (P := Try.prog) (w := w) k j cap .sliceAcap (by omega) (by omega)
  simp only [Instr.sliceAt, Sem.run_bind, hu, Result.andThen_ok, Instr.slice, Instr.sliceBounds, Option.isSome_none, Sem.run_pure, sizeu8 w]
  simp [hb, shifted, sizeu8 w]
theorem exec_slice {P : Program} {ρ : Operand → Value} {w : World} {o : Oper} {t : TypeId} {x : Operand} {lo hi mx : Option Operand} {v : Value} (ho : o.op = .slice t x lo hi mx) (h : (Instr.sliceAt t (ρ x) (lo.map ρ) (hi.map ρ) (mx.map ρ)).run P w = .ok v w) : (execOp ρ o).run P w = .ok (.value v) w := by
  unfold execOp
  simp only [ho, Sem.run_bind, h, Result.andThen_ok, Sem.run_pure]
theorem bts_from {w : World} {a : Option Addr} {len cap i : Nat} {l : List UInt8} (h : Bts w a len cap l) (hi : i ≤ len) : Bts w (shifted a i cap) (len - i) (cap - i) (l.drop i) := by
  obtain ⟨h1, h2, h3, h4⟩ := h
  refine ⟨by rw [List.length_drop]; omega, by omega, by omega, ?_⟩
  by_cases h0 : len - i = 0
  · exact .inl h0
  · rcases h4 with h4 | ⟨b, o, rfl, hc⟩
    · omega
    · unfold shifted
      rw [if_neg (by omega)]
      refine .inr ⟨b, o + i, by simp [Addr.add], fun j u hu => ?_⟩
      rw [List.getElem?_drop] at hu
      rw [Nat.add_assoc]
      exact hc _ u hu
theorem bts_to {w : World} {a : Option Addr} {len cap j : Nat} {l : List UInt8} (h : Bts w a len cap l) (hj : j ≤ len) : Bts w (shifted a 0 cap) j cap (l.take j) := by
  obtain ⟨h1, h2, h3, h4⟩ := h
  refine ⟨by rw [List.length_take]; omega, by omega, by omega, ?_⟩
  by_cases h0 : j = 0
  · exact .inl h0
  · rcases h4 with h4 | ⟨b, o, rfl, hc⟩
    · omega
    · unfold shifted
      rw [if_neg (by omega)]
      refine .inr ⟨b, o, by simp [Addr.add], fun i u hu => ?_⟩
      rw [List.getElem?_take] at hu
      split at hu
      · exact hc i u hu
      · cases hu
/-- a slice of one whole value is built -/
theorem run_build_one {P : Program} (w : World) {t e : TypeId} {vs : List Value} {z : Value} {size bytes : Nat} (hu : P.underlying t = some (.slice e)) (hi : (P.info? e).map (fun i => (i.zero, i.size, i.bytes)) = some (some z, size, bytes)) (hl : vs.length = size) (h0 : 0 < size) (hs : size ≤ 1000) :
    (Instr.buildSlice t 1 #[(0, .agg vs.toArray)]).run P w = .ok (.slice (some ⟨w.heap.size, 0, none⟩) 1 1) (w.alloc (.cells vs.toArray e)) := by
  obtain ⟨i, hi, hz, hsz, hb⟩ := info_parts hi
  have hso : (sizeOf e).run P w = .ok size w := by simp [sizeOf, typeInfo, hi, hsz]
  have hzo : (zeroValue e).run P w = .ok z w := by simp [zeroValue, typeInfo, hi, hz]
  have hf : ∀ A : Array Value, A.size = size → Instr.fill (fun i => some (i * size, size)) A [(0, .agg vs.toArray)] = some vs.toArray := fun A hA => by
    have := fill_cons (fun i => some (i * size, size)) A.toList vs 0 0 (.agg vs.toArray) [] (by simp [hl]) rfl (by simp [hA, hl])
    rw [show A.toList.toArray = A from by simp] at this
    rw [this, put_all _ _ (by simp [hA, hl])]
    rfl
  unfold Instr.buildSlice
  have hfa := hf ((Array.range (1 * size)).map (fun x => z.cells[x % z.cells.size]!)) (by simp)
  simp only [Sem.run_bind, run_underlying hu, Result.andThen_ok, hso, Nat.one_mul, hzo] at hfa ⊢
  rw [if_neg (by omega), if_neg (by omega)]
  simp [hzo, hfa, newRow, newObj]
  rfl
theorem exec_build_one {P : Program} {ρ : Operand → Value} {w : World} {o : Oper} {t e : TypeId} {x : Operand} {vs : List Value} {z : Value} {size bytes : Nat} (ho : o.op = .buildSlice t 1 #[(0, x)]) (hx : ρ x = .agg vs.toArray) (hu : P.underlying t = some (.slice e)) (hi : (P.info? e).map (fun i => (i.zero, i.size, i.bytes)) = some (some z, size, bytes)) (hl : vs.length = size) (h0 : 0 < size) (hs : size ≤ 1000) :
    (execOp ρ o).run P w = .ok (.value (.slice (some ⟨w.heap.size, 0, none⟩) 1 1)) (w.alloc (.cells vs.toArray e)) := by
  have hm : (#[((0 : Nat), x)].map fun (i, x) => (i, ρ x)) = #[(0, .agg vs.toArray)] := by simp [hx]
  unfold execOp
  simp only [ho, hm, Sem.run_bind, run_build_one w hu hi hl h0 hs, Result.andThen_ok, Sem.run_pure]
theorem wpList_world_g {P : Program} {w w' : World} {ops : Array Oper} {rest : List Oper} {o : Oper} {a : Act} {Q : Exit → Act → World → Prop} (hw : Region.wanted o (yielded ops a.tmps) = true) (v : Value) (hr : (execOp a.eval o).run P w = .ok (.value v) w')
    (h : wpList P ops Q rest (a.put o.dst v) w') : wpList P ops Q (o :: rest) a w := by
  unfold wpList
  rw [if_pos hw]
  refine .inl ?_
  unfold Oper.wp
  rw [hr]
  exact h
end Go.Proofs.Ytobblbplanimgaa.Codec
/-
  Scan of the codec by contract. Helper text; no statement is proved here.
-/
set_option linter.unusedVariables false
set_option maxRecDepth 20000
set_option linter.unusedSimpArgs false
namespace Go.Proofs.Ytobblbplanimgaa.Codec
open Go.RowKit Go.Proofs.Ytobblbplanimgaa.Base Go.Proofs.Ytobblbplanimgaa.Laws Go.Proofs.Ytobblbplanimgaa.InvM
theorem out_not {l : List UInt8} (h : ¬ IsRec l) : recOut l = zrec ∧ ∃ e, recErr l = e ∧ ¬ e = 0 := by
  by_cases h37 : l.length < 37
  · exact ⟨(out_short h37).1, 1, (out_short h37).2, by decide⟩
  · exact ⟨(out_no (by omega) h).1, 7, (out_no (by omega) h).2, by decide⟩
theorem own_below {w w' : World} {base : Nat} {e : TypeId} {size : Nat} {v : Value} {n : Nat} {xs : List Value} (h : w.ownsRow base e size v n xs) (hb : Below w.heap.size w w') : w'.ownsRow base e size v n xs := by
  obtain ⟨h1, h2⟩ := h
  refine ⟨h1, ?_⟩
  rcases h2 with h2 | ⟨g, cap, cur, e1, hbg, hg, h3⟩
  · exact .inl h2
  · exact .inr ⟨g, cap, cur, e1, hbg, (hb.block g (Array.getElem?_eq_some_iff.1 hg).1).trans hg, h3⟩
theorem bytes_bound {n : Nat} (h : n * 37 ≤ 1048576) : (n + 1) * 40 ≤ 140737488355328 := by omega
set_option maxRecDepth 4000 in
set_option maxHeartbeats 4000000 in
theorem scan_any (a : Option Addr) (len cap : Nat) (l : List UInt8) (w : World) (h : Bts w a len cap l) (hlen : len ≤ 1048576 * 64) :
    Calls Try.prog 37 #[.slice a len cap] w fun e w' => ∃ v, e = .returned (.tuple #[v, .int .i64 (37 * (scanAll l).length : Nat)]) ∧ w'.ownsRow w.heap.size 27 19 v (scanAll l).length (rv (scanAll l)) ∧ Below w.heap.size w w' := by
  have hl := h.1
  have hlc := h.2.1
  have hm := h.2.2.1
  unfold maxLen at hm
  have HT := Lib.hid h
  have HV := Lib.hid (scanAll_valid l)
  have HN := Lib.hid (scanAll_len l)
  clear h
  go_enter Try.func37, Try.ntmps37
  go_wp2
  go_loopw [4, 5] (fun v i wr => ∃ (k : Nat) (rs : List Rc), rs.length = k ∧ 37 * k ≤ len ∧ i = .int .i64 (37 * k : Nat) ∧ scanAll l = rs ++ scanAll (l.drop (37 * k)) ∧ wr.ownsRow w.heap.size 27 19 v k (rv rs) ∧ Below w.heap.size w wr) (fun _ i _ => len + 1 - (intOf i).toNat)
  case atStart => exact ⟨0, [], rfl, by omega, rfl, rfl, World.ownsRow_nil _ _ _ _, Below.refl _ _⟩
  case round =>
    obtain ⟨k, rs, hrk, hk, rfl, hsc, ho, hb⟩ := hrel
    have HO := Lib.hid ho
    have HB := Lib.hid hb
    have HS := Lib.hid hsc
    have hs0 := hb.size
    have hbt := HT.out.below hb (Nat.le_refl _)
    have hbf := bts_from (i := 37 * k) hbt (by omega)
    have HU := Lib.hid (unpack_any _ _ _ _ wr hbf)
    have SF := Lib.hid (slice_from wr a len cap (37 * k) .i64 (by omega) (by omega))
    clear ho hb hsc hbt hbf
    have hs0' : wr.heap.size = wr.heap.size := rfl
    by_cases hrec : IsRec (l.drop (37 * k))
    · rw [(out_yes hrec).1, (out_yes hrec).2] at HU
      have hs2 := scanAll_yes hrec
      have hrv := recOf_valid hrec
      have h37 := hrec.1
      rw [List.length_drop, hl] at h37
      obtain ⟨r, hr⟩ : ∃ r, r = recOf (l.drop (37 * k)) := ⟨_, rfl⟩
      rw [← hr] at hs2 hrv
      rw [show recV (kindOf (l.drop (37 * k))) (verOf (l.drop (37 * k))) (lbaOf (l.drop (37 * k))) (dataOf (l.drop (37 * k))) = r.cells from by rw [hr]; rfl] at HU
      rw [List.drop_drop, show 37 * k + 37 = 37 * (k + 1) from by omega] at hs2
      have HR := Lib.hid (HS.out.trans (by rw [hs2]) : scanAll l = rs ++ (r :: scanAll (l.drop (37 * (k + 1)))))
      have h19 := Rc.len hrv
      have hr1 := Rc.one r
      have HVr := Lib.hid hrv
      clear hs2 hr hrec hrv HS
      go_wp2_with (first | (refine wpList_value_g rfl (.slice (shifted a (37 * k) cap) (len - 37 * k) (cap - 37 * k)) (exec_slice rfl SF.out) ?_))
      refine HU.out.mono ?_
      rintro e w2 ⟨rfl, hb2⟩
      have L2 := Lib.hid (HB.out.trans (hb2.mono hs0))
      have O2 := Lib.hid (own_below HO.out hb2)
      have hs2 := L2.out.size
      have Z2 := Lib.hid (blk_at (w := w2) (g := w2.heap.size) (cs := zrec) (t := 27) (arr := #[.int .i64 0, .int .u64 0, .int .i64 0, .int .u8 0, .int .u8 0, .int .u8 0, .int .u8 0, .int .u8 0, .int .u8 0, .int .u8 0, .int .u8 0, .int .u8 0, .int .u8 0, .int .u8 0, .int .u8 0, .int .u8 0, .int .u8 0, .int .u8 0, .int .u8 0]) rfl rfl)
      clear hb2 HU SF HB HO
      go_wp2_with (first | (refine wpList_store_blk rfl 27 _ _ rfl w2.heap.size 0 19 rfl 27 zrec r.cells rfl Z2.out (by kernel_rfl) h19 (by decide) hr1 ?_; intro w3 z3 g3; rw [put_all _ _ (by rw [h19]; rfl)] at z3; have L3 := Lib.hid (below_grown (L2.out.alloc hs2 _) g3 (by simp only [size_alloc]; omega) hs2); have Z3 := Lib.hid z3; have O3 := Lib.hid ((O2.out.alloc _).kept g3 (.inr fun e => by have := (O2.out.lt _ e).2; omega)); have hs3 := L3.out.size; clear z3 g3) | (refine wpList_load_g rfl 27 _ rfl w2.heap.size 19 rfl 27 r.cells _ Z3.out Try.underlying27 rfl (by kernel_rfl) h19 ?_) | (refine wpList_world_g rfl (.slice (some ⟨w3.heap.size, 0, none⟩) 1 1) (exec_build_one rfl rfl Try.underlying22 info_rec h19 (by decide) (by decide)) ?_) | (at_builtin; refine wpList_append_any _ rfl _ _ 22 rfl w.heap.size 27 (.agg zrec.toArray) 19 40 Try.underlying22 info_rec rfl (by decide) _ k _ rfl (O3.out.alloc _) _ 1 1 r.cells rfl (src_rec HVr.out (blk_at rfl rfl)) ?c1 ?c2 ?c3 ?_))
      case c1 => omega
      case c2 => unfold maxLen; omega
      case c3 => simp only [size_alloc]; omega
      intro v' w4 ho4 hg4
      have L4 := Lib.hid ((L3.out.alloc hs3 _).grown hg4 (by simp only [size_alloc]; omega) (fun q hq => (O3.out.lt q hq).1))
      have O4 := Lib.hid ho4
      clear ho4 hg4 O2 O3 L2 L3 Z2 Z3
      go_wp2
      go_roundw
      case rel => exact ⟨k + 1, rs ++ [r], by simp [hrk], by omega, by congr 1, by rw [HR.out]; simp, by rw [rv_append, rv_one]; exact O4.out, L4.out⟩
      case measure => simp [intOf]; omega
    · obtain ⟨e1, er, e2, e3⟩ := out_not hrec
      rw [e1, e2] at HU
      have hs2 := scanAll_no hrec
      rw [hs2, List.append_nil] at HS
      clear hs2 hrec e1 e2
      go_wp2_with (first | (refine wpList_value_g rfl (.slice (shifted a (37 * k) cap) (len - 37 * k) (cap - 37 * k)) (exec_slice rfl SF.out) ?_))
      refine HU.out.mono ?_
      rintro e w2 ⟨rfl, hb2⟩
      have L2 := Lib.hid (HB.out.trans (hb2.mono hs0))
      have O2 := Lib.hid (own_below HO.out hb2)
      have hs2 := L2.out.size
      have Z2 := Lib.hid (blk_at (w := w2) (g := w2.heap.size) (cs := zrec) (t := 27) (arr := #[.int .i64 0, .int .u64 0, .int .i64 0, .int .u8 0, .int .u8 0, .int .u8 0, .int .u8 0, .int .u8 0, .int .u8 0, .int .u8 0, .int .u8 0, .int .u8 0, .int .u8 0, .int .u8 0, .int .u8 0, .int .u8 0, .int .u8 0, .int .u8 0, .int .u8 0]) rfl rfl)
      clear hb2 HU SF HB HO
      go_wp2_with (first | (refine wpList_store_blk rfl 27 _ _ rfl w2.heap.size 0 19 rfl 27 zrec zrec rfl Z2.out (by kernel_rfl) rfl (by decide) (recV_one _ _ _ _) ?_; intro w3 z3 g3; have L3 := Lib.hid (below_grown (L2.out.alloc hs2 _) g3 (by simp only [size_alloc]; omega) hs2); have O3 := Lib.hid ((O2.out.alloc _).kept g3 (.inr fun e => by have := (O2.out.lt _ e).2; omega)); clear z3 g3))
      go_ret2
      exact ⟨u4, by rw [HS.out, hrk, Int.natCast_mul]; rfl, by rw [HS.out, hrk]; exact O3.out, L3.out⟩
end Go.Proofs.Ytobblbplanimgaa.Codec
/-
  Memories by contract: what one holds; new, room, append. Helper text; no statement is proved here.
-/
set_option linter.unusedVariables false
set_option maxRecDepth 20000
set_option linter.unusedSimpArgs false
namespace Go.Proofs.Ytobblbplanimgaa.Nvram
open Go.RowKit Go.Proofs.Ytobblbplanimgaa.Base Go.Proofs.Ytobblbplanimgaa.Laws Go.Proofs.Ytobblbplanimgaa.Disk Go.Proofs.Ytobblbplanimgaa.Row Go.Proofs.Ytobblbplanimgaa.Codec Go.Proofs.Ytobblbplanimgaa.InvL Go.Proofs.Ytobblbplanimgaa.InvM
structure RamAt (w : World) (br bm size : Nat) (v : Value) (B : List UInt8) : Prop where
  head : Blk w br [.pointer (some ⟨bm, 0, none⟩), .int .i64 (size : Int), v] 75
  own : w.ownsRow (br + 1) 5 1 v B.length (bv B)
  lt : bm < br
  lo : 37 ≤ size
  hi : size ≤ 65536
  len : B.length ≤ size
section
variable {w w' : World} {br bm size : Nat} {v : Value} {B : List UInt8} {p : Pow}
theorem RamAt.only {S : List Nat} (h : RamAt w br bm size v B) (ho : Only S w w') (h1 : br ∉ S) (h2 : ∀ g, v.ownBlock = some g → g ∉ S) : RamAt w' br bm size v B :=
  { h with head := h.head.only ho h1, own := own_only h.own ho h2 }
theorem RamAt.below (h : RamAt w br bm size v B) (hb : Below w.heap.size w w') : RamAt w' br bm size v B :=
  h.only (Only.of_below (S := []) hb) (by simp) (by simp)
theorem RamAt.drew (h : RamAt w br bm size v B) : RamAt w.drew br bm size v B := { h with head := h.head.drew, own := h.own }
theorem RamAt.slice (h : RamAt w br bm size v B) : ∃ a cap, v = .slice a B.length cap ∧ Bts w a B.length cap B := OwnB.bts_own rfl h.own
theorem RamAt.c0 (h : RamAt w br bm size v B) : w.cell? ⟨br, 0, none⟩ = some (.pointer (some ⟨bm, 0, none⟩)) := h.head.cell 0
theorem RamAt.c1 (h : RamAt w br bm size v B) : w.cell? ⟨br, 1, none⟩ = some (.int .i64 (size : Int)) := h.head.cell 1
theorem RamAt.c2 (h : RamAt w br bm size v B) : w.cell? ⟨br, 2, none⟩ = some v := h.head.cell 2
/-- the slice's field is written -/
theorem RamAt.put (h : RamAt w br bm size v B) {v' : Value} {B' : List UInt8} (ho : w.ownsRow (br + 1) 5 1 v' B'.length (bv B')) (hl : B'.length ≤ size) : RamAt (w.setCell ⟨br, 2, none⟩ v') br bm size v' B' :=
  { h with
    head := h.head.setCell 2 v'
    own := own_only ho ((Only.refl [br] w).setCell (by simp) _ _) (fun g hg => by have := (own_lt ho hg).1; simp; omega)
    len := hl }
theorem new_ok (n : Nat) (h1 : 37 ≤ n) (h2 : n ≤ 65536) (hm : PowAt w bm p) : Calls Try.prog 10 #[.int .i64 (n : Int), .pointer (some ⟨bm, 0, none⟩)] w fun e w' => e = .returned (.tuple #[.pointer (some ⟨w.heap.size, 0, none⟩), .int .i64 0]) ∧ RamAt w' w.heap.size bm n (.slice none 0 0) [] ∧ Below w.heap.size w w' ∧ w'.heap.size = w.heap.size + 1 := by
  have hlt := hm.lt
  have i1 : (37 : Int) ≤ (n : Int) := by omega
  have i2 : (n : Int) ≤ 65536 := by omega
  have Z := Lib.hid (blk_at (w := w) (g := w.heap.size) (cs := [.pointer (some ⟨bm, 0, none⟩), .int .i64 (n : Int), .slice none 0 0]) (t := 75) (arr := #[.pointer (some ⟨bm, 0, none⟩), .int .i64 (n : Int), .slice none 0 0]) rfl rfl)
  clear hm
  go_enter Try.func10, Try.ntmps10
  go_wp2_with fail
  go_ret2
  exact ⟨rfl, ⟨Z.out, ⟨rfl, .inl ⟨rfl, rfl⟩⟩, hlt, h1, h2, Nat.zero_le _⟩, (Below.refl _ _).alloc (Nat.le_refl _) _, by simp⟩
theorem new_nilm (n : Nat) (h1 : 37 ≤ n) (h2 : n ≤ 65536) (w : World) : Calls Try.prog 10 #[.int .i64 (n : Int), .pointer none] w fun e w' => e = .returned (.tuple #[.pointer none, .int .i64 2]) ∧ w = w' := by
  have i1 : (37 : Int) ≤ (n : Int) := by omega
  have i2 : (n : Int) ≤ 65536 := by omega
  go_enter Try.func10, Try.ntmps10
  go_wp2_with fail
  go_ret2
  exact ⟨rfl, rfl⟩
theorem new_low (n : Int) (h : n < 37 ∨ 65536 < n) (m : Option Addr) (w : World) : Calls Try.prog 10 #[.int .i64 n, .pointer m] w fun e w' => e = .returned (.tuple #[.pointer none, .int .i64 2]) ∧ w = w' := by
  rcases h with h | h
  · go_enter Try.func10, Try.ntmps10
    go_wp2_with fail
    go_ret2
    exact ⟨rfl, rfl⟩
  · have h2 : ¬ n < 37 := by omega
    go_enter Try.func10, Try.ntmps10
    go_wp2_with fail
    go_ret2
    exact ⟨rfl, rfl⟩
theorem used_any (h : RamAt w br bm size v B) : Calls Try.prog 19 #[.pointer (some ⟨br, 0, none⟩)] w fun e w' => e = .returned (.int .i64 (B.length : Nat)) ∧ w = w' := by
  obtain ⟨a, cap, rfl, hb⟩ := h.slice
  have c2 := h.c2
  obtain ⟨n, hn⟩ : ∃ n, n = B.length := ⟨_, rfl⟩
  rw [← hn] at c2 ⊢
  clear h hb hn
  go_enter Try.func19, Try.ntmps19
  go_wp2_with fail
  go_ret
  exact ⟨rfl, rfl⟩
theorem room_any (h : RamAt w br bm size v B) : Calls Try.prog 20 #[.pointer (some ⟨br, 0, none⟩)] w fun e w' => e = .returned (.int .i64 ((size - B.length) / 37 : Nat)) ∧ ∃ nd, w' = w.drewN nd := by
  obtain ⟨a, cap, rfl, hb⟩ := h.slice
  have c1 := h.c1
  have c2 := h.c2
  have hl := h.len
  have hh := h.hi
  obtain ⟨n, hn⟩ : ∃ n, n = B.length := ⟨_, rfl⟩
  rw [← hn] at c2 hl ⊢
  clear h hb hn
  have i0 : (0 : Int) ≤ (size : Int) - (n : Int) := by omega
  have i1 : (size : Int) - (n : Int) ≤ 65536 := by omega
  have e1 : IntKind.i64.wrap ((size : Int) - (n : Int)) = (size : Int) - (n : Int) := Go.IntWalk.i64_in _ (by omega)
  have e2 : ((size : Int) - (n : Int)).tdiv 37 = (((size - n) / 37 : Nat) : Int) := by rw [Int.tdiv_eq_ediv_of_nonneg i0]; omega
  obtain ⟨r, hr⟩ : ∃ r, r = (size - n) / 37 := ⟨_, rfl⟩
  rw [← hr] at e2 ⊢
  have e3 : IntKind.i64.wrap (r : Int) = (r : Int) := Go.IntWalk.i64_in _ (by omega)
  have e4 : ((size : Int) - (n : Int)) / 37 = (r : Int) := by omega
  clear hr
  go_enter Try.func20, Try.ntmps20
  go_upto_region 3 with (fail)
  refine wp_region_still_lit (by kernel_rfl) (by kernel_rfl) ?_
  repeat still_step
  refine wpStill_nil ?_
  go_wp2_with fail
  go_ret
  exact ⟨rfl, 1, rfl⟩
/-- nil memories -/
theorem append_nil (c : Array Value) (w : World) : Calls Try.prog 12 #[.pointer none, .agg c] w fun e w' => e = .returned (.int .i64 2) ∧ Below w.heap.size w w' := by
  go_enter Try.func12, Try.ntmps12
  go_wp2_with fail
  go_ret
  exact ⟨rfl, (Below.refl _ _).alloc (Nat.le_refl _) _⟩
theorem load_nil (a : Option Addr) (n c : Nat) (w : World) : Calls Try.prog 21 #[.pointer none, .slice a n c] w fun e w' => e = .returned (.int .i64 2) ∧ w = w' := by
  go_enter Try.func21, Try.ntmps21
  go_wp2_with fail
  go_ret
  exact ⟨rfl, rfl⟩
theorem records_nil (w : World) : Calls Try.prog 17 #[.pointer none] w fun e w' => e = .returned (.slice none 0 0) ∧ w = w' := by
  go_enter Try.func17, Try.ntmps17
  go_wp2_with fail
  go_ret
  exact ⟨rfl, rfl⟩
theorem used_nil (w : World) : Calls Try.prog 19 #[.pointer none] w fun e w' => e = .returned (.int .i64 0) ∧ w = w' := by
  go_enter Try.func19, Try.ntmps19
  go_wp2_with fail
  go_ret
  exact ⟨rfl, rfl⟩
theorem room_nil (w : World) : Calls Try.prog 20 #[.pointer none] w fun e w' => e = .returned (.int .i64 0) ∧ w = w' := by
  go_enter Try.func20, Try.ntmps20
  go_wp2_with fail
  go_ret
  exact ⟨rfl, rfl⟩
theorem trim_nil (w : World) : Calls Try.prog 18 #[.pointer none] w fun e w' => e = .returned (.tuple #[]) ∧ w = w' := by
  go_enter Try.func18, Try.ntmps18
  go_wp2_with fail
  go_end0
  exact ⟨rfl, rfl⟩
theorem wipe_nil (w : World) : Calls Try.prog 22 #[.pointer none] w fun e w' => e = .returned (.tuple #[]) ∧ w = w' := by
  go_enter Try.func22, Try.ntmps22
  go_wp2_with fail
  go_end0
  exact ⟨rfl, rfl⟩
theorem wipe_any (h : RamAt w br bm size v B) : Calls Try.prog 22 #[.pointer (some ⟨br, 0, none⟩)] w fun e w' => e = .returned (.tuple #[]) ∧ RamAt w' br bm size (.slice none 0 0) [] ∧ Only [br] w w' := by
  have c2 := h.c2
  have f2 := h.head.frozen 2
  have H := Lib.hid (h.put (v' := .slice none 0 0) (B' := []) ⟨rfl, .inl ⟨rfl, rfl⟩⟩ (Nat.zero_le _))
  clear h
  go_enter Try.func22, Try.ntmps22
  go_wp2_with fail
  go_end0
  exact ⟨rfl, H.out, (Only.refl [br] w).setCell (by simp) _ _⟩
/-- the records -/
theorem records_any (h : RamAt w br bm size v B) : Calls Try.prog 17 #[.pointer (some ⟨br, 0, none⟩)] w fun e w' => ∃ r, e = .returned r ∧ w'.ownsRow w.heap.size 27 19 r (scanAll B).length (rv (scanAll B)) ∧ Below w.heap.size w w' := by
  obtain ⟨a, cap, rfl, hb⟩ := h.slice
  have c2 := h.c2
  have hl := h.len
  have hh := h.hi
  have SC := Lib.hid (scan_any a B.length cap B w hb (by omega))
  obtain ⟨n, hn⟩ : ∃ n, n = B.length := ⟨_, rfl⟩
  rw [← hn] at c2 SC
  clear h hb hn hl
  go_enter Try.func17, Try.ntmps17
  go_wp2_with fail
  refine SC.out.mono ?_
  rintro e w1 ⟨r, rfl, ho, hbl⟩
  have HO := Lib.hid ho
  have HB := Lib.hid hbl
  clear ho hbl SC c2
  go_wp2_with fail
  go_ret
  exact ⟨r, rfl, HO.out, HB.out⟩
end
end Go.Proofs.Ytobblbplanimgaa.Nvram
/-
  Append to a memory by contract. Helper text; no statement is proved here.
-/
set_option linter.unusedVariables false
set_option maxRecDepth 20000
set_option linter.unusedSimpArgs false
namespace Go.Proofs.Ytobblbplanimgaa.Nvram
open Go.RowKit Go.Proofs.Ytobblbplanimgaa.Base Go.Proofs.Ytobblbplanimgaa.Laws Go.Proofs.Ytobblbplanimgaa.Disk Go.Proofs.Ytobblbplanimgaa.Row Go.Proofs.Ytobblbplanimgaa.Codec Go.Proofs.Ytobblbplanimgaa.InvL Go.Proofs.Ytobblbplanimgaa.InvM
section
variable {w w' : World} {br bm size : Nat} {v : Value} {B : List UInt8} {p : Pow} {x : Rc}
set_option maxHeartbeats 1000000 in
theorem append_bad (h : RamAt w br bm size v B) (hp : PowAt w bm p) (hx : x.Valid) (hg : ¬ x.Good) : Calls Try.prog 12 #[.pointer (some ⟨br, 0, none⟩), .agg x.cells.toArray] w fun e w' => e = .returned (.int .i64 2) ∧ Below w.heap.size w w' := by
  have hbr := h.head.lt
  have hx19 := Lib.hid (Rc.len hx)
  have Z0 := Lib.hid (blk_at (w := w) (g := w.heap.size) (cs := x.cells) (t := 27) (arr := x.cells.toArray) rfl rfl)
  have b0 : Below w.heap.size w (w.alloc (.cells x.cells.toArray 27)) := (Below.refl _ _).alloc (Nat.le_refl _) _
  have H0 := Lib.hid (h.below b0)
  have P0 := Lib.hid (hp.only (Only.of_below (S := []) b0) (by simp))
  have B0 := Lib.hid b0
  have hs0 : w.heap.size < (w.alloc (.cells x.cells.toArray 27)).heap.size := by simp
  have hbm := hp.lt
  have OWN := Lib.hid (fun g hg => own_lt h.own (g := g) hg)
  clear h hp b0
  go_enter Try.func12, Try.ntmps12
  go_upto_region 1 with (fail)
  obtain ⟨w1, hw1⟩ : ∃ w1, w1 = w.alloc (.cells x.cells.toArray 27) := ⟨_, rfl⟩
  rw [← hw1] at Z0 H0 P0 B0 hs0 ⊢
  clear hw1
  have PK := Lib.hid (show Calls Try.prog 34 #[.agg x.cells.toArray] w1 fun e w' => e = .returned (.tuple #[.slice none 0 0, .int .i64 2]) ∧ Below w1.heap.size w1 w' from pack_no (v := x.v) hx.1 hg w1)
  go_wp2_with (first | (refine wpList_load_blk rfl 27 _ rfl w.heap.size 0 19 rfl 27 x.cells _ Z0.out Try.underlying27 rfl (by kernel_rfl) (by rw [hx19.out]; omega) x.cells (by rw [List.drop_zero, List.take_of_length_le (by rw [hx19.out]; omega)]) ?_))
  refine PK.out.mono ?_
  rintro e w2 ⟨rfl, hb⟩
  have B2 := Lib.hid (B0.out.trans (hb.mono (by omega)))
  clear hb PK
  go_wp2_with fail
  go_ret
  exact ⟨rfl, B2.out⟩
theorem good_nat {x : Rc} (h : x.Good) : Ok x.k (x.a.toNat : Nat) ∧ x.cells = recV x.k x.v (x.a.toNat : Nat) x.l := by
  have h0 : 0 ≤ x.a := by unfold Rc.Good Ok at h; omega
  have e : ((x.a.toNat : Nat) : Int) = x.a := Int.toNat_of_nonneg h0
  rw [e]
  exact ⟨h, rfl⟩
set_option maxHeartbeats 1000000 in
theorem append_off (h : RamAt w br bm size v B) (hp : PowAt w bm p) (hx : x.Valid) (hg' : x.Good) (hoff : p.off = true) : Calls Try.prog 12 #[.pointer (some ⟨br, 0, none⟩), .agg x.cells.toArray] w fun e w' => e = .returned (.int .i64 4) ∧ Below w.heap.size w w' := by
  obtain ⟨hg, hcells⟩ := good_nat hg'
  have HCE := Lib.hid hcells
  clear hcells
  have hbr := h.head.lt
  have hx19 := Lib.hid (Rc.len hx)
  have Z0 := Lib.hid (blk_at (w := w) (g := w.heap.size) (cs := x.cells) (t := 27) (arr := x.cells.toArray) rfl rfl)
  have b0 : Below w.heap.size w (w.alloc (.cells x.cells.toArray 27)) := (Below.refl _ _).alloc (Nat.le_refl _) _
  have H0 := Lib.hid (h.below b0)
  have P0 := Lib.hid (hp.only (Only.of_below (S := []) b0) (by simp))
  have B0 := Lib.hid b0
  have hs0 : w.heap.size < (w.alloc (.cells x.cells.toArray 27)).heap.size := by simp
  have hbm := hp.lt
  have OWN := Lib.hid (fun g hg => own_lt h.own (g := g) hg)
  clear h hp b0
  go_enter Try.func12, Try.ntmps12
  go_upto_region 1 with (fail)
  obtain ⟨w1, hw1⟩ : ∃ w1, w1 = w.alloc (.cells x.cells.toArray 27) := ⟨_, rfl⟩
  rw [← hw1] at Z0 H0 P0 B0 hs0 ⊢
  clear hw1
  have PK0 := pack_yes (k := x.k) (v := x.v) (a := x.a.toNat) hx.1 hx.2.1 hg w1.heap.size w1 (Nat.le_refl _)
  rw [← HCE.out] at PK0
  have PK := Lib.hid PK0
  clear PK0 HCE
  go_wp2_with (first | (refine wpList_load_blk rfl 27 _ rfl w.heap.size 0 19 rfl 27 x.cells _ Z0.out Try.underlying27 rfl (by kernel_rfl) (by rw [hx19.out]; omega) x.cells (by rw [List.drop_zero, List.take_of_length_le (by rw [hx19.out]; omega)]) ?_))
  refine PK.out.mono ?_
  rintro e w2 ⟨pv, rfl, ho, hb⟩
  obtain ⟨pa, pc, rfl, hbt⟩ := OwnB.bts_own (by rw [List.length_append, rec33_len _ _ _ _ hx.1, be_len]) ho
  have PB := Lib.hid (fun (g o : Nat) (e : pa = some ⟨g, o, none⟩) => (own_lt ho (g := g) (by rw [e]; rfl)).1)
  have BT := Lib.hid (show Bts w2 pa 37 pc x.bytes from hbt)
  have H2 := Lib.hid (H0.out.below hb)
  have P2 := Lib.hid (P0.out.only (Only.of_below (S := []) hb) (by simp))
  have B2 := Lib.hid (B0.out.trans (hb.mono (by omega)))
  have hs2 := hb.size
  have h37 := hbt.2.1
  clear ho hb hbt PK Z0 H0 P0 B0
  have c0 := H2.out.c0
  have ON := Lib.hid (on_any bm p w2 P2.out)
  rw [hoff] at ON
  clear hoff
  go_wp2_with (first | (go_at_call 14; refine ON.out.mono ?_; rintro e w' ⟨rfl, rfl⟩))
  go_ret
  exact ⟨rfl, B2.out⟩
set_option maxHeartbeats 1000000 in
theorem append_full (h : RamAt w br bm size v B) (hp : PowAt w bm p) (hx : x.Valid) (hg' : x.Good) (hoff : p.off = false) (hful : size - B.length < 37) : Calls Try.prog 12 #[.pointer (some ⟨br, 0, none⟩), .agg x.cells.toArray] w fun e w' => e = .returned (.int .i64 9) ∧ Below w.heap.size w w' := by
  obtain ⟨hg, hcells⟩ := good_nat hg'
  have HCE := Lib.hid hcells
  clear hcells
  have hbr := h.head.lt
  have hx19 := Lib.hid (Rc.len hx)
  have Z0 := Lib.hid (blk_at (w := w) (g := w.heap.size) (cs := x.cells) (t := 27) (arr := x.cells.toArray) rfl rfl)
  have b0 : Below w.heap.size w (w.alloc (.cells x.cells.toArray 27)) := (Below.refl _ _).alloc (Nat.le_refl _) _
  have H0 := Lib.hid (h.below b0)
  have P0 := Lib.hid (hp.only (Only.of_below (S := []) b0) (by simp))
  have B0 := Lib.hid b0
  have hs0 : w.heap.size < (w.alloc (.cells x.cells.toArray 27)).heap.size := by simp
  have hbm := hp.lt
  have OWN := Lib.hid (fun g hg => own_lt h.own (g := g) hg)
  clear h hp b0
  go_enter Try.func12, Try.ntmps12
  go_upto_region 1 with (fail)
  obtain ⟨w1, hw1⟩ : ∃ w1, w1 = w.alloc (.cells x.cells.toArray 27) := ⟨_, rfl⟩
  rw [← hw1] at Z0 H0 P0 B0 hs0 ⊢
  clear hw1
  have PK0 := pack_yes (k := x.k) (v := x.v) (a := x.a.toNat) hx.1 hx.2.1 hg w1.heap.size w1 (Nat.le_refl _)
  rw [← HCE.out] at PK0
  have PK := Lib.hid PK0
  clear PK0 HCE
  go_wp2_with (first | (refine wpList_load_blk rfl 27 _ rfl w.heap.size 0 19 rfl 27 x.cells _ Z0.out Try.underlying27 rfl (by kernel_rfl) (by rw [hx19.out]; omega) x.cells (by rw [List.drop_zero, List.take_of_length_le (by rw [hx19.out]; omega)]) ?_))
  refine PK.out.mono ?_
  rintro e w2 ⟨pv, rfl, ho, hb⟩
  obtain ⟨pa, pc, rfl, hbt⟩ := OwnB.bts_own (by rw [List.length_append, rec33_len _ _ _ _ hx.1, be_len]) ho
  have PB := Lib.hid (fun (g o : Nat) (e : pa = some ⟨g, o, none⟩) => (own_lt ho (g := g) (by rw [e]; rfl)).1)
  have BT := Lib.hid (show Bts w2 pa 37 pc x.bytes from hbt)
  have H2 := Lib.hid (H0.out.below hb)
  have P2 := Lib.hid (P0.out.only (Only.of_below (S := []) hb) (by simp))
  have B2 := Lib.hid (B0.out.trans (hb.mono (by omega)))
  have hs2 := hb.size
  have h37 := hbt.2.1
  clear ho hb hbt PK Z0 H0 P0 B0
  have c0 := H2.out.c0
  have ON := Lib.hid (on_any bm p w2 P2.out)
  rw [hoff] at ON
  have RM := Lib.hid (room_any H2.out)
  rw [show (size - B.length) / 37 = 0 from by omega] at RM
  clear hoff hful
  go_wp2_with (first | (go_at_call 14; refine ON.out.mono ?_; rintro e w' ⟨rfl, rfl⟩))
  refine RM.out.mono ?_
  rintro e w3 ⟨rfl, nd, rfl⟩
  go_wp2_with fail
  go_ret
  exact ⟨rfl, below_drewN B2.out nd⟩
set_option maxHeartbeats 2000000 in
theorem append_yes (h : RamAt w br bm size v B) (hp : PowAt w bm p) (hpo : p.Ok) (hx : x.Valid) (hg' : x.Good) (hoff : p.off = false) (hful : 37 ≤ size - B.length) (hst : p.step.1 = true) : Calls Try.prog 12 #[.pointer (some ⟨br, 0, none⟩), .agg x.cells.toArray] w fun e w' => e = .returned (.int .i64 0) ∧ ∃ v', RamAt w' br bm size v' (B ++ x.bytes) ∧ PowAt w' bm p.step.2 ∧ (∀ g, v'.ownBlock = some g → v.ownBlock = some g ∨ w.heap.size ≤ g) ∧ Only [br, bm, blkOf v br] w w' := by
  obtain ⟨hg, hcells⟩ := good_nat hg'
  have HCE := Lib.hid hcells
  clear hcells
  have hbr := h.head.lt
  have hx19 := Lib.hid (Rc.len hx)
  have Z0 := Lib.hid (blk_at (w := w) (g := w.heap.size) (cs := x.cells) (t := 27) (arr := x.cells.toArray) rfl rfl)
  have b0 : Below w.heap.size w (w.alloc (.cells x.cells.toArray 27)) := (Below.refl _ _).alloc (Nat.le_refl _) _
  have H0 := Lib.hid (h.below b0)
  have P0 := Lib.hid (hp.only (Only.of_below (S := []) b0) (by simp))
  have B0 := Lib.hid b0
  have hs0 : w.heap.size < (w.alloc (.cells x.cells.toArray 27)).heap.size := by simp
  have hbm := hp.lt
  have OWN := Lib.hid (fun g hg => own_lt h.own (g := g) hg)
  clear h hp b0
  go_enter Try.func12, Try.ntmps12
  go_upto_region 1 with (fail)
  obtain ⟨w1, hw1⟩ : ∃ w1, w1 = w.alloc (.cells x.cells.toArray 27) := ⟨_, rfl⟩
  rw [← hw1] at Z0 H0 P0 B0 hs0 ⊢
  clear hw1
  have PK0 := pack_yes (k := x.k) (v := x.v) (a := x.a.toNat) hx.1 hx.2.1 hg w1.heap.size w1 (Nat.le_refl _)
  rw [← HCE.out] at PK0
  have PK := Lib.hid PK0
  clear PK0 HCE
  go_wp2_with (first | (refine wpList_load_blk rfl 27 _ rfl w.heap.size 0 19 rfl 27 x.cells _ Z0.out Try.underlying27 rfl (by kernel_rfl) (by rw [hx19.out]; omega) x.cells (by rw [List.drop_zero, List.take_of_length_le (by rw [hx19.out]; omega)]) ?_))
  refine PK.out.mono ?_
  rintro e w2 ⟨pv, rfl, ho, hb⟩
  obtain ⟨pa, pc, rfl, hbt⟩ := OwnB.bts_own (by rw [List.length_append, rec33_len _ _ _ _ hx.1, be_len]) ho
  have PB := Lib.hid (fun (g o : Nat) (e : pa = some ⟨g, o, none⟩) => (own_lt ho (g := g) (by rw [e]; rfl)).1)
  have BT := Lib.hid (show Bts w2 pa 37 pc x.bytes from hbt)
  have H2 := Lib.hid (H0.out.below hb)
  have P2 := Lib.hid (P0.out.only (Only.of_below (S := []) hb) (by simp))
  have B2 := Lib.hid (B0.out.trans (hb.mono (by omega)))
  have hs2 := hb.size
  have h37 := hbt.2.1
  clear ho hb hbt PK Z0 H0 P0 B0
  have c0 := H2.out.c0
  have ON := Lib.hid (on_any bm p w2 P2.out)
  rw [hoff] at ON
  have RM := Lib.hid (room_any H2.out)
  have hrm : 1 ≤ (size - B.length) / 37 := by omega
  obtain ⟨rm, hrmv⟩ : ∃ rm, rm = (size - B.length) / 37 := ⟨_, rfl⟩
  rw [← hrmv] at RM hrm
  have hrm1 : (1 : Int) ≤ (rm : Int) := by omega
  clear hoff hrmv
  go_wp2_with (first | (go_at_call 14; refine ON.out.mono ?_; rintro e w' ⟨rfl, rfl⟩))
  refine RM.out.mono ?_
  rintro e w3 ⟨rfl, nd, rfl⟩
  have P3 := Lib.hid (show PowAt (w2.drewN nd) bm p from P2.out)
  have c03 : (w2.drewN nd).cell? ⟨br, 0, none⟩ = some (.pointer (some ⟨bm, 0, none⟩)) := c0
  have SP := Lib.hid (step_any bm p _ P3.out hpo)
  rw [hst] at SP
  clear hst c0 RM ON
  go_wp2_with fail
  refine SP.out.mono ?_
  rintro e w4 ⟨rfl, p4, o4⟩
  have hbm' := H2.out.lt
  have H4 := Lib.hid (show RamAt w4 br bm size v B from RamAt.only (w := w2.drewN nd) (S := [bm]) { H2.out with head := H2.out.head, own := H2.out.own } o4 (by simp; omega) (fun g hg => by have := (OWN.out g hg).1; simp; omega))
  have P4 := Lib.hid p4
  have BT4 := Lib.hid (show Bts w4 pa 37 pc x.bytes from by
    obtain ⟨q1, q2, q3, q4⟩ := BT.out
    refine ⟨q1, q2, q3, ?_⟩
    rcases q4 with q4 | ⟨gb, og, ea, hc⟩
    · exact .inl q4
    · exact .inr ⟨gb, og, ea, fun i u hu => by
        have h0 := hc i u hu
        have hlt : gb < w2.heap.size := block_lt_of_cell h0
        exact (World.cell?_of_block (w := w2.drewN nd) (o4.block gb hlt (by have := PB.out gb og ea; simp; omega))).trans h0⟩)
  have O4 := Lib.hid (show Only [br, bm, blkOf v br] w w4 from ((Only.of_below (S := [br, bm, blkOf v br]) B2.out).drewN nd).trans (o4.mono (by simp)))
  have hs4 := o4.size
  have hs4' : w2.heap.size ≤ w4.heap.size := hs4
  clear p4 o4 SP P3 c03 H2 P2 BT B2
  have c2 := H4.out.c2
  have f2 := H4.out.head.frozen 2
  go_upto_region 13 with (fail)
  obtain ⟨v', w5, hr5, ho5, hg5, hv5⟩ := run_append_any_at (P := Try.prog) w4 (br + 1) 46 46 5 (.int .u8 0) 1 1 Try.underlying46 OwnB.infou8 rfl (by decide) v B.length (bv B) H4.out.own pa 37 pc (bv x.bytes) (OwnB.src_bts BT4.out) (by have := H4.out.len; have := H4.out.hi; omega) (by have := H4.out.len; have := H4.out.hi; unfold maxLen; omega) (by have := H4.out.head.lt; omega)
  obtain ⟨va, vcap, rfl, _, _, _⟩ := own_slice ho5 (by decide)
  have hne5 : ∀ k, v.ownBlock = some k → br ≠ k := fun k hk => by have := (OWN.out k hk).1; omega
  have hnm5 : ∀ k, v.ownBlock = some k → bm ≠ k := fun k hk => by have := (OWN.out k hk).1; omega
  have HH5 := Lib.hid (H4.out.head.grownO hg5 hne5)
  have P5 := Lib.hid (show PowAt w5 bm p.step.2 from Blk.grownO P4.out hg5 hnm5)
  have c2a : w4.cell? ⟨br, 2, none⟩ = some v := c2
  have c2b : w5.cell? ⟨br, 2, none⟩ = some v := HH5.out.cell 2
  have f2b := HH5.out.frozen 2
  have HR5 := Lib.hid hr5
  have HO5 := Lib.hid ho5
  have HG5 := Lib.hid hg5
  have HV5 := Lib.hid hv5
  have HS4 := Lib.hid hs4'
  clear hr5 ho5 hg5 hv5 hne5 hnm5 c2 f2 hs4
  go_wp2_with (first | (refine wpList_world_gg rfl _ (exec_append _ _ rfl rfl rfl HR5.out) ?_))
  go_ret
  have hB5 := HO5.out
  exact ⟨rfl, _, { head := HH5.out.setCell 2 _, own := own_only (by rw [bv_append, List.length_append, Rc.bytes_len hx]; exact hB5) ((Only.refl [br] w5).setCell (by simp) _ _) (fun g hg => by have := (own_lt hB5 hg).1; simp; omega), lt := H4.out.lt, lo := H4.out.lo, hi := H4.out.hi, len := by rw [List.length_append, Rc.bytes_len hx]; omega },
    Blk.setCell_far P5.out (by omega) _ _, fun g hg => by
      rcases HV5.out with e | e
      · exact .inl (e ▸ hg)
      · rw [e] at hg; cases hg; right; have := HS4.out; show w.heap.size ≤ w4.heap.size; omega,
    ((O4.out.trans ((only_grown (d := br) HG5.out).mono (by simp))).setCell (by simp) _ _)⟩
set_option maxHeartbeats 2000000 in
theorem append_torn (h : RamAt w br bm size v B) (hp : PowAt w bm p) (hpo : p.Ok) (hx : x.Valid) (hg' : x.Good) (hoff : p.off = false) (hful : 37 ≤ size - B.length) (hst : p.step.1 = false) : Calls Try.prog 12 #[.pointer (some ⟨br, 0, none⟩), .agg x.cells.toArray] w fun e w' => e = .returned (.int .i64 4) ∧ ∃ v', RamAt w' br bm size v' (B ++ x.bytes.take 18) ∧ PowAt w' bm p.step.2 ∧ (∀ g, v'.ownBlock = some g → v.ownBlock = some g ∨ w.heap.size ≤ g) ∧ Only [br, bm, blkOf v br] w w' := by
  obtain ⟨hg, hcells⟩ := good_nat hg'
  have HCE := Lib.hid hcells
  clear hcells
  have hbr := h.head.lt
  have hx19 := Lib.hid (Rc.len hx)
  have Z0 := Lib.hid (blk_at (w := w) (g := w.heap.size) (cs := x.cells) (t := 27) (arr := x.cells.toArray) rfl rfl)
  have b0 : Below w.heap.size w (w.alloc (.cells x.cells.toArray 27)) := (Below.refl _ _).alloc (Nat.le_refl _) _
  have H0 := Lib.hid (h.below b0)
  have P0 := Lib.hid (hp.only (Only.of_below (S := []) b0) (by simp))
  have B0 := Lib.hid b0
  have hs0 : w.heap.size < (w.alloc (.cells x.cells.toArray 27)).heap.size := by simp
  have hbm := hp.lt
  have OWN := Lib.hid (fun g hg => own_lt h.own (g := g) hg)
  clear h hp b0
  go_enter Try.func12, Try.ntmps12
  go_upto_region 1 with (fail)
  obtain ⟨w1, hw1⟩ : ∃ w1, w1 = w.alloc (.cells x.cells.toArray 27) := ⟨_, rfl⟩
  rw [← hw1] at Z0 H0 P0 B0 hs0 ⊢
  clear hw1
  have PK0 := pack_yes (k := x.k) (v := x.v) (a := x.a.toNat) hx.1 hx.2.1 hg w1.heap.size w1 (Nat.le_refl _)
  rw [← HCE.out] at PK0
  have PK := Lib.hid PK0
  clear PK0 HCE
  go_wp2_with (first | (refine wpList_load_blk rfl 27 _ rfl w.heap.size 0 19 rfl 27 x.cells _ Z0.out Try.underlying27 rfl (by kernel_rfl) (by rw [hx19.out]; omega) x.cells (by rw [List.drop_zero, List.take_of_length_le (by rw [hx19.out]; omega)]) ?_))
  refine PK.out.mono ?_
  rintro e w2 ⟨pv, rfl, ho, hb⟩
  obtain ⟨pa, pc, rfl, hbt⟩ := OwnB.bts_own (by rw [List.length_append, rec33_len _ _ _ _ hx.1, be_len]) ho
  have PB := Lib.hid (fun (g o : Nat) (e : pa = some ⟨g, o, none⟩) => (own_lt ho (g := g) (by rw [e]; rfl)).1)
  have BT := Lib.hid (show Bts w2 pa 37 pc x.bytes from hbt)
  have H2 := Lib.hid (H0.out.below hb)
  have P2 := Lib.hid (P0.out.only (Only.of_below (S := []) hb) (by simp))
  have B2 := Lib.hid (B0.out.trans (hb.mono (by omega)))
  have hs2 := hb.size
  have h37 := hbt.2.1
  clear ho hb hbt PK Z0 H0 P0 B0
  have c0 := H2.out.c0
  have ON := Lib.hid (on_any bm p w2 P2.out)
  rw [hoff] at ON
  have RM := Lib.hid (room_any H2.out)
  have hrm : 1 ≤ (size - B.length) / 37 := by omega
  obtain ⟨rm, hrmv⟩ : ∃ rm, rm = (size - B.length) / 37 := ⟨_, rfl⟩
  rw [← hrmv] at RM hrm
  have hrm1 : (1 : Int) ≤ (rm : Int) := by omega
  clear hoff hrmv
  go_wp2_with (first | (go_at_call 14; refine ON.out.mono ?_; rintro e w' ⟨rfl, rfl⟩))
  refine RM.out.mono ?_
  rintro e w3 ⟨rfl, nd, rfl⟩
  have P3 := Lib.hid (show PowAt (w2.drewN nd) bm p from P2.out)
  have c03 : (w2.drewN nd).cell? ⟨br, 0, none⟩ = some (.pointer (some ⟨bm, 0, none⟩)) := c0
  have SP := Lib.hid (step_any bm p _ P3.out hpo)
  rw [hst] at SP
  clear hst c0 RM ON
  go_wp2_with fail
  refine SP.out.mono ?_
  rintro e w4 ⟨rfl, p4, o4⟩
  have hbm' := H2.out.lt
  have H4 := Lib.hid (show RamAt w4 br bm size v B from RamAt.only (w := w2.drewN nd) (S := [bm]) { H2.out with head := H2.out.head, own := H2.out.own } o4 (by simp; omega) (fun g hg => by have := (OWN.out g hg).1; simp; omega))
  have P4 := Lib.hid p4
  have BT4 := Lib.hid (show Bts w4 pa 37 pc x.bytes from by
    obtain ⟨q1, q2, q3, q4⟩ := BT.out
    refine ⟨q1, q2, q3, ?_⟩
    rcases q4 with q4 | ⟨gb, og, ea, hc⟩
    · exact .inl q4
    · exact .inr ⟨gb, og, ea, fun i u hu => by
        have h0 := hc i u hu
        have hlt : gb < w2.heap.size := block_lt_of_cell h0
        exact (World.cell?_of_block (w := w2.drewN nd) (o4.block gb hlt (by have := PB.out gb og ea; simp; omega))).trans h0⟩)
  have O4 := Lib.hid (show Only [br, bm, blkOf v br] w w4 from ((Only.of_below (S := [br, bm, blkOf v br]) B2.out).drewN nd).trans (o4.mono (by simp)))
  have hs4 := o4.size
  have hs4' : w2.heap.size ≤ w4.heap.size := hs4
  clear p4 o4 SP P3 c03 H2 P2 BT B2
  have c2 := H4.out.c2
  have f2 := H4.out.head.frozen 2
  go_upto_region 11 with (fail)
  obtain ⟨v', w5, hr5, ho5, hg5, hv5⟩ := run_append_any_at (P := Try.prog) w4.drew (br + 1) 46 46 5 (.int .u8 0) 1 1 Try.underlying46 OwnB.infou8 rfl (by decide) v B.length (bv B) H4.out.own (shifted pa 0 pc) 18 pc (bv (x.bytes.take 18)) (OwnB.src_bts (bts_to BT4.out (by decide))) (by have := H4.out.len; have := H4.out.hi; omega) (by have := H4.out.len; have := H4.out.hi; unfold maxLen; omega) (by have := H4.out.head.lt; show br + 1 ≤ w4.heap.size; omega)
  obtain ⟨va, vcap, rfl, _, _, _⟩ := own_slice ho5 (by decide)
  have hne5 : ∀ k, v.ownBlock = some k → br ≠ k := fun k hk => by have := (OWN.out k hk).1; omega
  have hnm5 : ∀ k, v.ownBlock = some k → bm ≠ k := fun k hk => by have := (OWN.out k hk).1; omega
  have HH5 := Lib.hid (H4.out.head.drew.grownO hg5 hne5)
  have P5 := Lib.hid (show PowAt w5 bm p.step.2 from Blk.grownO (Blk.drew P4.out) hg5 hnm5)
  have c2a : w4.drew.cell? ⟨br, 2, none⟩ = some v := c2
  have c2b : w5.cell? ⟨br, 2, none⟩ = some v := HH5.out.cell 2
  have f2b := HH5.out.frozen 2
  have HR5 := Lib.hid hr5
  have HO5 := Lib.hid ho5
  have HG5 := Lib.hid hg5
  have HV5 := Lib.hid hv5
  have HS4 := Lib.hid hs4'
  clear hr5 ho5 hg5 hv5 hne5 hnm5 c2 f2 hs4
  refine InvL.wp_region_inv_tail (fun d w' => At 7 (fun w' => w' = w4.drew) (fun w' => w' = w5) d w') 10 (by kernel_rfl) (by kernel_rfl) ?hI ?_
  case hI => exact At.start (by rfl) rfl
  simp only [List.take_succ_cons, List.take_zero, List.drop_succ_cons, List.drop_zero]
  refine invl_value (.pointer (some ⟨br, 0, none⟩)) rfl (fun d w' h => by go_simp; all_goals rfl) (fun d w' _ h => At.keep (by decide) id id h) ?_
  simp only [Act.put, List.setIfInBounds_toArray, List.set_cons_zero, List.set_cons_succ]
  refine invl_value (.pointer (some ⟨br, 0, none⟩)) rfl (fun d w' h => by go_simp; all_goals rfl) (fun d w' _ h => At.keep (by decide) id id h) ?_
  simp only [Act.put, List.setIfInBounds_toArray, List.set_cons_zero, List.set_cons_succ]
  refine invl_value (.pointer (some ⟨br, 0, none⟩)) rfl (fun d w' h => by go_simp; all_goals rfl) (fun d w' _ h => At.keep (by decide) id id h) ?_
  simp only [Act.put, List.setIfInBounds_toArray, List.set_cons_zero, List.set_cons_succ]
  refine invl_value (.pointer (some ⟨br, 2, none⟩)) rfl (fun d w' h => by go_simp; all_goals rfl) (fun d w' _ h => At.keep (by decide) id id h) ?_
  simp only [Act.put, List.setIfInBounds_toArray, List.set_cons_zero, List.set_cons_succ]
  refine invl_value v rfl (fun d w' h => by rcases at_or h with h | h <;> subst h <;> go_simp <;> rfl) (fun d w' _ h => At.keep (by decide) id id h) ?_
  simp only [Act.put, List.setIfInBounds_toArray, List.set_cons_zero, List.set_cons_succ]
  refine invl_value (.slice pa 37 pc) rfl (fun d w' h => by go_simp; all_goals rfl) (fun d w' _ h => At.keep (by decide) id id h) ?_
  simp only [Act.put, List.setIfInBounds_toArray, List.set_cons_zero, List.set_cons_succ]
  refine invl_value (.slice (shifted pa 0 pc) 18 pc) rfl (fun d w' h => exec_slice rfl (slice_to w' pa 37 pc 18 .i64 (by have := BT4.out.2.1; omega))) (fun d w' _ h => At.keep (by decide) id id h) ?_
  simp only [Act.put, List.setIfInBounds_toArray, List.set_cons_zero, List.set_cons_succ]
  refine invl_world (.slice va _ vcap) rfl (fun d w' hd h => ⟨w5, by have e := h.before hd; subst e; exact exec_append _ _ rfl rfl rfl HR5.out, At.now hd rfl⟩) ?_
  simp only [Act.put, List.setIfInBounds_toArray, List.set_cons_zero, List.set_cons_succ]
  refine invl_value (.pointer (some ⟨br, 0, none⟩)) rfl (fun d w' h => by go_simp; all_goals rfl) (fun d w' _ h => At.keep (by decide) id id h) ?_
  simp only [Act.put, List.setIfInBounds_toArray, List.set_cons_zero, List.set_cons_succ]
  refine invl_value (.pointer (some ⟨br, 2, none⟩)) rfl (fun d w' h => by go_simp; all_goals rfl) (fun d w' _ h => At.keep (by decide) id id h) ?_
  simp only [Act.put, List.setIfInBounds_toArray, List.set_cons_zero, List.set_cons_succ]
  refine invl_nil fun w6 hI => ?_
  have e6 := hI.done (by rfl)
  subst e6
  go_wp2
  go_ret
  have hB5 := HO5.out
  exact ⟨rfl, _, { head := HH5.out.setCell 2 _, own := own_only (by rw [bv_append, List.length_append, List.length_take, Rc.bytes_len hx]; exact hB5) ((Only.refl [br] w6).setCell (by simp) _ _) (fun g hg => by have := (own_lt hB5 hg).1; simp; omega), lt := H4.out.lt, lo := H4.out.lo, hi := H4.out.hi, len := by rw [List.length_append, List.length_take, Rc.bytes_len hx]; have := H4.out.len; omega },
    Blk.setCell_far P5.out (by omega) _ _, fun g hg => by
      rcases HV5.out with e | e
      · exact .inl (e ▸ hg)
      · rw [e] at hg; cases hg; right; have := HS4.out; show w.heap.size ≤ w4.heap.size; omega,
    ((O4.out.drew.trans ((only_grown (d := br) HG5.out).mono (by simp))).setCell (by simp) _ _)⟩
end
end Go.Proofs.Ytobblbplanimgaa.Nvram
/-
  SameRecords of the reference by contract. Helper text; no statement is proved here.
-/
set_option linter.unusedVariables false
set_option maxRecDepth 20000
set_option linter.unusedSimpArgs false
namespace Go.Proofs.Ytobblbplanimgaa.Codec
open Go.RowKit Go.Proofs.Ytobblbplanimgaa.Base Go.Proofs.Ytobblbplanimgaa.Laws Go.Proofs.Ytobblbplanimgaa.InvM
theorem rec_at {w : World} {b o : Nat} {rs : List Rc} (hv : ∀ r ∈ rs, r.Valid) (hc : ∀ j u, (rv rs)[j]? = some u → w.cell? ⟨b, o + j, none⟩ = some u) {i : Nat} {r : Rc} (hr : rs[i]? = some r) : ∀ j u, r.cells[j]? = some u → w.cell? ((⟨b, o + i * 19, none⟩ : Addr).add j) = some u := fun j u hu => by
  rw [Addr.add_lit, Nat.add_assoc]
  exact hc _ u (rv_get hv i r hr j u hu)
set_option maxRecDepth 4000 in
set_option maxHeartbeats 2000000 in
theorem same_recs (a : Option Addr) (n c : Nat) (la : List Rc) (b : Option Addr) (m d : Nat) (lb : List Rc) (w : World) (ha : Recs w a n c la) (hb : Recs w b m d lb) :
    Calls Try.prog 16 #[.slice a n c, .slice b m d] w fun e w' => e = .returned (.bool (decide (la = lb))) ∧ ∃ nd, w' = w.drewN nd := by
  obtain ⟨h1, h2, h3, h5, h4⟩ := ha
  obtain ⟨g1, g2, g3, g5, g4⟩ := hb
  unfold maxLen at h3 g3
  by_cases hnm : n = m
  · subst hnm
    have HL := Lib.hid (show la.length = lb.length by omega)
    have HV := Lib.hid h5
    have GV := Lib.hid g5
    by_cases h0 : n = 0
    · subst h0
      have e : la = lb := by rw [List.eq_nil_of_length_eq_zero h1, List.eq_nil_of_length_eq_zero g1]
      have HE := Lib.hid e
      clear h4 g4 h5 g5 e
      go_enter Try.func16, Try.ntmps16
      go_wp2
      refine wp_loop_rounds 1 ?_
      rw [rounds_succ]
      go_wp2
      go_ret
      exact ⟨ret_bool (decide_eq_true HE.out).symm, 0, rfl⟩
    rcases h4 with h4 | ⟨p, o, rfl, hc⟩
    · omega
    rcases g4 with g4 | ⟨q, u, rfl, gc⟩
    · omega
    have HA := Lib.hid hc
    have HB := Lib.hid gc
    clear hc gc h5 g5
    go_enter Try.func16, Try.ntmps16
    go_wp2
    go_loopw [5] (fun i wr => ∃ k nd : Nat, k ≤ n ∧ i = .int .i64 k ∧ la.take k = lb.take k ∧ wr = w.drewN nd) (fun i _ => n - (intOf i).toNat)
    case atStart => exact ⟨0, 0, by omega, rfl, rfl, rfl⟩
    case round =>
      obtain ⟨k, nd, hk, rfl, ht, rfl⟩ := hrel
      have HT := Lib.hid ht
      clear ht
      by_cases hkn : k < n
      · obtain ⟨x, hx⟩ : ∃ x, la[k]? = some x := ⟨_, List.getElem?_eq_getElem (by omega)⟩
        obtain ⟨y, hy⟩ : ∃ x, lb[k]? = some x := ⟨_, List.getElem?_eq_getElem (by omega)⟩
        have xv := HV.out x (List.mem_of_getElem? hx)
        have yv := GV.out y (List.mem_of_getElem? hy)
        have X1 := Lib.hid (take_snoc la k x hx)
        have Y1 := Lib.hid (take_snoc lb k y hy)
        have XC := Lib.hid (rec_at HV.out HA.out hx)
        have YC := Lib.hid (rec_at GV.out HB.out hy)
        have XL := Lib.hid (Rc.len xv)
        have YL := Lib.hid (Rc.len yv)
        have XE := Lib.hid (Rc.eq xv yv)
        have XG := Lib.hid hx
        have YG := Lib.hid hy
        clear hx hy xv yv
        go_wp2
        refine wp_region_still_tail 8 (by kernel_rfl) (by kernel_rfl) ?_
        simp only [List.take_succ_cons, List.take_zero, List.drop_succ_cons, List.drop_zero]
        still_step
        still_step
        still_step
        refine wpStill_value rfl (.agg x.cells.toArray) (exec_load_from (m := 19) rfl rfl XC.out Try.underlying27 rfl (by kernel_rfl) XL.out) ?_
        still_step
        still_step
        still_step
        refine wpStill_value rfl (.agg y.cells.toArray) (exec_load_from (m := 19) rfl rfl YC.out Try.underlying27 rfl (by kernel_rfl) YL.out) ?_
        refine wpStill_nil ?_
        change wpList _ _ _ _ _ (w.drewN nd).drew
        rw [World.drew_drewN]
        by_cases hxy : x = y
        · refine wpList_value_g rfl (.bool (!true)) (exec_neq rfl rfl rfl (by kernel_rfl) ((XE.out (w.drewN (nd + 1))).trans (by rw [decide_eq_true hxy]))) ?_
          simp only [Bool.not_true, Bool.not_false]
          go_wp2
          go_roundw
          case rel => exact ⟨k + 1, nd + 1, by omega, by go_num, by rw [X1.out, Y1.out, HT.out, hxy], rfl⟩
          case measure => simp [intOf]; omega
        · refine wpList_value_g rfl (.bool (!false)) (exec_neq rfl rfl rfl (by kernel_rfl) ((XE.out (w.drewN (nd + 1))).trans (by rw [decide_eq_false hxy]))) ?_
          simp only [Bool.not_true, Bool.not_false]
          go_wp2
          go_ret
          refine ⟨ret_bool (decide_eq_false fun e => hxy ?_).symm, nd + 1, rfl⟩
          have := XG.out
          rw [e, YG.out] at this
          exact (Option.some.inj this).symm
      · go_wp2
        go_ret
        exact ⟨ret_bool (decide_eq_true (Same.take_eq_of HL.out (by omega) HT.out)).symm, _, rfl⟩
  · have HN := Lib.hid (show la ≠ lb from fun e => by subst e; omega)
    have hnm' : ¬ ((n : Int) = m) := by omega
    clear h4 g4 h5 g5
    go_enter Try.func16, Try.ntmps16
    go_wp2
    go_ret
    exact ⟨ret_bool (decide_eq_false HN.out).symm, 0, rfl⟩
end Go.Proofs.Ytobblbplanimgaa.Codec
/-
  Trim and Load of a memory by contract. Helper text; no statement is proved here.
-/
set_option linter.unusedVariables false
set_option maxRecDepth 20000
set_option linter.unusedSimpArgs false
namespace Go.Proofs.Ytobblbplanimgaa.Nvram
open Go.RowKit Go.Proofs.Ytobblbplanimgaa.Base Go.Proofs.Ytobblbplanimgaa.Laws Go.Proofs.Ytobblbplanimgaa.Disk Go.Proofs.Ytobblbplanimgaa.Row Go.Proofs.Ytobblbplanimgaa.Codec Go.Proofs.Ytobblbplanimgaa.InvL Go.Proofs.Ytobblbplanimgaa.InvM
section
variable {w w' : World} {br bm size : Nat} {v : Value} {B : List UInt8} {p : Pow}
/-- what Append leaves: its answer, the power, the bytes -/
def appR (p : Pow) (size : Nat) (B : List UInt8) (x : Rc) : Nat × Pow × List UInt8 := open Classical in
  if ¬ x.Good then (2, p, B) else if p.off then (4, p, B) else if size - B.length < 37 then (9, p, B) else if p.step.1 then (0, p.step.2, B ++ x.bytes) else (4, p.step.2, B ++ x.bytes.take 18)
/-- the memory behind a call -/
def After (w : World) (br bm size : Nat) (v : Value) (r : Nat × Pow × List UInt8) (e : Ending) (w' : World) : Prop :=
  e = .returned (.int .i64 (r.1 : Int)) ∧ ∃ v', RamAt w' br bm size v' r.2.2 ∧ PowAt w' bm r.2.1 ∧ (∀ g, v'.ownBlock = some g → v.ownBlock = some g ∨ w.heap.size ≤ g) ∧ Only [br, bm, blkOf v br] w w'
theorem append_any (h : RamAt w br bm size v B) (hp : PowAt w bm p) (hpo : p.Ok) {x : Rc} (hx : x.Valid) : Calls Try.prog 12 #[.pointer (some ⟨br, 0, none⟩), .agg x.cells.toArray] w (After w br bm size v (appR p size B x)) := by
  have stay : ∀ k : Nat, (Calls Try.prog 12 #[.pointer (some ⟨br, 0, none⟩), .agg x.cells.toArray] w fun e w' => e = .returned (.int .i64 (k : Int)) ∧ Below w.heap.size w w') → Calls Try.prog 12 #[.pointer (some ⟨br, 0, none⟩), .agg x.cells.toArray] w (After w br bm size v (k, p, B)) :=
    fun k hk => hk.mono fun e w' ⟨h1, h2⟩ => ⟨h1, v, h.below h2, hp.only (Only.of_below (S := []) h2) (by simp), fun g hg => .inl hg, Only.of_below h2⟩
  unfold appR
  by_cases hg : x.Good
  · rw [if_neg (fun hh => hh hg)]
    cases ho : p.off with
    | true => exact stay 4 (append_off h hp hx hg ho)
    | false =>
      simp only [Bool.false_eq_true, if_false]
      by_cases hf : size - B.length < 37
      · rw [if_pos hf]
        exact stay 9 (append_full h hp hx hg ho hf)
      · rw [if_neg hf]
        cases hs : p.step.1 with
        | true => exact (append_yes h hp hpo hx hg ho (by omega) hs).mono fun e w' ⟨h1, v', h2, h3, h4, h5⟩ => ⟨h1, v', h2, h3, h4, h5⟩
        | false => exact (append_torn h hp hpo hx hg ho (by omega) hs).mono fun e w' ⟨h1, v', h2, h3, h4, h5⟩ => ⟨h1, v', h2, h3, h4, h5⟩
  · rw [if_pos hg]
    exact stay 2 (append_bad h hp hx hg)
theorem shifted_zero (g cap : Nat) : shifted (some ⟨g, 0, none⟩) 0 cap = some ⟨g, 0, none⟩ := by
  unfold shifted
  split <;> rfl
theorem trim_any (h : RamAt w br bm size v B) : Calls Try.prog 18 #[.pointer (some ⟨br, 0, none⟩)] w fun e w' => e = .returned (.tuple #[]) ∧ ∃ v', RamAt w' br bm size v' (B.take (37 * (scanAll B).length)) ∧ (∀ g, v'.ownBlock = some g → v.ownBlock = some g) ∧ Only [br] w w' := by
  obtain ⟨a, cap, rfl, hb⟩ := h.slice
  have c0 := h.c0
  have hl := h.len
  have hh := h.hi
  have hbr := h.head.lt
  have SC := Lib.hid (scan_any a B.length cap B w hb (by omega))
  obtain ⟨n, hn⟩ : ∃ n, n = B.length := ⟨_, rfl⟩
  obtain ⟨k, hk⟩ : ∃ k, k = 37 * (scanAll B).length := ⟨_, rfl⟩
  have hkn : k ≤ n := by have := scanAll_len B; omega
  rw [← hk] at SC ⊢
  rw [← hn] at SC
  have H := Lib.hid h
  have HN := Lib.hid hn
  have c2 : w.cell? ⟨br, 2, none⟩ = some (.slice a n cap) := by rw [hn]; exact h.c2
  have hnc : n ≤ cap := by rw [hn]; exact hb.2.1
  clear h hb hn hl hk
  go_enter Try.func18, Try.ntmps18
  go_wp2_with fail
  refine SC.out.mono ?_
  rintro e w1 ⟨r, rfl, ho, hbl⟩
  have H1 := Lib.hid (H.out.below hbl)
  have B1 := Lib.hid hbl
  have d2 : w1.cell? ⟨br, 2, none⟩ = some (.slice a n cap) := by rw [HN.out]; exact H1.out.c2
  have f2 := H1.out.head.frozen 2
  have O1 := Lib.hid (show w1.ownsRow (br + 1) 5 1 (.slice (shifted a 0 cap) k cap) k (bv (B.take k)) from by
    have h0 := H1.out.own
    rw [← HN.out] at h0
    have h1 := own_take h0 k hkn
    have e1 : (bv B).take (k * 1) = bv (B.take k) := by rw [Nat.mul_one]; unfold bv; rw [List.map_take]
    rw [e1] at h1
    rcases h1.2 with ⟨e2, e3⟩ | ⟨g, cp, cur, e2, hr⟩
    · cases e2
      exact ⟨h1.1, .inl ⟨rfl, rfl⟩⟩
    · cases e2
      rw [shifted_zero]
      exact h1)
  clear ho hbl SC c0 c2
  go_wp2_with (first | (refine wpList_value_g rfl _ (exec_slice rfl (slice_to _ a n cap k .i64 (by omega))) ?_))
  go_end0
  refine ⟨rfl, _, H1.out.put (v' := .slice (shifted a 0 cap) k cap) (by rw [List.length_take, ← HN.out, Nat.min_eq_left hkn]; exact O1.out) (by rw [List.length_take, ← HN.out]; have := H.out.len; rw [← HN.out] at this; omega), fun g hg => ?_, ((Only.of_below (S := [br]) B1.out).setCell (by simp) _ _)⟩
  unfold shifted at hg
  cases a with
  | none => split at hg <;> cases hg
  | some ad => split at hg <;> exact hg
end
end Go.Proofs.Ytobblbplanimgaa.Nvram
/-
  The fixed fact of the memories' statements; nil memories. Helper text; no statement is proved here.
-/
set_option linter.unusedVariables false
set_option maxRecDepth 20000
set_option linter.unusedSimpArgs false
namespace Go.Proofs.Ytobblbplanimgaa.Nvram
open Go.RowKit Go.Proofs.Ytobblbplanimgaa.Base Go.Proofs.Ytobblbplanimgaa.Laws Go.Proofs.Ytobblbplanimgaa.Disk Go.Proofs.Ytobblbplanimgaa.Row Go.Proofs.Ytobblbplanimgaa.Codec Go.Proofs.Ytobblbplanimgaa.InvL Go.Proofs.Ytobblbplanimgaa.InvM
/-- a record with a kind and a place alone -/
def Rc.two (k a : Int) : Rc := ⟨k, 0, a, List.replicate 16 0⟩
theorem two_valid {k a : Int} (hk : I64 k) (ha : I64 a) : (Rc.two k a).Valid := ⟨rfl, by show (0 : Nat) < _; decide, hk, ha⟩
theorem two_built (k a : Int) : Try.prog.built 27 [(0, .int .i64 k), (2, .int .i64 a)] = some (Rc.two k a).cells.toArray := by kernel_rfl
section
variable {w : World} {br bm size : Nat} {v : Value} {B : List UInt8} {p : Pow}
theorem used_at (h : RamAt w br bm size v B) (n : Nat) (hn : B.length = n) (nv : Int) (hv : nv = n) : Calls Try.prog 19 #[.pointer (some ⟨br, 0, none⟩)] w fun e w' => e = .returned (.int .i64 nv) ∧ w = w' := by
  subst hv
  subst hn
  exact used_any h
theorem room_at (h : RamAt w br bm size v B) (n : Nat) (hn : (size - B.length) / 37 = n) (nv : Int) (hv : nv = n) : Calls Try.prog 20 #[.pointer (some ⟨br, 0, none⟩)] w fun e w' => e = .returned (.int .i64 nv) ∧ ∃ nd, w' = w.drewN nd := by
  subst hv
  subst hn
  exact room_any h
theorem new_at (hm : PowAt w bm p) (n : Nat) (h1 : 37 ≤ n) (h2 : n ≤ 65536) (nv : Int) (hv : nv = n) : Calls Try.prog 10 #[.int .i64 nv, .pointer (some ⟨bm, 0, none⟩)] w fun e w' => e = .returned (.tuple #[.pointer (some ⟨w.heap.size, 0, none⟩), .int .i64 0]) ∧ RamAt w' w.heap.size bm n (.slice none 0 0) [] ∧ Below w.heap.size w w' ∧ w'.heap.size = w.heap.size + 1 := by
  subst hv
  exact new_ok n h1 h2 hm
end
set_option maxHeartbeats 1000000 in
theorem awake_any (w : World) : Calls Try.prog 8 #[] w fun e w' => e = .returned (.bool true) ∧ Below w.heap.size w w' := by
  go_enter Try.func8, Try.ntmps8
  go_wp2_with fail
  refine (newmains w).mono ?_
  rintro e w1 ⟨rfl, p1, b1, z1⟩
  have NW := Lib.hid (new_at p1 100 (by decide) (by decide) 100 rfl)
  have P1 := Lib.hid p1
  have B1 := Lib.hid b1
  have hs1 : w.heap.size < w1.heap.size := by omega
  clear p1 b1 z1
  go_wp2_with fail
  refine NW.out.mono ?_
  rintro e w2 ⟨rfl, r2, b2, z2⟩
  have P2 := P1.out.only (Only.of_below (S := []) b2) (by simp)
  have B2 := Lib.hid (B1.out.trans (b2.mono (by omega)))
  have AP := Lib.hid (append_yes (x := Rc.two 1 4) r2 P2 ⟨by decide, by decide⟩ (two_valid (by unfold I64; decide) (by unfold I64; decide)) (by unfold Rc.Good Ok; decide) rfl (by decide) rfl)
  have hs2 := b2.size
  clear r2 P2 b2 z2 NW P1 B1
  go_wp2_with (first | (refine wpList_builds rfl 27 _ rfl [(0, .int .i64 1), (2, .int .i64 4)] rfl _ (two_built 1 4) ?_))
  refine AP.out.mono ?_
  rintro e w3 ⟨rfl, v3, r3, p3, _, o3⟩
  have B3 := Lib.hid (B2.out.trans (o3.below (by omega) (by simp [blkOf, Value.ownBlock]; omega)))
  have US := Lib.hid (used_at r3 37 rfl 37 rfl)
  have RM := Lib.hid (room_at r3 1 rfl 1 rfl)
  clear r3 p3 o3 AP
  go_wp2_with (first | (go_at_call 19; refine US.out.mono ?_; rintro e w' ⟨rfl, rfl⟩))
  refine RM.out.mono ?_
  rintro e w4 ⟨rfl, nd, rfl⟩
  go_wp2_with fail
  go_ret
  exact ⟨rfl, below_drewN B3.out nd⟩
end Go.Proofs.Ytobblbplanimgaa.Nvram
/-
  The walk of the statement on nil memories. Helper text; no statement is proved here.
-/
set_option linter.unusedVariables false
set_option maxRecDepth 20000
set_option linter.unusedSimpArgs false
namespace Go.Proofs.Ytobblbplanimgaa.Nvram
open Go.RowKit Go.Proofs.Ytobblbplanimgaa.Base Go.Proofs.Ytobblbplanimgaa.Laws Go.Proofs.Ytobblbplanimgaa.Disk Go.Proofs.Ytobblbplanimgaa.Row Go.Proofs.Ytobblbplanimgaa.Codec Go.Proofs.Ytobblbplanimgaa.InvL Go.Proofs.Ytobblbplanimgaa.InvM
theorem scan_one {x : Rc} (h : x.Valid) (g : x.Good) : scanAll ([] ++ x.bytes) = [x] := by
  have := scan_laid [x] (fun r hr => by simp at hr; subst hr; exact ⟨h, g⟩)
  simpa [laidAll] using this
/-- a row of one record: where it lies -/
theorem own_one {w : World} {base : Nat} {v : Value} {x : Rc} {n : Nat} {l : List Rc} (hv : x.Valid) (hl : l = [x]) (hn : n = l.length) (h : w.ownsRow base 27 19 v n (rv l)) : ∃ g cap cs, v = .slice (some ⟨g, 0, none⟩) 1 cap ∧ base ≤ g ∧ 1 ≤ cap ∧ cap ≤ maxLen ∧ Blk w g cs 27 ∧ cs.take 19 = x.cells := by
  subst hl
  subst hn
  rcases h.2 with ⟨_, h2⟩ | ⟨g, cap, cur, e1, hb, hg, h3, h4, h5, h6⟩
  · simp at h2
  · exact ⟨g, cap, cur.toList, e1, hb, h3, h4, by unfold Blk; simpa using hg, by rw [rv_one] at h6; exact h6⟩
theorem cells_two {cs : List Value} {x : Rc} (h : cs.take 19 = x.cells) : cs[2]? = some (.int .i64 x.a) := by
  have h2 : (cs.take 19)[2]? = x.cells[2]? := by rw [h]
  rw [List.getElem?_take, if_pos (by decide)] at h2
  rw [h2]
  rfl
set_option maxHeartbeats 2000000 in
theorem nil_walk (x : Rc) (hx : x.Valid) (w : World) : Calls Try.prog 5 #[.agg x.cells.toArray] w fun e w' => e = .returned (.bool true) ∧ Below w.heap.size w w' := by
  have Z0 := Lib.hid (blk_at (w := w) (g := w.heap.size) (cs := x.cells) (t := 27) (arr := x.cells.toArray) rfl rfl)
  have x19 := Lib.hid (Rc.len hx)
  go_enter Try.func5, Try.ntmps5
  go_upto_region 1 with (fail)
  obtain ⟨w0, hw0⟩ : ∃ w0, w0 = w.alloc (.cells x.cells.toArray 27) := ⟨_, rfl⟩
  have B0 := Lib.hid (show Below w.heap.size w w0 from hw0 ▸ (Below.refl _ _).alloc (Nat.le_refl _) _)
  have hs0 : w.heap.size < w0.heap.size := by rw [hw0]; simp
  rw [← hw0] at Z0 ⊢
  clear hw0
  go_wp2_with (first | (go_at_call 18; refine (trim_nil _).mono ?_; rintro e w' ⟨rfl, rfl⟩) | (go_at_call 22; refine (wipe_nil _).mono ?_; rintro e w' ⟨rfl, rfl⟩) | (go_at_call 21; refine (load_nil _ _ _ _).mono ?_; rintro e w' ⟨rfl, rfl⟩) | (go_at_call 17; refine (records_nil _).mono ?_; rintro e w' ⟨rfl, rfl⟩) | (go_at_call 19; refine (used_nil _).mono ?_; rintro e w' ⟨rfl, rfl⟩) | (go_at_call 20; refine (room_nil _).mono ?_; rintro e w' ⟨rfl, rfl⟩))
  refine (new_nilm 50 (by decide) (by decide) w0).mono ?_
  rintro e w' ⟨rfl, rfl⟩
  go_wp2_with fail
  refine (newmains w0).mono ?_
  rintro e w1 ⟨rfl, p1, b1, z1⟩
  have NW := Lib.hid (new_at p1 50 (by decide) (by decide) 50 rfl)
  have P1 := Lib.hid p1
  have B1 := Lib.hid (B0.out.trans (b1.mono (by omega)))
  have Z1 := Lib.hid (Z0.out.below b1 (by omega))
  have hs1 : w0.heap.size < w1.heap.size := by omega
  clear p1 b1 z1 Z0
  go_wp2_with fail
  refine NW.out.mono ?_
  rintro e w2 ⟨rfl, r2, b2, z2⟩
  have R2 := Lib.hid r2
  have P2 := Lib.hid (P1.out.only (Only.of_below (S := []) b2) (by simp))
  have B2 := Lib.hid (B1.out.trans (b2.mono (by omega)))
  have Z2 := Lib.hid (Z1.out.below b2 (by omega))
  have hs2 : w1.heap.size < w2.heap.size := by omega
  clear r2 b2 z2 NW P1 B1 Z1
  go_wp2_with fail
  refine (awake_any w2).mono ?_
  rintro e w3 ⟨rfl, b3⟩
  have r3 := R2.out.below b3
  have P3 := P2.out.only (Only.of_below (S := []) b3) (by simp)
  have tv : (Rc.two 2 3).Valid := two_valid (by unfold I64; decide) (by unfold I64; decide)
  have tg : (Rc.two 2 3).Good := by unfold Rc.Good Ok; decide
  have AP := Lib.hid (append_yes (x := Rc.two 2 3) r3 P3 ⟨by decide, by decide⟩ tv tg rfl (by decide) rfl)
  have HTV := Lib.hid tv
  have HTG := Lib.hid tg
  have B3 := Lib.hid (B2.out.trans (b3.mono (by omega)))
  have Z3 := Lib.hid (Z2.out.below b3 (by omega))
  have hs3 := b3.size
  clear r3 P3 b3 R2 P2 B2 Z2 tv tg
  go_wp2_with (first | (refine wpList_builds rfl 27 _ rfl [(0, .int .i64 2), (2, .int .i64 3)] rfl _ (two_built 2 3) ?_))
  refine AP.out.mono ?_
  rintro e w4 ⟨rfl, v4, r4, p4, _, o4⟩
  have RC := Lib.hid (records_any r4)
  have R4 := Lib.hid r4
  have Z4 := Lib.hid (Z3.out.only o4 (by simp [blkOf, Value.ownBlock]; omega))
  have B4 := Lib.hid (B3.out.trans (o4.below (by omega) (by simp [blkOf, Value.ownBlock]; omega)))
  have hs4 := o4.size
  clear r4 p4 o4 AP B3 Z3
  go_wp2_with fail
  refine RC.out.mono ?_
  rintro e w5 ⟨rr, rfl, ho5, b5⟩
  obtain ⟨g, cap, cs, rfl, hg, hc1, hcm, hcb, hct⟩ := own_one HTV.out (scan_one HTV.out HTG.out) rfl ho5
  have hsc : (scanAll ([] ++ (Rc.two 2 3).bytes)).length = 1 := by rw [scan_one HTV.out HTG.out]; rfl
  have R5 := R4.out.below b5
  have Z5 := Z4.out.below b5 (by omega)
  have hs5 := b5.size
  have hglt := hcb.lt
  have c2 : w5.cell? ⟨g, 2, none⟩ = some (.int .i64 (Rc.two 2 3).a) := by rw [hcb.cell]; exact cells_two hct
  have f2 := hcb.frozen 2
  have o6 : Only [g] w5 (w5.setCell ⟨g, 2, none⟩ (.int .i64 9)) := (Only.refl [g] w5).setCell (by simp) _ _
  have R6 := Lib.hid (R5.only o6 (by have := R4.out.head.lt; simp; omega) (fun q hq => by have := (own_lt R4.out.own hq).2; simp; omega))
  have Z6 := Lib.hid (Z5.only o6 (by simp; omega))
  have B6 := Lib.hid ((B4.out.trans (b5.mono (by omega))).trans (o6.below (by omega) (by simp; omega)))
  have hs6 := o6.size
  have hcm' : (1 : Int) ≤ (cap : Int) := by omega
  unfold maxLen at hcm
  clear ho5 b5 hcb hct hsc o6 R5 Z5 RC R4 Z4 B4
  go_upto_region 13 with (fail)
  obtain ⟨w6, hw6⟩ : ∃ w6, w6 = w5.setCell ⟨g, 2, none⟩ (.int .i64 9) := ⟨_, rfl⟩
  rw [← hw6] at R6 Z6 B6 hs6 ⊢
  clear hw6 c2 f2
  have RC2 := Lib.hid (records_any R6.out)
  go_wp2_with fail
  refine RC2.out.mono ?_
  rintro e w7 ⟨rr, rfl, ho7, b7⟩
  obtain ⟨g', cap', cs', rfl, hg', hc1', hcm2, hcb', hct'⟩ := own_one HTV.out (scan_one HTV.out HTG.out) rfl ho7
  have d2 : w7.cell? ⟨g', 2, none⟩ = some (.int .i64 3) := by rw [hcb'.cell]; exact cells_two hct'
  have Z7 := Lib.hid (Z6.out.below b7 (by omega))
  have B7 := Lib.hid (B6.out.trans (b7.mono (by omega)))
  have hs7 := b7.size
  have hcm3 : (1 : Int) ≤ (cap' : Int) := by omega
  unfold maxLen at hcm2
  have AN := Lib.hid (append_nil x.cells.toArray w7)
  clear ho7 b7 hcb' hct' RC2 R6 Z6 B6
  go_wp2_with (first | (refine wpList_load_g rfl 27 _ rfl w.heap.size 19 rfl 27 x.cells _ Z7.out Try.underlying27 rfl (by kernel_rfl) x19.out ?_))
  refine AN.out.mono ?_
  rintro e w8 ⟨rfl, b8⟩
  have B8 := Lib.hid (B7.out.trans (b8.mono (by omega)))
  clear b8
  go_wp2_with (first | (go_at_call 18; refine (trim_nil _).mono ?_; rintro e w' ⟨rfl, rfl⟩) | (go_at_call 22; refine (wipe_nil _).mono ?_; rintro e w' ⟨rfl, rfl⟩) | (go_at_call 21; refine (load_nil _ _ _ _).mono ?_; rintro e w' ⟨rfl, rfl⟩) | (go_at_call 17; refine (records_nil _).mono ?_; rintro e w' ⟨rfl, rfl⟩) | (go_at_call 19; refine (used_nil _).mono ?_; rintro e w' ⟨rfl, rfl⟩) | (go_at_call 20; refine (room_nil _).mono ?_; rintro e w' ⟨rfl, rfl⟩))
  go_ret
  exact ⟨rfl, B8.out⟩
section
variable {H : Type} {enc : TypeId × Value → H} {base : Nat} {spare : Nat → Bool} {held : Bool} {W : World}
theorem nil_in (c : List Value) (hl : c.length = 19) (h : Opens.Fits enc Try.prog W base spare held ([.int .i64, .int .u64, .int .i64] ++ List.replicate 16 (.int .u8)) c) :
    Calls Try.prog 5 #[.agg c.toArray] W fun e w' => e = .returned (.bool true) ∧ Below W.heap.size W w' := by
  obtain ⟨k, v, a, l, hl16, hv, hk, ha, rfl⟩ := rec_in hl rfl h
  exact nil_walk ⟨k, v, a, l⟩ ⟨hl16, hv, hk, ha⟩ W
end
end Go.Proofs.Ytobblbplanimgaa.Nvram
/-
  Put of the reference by contract. Helper text; no statement is proved here.
-/
set_option linter.unusedVariables false
set_option maxRecDepth 20000
set_option linter.unusedSimpArgs false
namespace Go.Proofs.Ytobblbplanimgaa.Codec
open Go.RowKit Go.Proofs.Ytobblbplanimgaa.Base Go.Proofs.Ytobblbplanimgaa.Laws Go.Proofs.Ytobblbplanimgaa.Inv
theorem bv_snoc (l : List UInt8) (u : UInt8) : bv l ++ [Base.u8 u] = bv (l ++ [u]) := by simp [bv]
set_option maxHeartbeats 1000000 in
theorem put_any (base : Nat) (v : Value) (n size num : Nat) (l : List UInt8) (hn : n ≤ 1000000) (hs : size ≤ 8) (hm : num < 18446744073709551616) (w : World) (hb : base ≤ w.heap.size) (h : w.ownsRow base 5 1 v n (bv l)) :
    Calls Try.prog 50 #[v, .int .u64 (num : Int), .int .i64 (size : Int)] w fun e w' => ∃ v', e = .returned v' ∧ w'.ownsRow base 5 1 v' (n + size) (bv (l ++ be size num)) ∧ Below base w w' := by
  have H0 := Lib.hid h
  have hn63 : IntKind.i64.wrap ((size : Int) - 1) = (size : Int) - 1 := by rw [IntKind.wrap_i64]; omega
  clear h
  go_enter Try.func50, Try.ntmps50
  go_wp2
  go_loopw [0, 7] (fun x i wr => ∃ (j : Nat) (y : Int), y = (size : Int) - 1 - j ∧ j ≤ size ∧ i = .int .i64 y ∧ wr.ownsRow base 5 1 x (n + j) (bv (l ++ (be size num).take j)) ∧ Below base w wr) (fun _ i _ => (intOf i + 1).toNat)
  case atStart => exact ⟨0, _, rfl, by omega, by go_num, by simpa using H0.out, Below.refl _ _⟩
  case round =>
    obtain ⟨j, y, hy, hj, rfl, ho, hbl⟩ := hrel
    have HO := Lib.hid ho
    have HB := Lib.hid hbl
    have hsz : base ≤ wr.heap.size := Nat.le_trans hb hbl.size
    clear ho hbl
    by_cases hjs : j < size
    · obtain ⟨k, rfl⟩ : ∃ k : Nat, y = k := ⟨y.toNat, by omega⟩
      have hk : size - 1 - j = k := by omega
      have hg := be_get size num j hjs
      rw [hk] at hg
      have HT := Lib.hid (take_snoc (be size num) j _ hg)
      have HV := Lib.hid (byteOf_val num k)
      clear hg
      go_wp2_with (first | (at_builtin; refine wpList_append_any _ rfl _ _ 46 rfl base 5 (.int .u8 0) 1 1 Try.underlying46 OwnB.infou8 rfl (by decide) _ _ _ rfl (HO.out.alloc _) _ 1 1 _ rfl (src_one rfl) ?c1 ?c2 ?c3 ?_))
      case c1 => omega
      case c2 => unfold maxLen; omega
      case c3 => simp only [size_alloc]; omega
      intro v' w2 hown2 hgrow
      rw [← HV.out, bv_snoc, List.append_assoc, ← HT.out] at hown2
      have HB' := Lib.hid ((HB.out.alloc hsz _).grown hgrow (by simp only [size_alloc]; omega) (fun k hk => by have := (HO.out.lt k hk).1; omega))
      have HO' := Lib.hid hown2
      clear hown2 hgrow
      go_wp2
      go_roundw
      case rel => exact ⟨j + 1, (size : Int) - 1 - (j + 1 : Nat), rfl, by omega, by congr 1; omega, HO'.out, HB'.out⟩
      case measure => simp [intOf]; omega
    · obtain rfl : j = size := by omega
      rw [List.take_of_length_le (by rw [be_len]; omega)] at HO
      obtain rfl : y = -1 := by omega
      go_wp2
      go_ret
      exact ⟨_, rfl, HO.out, HB.out⟩
end Go.Proofs.Ytobblbplanimgaa.Codec
/-
  Pack of the reference by contract. Helper text; no statement is proved here.
-/
set_option linter.unusedVariables false
set_option maxRecDepth 20000
set_option linter.unusedSimpArgs false
namespace Go.Proofs.Ytobblbplanimgaa.Codec
open Go.RowKit Go.Proofs.Ytobblbplanimgaa.Base Go.Proofs.Ytobblbplanimgaa.Laws Go.Proofs.Ytobblbplanimgaa.Inv
set_option maxHeartbeats 1000000 in
theorem rok_no {k : Int} {v : Nat} {a : Int} {l : List UInt8} (h : ¬ Ok k a) (w : World) : Calls Try.prog 13 #[.agg (recV k v a l).toArray] w fun e w' => e = .returned (.bool false) ∧ Below w.heap.size w w' := by
  have HB0 := Lib.hid (blk_at (w := w) (cs := recV k v a l) (t := 27) rfl rfl)
  have c0 := HB0.out.cell 0
  have c2 := HB0.out.cell 2
  change _ = some (Value.int .i64 k) at c0
  change _ = some (Value.int .i64 a) at c2
  obtain ⟨cs, hcs⟩ : ∃ cs, cs = recV k v a l := ⟨_, rfl⟩
  rw [← hcs] at HB0 c0 c2 ⊢
  clear hcs
  unfold Ok at h
  have hh : k < 1 ∨ (1 ≤ k ∧ 6 < k) ∨ (1 ≤ k ∧ k ≤ 6 ∧ a < 0) ∨ (1 ≤ k ∧ k ≤ 6 ∧ 0 ≤ a ∧ 2147483647 < a) := by omega
  clear h
  rcases hh with h1 | ⟨h1, h2⟩ | ⟨h1, h2, h3⟩ | ⟨h1, h2, h3, h4⟩
  all_goals
    go_enter Try.func13, Try.ntmps13
    go_wp2
    go_ret
    refine ⟨by first | rfl | exact ret_bool (decide_eq_false (by omega)), (Below.refl _ _).alloc (Nat.le_refl _) _⟩
set_option maxHeartbeats 1000000 in
theorem rok_yes {k : Int} {v : Nat} {a : Int} {l : List UInt8} (h : Ok k a) (w : World) : Calls Try.prog 13 #[.agg (recV k v a l).toArray] w fun e w' => e = .returned (.bool true) ∧ Below w.heap.size w w' := by
  have HB0 := Lib.hid (blk_at (w := w) (cs := recV k v a l) (t := 27) rfl rfl)
  have c0 := HB0.out.cell 0
  have c2 := HB0.out.cell 2
  change _ = some (Value.int .i64 k) at c0
  change _ = some (Value.int .i64 a) at c2
  obtain ⟨cs, hcs⟩ : ∃ cs, cs = recV k v a l := ⟨_, rfl⟩
  rw [← hcs] at HB0 c0 c2 ⊢
  clear hcs
  obtain ⟨⟨h1, h2⟩, ⟨h3, h4⟩⟩ := h
  go_enter Try.func13, Try.ntmps13
  go_wp2
  go_ret
  exact ⟨by first | rfl | exact ret_bool (decide_eq_true (by omega)), (Below.refl _ _).alloc (Nat.le_refl _) _⟩
set_option maxHeartbeats 1000000 in
theorem rpack_no {k : Int} {v : Nat} {a : Int} {l : List UInt8} (hl : l.length = 16) (h : ¬ Ok k a) (w : World) : Calls Try.prog 38 #[.agg (recV k v a l).toArray] w fun e w' => e = .returned (.tuple #[.slice none 0 0, .int .i64 2]) ∧ Below w.heap.size w w' := by
  have HB0 := Lib.hid (blk_at (w := w) (cs := recV k v a l) (t := 27) rfl rfl)
  have HO := Lib.hid (fun w => rok_no (v := v) (l := l) h w)
  have h19 := recV_len k v a l hl
  obtain ⟨cs, hcs⟩ : ∃ cs, cs = recV k v a l := ⟨_, rfl⟩
  rw [← hcs] at HB0 HO h19 ⊢
  clear hcs
  go_enter Try.func38, Try.ntmps38
  go_wp2_with (first | (refine wpList_load_blk rfl 27 _ rfl w.heap.size 0 19 rfl 27 cs _ HB0.out Try.underlying27 rfl (by kernel_rfl) (by rw [h19]; omega) cs (by rw [List.drop_zero, List.take_of_length_le (by rw [h19]; omega)]) ?_))
  refine (HO.out _).mono ?_
  rintro e w1 ⟨rfl, hb⟩
  go_wp2
  go_ret2
  exact ⟨rfl, ((Below.refl _ _).alloc (Nat.le_refl _) _).trans (hb.mono (by simp only [size_alloc]; omega))⟩
theorem own_base {w : World} {b b' : Nat} {e : TypeId} {size : Nat} {v : Value} {n : Nat} {xs : List Value} (h : w.ownsRow b e size v n xs) (hb : b' ≤ b) : w.ownsRow b' e size v n xs := by
  obtain ⟨h1, h2⟩ := h
  refine ⟨h1, ?_⟩
  rcases h2 with h2 | ⟨g, cap, cur, e1, hbg, hg, h3⟩
  · exact .inl h2
  · exact .inr ⟨g, cap, cur, e1, by omega, hg, h3⟩
set_option maxRecDepth 4000 in
set_option maxHeartbeats 2000000 in
theorem rpack_yes {k : Int} {v a : Nat} {l : List UInt8} (hl : l.length = 16) (hv : v < 18446744073709551616) (h : Ok k a) (w : World) : Calls Try.prog 38 #[.agg (recV k v a l).toArray] w fun e w' => ∃ p, e = .returned (.tuple #[p, .int .i64 0]) ∧ w'.ownsRow w.heap.size 5 1 p 37 (bv (rec33 k v a l ++ be 4 (Crc.crc (rec33 k v a l)))) ∧ Below w.heap.size w w' := by
  have HB0 := Lib.hid (blk_at (w := w) (cs := recV k v a l) (t := 27) rfl rfl)
  have HO := Lib.hid (fun w => rok_yes (v := v) (l := l) h w)
  have h19 := recV_len k v a l hl
  obtain ⟨cs, hcs⟩ : ∃ cs, cs = recV k v a l := ⟨_, rfl⟩
  have HCS := Lib.hid hcs
  rw [← hcs] at HB0 HO h19 ⊢
  clear hcs
  have h0 := h
  obtain ⟨⟨h1, h2⟩, ⟨h3, h4⟩⟩ := h
  have d0 : cs[0]? = some (Value.int .i64 k) := by rw [HCS.out]; rfl
  have d1 : cs[1]? = some (Value.int .u64 v) := by rw [HCS.out]; rfl
  have d2 : cs[2]? = some (Value.int .i64 a) := by rw [HCS.out]; rfl
  have D0 := Lib.hid d0
  have D1 := Lib.hid d1
  have D2 := Lib.hid d2
  clear d0 d1 d2
  obtain ⟨kn, rfl⟩ : ∃ kn : Nat, k = kn := ⟨k.toNat, by omega⟩
  have h33 := rec33_len (kn : Int) v a l hl
  obtain ⟨r33, hr⟩ : ∃ r, r = rec33 (kn : Int) v a l := ⟨_, rfl⟩
  rw [← hr] at h33 ⊢
  have HR := Lib.hid hr
  clear hr
  have hcr := Crc.crc_lt r33
  obtain ⟨cr, hcr2⟩ : ∃ c, c = Crc.crc r33 := ⟨_, rfl⟩
  rw [← hcr2] at hcr ⊢
  have HCR := Lib.hid hcr2
  clear hcr2
  go_enter Try.func38, Try.ntmps38
  go_wp2_with (first | (refine wpList_load_blk rfl 27 _ rfl w.heap.size 0 19 rfl 27 cs _ HB0.out Try.underlying27 rfl (by kernel_rfl) (by rw [h19]; omega) cs (by rw [List.drop_zero, List.take_of_length_le (by rw [h19]; omega)]) ?_))
  refine (HO.out _).mono ?_
  rintro e w1 ⟨rfl, hb⟩
  have B1 := Lib.hid (HB0.out.below hb (by simp only [size_alloc]; omega))
  have L1 := Lib.hid (((Below.refl _ _).alloc (Nat.le_refl _) _).trans (hb.mono (by simp only [size_alloc]; omega)) : Below w.heap.size w w1)
  clear hb HB0 HO
  have c0 := ((B1.out.alloc (.cells #[] 5)).cell 0).trans D0.out
  have hs1 := L1.out.size
  have hmade := World.ownsRow_made (e := 5) (size := 1) (base := w.heap.size + 1) w1 #[] 0 B1.out.lt (Nat.zero_le _) rfl
  have M1 := Lib.hid hmade
  have hlt1 := B1.out.lt
  clear hmade
  go_wp2_with fail
  refine (put_any (w.heap.size + 1) _ 0 1 kn [] (by omega) (by omega) (by omega) _ (by simp only [size_alloc]; omega) M1.out).mono ?_
  rintro e w2 ⟨p2, rfl, ho2, hb2⟩
  have B2 := Lib.hid ((B1.out.alloc (.cells #[] 5)).below hb2 (by omega))
  have L2 := Lib.hid ((L1.out.alloc hs1 (.cells #[] 5)).trans (hb2.mono (by omega)))
  have O2 := Lib.hid ho2
  clear ho2 hb2 c0
  have c1 := (B2.out.cell 1).trans D1.out
  have hlt2 := B2.out.lt
  go_wp2_with fail
  refine (put_any (w.heap.size + 1) _ (0 + 1) 8 v ([] ++ be 1 kn) (by omega) (by omega) (by omega) _ (by omega) O2.out).mono ?_
  rintro e w3 ⟨p3, rfl, ho2, hb2⟩
  have B3 := Lib.hid (B2.out.below hb2 (by omega))
  have L3 := Lib.hid (L2.out.trans (hb2.mono (by omega)))
  have O3 := Lib.hid ho2
  clear ho2 hb2 c1
  have c2 := (B3.out.cell 2).trans D2.out
  have hlt3 := B3.out.lt
  go_wp2_with fail
  refine (put_any (w.heap.size + 1) _ (0 + 1 + 8) 8 a ([] ++ be 1 kn ++ be 8 v) (by omega) (by omega) (by omega) _ (by omega) O3.out).mono ?_
  rintro e w4 ⟨p4, rfl, ho2, hb2⟩
  have B4 := Lib.hid (B3.out.below hb2 (by omega))
  have L4 := Lib.hid (L3.out.trans (hb2.mono (by omega)))
  have O4 := Lib.hid ho2
  clear ho2 hb2 c2
  have hlt4 := B4.out.lt
  obtain ⟨p17, hp⟩ : ∃ p, p = ([] ++ be 1 kn ++ be 8 v ++ be 8 a) := ⟨_, rfl⟩
  have HP := Lib.hid hp
  rw [← hp] at O4
  have h17 : p17.length = 17 := by rw [hp]; simp [be_len]
  clear hp M1 B1 L1 B2 L2 O2 B3 L3 O3 hlt1 hlt2 hlt3 hs1
  have HLB := Lib.hid (show ∀ (j : Nat) (u : UInt8), l[j]? = some u → cs[3 + j]? = some (Base.u8 u) from fun j u hu => by
    rw [HCS.out]
    unfold recV
    rw [List.getElem?_append_right (by simp)]
    simpa [bv_get, show 3 + j - 3 = j from by omega] using ⟨u, hu, rfl⟩)
  go_wp2
  go_loopw [4, 5] (fun x i wr => ∃ j : Nat, j ≤ 16 ∧ i = .int .i64 (j : Int) ∧ Blk wr w.heap.size cs 27 ∧ wr.ownsRow (w.heap.size + 1) 5 1 x (17 + j) (bv (p17 ++ l.take j)) ∧ Below w.heap.size w wr) (fun _ i _ => 16 - (intOf i).toNat)
  case atStart => exact ⟨0, by omega, rfl, B4.out, by simpa using O4.out, L4.out⟩
  case round =>
    obtain ⟨j, hj, rfl, B, hown, hb⟩ := hrel
    have HB := Lib.hid B
    have HO := Lib.hid hown
    have HL := Lib.hid hb
    have hlt := B.lt
    clear B hown hb B4 O4 L4
    by_cases hj16 : j < 16
    · obtain ⟨u, hu⟩ : ∃ u, l[j]? = some u := ⟨l[j]'(by omega), List.getElem?_eq_getElem (by omega)⟩
      have hc : wr.cell? ⟨w.heap.size, 3 + j, none⟩ = some (Base.u8 u) := (HB.out.cell _).trans (HLB.out j u hu)
      have HU := Lib.hid (take_snoc l j u hu)
      clear hu
      unfold Base.u8 at hc
      go_wp2_with (first | (at_builtin; refine wpList_append_any _ rfl _ _ 46 rfl (w.heap.size + 1) 5 (.int .u8 0) 1 1 Try.underlying46 OwnB.infou8 rfl (by decide) _ _ _ rfl (HO.out.alloc _) _ 1 1 _ rfl (src_one rfl) ?d1 ?d2 ?d3 ?_))
      case d1 => omega
      case d2 => unfold maxLen; omega
      case d3 => simp only [size_alloc]; omega
      intro v' w5 hown2 hgrow
      have eu : bv (p17 ++ l.take j) ++ [Value.int .u8 (u.toNat : Int)] = bv (p17 ++ l.take (j + 1)) := by
        rw [HU.out, ← List.append_assoc, ← bv_snoc]
        rfl
      rw [eu] at hown2
      have HL' := Lib.hid ((HL.out.alloc (by omega) _).grown hgrow (by simp only [size_alloc]; omega) (fun k hk => by have := (HO.out.lt k hk).1; omega))
      have HB' := Lib.hid ((HB.out.alloc _).grownO hgrow (fun k hk => by have := (HO.out.lt k hk).1; omega))
      have HO' := Lib.hid hown2
      clear hown2 hgrow eu
      go_wp2
      go_roundw
      case rel => first | exact ⟨j + 1, by omega, by go_num, HB'.out, by have := HO'.out; rwa [Nat.add_assoc] at this, HL'.out⟩ | ((repeat apply Exists.intro); exact ⟨⟨j + 1, by omega, by go_num, HB'.out, by have := HO'.out; rwa [Nat.add_assoc] at this, HL'.out⟩, rfl⟩)
      case measure => simp [intOf]; omega
    · obtain rfl : j = 16 := by omega
      rw [List.take_of_length_le (by omega)] at HO
      have e33 : p17 ++ l = r33 := by
        rw [HP.out, HR.out]
        unfold rec33
        rw [List.nil_append, Int.toNat_natCast]
        congr 3
        unfold be be byteOf
        simp
      rw [e33] at HO
      clear e33 HP HR
      obtain ⟨a', cap', rfl, hbt⟩ := OwnB.bts_own h33 HO.out
      have HC := Lib.hid (RefSumW.crc_any a' (17 + 16) cap' r33 wr hbt)
      rw [← HCR.out] at HC
      clear hbt HCR
      go_wp2_with fail
      refine HC.out.mono ?_
      rintro e w5 ⟨rfl, rfl⟩
      go_wp2_with fail
      refine (put_any (w.heap.size + 1) _ (17 + 16) 4 cr r33 (by omega) (by omega) (by omega) _ (by omega) HO.out).mono ?_
      rintro e w6 ⟨p6, rfl, ho2, hb2⟩
      go_wp2
      go_ret2
      exact ⟨p6, rfl, own_base ho2 (by omega), HL.out.trans (hb2.mono (by omega))⟩
end Go.Proofs.Ytobblbplanimgaa.Codec
/-
  Rows of records beside a memory; what a cut leaves. Helper text; no statement is proved here.
-/
set_option linter.unusedVariables false
set_option maxRecDepth 20000
set_option linter.unusedSimpArgs false
namespace Go.Proofs.Ytobblbplanimgaa.Nvram
open Go.RowKit Go.Proofs.Ytobblbplanimgaa.Base Go.Proofs.Ytobblbplanimgaa.Laws Go.Proofs.Ytobblbplanimgaa.Disk Go.Proofs.Ytobblbplanimgaa.Row Go.Proofs.Ytobblbplanimgaa.Codec Go.Proofs.Ytobblbplanimgaa.InvL Go.Proofs.Ytobblbplanimgaa.InvM
/-- what stands behind whole records: nothing, or the beginning of one -/
def Tail (t : List UInt8) : Prop := t = [] ∨ ∃ y : Rc, y.Valid ∧ y.Good ∧ t = y.bytes.take 18
theorem scan_tail {rs : List Rc} {t : List UInt8} (h : ∀ r ∈ rs, r.Valid ∧ r.Good) (ht : Tail t) : scanAll (laidAll rs ++ t) = rs := by
  rcases ht with rfl | ⟨y, hy, gy, rfl⟩
  · rw [List.append_nil]
    exact scan_laid rs h
  · have hl := laidAll_len (fun r hr => (h r hr).1)
    have hy37 := Rc.bytes_len hy
    have h2 : ∀ r ∈ rs ++ [y], r.Valid ∧ r.Good := fun r hr => by
      rcases List.mem_append.1 hr with h1 | h1
      · exact h r h1
      · simp at h1; subst h1; exact ⟨hy, gy⟩
    have := scan_cut (rs ++ [y]) h2 (37 * rs.length + 18) (by rw [laidAll_append, List.length_append, hl]; simp [laidAll, hy37])
    rw [laidAll_append, show (37 * rs.length + 18) / 37 = rs.length from by omega, List.take_left] at this
    have e : laidAll [y] = y.bytes := by simp [laidAll]
    rw [e, ← hl, List.take_append, List.take_of_length_le (by omega), show (laidAll rs).length + 18 - (laidAll rs).length = 18 from by omega] at this
    exact this
theorem tail_len {t : List UInt8} (h : Tail t) : t.length ≤ 18 := by
  rcases h with rfl | ⟨y, hy, gy, rfl⟩
  · simp
  · rw [List.length_take]; omega
theorem laid_one (x : Rc) (rs : List Rc) : laidAll (rs ++ [x]) = laidAll rs ++ x.bytes := by rw [laidAll_append]; simp [laidAll]
theorem ok_no {x : Rc} (h : ¬ x.Good) (w : World) : Calls Try.prog 13 #[.agg x.cells.toArray] w fun e w' => e = .returned (.bool false) ∧ Below w.heap.size w w' := rok_no (v := x.v) (l := x.l) h w
theorem ok_yes {x : Rc} (h : x.Good) (w : World) : Calls Try.prog 13 #[.agg x.cells.toArray] w fun e w' => e = .returned (.bool true) ∧ Below w.heap.size w w' := rok_yes (v := x.v) (l := x.l) h w
/-- records appended to a row beside -/
theorem run_append_rec {w : World} {base : Nat} {vk : Value} {ks : List Rc} {k : Nat} {x : Rc} {g cap : Nat} (hk : k ≤ 2000) (hx : x.Valid) (ho : w.ownsRow base 27 19 vk k (rv ks)) (hb : Blk w g x.cells 27) (hbase : base ≤ w.heap.size) :
    ∃ v' w', (Builtin.append_ #[22, 22] 22 #[vk, .slice (some ⟨g, 0, none⟩) 1 cap]).run Try.prog w = .ok v' w' ∧ w'.ownsRow base 27 19 v' (k + 1) (rv (ks ++ [x])) ∧ w.grownBy w' vk.ownBlock ∧ (v'.ownBlock = vk.ownBlock ∨ v'.ownBlock = some w.heap.size) := by
  have := run_append_any_at (P := Try.prog) w base 22 22 27 (.agg zrec.toArray) 19 40 Try.underlying22 info_rec rfl (by decide) vk k (rv ks) ho (some ⟨g, 0, none⟩) 1 cap x.cells (src_rec hx hb) (by omega) (by unfold maxLen; omega) hbase
  rw [rv_append, rv_one]
  exact this
/-- a row of records is a slice of records -/
theorem own_recs {w : World} {base : Nat} {v : Value} {n : Nat} {rs : List Rc} (hn : rs.length = n) (hv : ∀ r ∈ rs, r.Valid) (h : w.ownsRow base 27 19 v n (rv rs)) : ∃ a cap, v = .slice a n cap ∧ Recs w a n cap rs := recs_own hn hv h
/-- two rows lie apart -/
def Apart (v u : Value) : Prop := ∀ g, v.ownBlock = some g → u.ownBlock ≠ some g
section
variable {w w' : World} {br bm size n sz : Nat} {v v' vk vk' : Value} {B : List UInt8} {xs : List Value} {e : TypeId}
theorem _root_.Go.Proofs.Ytobblbplanimgaa.Nvram.RamAt.drewN (h : RamAt w br bm size v B) (nd : Nat) : RamAt (w.drewN nd) br bm size v B := { h with head := h.head.drewN nd, own := h.own }
theorem blk_ge (h : RamAt w br bm size v B) : br ≤ blkOf v br := by
  unfold blkOf
  cases hv : v.ownBlock with
  | none => exact Nat.le_refl _
  | some g => have := (own_lt h.own hv).1; simp; omega
theorem ram_set (h : RamAt w br bm size v B) {g : Nat} (hg : g < bm) : g ∉ [br, bm, blkOf v br] := by
  have h1 := blk_ge h
  have h2 := h.lt
  simp
  omega
theorem ram_ge (h : RamAt w br bm size v B) {b : Nat} (hb : b ≤ bm) : ∀ x ∈ [br, bm, blkOf v br], b ≤ x := by
  have h1 := blk_ge h
  have h2 := h.lt
  simp
  omega
theorem row_set (h : RamAt w br bm size v B) (hk : w.ownsRow (br + 1) e sz vk n xs) (ha : Apart v vk) : ∀ g, vk.ownBlock = some g → g ∉ [br, bm, blkOf v br] := fun g hg => by
  have h1 := (own_lt hk hg).1
  have h2 := h.lt
  simp only [List.mem_cons, List.not_mem_nil, or_false, not_or]
  refine ⟨by omega, by omega, fun e => ?_⟩
  unfold blkOf at e
  cases hv : v.ownBlock with
  | none => rw [hv] at e; simp at e; omega
  | some g' => rw [hv] at e; simp at e; exact ha g' hv (by rw [hg, e])
theorem apart_after (hk : w.ownsRow (br + 1) e sz vk n xs) (ha : Apart v vk) (ho : ∀ g, v'.ownBlock = some g → v.ownBlock = some g ∨ w.heap.size ≤ g) : Apart v' vk := fun g hg hk2 => by
  rcases ho g hg with h | h
  · exact ha g h hk2
  · have := (own_lt hk hk2).2; omega
theorem apart_row (h : RamAt w br bm size v B) (ha : Apart v vk) (ho : vk'.ownBlock = vk.ownBlock ∨ vk'.ownBlock = some w.heap.size) : Apart v vk' := fun g hg hk2 => by
  rcases ho with h1 | h1
  · exact ha g hg (h1 ▸ hk2)
  · rw [h1] at hk2; cases hk2; have := (own_lt h.own hg).2; omega
theorem only_list {row : Option Nat} (h : w.grownBy w' row) : Only row.toList w w' :=
  ⟨h.os, h.tape, h.output, h.size, fun k hk hn => h.block k hk (by intro e; apply hn; rw [← e]; simp)⟩
theorem ram_row (h : RamAt w br bm size v B) (hk : w.ownsRow (br + 1) e sz vk n xs) (ha : Apart v vk) (hg : w.grownBy w' vk.ownBlock) : RamAt w' br bm size v B :=
  h.only (only_list hg) (by simp; intro e; have := (own_lt hk e).1; omega) (fun g hv => by simp; exact ha g hv)
theorem low_row {cs : List Value} {t : TypeId} {g : Nat} (h : Blk w g cs t) (hk : w.ownsRow (br + 1) e sz vk n xs) (hlt : g ≤ br) (hg : w.grownBy w' vk.ownBlock) : Blk w' g cs t :=
  h.only (only_list hg) (by simp; intro e; have := (own_lt hk e).1; omega)
theorem row_ge (hk : w.ownsRow (br + 1) e sz vk n xs) {b : Nat} (hb : b ≤ br) : ∀ x ∈ vk.ownBlock.toList, b ≤ x := fun x hx => by
  simp at hx
  have := (own_lt hk hx).1
  omega
end
end Go.Proofs.Ytobblbplanimgaa.Nvram
/-
  Load of a memory by contract. Helper text; no statement is proved here.
-/
set_option linter.unusedVariables false
set_option maxRecDepth 20000
set_option linter.unusedSimpArgs false
namespace Go.Proofs.Ytobblbplanimgaa.Nvram
open Go.RowKit Go.Proofs.Ytobblbplanimgaa.Base Go.Proofs.Ytobblbplanimgaa.Laws Go.Proofs.Ytobblbplanimgaa.Disk Go.Proofs.Ytobblbplanimgaa.Row Go.Proofs.Ytobblbplanimgaa.Codec Go.Proofs.Ytobblbplanimgaa.InvL Go.Proofs.Ytobblbplanimgaa.InvM
/-- what Load leaves: its answer, the power, the bytes -/
def loadR (p : Pow) (size : Nat) (B : List UInt8) (rs : List Rc) : Nat × Pow × List UInt8 := open Classical in
  if ∃ r ∈ rs, ¬ r.Good then (2, p, B) else if p.off then (4, p, B) else if size / 37 < rs.length then (9, p, B) else if p.step.1 then (0, p.step.2, laidAll rs) else (4, p.step.2, B)
theorem load_two {p : Pow} {size : Nat} {B : List UInt8} {rs : List Rc} (h : ∃ r ∈ rs, ¬ r.Good) : loadR p size B rs = (2, p, B) := by unfold loadR; rw [if_pos h]
theorem load_four {p : Pow} {size : Nat} {B : List UInt8} {rs : List Rc} (h : ¬ ∃ r ∈ rs, ¬ r.Good) (ho : p.off = true) : loadR p size B rs = (4, p, B) := by unfold loadR; rw [if_neg h, if_pos ho]
theorem load_nine {p : Pow} {size : Nat} {B : List UInt8} {rs : List Rc} (h : ¬ ∃ r ∈ rs, ¬ r.Good) (ho : p.off = false) (hf : size / 37 < rs.length) : loadR p size B rs = (9, p, B) := by unfold loadR; rw [if_neg h, if_neg (by rw [ho]; decide), if_pos hf]
theorem load_ok {p : Pow} {size : Nat} {B : List UInt8} {rs : List Rc} (h : ¬ ∃ r ∈ rs, ¬ r.Good) (ho : p.off = false) (hf : ¬ size / 37 < rs.length) (hs : p.step.1 = true) : loadR p size B rs = (0, p.step.2, laidAll rs) := by unfold loadR; rw [if_neg h, if_neg (by rw [ho]; decide), if_neg hf, if_pos hs]
theorem load_torn {p : Pow} {size : Nat} {B : List UInt8} {rs : List Rc} (h : ¬ ∃ r ∈ rs, ¬ r.Good) (ho : p.off = false) (hf : ¬ size / 37 < rs.length) (hs : p.step.1 = false) : loadR p size B rs = (4, p.step.2, B) := by unfold loadR; rw [if_neg h, if_neg (by rw [ho]; decide), if_neg hf, if_neg (by rw [hs]; decide)]
section
variable {w w' : World} {br bm size : Nat} {v : Value} {B : List UInt8} {p : Pow}
theorem zrblk (w : World) : Blk (w.alloc (.cells #[.int .i64 0, .int .u64 0, .int .i64 0, .int .u8 0, .int .u8 0, .int .u8 0, .int .u8 0, .int .u8 0, .int .u8 0, .int .u8 0, .int .u8 0, .int .u8 0, .int .u8 0, .int .u8 0, .int .u8 0, .int .u8 0, .int .u8 0, .int .u8 0, .int .u8 0] 27)) w.heap.size zrec 27 := blk_at rfl rfl
/-- a new variable that a record is stored in -/
theorem store_rec {ops : Array Oper} {rest : List Oper} {o : Oper} {a : Act} {Q : Exit → Act → World → Prop} (hgd : o.guard = none) (x y : Operand) (ho : o.op = .store 27 x y) (c : Rc) (hc : c.Valid)
    (hx : a.eval x = .pointer (some ⟨w.heap.size, 0, none⟩)) (hy : a.eval y = .agg c.cells.toArray)
    (h : ∀ w', Blk w' w.heap.size c.cells 27 → Below w.heap.size w w' → wpList Try.prog ops Q rest (a.put o.dst undef) w') : wpList Try.prog ops Q (o :: rest) a (w.alloc (.cells #[.int .i64 0, .int .u64 0, .int .i64 0, .int .u8 0, .int .u8 0, .int .u8 0, .int .u8 0, .int .u8 0, .int .u8 0, .int .u8 0, .int .u8 0, .int .u8 0, .int .u8 0, .int .u8 0, .int .u8 0, .int .u8 0, .int .u8 0, .int .u8 0, .int .u8 0] 27)) := by
  refine wpList_store_blk hgd 27 x y ho w.heap.size 0 19 hx 27 zrec c.cells hy (zrblk w) (by kernel_rfl) (Rc.len hc) (by decide) (Rc.one c) ?_
  intro w2 z2 g2
  rw [put_all _ c.cells (by rw [Rc.len hc]; rfl)] at z2
  exact h w2 z2 (below_grown ((Below.refl w.heap.size w).alloc (Nat.le_refl _) _) g2 (by simp only [size_alloc]; omega) (Nat.le_refl _))
theorem pack_good {x : Rc} (hx : x.Valid) (hg : x.Good) (w : World) : Calls Try.prog 34 #[.agg x.cells.toArray] w fun e w' => ∃ pa pc, e = .returned (.tuple #[.slice pa 37 pc, .int .i64 0]) ∧ Bts w' pa 37 pc x.bytes ∧ Below w.heap.size w w' := by
  obtain ⟨hg2, hcells⟩ := good_nat hg
  have := pack_yes (k := x.k) (v := x.v) (a := x.a.toNat) hx.1 hx.2.1 hg2 w.heap.size w (Nat.le_refl _)
  rw [← hcells] at this
  refine this.mono fun e w' ⟨pv, h1, h2, h3⟩ => ?_
  obtain ⟨pa, pc, rfl, hb⟩ := OwnB.bts_own (by rw [List.length_append, rec33_len _ _ _ _ hx.1, be_len]) h2
  exact ⟨pa, pc, h1, hb, h3⟩
theorem pack_bad {x : Rc} (hx : x.Valid) (hg : ¬ x.Good) (w : World) : Calls Try.prog 34 #[.agg x.cells.toArray] w fun e w' => e = .returned (.tuple #[.slice none 0 0, .int .i64 2]) ∧ Below w.heap.size w w' := pack_no (v := x.v) hx.1 hg w
set_option maxHeartbeats 4000000 in
theorem load_any (h : RamAt w br bm size v B) (hp : PowAt w bm p) (hpo : p.Ok) (a : Option Addr) (n cap : Nat) (rs : List Rc) (hr : Recs w a n cap rs) : Calls Try.prog 21 #[.pointer (some ⟨br, 0, none⟩), .slice a n cap] w (After w br bm size v (loadR p size B rs)) := by
  have hn := hr.1
  have hm := hr.2.1
  have hm2 := hr.2.2.1
  unfold maxLen at hm2
  have H := Lib.hid h
  have P := Lib.hid hp
  have R := Lib.hid hr
  have HV := Lib.hid hr.2.2.2.1
  have HN := Lib.hid hn
  have hbr := h.head.lt
  have hsz := h.hi
  have hsl := h.lo
  have hbm := h.lt
  have HPO := Lib.hid hpo
  clear h hp hr hn hpo
  obtain ⟨M, hM⟩ : ∃ M, M = size / 37 + 1 := ⟨_, rfl⟩
  have hM1 : 37 * (M - 1) ≤ size ∧ size < 37 * M ∧ 1 ≤ M ∧ M ≤ 1800 := by omega
  obtain ⟨hM2, hM3, hM4, hM5⟩ := hM1
  have HM := Lib.hid hM
  clear hM
  go_enter Try.func21, Try.ntmps21
  go_wp2_with fail
  go_loopw [5, 14] (fun av j wr => ∃ k c : Nat, k ≤ n ∧ j = .int .i64 k ∧ c = min k M ∧ wr.ownsRow w.heap.size 5 1 av (37 * c) (bv (laidAll (rs.take c))) ∧ (∀ i x, i < k → rs[i]? = some x → x.Good) ∧ Below w.heap.size w wr) (fun _ j _ => n - (intOf j).toNat)
  case atStart => exact ⟨0, 0, Nat.zero_le _, rfl, by omega, ⟨rfl, .inl ⟨rfl, rfl⟩⟩, fun i x hi => by omega, Below.refl _ _⟩
  case round =>
    obtain ⟨k, c, hk, rfl, hc, ho, hgood, hb⟩ := hrel
    obtain ⟨wo, rfl⟩ : ∃ wo : World, wo = wr := ⟨_, rfl⟩
    have HB := Lib.hid hb
    have HO := Lib.hid ho
    have HG := Lib.hid hgood
    have hso := hb.size
    have HC := Lib.hid hc
    have hck : c ≤ k := by omega
    have hcM : c ≤ M := by omega
    obtain ⟨aa, acap, rfl, _, _, _⟩ := own_slice ho (by decide)
    have HR := Lib.hid (H.out.below hb)
    have HP := Lib.hid (P.out.only (Only.of_below (S := []) hb) (by simp))
    clear ho hb hgood hc
    by_cases hkn : k < n
    · obtain ⟨x, hx⟩ : ∃ x, rs[k]? = some x := ⟨_, List.getElem?_eq_getElem (by rw [HN.out]; exact hkn)⟩
      have hxv := HV.out x (List.mem_of_getElem? hx)
      obtain ⟨ab, ao, rfl, hcl⟩ := (R.out.2.2.2.2).resolve_left (by omega)
      have HAT := Lib.hid (show ∀ j v, x.cells[j]? = some v → wo.cell? ((⟨ab, ao + k * 19, none⟩ : Addr).add j) = some v from rec_at HV.out (fun j u hu => (HB.out.cell (p := ⟨ab, ao + j, none⟩) (block_lt_of_cell (hcl j u hu))).trans (hcl j u hu)) hx)
      have x19 := Lib.hid (Rc.len hxv)
      have HXV := Lib.hid hxv
      have HX := Lib.hid hx
      have k0 : (0 : Int) ≤ (k : Int) := by omega
      have k1 : (k : Int) < (n : Int) := by omega
      clear hcl hx hxv
      by_cases hg : x.Good
      · go_wp2_with (first | (refine wpList_value_g rfl (.agg x.cells.toArray) (exec_load_from rfl rfl (HAT.out) Try.underlying27 rfl (by kernel_rfl) x19.out) ?_) | (refine store_rec rfl _ _ rfl x HXV.out rfl rfl ?_; intro w1 z1 b1; have Z1 := Lib.hid z1; have B1 := Lib.hid b1; have hs1 := b1.size; clear z1 b1) | (refine wpList_load_blk rfl 27 _ rfl wo.heap.size 0 19 rfl 27 x.cells _ Z1.out Try.underlying27 rfl (by kernel_rfl) (by rw [x19.out]; omega) x.cells (by rw [List.drop_zero, List.take_of_length_le (by rw [x19.out]; omega)]) ?_))
        refine (pack_good HXV.out hg w1).mono ?_
        rintro e w2 ⟨pa, pc, rfl, hbt, b2⟩
        have BT := Lib.hid hbt
        have B2 := Lib.hid ((HB.out.trans (B1.out.mono hso)).trans (b2.mono (by omega)))
        have O2 := Lib.hid (own_only HO.out (Only.of_below (S := []) (B1.out.trans (b2.mono hs1))) (by simp))
        have hs2 := b2.size
        have c1 := (H.out.below B2.out).c1
        clear hbt b2 HO HB HR HP Z1 B1 HAT
        by_cases hkM : k < M
        · have hck2 : c = k := by have := HC.out; omega
          have f1 : decide ((37 : Int) * (c : Int) ≤ (size : Int)) = true := by simp; omega
          have f2 : decide (37 * c ≤ size) = true := by simp; omega
          have f3 : 37 * c ≤ size := by omega
          obtain ⟨av', w3, hr3, ho3, hg3, hv3⟩ := run_append_any_at (P := Try.prog) w2 w.heap.size 46 46 5 (.int .u8 0) 1 1 Try.underlying46 OwnB.infou8 rfl (by decide) _ (37 * c) _ O2.out pa 37 pc (bv x.bytes) (OwnB.src_bts BT.out) (by omega) (by unfold maxLen; omega) (by omega)
          have O3 := Lib.hid (show w3.ownsRow w.heap.size 5 1 av' (37 * (c + 1)) (bv (laidAll (rs.take (c + 1)))) from by
            have e : rs.take (c + 1) = rs.take c ++ [x] := take_snoc rs c x (by rw [hck2]; exact HX.out)
            rw [e, laid_one, bv_append, Nat.mul_succ]
            exact ho3)
          have B3 := Lib.hid (B2.out.trans ((only_list hg3).below (by omega) (fun y hy => by simp at hy; exact (own_lt O2.out hy).1)))
          have R3 := Lib.hid hr3
          have HCK := Lib.hid hck2
          clear hr3 ho3 hg3 hv3 O2 B2 hck2
          go_wp2_with (first | (refine wpList_world_gg rfl _ (exec_append _ _ rfl rfl rfl R3.out) ?_))
          go_roundw
          case rel => exact ⟨k + 1, c + 1, by omega, by go_num, by have := HCK.out; omega, O3.out, fun i y hi hy => by
              by_cases hik : i < k
              · exact HG.out i y hik hy
              · obtain rfl : i = k := by omega
                rw [HX.out] at hy; cases hy; exact hg, B3.out⟩
          case measure => simp [intOf]; omega
        · have f1 : decide ((37 : Int) * (c : Int) ≤ (size : Int)) = false := by have := HC.out; simp; omega
          have f2 : decide (37 * c ≤ size) = false := by have := HC.out; simp; omega
          have f3 : ¬ 37 * c ≤ size := by have := HC.out; omega
          go_wp2_with fail
          go_roundw
          case rel => exact ⟨k + 1, c, by omega, by go_num, by have := HC.out; omega, O2.out, fun i y hi hy => by
              by_cases hik : i < k
              · exact HG.out i y hik hy
              · obtain rfl : i = k := by omega
                rw [HX.out] at hy; cases hy; exact hg, B2.out⟩
          case measure => simp [intOf]; omega
      · have HRES := Lib.hid (load_two (p := p) (size := size) (B := B) ⟨x, List.mem_of_getElem? HX.out, hg⟩)
        go_wp2_with (first | (refine wpList_value_g rfl (.agg x.cells.toArray) (exec_load_from rfl rfl (HAT.out) Try.underlying27 rfl (by kernel_rfl) x19.out) ?_) | (refine store_rec rfl _ _ rfl x HXV.out rfl rfl ?_; intro w1 z1 b1; have Z1 := Lib.hid z1; have B1 := Lib.hid b1; have hs1 := b1.size; clear z1 b1) | (refine wpList_load_blk rfl 27 _ rfl wo.heap.size 0 19 rfl 27 x.cells _ Z1.out Try.underlying27 rfl (by kernel_rfl) (by rw [x19.out]; omega) x.cells (by rw [List.drop_zero, List.take_of_length_le (by rw [x19.out]; omega)]) ?_))
        refine (pack_bad HXV.out hg w1).mono ?_
        rintro e w2 ⟨rfl, b2⟩
        have B2 := Lib.hid ((HB.out.trans (B1.out.mono hso)).trans (b2.mono (by omega)))
        clear b2
        go_wp2_with fail
        go_ret
        rw [HRES.out]
        exact ⟨rfl, v, H.out.below B2.out, P.out.only (Only.of_below (S := []) B2.out) (by simp), fun g hg => .inl hg, Only.of_below B2.out⟩
    · obtain rfl : k = n := by omega
      have hall : ¬ ∃ r ∈ rs, ¬ r.Good := fun ⟨r, hr, hng⟩ => by
        obtain ⟨i, hi⟩ := List.mem_iff_getElem?.1 hr
        exact hng (HG.out i r (by rw [← HN.out]; exact (List.getElem?_eq_some_iff.1 hi).1) hi)
      have HALL := Lib.hid hall
      have c0 := HR.out.c0
      have c1 := HR.out.c1
      have c2 := HR.out.c2
      have fr2 := HR.out.head.frozen 2
      clear hall
      cases hoff : p.off with
      | true =>
        have HRES := Lib.hid (load_four (size := size) (B := B) HALL.out hoff)
        have ON := Lib.hid (on_at HP.out false (by rw [hoff]; rfl))
        clear hoff
        go_wp2_with (first | (go_at_call 14; refine ON.out.mono ?_; rintro e w' ⟨rfl, rfl⟩))
        go_ret
        rw [HRES.out]
        exact ⟨rfl, v, HR.out, HP.out, fun g hg => .inl hg, Only.of_below HB.out⟩
      | false =>
        have ON := Lib.hid (on_at HP.out true (by rw [hoff]; rfl))
        by_cases hfull : size / 37 < rs.length
        · have HRES := Lib.hid (load_nine (B := B) HALL.out hoff hfull)
          have f1 : decide ((size : Int) < (37 : Int) * (c : Int)) = true := by have := HC.out; have := HM.out; have := HN.out; simp; omega
          have f2 : decide (size < 37 * c) = true := by have := HC.out; have := HM.out; have := HN.out; simp; omega
          have f3 : size < 37 * c := by have := HC.out; have := HM.out; have := HN.out; omega
          clear hoff hfull
          go_wp2_with (first | (go_at_call 14; refine ON.out.mono ?_; rintro e w' ⟨rfl, rfl⟩))
          go_ret
          rw [HRES.out]
          exact ⟨rfl, v, HR.out, HP.out, fun g hg => .inl hg, Only.of_below HB.out⟩
        · have f1 : decide ((size : Int) < (37 : Int) * (c : Int)) = false := by have := HC.out; have := HM.out; have := HN.out; simp; omega
          have f2 : decide (size < 37 * c) = false := by have := HC.out; have := HM.out; have := HN.out; simp; omega
          have f3 : ¬ size < 37 * c := by have := HC.out; have := HM.out; have := HN.out; omega
          have SP := Lib.hid (step_any bm p wo HP.out HPO.out)
          rcases hst : p.step.1 with _ | _
          · have HRES := Lib.hid (load_torn (B := B) HALL.out hoff hfull hst)
            rw [hst] at SP
            clear hoff hfull hst
            go_wp2_with (first | (go_at_call 14; refine ON.out.mono ?_; rintro e w' ⟨rfl, rfl⟩))
            refine SP.out.mono ?_
            rintro e w3 ⟨rfl, p3, o3⟩
            have P3 := Lib.hid p3
            have R3 := Lib.hid (HR.out.only o3 (by simp; omega) (fun g hg => by have := (own_lt HR.out.own hg).1; simp; omega))
            have O3 := Lib.hid ((Only.of_below (S := [br, bm, blkOf v br]) HB.out).trans (o3.mono (by simp)))
            clear p3 o3
            go_wp2_with fail
            go_ret
            rw [HRES.out]
            exact ⟨rfl, v, R3.out, P3.out, fun g hg => .inl hg, O3.out⟩
          · have HRES := Lib.hid (load_ok (B := B) HALL.out hoff hfull hst)
            have hcn : c = k ∧ rs.take c = rs := by
              have h1 := HC.out
              have h2 := HM.out
              have h3 := HN.out
              exact ⟨by omega, List.take_of_length_le (by omega)⟩
            have HCN := Lib.hid hcn
            rw [hst] at SP
            clear hoff hfull hst hcn
            go_wp2_with (first | (go_at_call 14; refine ON.out.mono ?_; rintro e w' ⟨rfl, rfl⟩))
            refine SP.out.mono ?_
            rintro e w3 ⟨rfl, p3, o3⟩
            have P3 := Lib.hid p3
            have R3 := Lib.hid (HR.out.only o3 (by simp; omega) (fun g hg => by have := (own_lt HR.out.own hg).1; simp; omega))
            have A3 := own_only HO.out o3 (fun g hg => by have := (own_lt HO.out hg).1; simp; omega)
            have A4 := own_base (b' := br + 1) A3 (fun g hg => by have := (own_lt HO.out hg).1; omega)
            have LL : (laidAll (rs.take c)).length = 37 * c := by
              rw [laidAll_len (fun r hr => HV.out r (List.mem_of_mem_take hr)), List.length_take, HN.out]
              have := HCN.out.1
              omega
            have A5 := R3.out.put (v' := .slice aa (37 * c) acap) (B' := laidAll (rs.take c)) (by rw [LL]; exact A4) (by rw [LL]; omega)
            rw [HCN.out.2] at A5
            have R5 := Lib.hid A5
            have O3 := Lib.hid (((Only.of_below (S := [br, bm, blkOf v br]) HB.out).trans (o3.mono (by simp))).setCell (g := br) (by simp) 2 (.slice aa (37 * c) acap))
            have HOG := Lib.hid (fun g hg => (own_lt HO.out (g := g) hg).1)
            have c2' := R3.out.c2
            have fr3 := R3.out.head.frozen 2
            clear p3 o3 A3 A4 A5 LL c2 fr2 c0 c1
            go_wp2_with fail
            go_ret
            rw [HRES.out]
            exact ⟨rfl, _, R5.out, P3.out.setCell_far (by omega) _ _, fun g hg => .inr (HOG.out g hg), O3.out⟩
end
end Go.Proofs.Ytobblbplanimgaa.Nvram
/-
  The reference's power by contract. Helper text; no statement is proved here.
-/
set_option linter.unusedVariables false
set_option maxRecDepth 20000
set_option linter.unusedSimpArgs false
namespace Go.Proofs.Ytobblbplanimgaa.Nvram
open Go.RowKit Go.Proofs.Ytobblbplanimgaa.Base Go.Proofs.Ytobblbplanimgaa.Laws Go.Proofs.Ytobblbplanimgaa.Disk Go.Proofs.Ytobblbplanimgaa.Row
/-- power of the reference: is it off; steps to a cut (-1: none); steps -/
structure Rp where
  off : Bool
  left : Int
  steps : Nat
def Rp.v (p : Rp) : Value := .agg #[.bool p.off, .int .i64 p.left, .int .i64 (p.steps : Int)]
def Rp.step (p : Rp) : Bool × Rp :=
  if p.off then (false, p) else if p.left = 0 then (false, ⟨true, -1, p.steps⟩) else (true, ⟨false, if 0 < p.left then p.left - 1 else p.left, p.steps + 1⟩)
theorem below_set {B : Nat} {w w' : World} {g i : Nat} {v : Value} (h : Below B w w') (hs : B ≤ w'.heap.size) (hg : B ≤ g) : Below B w (w'.setCell ⟨g, i, none⟩ v) :=
  below_grown h ⟨rfl, rfl, rfl, by simp, fun k hk hne => heap_setCell_other w' ⟨g, i, none⟩ k v (fun e => hne (by rw [e]))⟩ hs hg
theorem results_two_cell {P : Program} {fn : Func} {p q : Tmp} {ty : TypeId} (h : fn.results = #[.tmp q, .cell p ty]) (tmps : Array Value) (w : World) (g : Nat) (t : TypeId) (cs : Array Value) (fr : Nat × Nat) (d : TypeDesc) (v : Value)
    (hp : tmps.getD p undef = .pointer (some ⟨g, 0, none⟩)) (hq : tmps.getD q undef = v) (hg : w.heap[g]? = some (.cells cs t fr))
    (hu : P.underlying ty = some d) (hd : (match d with | .struct _ | .array _ _ => true | _ => false) = true) (hi : (P.info? ty).map (·.size) = some cs.size) :
    (results fn tmps).run P w = .ok (.tuple #[v, .agg cs]) w := by
  have hp' : tmps[p]?.getD undef = .pointer (some ⟨g, 0, none⟩) := by simpa using hp
  have hq' : tmps[q]?.getD undef = v := by simpa using hq
  simp [results, h, hp', hq', asAddr, run_loadVar_row w g t ty cs fr d hg hu hd hi]
theorem results_three_cell {P : Program} {fn : Func} {p p2 q : Tmp} {ty ty2 : TypeId} (h : fn.results = #[.tmp q, .cell p ty, .cell p2 ty2]) (tmps : Array Value) (w : World) (g g2 : Nat) (t t2 : TypeId) (cs cs2 : Array Value) (fr fr2 : Nat × Nat) (d d2 : TypeDesc) (v : Value)
    (hp : tmps.getD p undef = .pointer (some ⟨g, 0, none⟩)) (hp2 : tmps.getD p2 undef = .pointer (some ⟨g2, 0, none⟩)) (hq : tmps.getD q undef = v) (hg : w.heap[g]? = some (.cells cs t fr)) (hg2 : w.heap[g2]? = some (.cells cs2 t2 fr2))
    (hu : P.underlying ty = some d) (hd : (match d with | .struct _ | .array _ _ => true | _ => false) = true) (hi : (P.info? ty).map (·.size) = some cs.size)
    (hu2 : P.underlying ty2 = some d2) (hd2 : (match d2 with | .struct _ | .array _ _ => true | _ => false) = true) (hi2 : (P.info? ty2).map (·.size) = some cs2.size) :
    (results fn tmps).run P w = .ok (.tuple #[v, .agg cs, .agg cs2]) w := by
  have hp' : tmps[p]?.getD undef = .pointer (some ⟨g, 0, none⟩) := by simpa using hp
  have hp2' : tmps[p2]?.getD undef = .pointer (some ⟨g2, 0, none⟩) := by simpa using hp2
  have hq' : tmps[q]?.getD undef = v := by simpa using hq
  simp [results, h, hp', hp2', hq', asAddr, run_loadVar_row w g t ty cs fr d hg hu hd hi, run_loadVar_row w g2 t2 ty2 cs2 fr2 d2 hg2 hu2 hd2 hi2]
theorem ron_any (w : World) : Calls Try.prog 23 #[] w fun e w' => e = .returned (Rp.v ⟨false, -1, 0⟩) ∧ Below w.heap.size w w' := by
  go_enter Try.func23, Try.ntmps23
  go_wp2_with fail
  exact bodyPost_ret (v := Rp.v ⟨false, -1, 0⟩) (results_cell_row rfl _ _ w.heap.size 50 _ (0, 0) _ rfl (blk_at (cs := [.bool false, .int .i64 (-1), .int .i64 0]) rfl rfl) Try.underlying50 rfl (by kernel_rfl)) rfl ⟨rfl, (Below.refl _ _).alloc (Nat.le_refl _) _⟩
theorem rrestore_any (p : Rp) (w : World) : Calls Try.prog 28 #[p.v] w fun e w' => e = .returned (Rp.v ⟨false, -1, p.steps⟩) ∧ Below w.heap.size w w' := by
  obtain ⟨off, left, steps⟩ := p
  unfold Rp.v
  simp only
  go_enter Try.func28, Try.ntmps28
  go_wp2_with fail
  exact bodyPost_ret (v := .agg #[.bool false, .int .i64 (-1), .int .i64 (steps : Int)]) (results_cell_row rfl _ _ (w.heap.size + 1) 50 _ (0, 0) _ rfl (blk_at (cs := [.bool false, .int .i64 (-1), .int .i64 (steps : Int)]) (by simp) rfl) Try.underlying50 rfl (by kernel_rfl)) rfl ⟨rfl, ((Below.refl _ _).alloc (Nat.le_refl _) _).alloc (by simp) _⟩
/-- what Cut answers, and the power behind it -/
def Rp.cut (p : Rp) (n : Int) : Int × Rp := if n < 0 then (2, p) else if p.off then (4, p) else (0, { p with left := n })
theorem rcut_any (p : Rp) (n : Int) (w : World) : Calls Try.prog 27 #[p.v, .int .i64 n] w fun e w' => e = .returned (.tuple #[.int .i64 (p.cut n).1, (p.cut n).2.v]) ∧ Below w.heap.size w w' := by
  obtain ⟨off, left, steps⟩ := p
  unfold Rp.v Rp.cut
  by_cases hn : n < 0
  · rw [if_pos hn]
    simp only
    go_enter Try.func27, Try.ntmps27
    go_wp2_with fail
    go_region_held3 (fun w' => w'.cell? ⟨w.heap.size, 0, none⟩ = some (.bool off) ∧ w'.cell? ⟨w.heap.size, 1, none⟩ = some (.int .i64 left) ∧ w'.cell? ⟨w.heap.size, 2, none⟩ = some (.int .i64 (steps : Int))) (go_keep) (fail)
    go_wp2_with fail
    exact bodyPost_ret (v := .tuple #[.int .i64 2, .agg #[.bool off, .int .i64 left, .int .i64 (steps : Int)]]) (results_two_cell rfl _ _ (w.heap.size + 1) 50 _ (0, 0) _ _ rfl rfl (blk_at (cs := [.bool off, .int .i64 left, .int .i64 (steps : Int)]) (by simp) rfl) Try.underlying50 rfl (by kernel_rfl)) rfl ⟨rfl, (((Below.refl _ _).alloc (Nat.le_refl _) _).alloc (by simp) _).drew⟩
  · rw [if_neg hn]
    have hn' : 0 ≤ n := by omega
    cases off
    · simp only [Bool.false_eq_true, if_false]
      go_enter Try.func27, Try.ntmps27
      go_wp2_with fail
      go_region_held3 (fun w' => w'.cell? ⟨w.heap.size, 0, none⟩ = some (.bool false) ∧ w'.cell? ⟨w.heap.size, 1, none⟩ = some (.int .i64 n) ∧ w'.cell? ⟨w.heap.size, 2, none⟩ = some (.int .i64 (steps : Int))) (go_keep) (fail)
      go_wp2_with fail
      exact bodyPost_ret (v := .tuple #[.int .i64 0, .agg #[.bool false, .int .i64 n, .int .i64 (steps : Int)]]) (results_two_cell rfl _ _ (w.heap.size + 1) 50 _ (0, 0) _ _ rfl rfl (blk_at (cs := [.bool false, .int .i64 n, .int .i64 (steps : Int)]) (by simp) rfl) Try.underlying50 rfl (by kernel_rfl)) rfl ⟨rfl, (((Below.refl _ _).alloc (Nat.le_refl _) _).alloc (by simp) _).drew⟩
    · simp only [if_true]
      go_enter Try.func27, Try.ntmps27
      go_wp2_with fail
      go_region_held3 (fun w' => w'.cell? ⟨w.heap.size, 0, none⟩ = some (.bool true) ∧ w'.cell? ⟨w.heap.size, 1, none⟩ = some (.int .i64 left) ∧ w'.cell? ⟨w.heap.size, 2, none⟩ = some (.int .i64 (steps : Int))) (go_keep) (fail)
      go_wp2_with fail
      exact bodyPost_ret (v := .tuple #[.int .i64 4, .agg #[.bool true, .int .i64 left, .int .i64 (steps : Int)]]) (results_two_cell rfl _ _ (w.heap.size + 1) 50 _ (0, 0) _ _ rfl rfl (blk_at (cs := [.bool true, .int .i64 left, .int .i64 (steps : Int)]) (by simp) rfl) Try.underlying50 rfl (by kernel_rfl)) rfl ⟨rfl, (((Below.refl _ _).alloc (Nat.le_refl _) _).alloc (by simp) _).drew⟩
theorem rstep_any (p : Rp) (hp : -1 ≤ p.left ∧ p.left ≤ 9223372036854775807 ∧ p.steps ≤ 4611686018427387904) (w : World) : Calls Try.prog 39 #[p.v] w fun e w' => e = .returned (.tuple #[.bool p.step.1, p.step.2.v]) ∧ Below w.heap.size w w' := by
  obtain ⟨off, left, steps⟩ := p
  obtain ⟨h1, h2, h3⟩ := hp
  simp only at h1 h2 h3
  unfold Rp.v Rp.step
  cases off
  · simp only [Bool.false_eq_true, if_false]
    by_cases h0 : left = 0
    · subst h0
      simp only [if_true]
      go_enter Try.func39, Try.ntmps39
      go_wp2_with fail
      go_region_held3 (fun w' => w'.cell? ⟨w.heap.size, 0, none⟩ = some (.bool false) ∧ w'.cell? ⟨w.heap.size, 1, none⟩ = some (.int .i64 0) ∧ w'.cell? ⟨w.heap.size, 2, none⟩ = some (.int .i64 (steps : Int))) (go_keep) (fail)
      go_wp2_with fail
      exact bodyPost_ret (v := .tuple #[.bool false, .agg #[.bool true, .int .i64 (-1), .int .i64 (steps : Int)]]) (results_two_cell rfl _ _ (w.heap.size + 1) 50 _ (0, 0) _ _ rfl rfl (blk_at (cs := [.bool true, .int .i64 (-1), .int .i64 (steps : Int)]) (by simp) rfl) Try.underlying50 rfl (by kernel_rfl)) rfl ⟨rfl, (((Below.refl _ _).alloc (Nat.le_refl _) _).alloc (by simp) _).drew⟩
    · rw [if_neg h0]
      simp only
      by_cases hl : 0 < left
      · rw [if_pos hl]
        go_enter Try.func39, Try.ntmps39
        go_wp2_with fail
        go_region_held3 (fun w' => w'.cell? ⟨w.heap.size, 0, none⟩ = some (.bool false) ∧ w'.cell? ⟨w.heap.size, 1, none⟩ = some (.int .i64 (left - 1)) ∧ w'.cell? ⟨w.heap.size, 2, none⟩ = some (.int .i64 ((steps : Int) + 1))) (go_keep) (fail)
        go_wp2_with fail
        exact bodyPost_ret (v := .tuple #[.bool true, .agg #[.bool false, .int .i64 (left - 1), .int .i64 ((steps + 1 : Nat) : Int)]]) (results_two_cell rfl _ _ (w.heap.size + 1) 50 _ (0, 0) _ _ rfl rfl (blk_at (cs := [.bool false, .int .i64 (left - 1), .int .i64 ((steps + 1 : Nat) : Int)]) (by simp) rfl) Try.underlying50 rfl (by kernel_rfl)) rfl ⟨rfl, (((Below.refl _ _).alloc (Nat.le_refl _) _).alloc (by simp) _).drew⟩
      · rw [if_neg hl]
        go_enter Try.func39, Try.ntmps39
        go_wp2_with fail
        go_region_held3 (fun w' => w'.cell? ⟨w.heap.size, 0, none⟩ = some (.bool false) ∧ w'.cell? ⟨w.heap.size, 1, none⟩ = some (.int .i64 left) ∧ w'.cell? ⟨w.heap.size, 2, none⟩ = some (.int .i64 ((steps : Int) + 1))) (go_keep) (fail)
        go_wp2_with fail
        exact bodyPost_ret (v := .tuple #[.bool true, .agg #[.bool false, .int .i64 left, .int .i64 ((steps + 1 : Nat) : Int)]]) (results_two_cell rfl _ _ (w.heap.size + 1) 50 _ (0, 0) _ _ rfl rfl (blk_at (cs := [.bool false, .int .i64 left, .int .i64 ((steps + 1 : Nat) : Int)]) (by simp) rfl) Try.underlying50 rfl (by kernel_rfl)) rfl ⟨rfl, (((Below.refl _ _).alloc (Nat.le_refl _) _).alloc (by simp) _).drew⟩
  · simp only [if_true]
    go_enter Try.func39, Try.ntmps39
    go_wp2_with fail
    go_region_held3 (fun w' => w'.cell? ⟨w.heap.size, 0, none⟩ = some (.bool true) ∧ w'.cell? ⟨w.heap.size, 1, none⟩ = some (.int .i64 left) ∧ w'.cell? ⟨w.heap.size, 2, none⟩ = some (.int .i64 (steps : Int))) (go_keep) (fail)
    go_wp2_with fail
    exact bodyPost_ret (v := .tuple #[.bool false, .agg #[.bool true, .int .i64 left, .int .i64 (steps : Int)]]) (results_two_cell rfl _ _ (w.heap.size + 1) 50 _ (0, 0) _ _ rfl rfl (blk_at (cs := [.bool true, .int .i64 left, .int .i64 (steps : Int)]) (by simp) rfl) Try.underlying50 rfl (by kernel_rfl)) rfl ⟨rfl, (((Below.refl _ _).alloc (Nat.le_refl _) _).alloc (by simp) _).drew⟩
end Go.Proofs.Ytobblbplanimgaa.Nvram
/-
  Get and Unpack of the reference by contract. Helper text; no statement is proved here.
-/
set_option linter.unusedVariables false
set_option maxRecDepth 20000
set_option linter.unusedSimpArgs false
namespace Go.Proofs.Ytobblbplanimgaa.Codec
open Go.RowKit Go.Proofs.Ytobblbplanimgaa.Base Go.Proofs.Ytobblbplanimgaa.Laws Go.Proofs.Ytobblbplanimgaa.Inv Go.Proofs.Ytobblbplanimgaa.InvL Go.Proofs.Ytobblbplanimgaa.InvM
theorem get_any (a : Option Addr) (len cap : Nat) (l : List UInt8) (i n : Nat) (hi : i + n ≤ len) (hn : n ≤ 8) (w : World) (h : Bts w a len cap l) :
    Calls Try.prog 59 #[.slice a len cap, .int .i64 (i : Int), .int .i64 (n : Int)] w fun e w' => e = .returned (.int .u64 (val ((l.drop i).take n) : Nat)) ∧ w = w' := by
  obtain ⟨hl, hlc, hm, ha⟩ := h
  unfold maxLen at hm
  obtain ⟨q, hq⟩ : ∃ q, q = (l.drop i).take n := ⟨_, rfl⟩
  have hql : q.length = n := by rw [hq, List.length_take, List.length_drop]; omega
  have HC := Lib.hid (show ∀ k x, q[k]? = some x → ∃ b o, a = some ⟨b, o, none⟩ ∧ w.cell? ⟨b, o + (i + k), none⟩ = some (Base.u8 x) from fun k x hx => by
    rcases ha with h0 | ⟨b, o, rfl, hc⟩
    · have := (List.getElem?_eq_some_iff.1 hx).1; omega
    · rw [hq, List.getElem?_take] at hx
      split at hx
      · rw [List.getElem?_drop] at hx
        exact ⟨b, o, rfl, hc _ x hx⟩
      · cases hx)
  rw [← hq]
  clear ha hq
  go_enter Try.func59, Try.ntmps59
  go_wp2
  go_loop [7, 8] (fun v j => ∃ k : Nat, k ≤ n ∧ j = .int .i64 k ∧ v = .int .u64 (val (q.take k) : Nat)) (fun _ j => n - (intOf j).toNat)
  case atStart => exact ⟨0, by omega, rfl, rfl⟩
  case round =>
    obtain ⟨k, hk, rfl, rfl⟩ := hrel
    by_cases hkn : k < n
    · obtain ⟨x, hx⟩ : ∃ x, q[k]? = some x := ⟨_, List.getElem?_eq_getElem (by omega)⟩
      obtain ⟨b, o, rfl, hc⟩ := HC.out k x hx
      have HT := Lib.hid (take_snoc q k x hx)
      have hv := val_lt (q.take k)
      rw [List.length_take, show min k q.length = k from by omega] at hv
      have hv2 : val (q.take k) < 72057594037927936 := by
        have : (2 : Nat) ^ (8 * k) ≤ 2 ^ 56 := Nat.pow_le_pow_right (by decide) (by omega)
        have e : (2 : Nat) ^ 56 = 72057594037927936 := by decide
        omega
      have hx8 := x.toNat_lt
      unfold Base.u8 at hc
      have hmul : IntKind.u64.wrap ((val (q.take k) : Int) * 256) = (val (q.take k) : Int) * 256 := by rw [IntKind.wrap_u64]; omega
      have hcv : IntKind.u64.wrap (x.toNat : Int) = (x.toNat : Int) := by rw [IntKind.wrap_u64]; omega
      have hadd : IntKind.u64.wrap ((val (q.take k) : Int) * 256 + (x.toNat : Int)) = (val (q.take k) : Int) * 256 + (x.toNat : Int) := by rw [IntKind.wrap_u64]; omega
      have hi1 : IntKind.i64.wrap ((i : Int) + k) = (i : Int) + k := by rw [IntKind.wrap_i64]; omega
      have hlt : (i : Int) + k < len := by omega
      have hlt2 : i + k < len := by omega
      have hnn : ¬ ((i : Int) + k < 0) := by omega
      clear hx hv
      go_wp2
      go_round
      case rel => exact ⟨k + 1, by omega, by go_num, by rw [HT.out, val_snoc]; congr 1⟩
      case measure => simp [intOf]; omega
    · go_wp2
      go_ret
      obtain rfl : k = n := by omega
      exact ⟨by rw [List.take_of_length_le (by omega)]; rfl, rfl⟩
end Go.Proofs.Ytobblbplanimgaa.Codec
/-
  Unpack of the reference by contract. Helper text; no statement is proved here.
-/
set_option linter.unusedVariables false
set_option maxRecDepth 20000
set_option linter.unusedSimpArgs false
namespace Go.Proofs.Ytobblbplanimgaa.Codec
open Go.RowKit Go.Proofs.Ytobblbplanimgaa.Base Go.Proofs.Ytobblbplanimgaa.Laws Go.Proofs.Ytobblbplanimgaa.Inv Go.Proofs.Ytobblbplanimgaa.InvL Go.Proofs.Ytobblbplanimgaa.InvM
/-- the sum stands behind the record: as a number, as bytes -/
theorem sum_iff {l : List UInt8} (h : 37 ≤ l.length) : (l.drop 33).take 4 = be 4 (Crc.crc (l.take 33)) ↔ Crc.crc (l.take 33) = val ((l.drop 33).take 4) := by
  have hl : ((l.drop 33).take 4).length = 4 := by rw [List.length_take, List.length_drop]; omega
  constructor
  · intro e
    rw [e, val_be 4 _ (by have := Crc.crc_lt (l.take 33); simpa using this)]
  · intro e
    rw [e, be_val' _ hl]
theorem data_set {k : Int} {v : Nat} {a : Int} {d : List UInt8} {j : Nat} {x : UInt8} (hd : d.length = 16) (hj : j < 16) (hx : d[j]? = some x) : (recV k v a (d.take j ++ OwnB.zs (16 - j))).set (3 + j) (Base.u8 x) = recV k v a (d.take (j + 1) ++ OwnB.zs (16 - (j + 1))) := by
  unfold recV
  have e : 16 - j = (16 - (j + 1)) + 1 := by omega
  rw [take_snoc d j x hx, e, show OwnB.zs (16 - (j + 1) + 1) = 0 :: OwnB.zs (16 - (j + 1)) from rfl, List.set_append_right _ _ (by simp), show 3 + j - [Value.int .i64 k, .int .u64 (v : Int), .int .i64 a].length = j from by simp, bv_append]
  congr 1
  rw [show bv (0 :: OwnB.zs (16 - (j + 1))) = Base.u8 0 :: bv (OwnB.zs (16 - (j + 1))) from rfl, set_mid _ _ _ _ j (by rw [bv_len, List.length_take]; omega), List.append_assoc, bv_append]
  rfl
set_option maxHeartbeats 1000000 in
theorem runpack_short (a : Option Addr) (len cap : Nat) (l : List UInt8) (w : World) (h : Bts w a len cap l) (hs : len < 37) :
    Calls Try.prog 52 #[.slice a len cap] w fun e w' => e = .returned (.tuple #[.agg zrec.toArray, .int .i64 1]) ∧ Below w.heap.size w w' := by
  obtain ⟨hl, hlc, hm, ha⟩ := h
  unfold maxLen at hm
  clear ha
  have Z := Lib.hid (blk_at (w := w) (g := w.heap.size) (cs := zrec) (t := 27) (arr := #[.int .i64 0, .int .u64 0, .int .i64 0, .int .u8 0, .int .u8 0, .int .u8 0, .int .u8 0, .int .u8 0, .int .u8 0, .int .u8 0, .int .u8 0, .int .u8 0, .int .u8 0, .int .u8 0, .int .u8 0, .int .u8 0, .int .u8 0, .int .u8 0, .int .u8 0]) rfl rfl)
  go_enter Try.func52, Try.ntmps52
  go_upto_region 2 with (fail)
  obtain ⟨w1, hw1⟩ : ∃ w1, w1 = w.alloc (.cells #[.int .i64 0, .int .u64 0, .int .i64 0, .int .u8 0, .int .u8 0, .int .u8 0, .int .u8 0, .int .u8 0, .int .u8 0, .int .u8 0, .int .u8 0, .int .u8 0, .int .u8 0, .int .u8 0, .int .u8 0, .int .u8 0, .int .u8 0, .int .u8 0, .int .u8 0] 27) := ⟨_, rfl⟩
  have L1 := Lib.hid (show Below w.heap.size w w1 from hw1 ▸ ((Below.refl w.heap.size w).alloc (Nat.le_refl _) _))
  rw [← hw1] at Z ⊢
  clear hw1
  go_wp2_with (first | (refine wpList_store_blk rfl 27 _ _ rfl w.heap.size 0 19 rfl 27 zrec zrec rfl Z.out (by kernel_rfl) rfl (by decide) (recV_one _ _ _ _) ?_; intro w2 z2 g2; have Z2 := Lib.hid (show Blk w2 w.heap.size zrec 27 from z2); have L2 := Lib.hid (below_grown L1.out g2 L1.out.size (Nat.le_refl _)); clear z2 g2))
  exact bodyPost_ret (v := .tuple #[.agg zrec.toArray, .int .i64 1]) (results_cell_two rfl _ _ w.heap.size 27 _ (0, 0) _ _ rfl rfl Z2.out Try.underlying27 rfl (by kernel_rfl)) rfl ⟨rfl, L2.out⟩
set_option maxRecDepth 4000 in
set_option maxHeartbeats 4000000 in
theorem runpack_long (a : Option Addr) (len cap : Nat) (l : List UInt8) (w : World) (h : Bts w a len cap l) (hs : 37 ≤ len) :
    Calls Try.prog 52 #[.slice a len cap] w fun e w' => e = .returned (.tuple #[.agg (recOut l).toArray, .int .i64 (recErr l)]) ∧ Below w.heap.size w w' := by
  have h0 := h
  obtain ⟨hl, hlc, hm, ha⟩ := h
  rcases ha with ha | ⟨b, o, rfl, hc⟩
  · omega
  have hb : b < w.heap.size := by
    obtain ⟨x, hx⟩ : ∃ x, l[0]? = some x := ⟨_, List.getElem?_eq_getElem (by omega)⟩
    exact block_lt_of_cell (hc 0 x hx)
  have T0 := Lib.hid h0
  clear h0 hc
  obtain ⟨x0, hx0⟩ : ∃ x, l[0]? = some x := ⟨_, List.getElem?_eq_getElem (by omega)⟩
  have hk : kindOf l = (x0.toNat : Int) := by
    unfold kindOf
    cases l with
    | nil => simp at hx0
    | cons y l => simp at hx0; subst hx0; rfl
  have CJ := Lib.hid (show ∀ w', Bts w' (some ⟨b, o, none⟩) len cap l → ∀ j x, l[j]? = some x → w'.cell? ⟨b, o + j, none⟩ = some (Base.u8 x) from fun w' h j x hx => by
    obtain ⟨_, _, _, h4⟩ := h
    rcases h4 with h4 | ⟨b', o', e, hc⟩
    · omega
    · simp only [Option.some.injEq, Addr.mk.injEq, and_true] at e
      obtain ⟨rfl, rfl⟩ := e
      exact hc j x hx)
  have C0 := Lib.hid (show ∀ w', Bts w' (some ⟨b, o, none⟩) len cap l → w'.cell? ⟨b, o, none⟩ = some (.int .u8 (x0.toNat : Int)) from fun w' h => CJ.out w' h 0 x0 hx0)
  have hd16 : (dataOf l).length = 16 := by unfold dataOf; rw [List.length_take, List.length_drop]; omega
  have BR := Lib.hid (built_three (x0.toNat : Int) (verOf l) (lbaOf l))
  obtain ⟨rc, hrc⟩ : ∃ rc, rc = recV (x0.toNat : Int) (verOf l) (lbaOf l) (OwnB.zs 16) := ⟨_, rfl⟩
  have hr19 : rc.length = 19 := by rw [hrc]; rfl
  have hr1 : ∀ u ∈ rc, u.oneCell' = true := by rw [hrc]; exact recV_one _ _ _ _
  rw [← hrc] at BR
  have RC := Lib.hid hrc
  clear hrc
  unfold maxLen at hm
  have hw0 : IntKind.i64.wrap (x0.toNat : Int) = (x0.toNat : Int) := by have := x0.toNat_lt; rw [IntKind.wrap_i64]; omega
  obtain ⟨w1, hw1⟩ : ∃ w1, w1 = w.alloc (.cells #[.int .i64 0, .int .u64 0, .int .i64 0, .int .u8 0, .int .u8 0, .int .u8 0, .int .u8 0, .int .u8 0, .int .u8 0, .int .u8 0, .int .u8 0, .int .u8 0, .int .u8 0, .int .u8 0, .int .u8 0, .int .u8 0, .int .u8 0, .int .u8 0, .int .u8 0] 27) := ⟨_, rfl⟩
  have Z := Lib.hid (show Blk w1 w.heap.size zrec 27 from hw1 ▸ (blk_at (w := w) (g := w.heap.size) (cs := zrec) (t := 27) (arr := #[.int .i64 0, .int .u64 0, .int .i64 0, .int .u8 0, .int .u8 0, .int .u8 0, .int .u8 0, .int .u8 0, .int .u8 0, .int .u8 0, .int .u8 0, .int .u8 0, .int .u8 0, .int .u8 0, .int .u8 0, .int .u8 0, .int .u8 0, .int .u8 0, .int .u8 0]) rfl rfl))
  have L1 := Lib.hid (show Below w.heap.size w w1 from hw1 ▸ ((Below.refl w.heap.size w).alloc (Nat.le_refl _) _))
  have TT := Lib.hid (show Bts w1 (some ⟨b, o, none⟩) len cap l from hw1 ▸ bts_alloc T0.out _)
  have hN1 : w1.heap.size = w.heap.size + 1 := by rw [hw1]; simp only [size_alloc]
  have hne : ¬ len = 0 := by omega
  have hnc : ¬ cap = 0 := by omega
  have h33 : (33 : Int) ≤ cap := by omega
  clear hx0
  go_enter Try.func52, Try.ntmps52
  go_wp2
  rw [← hw1]
  clear hw1
  obtain ⟨N, hN⟩ : ∃ N, N = w1.heap.size := ⟨_, rfl⟩
  have KV := Lib.hid (fun (i : Nat) (d : Array Bool) (w' : World) (hi : i ≠ 10) (h : (Bts w' (some ⟨b, o, none⟩) len cap l ∧ Blk w' w.heap.size zrec 27 ∧ Below w.heap.size w w') ∧ At 10 (fun w' => w'.heap.size = N) (fun w' => Blk w' N zrec 27) d w') => (⟨h.1, At.keep hi id id h.2⟩ : (Bts w' (some ⟨b, o, none⟩) len cap l ∧ Blk w' w.heap.size zrec 27 ∧ Below w.heap.size w w') ∧ At 10 (fun w' => w'.heap.size = N) (fun w' => Blk w' N zrec 27) (d.setIfInBounds i true) w'))
  refine InvL.wp_region_inv_tail (fun d w' => (Bts w' (some ⟨b, o, none⟩) len cap l ∧ Blk w' w.heap.size zrec 27 ∧ Below w.heap.size w w') ∧ At 10 (fun w' => w'.heap.size = N) (fun w' => Blk w' N zrec 27) d w') 11 (by kernel_rfl) (by kernel_rfl) ⟨⟨TT.out, Z.out.drew, L1.out.drew⟩, At.start (by rfl) hN.symm⟩ ?_
  simp only [List.take_succ_cons, List.take_zero, List.drop_succ_cons, List.drop_zero]
  refine invl_value (.slice (some ⟨b, o, none⟩) len cap) rfl (fun d w' h => by go_simp) (fun d w' _ h => KV.out _ d w' (by decide) h) ?_
  simp only [Act.put, List.setIfInBounds_toArray, List.set_cons_zero, List.set_cons_succ]
  refine invl_value (.pointer (some ⟨b, o, none⟩)) rfl (fun d w' h => by go_simp) (fun d w' _ h => KV.out _ d w' (by decide) h) ?_
  simp only [Act.put, List.setIfInBounds_toArray, List.set_cons_zero, List.set_cons_succ]
  refine invl_value (.int .u8 (x0.toNat : Int)) rfl (fun d w' h => by have c0 := C0.out w' h.1.1; go_simp) (fun d w' _ h => KV.out _ d w' (by decide) h) ?_
  simp only [Act.put, List.setIfInBounds_toArray, List.set_cons_zero, List.set_cons_succ]
  refine invl_value (.int .i64 (x0.toNat : Int)) rfl (fun d w' h => by go_simp) (fun d w' _ h => KV.out _ d w' (by decide) h) ?_
  simp only [Act.put, List.setIfInBounds_toArray, List.set_cons_zero, List.set_cons_succ]
  refine invl_value (.slice (some ⟨b, o, none⟩) len cap) rfl (fun d w' h => by go_simp) (fun d w' _ h => KV.out _ d w' (by decide) h) ?_
  simp only [Act.put, List.setIfInBounds_toArray, List.set_cons_zero, List.set_cons_succ]
  refine invl_call (.int .u64 (val ((l.drop 1).take 8) : Nat)) rfl 59 #[.slice (some ⟨b, o, none⟩) len cap, .int .i64 1, .int .i64 8] (fun d w' _ => by go_simp) (fun d w' _ h => (get_any _ _ _ l 1 8 (by omega) (by decide) w' h.1.1).mono fun e w'' ⟨he, hw⟩ => ⟨he, hw ▸ KV.out _ d w' (by decide) h⟩) ?_
  simp only [Act.put, List.setIfInBounds_toArray, List.set_cons_zero, List.set_cons_succ]
  refine invl_value (.slice (some ⟨b, o, none⟩) len cap) rfl (fun d w' h => by go_simp) (fun d w' _ h => KV.out _ d w' (by decide) h) ?_
  simp only [Act.put, List.setIfInBounds_toArray, List.set_cons_zero, List.set_cons_succ]
  refine invl_call (.int .u64 (val ((l.drop 9).take 8) : Nat)) rfl 59 #[.slice (some ⟨b, o, none⟩) len cap, .int .i64 9, .int .i64 8] (fun d w' _ => by go_simp) (fun d w' _ h => (get_any _ _ _ l 9 8 (by omega) (by decide) w' h.1.1).mono fun e w'' ⟨he, hw⟩ => ⟨he, hw ▸ KV.out _ d w' (by decide) h⟩) ?_
  simp only [Act.put, List.setIfInBounds_toArray, List.set_cons_zero, List.set_cons_succ]
  refine invl_value (.int .i64 (lbaOf l)) rfl (fun d w' h => by go_simp; all_goals rfl) (fun d w' _ h => KV.out _ d w' (by decide) h) ?_
  simp only [Act.put, List.setIfInBounds_toArray, List.set_cons_zero, List.set_cons_succ]
  refine invl_value (.agg rc.toArray) rfl (fun d w' h => by exact exec_build (vs := [(0, .int .i64 (x0.toNat : Int)), (1, .int .u64 (verOf l : Int)), (2, .int .i64 (lbaOf l))]) rfl rfl BR.out) (fun d w' _ h => KV.out _ d w' (by decide) h) ?_
  simp only [Act.put, List.setIfInBounds_toArray, List.set_cons_zero, List.set_cons_succ]
  refine invl_world (.pointer (some ⟨N, 0, none⟩)) rfl (fun d w' hd h => ⟨w'.alloc (.cells #[.int .i64 0, .int .u64 0, .int .i64 0, .int .u8 0, .int .u8 0, .int .u8 0, .int .u8 0, .int .u8 0, .int .u8 0, .int .u8 0, .int .u8 0, .int .u8 0, .int .u8 0, .int .u8 0, .int .u8 0, .int .u8 0, .int .u8 0, .int .u8 0, .int .u8 0] 27), by have hh := h.2.before hd; go_simp, ⟨bts_alloc h.1.1 _, h.1.2.1.alloc _, h.1.2.2.alloc h.1.2.2.size _⟩, At.now hd (blk_at (h.2.before hd) rfl)⟩) ?_
  simp only [Act.put, List.setIfInBounds_toArray, List.set_cons_zero, List.set_cons_succ]
  refine invl_nil fun w2 hI => ?_
  obtain ⟨⟨bt, bz, bl⟩, hn⟩ := hI
  have hn := hn.done (by rfl)
  have hN2 := hn.lt
  refine wpList_store_blk rfl 27 _ _ rfl N 0 19 rfl 27 zrec rc rfl hn (by kernel_rfl) hr19 (by decide) hr1 ?_
  intro w3 n3 g3
  rw [put_all _ _ (by rw [hr19]; rfl)] at n3
  have hNw : w.heap.size < N := by omega
  have Z3 := Lib.hid (bz.grown g3 (by omega))
  have R3 := Lib.hid (show Blk w3 N (recV (x0.toNat : Int) (verOf l) (lbaOf l) ((dataOf l).take 0 ++ OwnB.zs (16 - 0))) 27 from by rw [RC.out] at n3; exact n3)
  have L3 := Lib.hid (below_grown bl g3 (by omega) (by omega))
  clear bt bz bl hn g3 n3 Z L1 TT KV BR C0 hN hN1 hN2 hr19 hr1 RC hw0
  have DJ := Lib.hid (show ∀ j, j < 16 → ∃ x, (dataOf l)[j]? = some x ∧ l[17 + j]? = some x from fun j hj => by
    obtain ⟨x, hx⟩ : ∃ x, (dataOf l)[j]? = some x := ⟨_, List.getElem?_eq_getElem (by omega)⟩
    refine ⟨x, hx, ?_⟩
    unfold dataOf at hx
    rw [List.getElem?_take, if_pos hj, List.getElem?_drop] at hx
    exact hx)
  obtain ⟨dt, hdt⟩ : ∃ dt, dt = dataOf l := ⟨_, rfl⟩
  rw [← hdt] at R3 DJ hd16
  have HDT := Lib.hid hdt
  clear hdt
  go_wp2
  go_loopw [5] (fun i wr => ∃ j : Nat, j ≤ 16 ∧ i = .int .i64 (j : Int) ∧ Blk wr w.heap.size zrec 27 ∧ Blk wr N (recV (x0.toNat : Int) (verOf l) (lbaOf l) (dt.take j ++ OwnB.zs (16 - j))) 27 ∧ Below w.heap.size w wr) (fun i _ => 16 - (intOf i).toNat)
  case atStart => exact ⟨0, by omega, rfl, Z3.out, R3.out, L3.out⟩
  case round =>
    obtain ⟨j, hj, rfl, bz, br, bl⟩ := hrel
    have BZ := Lib.hid bz
    have BN := Lib.hid br
    have BL := Lib.hid bl
    have TB := Lib.hid (bts_under T0.out bl hb)
    have hNr := br.lt
    clear bz br bl Z3 R3 L3
    by_cases hj16 : j < 16
    · obtain ⟨x, hx1, hx2⟩ := DJ.out j hj16
      have hcx := CJ.out wr TB.out _ x hx2
      have HX := Lib.hid hx1
      have hlen17 : 17 + j < len := by omega
      have hlen17' : (17 : Int) + j < len := by omega
      have hfz := BN.out.frozen (3 + j)
      obtain ⟨y, hy⟩ : ∃ y, wr.cell? ⟨N, 3 + j, none⟩ = some y := ⟨_, (BN.out.cell (3 + j)).trans (List.getElem?_eq_getElem (by rw [recV_len _ _ _ _ (by simp [OwnB.zs]; omega)]; omega))⟩
      unfold Base.u8 at hcx
      clear hx1 hx2
      go_wp2
      go_roundw
      case rel =>
        refine ⟨j + 1, by omega, by go_num, BZ.out.setCell_far (by omega) _ _, ?_, below_grown BL.out (grown_setCell wr N (3 + j) _) BL.out.size (by omega)⟩
        have := BN.out.setCell (3 + j) (Base.u8 x)
        rw [data_set hd16 hj16 HX.out] at this
        exact this
      case measure => simp [intOf]; omega
    · obtain rfl : j = 16 := by omega
      rw [List.take_of_length_le (by omega), show OwnB.zs (16 - 16) = [] from rfl, List.append_nil] at BN
      clear DJ CJ
      obtain ⟨rd, hrd⟩ : ∃ rd, rd = recV (x0.toNat : Int) (verOf l) (lbaOf l) dt := ⟨_, rfl⟩
      have hr19 : rd.length = 19 := by rw [hrd]; exact recV_len _ _ _ _ hd16
      have hr1 : ∀ u ∈ rd, u.oneCell' = true := by rw [hrd]; exact recV_one _ _ _ _
      have RC := Lib.hid hrd
      by_cases hok : Ok (x0.toNat : Int) (lbaOf l)
      · have HO := Lib.hid (fun w' => rok_yes (v := verOf l) (l := dt) hok w')
        rw [← hrd] at HO BN
        clear hrd
        go_wp2_with (first | (refine wpList_load_g rfl 27 _ rfl N 19 rfl 27 rd _ BN.out Try.underlying27 rfl (by kernel_rfl) hr19 ?_))
        refine (HO.out _).mono ?_
        rintro e w4 ⟨rfl, hb4⟩
        have T4 := Lib.hid (TB.out.below hb4 (Nat.le_refl _))
        have Z5 := Lib.hid (BZ.out.below hb4 BZ.out.lt)
        have N5 := Lib.hid (BN.out.below hb4 hNr)
        have L5 := Lib.hid (BL.out.trans (hb4.mono BL.out.size))
        have hs5 := L5.out.size
        have HC := Lib.hid (RefSumW.crc_any (some ⟨b, o, none⟩) 33 cap (l.take 33) w4 (T4.out.take (by omega)))
        have HG := Lib.hid (get_any (some ⟨b, o, none⟩) len cap l 33 4 (by omega) (by decide) w4 T4.out)
        have hsum := sum_iff (l := l) (by omega)
        have hrecI : IsRec l ↔ Crc.crc (l.take 33) = val ((l.drop 33).take 4) := ⟨fun h => hsum.1 h.2.2, fun h => ⟨by omega, hk ▸ hok, hsum.2 h⟩⟩
        have hcr := Crc.crc_lt (l.take 33)
        clear TB T4 BZ BN BL HO hb4 hsum
        obtain ⟨c, hc⟩ : ∃ c, c = Crc.crc (l.take 33) := ⟨_, rfl⟩
        obtain ⟨s4, hs4⟩ : ∃ s, s = val ((l.drop 33).take 4) := ⟨_, rfl⟩
        rw [← hc] at HC hrecI hcr
        rw [← hs4] at HG hrecI
        clear hc hs4
        go_wp2_with fail
        refine HC.out.mono ?_
        rintro e w5 ⟨rfl, rfl⟩
        go_wp2_with fail
        refine HG.out.mono ?_
        rintro e w5 ⟨rfl, rfl⟩
        by_cases he : c = s4
        · have hrec := hrecI.2 he
          have he' : (c : Int) = s4 := by omega
          go_wp2_with (first | (refine wpList_load_blk rfl 27 _ rfl N 0 19 rfl 27 rd _ N5.out Try.underlying27 rfl (by kernel_rfl) (by rw [hr19]; omega) rd (by rw [List.drop_zero, List.take_of_length_le (by rw [hr19]; omega)]) ?_) | (refine wpList_store_blk rfl 27 _ _ rfl w.heap.size 0 19 rfl 27 zrec rd rfl Z5.out (by kernel_rfl) hr19 (by decide) hr1 ?_; intro w6 z6 g6; rw [put_all _ _ (by rw [hr19]; rfl)] at z6; have Z6 := Lib.hid z6; have L6 := Lib.hid (below_grown L5.out g6 hs5 (Nat.le_refl _)); clear z6 g6))
          exact bodyPost_ret (v := .tuple #[.agg rd.toArray, .int .i64 0]) (results_cell_two rfl _ _ w.heap.size 27 _ (0, 0) _ _ rfl rfl Z6.out Try.underlying27 rfl (by rw [List.size_toArray, hr19]; kernel_rfl)) rfl ⟨by rw [(out_yes hrec).1, (out_yes hrec).2, RC.out, hk, ← HDT.out], L6.out⟩
        · have hrec : ¬ IsRec l := fun h => he (hrecI.1 h)
          have he' : ¬ (c : Int) = s4 := by omega
          go_wp2_with (first | (refine wpList_load_blk rfl 27 _ rfl N 0 19 rfl 27 rd _ N5.out Try.underlying27 rfl (by kernel_rfl) (by rw [hr19]; omega) rd (by rw [List.drop_zero, List.take_of_length_le (by rw [hr19]; omega)]) ?_) | (refine wpList_store_blk rfl 27 _ _ rfl w.heap.size 0 19 rfl 27 zrec zrec rfl Z5.out (by kernel_rfl) rfl (by decide) (recV_one _ _ _ _) ?_; intro w6 z6 g6; have Z6 := Lib.hid (show Blk w6 w.heap.size zrec 27 from z6); have L6 := Lib.hid (below_grown L5.out g6 hs5 (Nat.le_refl _)); clear z6 g6))
          exact bodyPost_ret (v := .tuple #[.agg zrec.toArray, .int .i64 7]) (results_cell_two rfl _ _ w.heap.size 27 _ (0, 0) _ _ rfl rfl Z6.out Try.underlying27 rfl (by kernel_rfl)) rfl ⟨by rw [(out_no (by omega) hrec).1, (out_no (by omega) hrec).2], L6.out⟩
      · have HO := Lib.hid (fun w' => rok_no (v := verOf l) (l := dt) hok w')
        have hrec : ¬ IsRec l := fun h => hok (hk ▸ h.2.1)
        rw [← hrd] at HO BN
        clear hrd
        go_wp2_with (first | (refine wpList_load_g rfl 27 _ rfl N 19 rfl 27 rd _ BN.out Try.underlying27 rfl (by kernel_rfl) hr19 ?_))
        refine (HO.out _).mono ?_
        rintro e w4 ⟨rfl, hb4⟩
        have Z5 := Lib.hid (BZ.out.below hb4 BZ.out.lt)
        have N5 := Lib.hid (BN.out.below hb4 hNr)
        have L5 := Lib.hid (BL.out.trans (hb4.mono BL.out.size))
        have hs5 := L5.out.size
        clear TB BZ BN BL HO hb4
        go_wp2_with (first | (refine wpList_load_blk rfl 27 _ rfl N 0 19 rfl 27 rd _ N5.out Try.underlying27 rfl (by kernel_rfl) (by rw [hr19]; omega) rd (by rw [List.drop_zero, List.take_of_length_le (by rw [hr19]; omega)]) ?_) | (refine wpList_store_blk rfl 27 _ _ rfl w.heap.size 0 19 rfl 27 zrec zrec rfl Z5.out (by kernel_rfl) rfl (by decide) (recV_one _ _ _ _) ?_; intro w6 z6 g6; have Z6 := Lib.hid (show Blk w6 w.heap.size zrec 27 from z6); have L6 := Lib.hid (below_grown L5.out g6 hs5 (Nat.le_refl _)); clear z6 g6))
        exact bodyPost_ret (v := .tuple #[.agg zrec.toArray, .int .i64 7]) (results_cell_two rfl _ _ w.heap.size 27 _ (0, 0) _ _ rfl rfl Z6.out Try.underlying27 rfl (by kernel_rfl)) rfl ⟨by rw [(out_no (by omega) hrec).1, (out_no (by omega) hrec).2], L6.out⟩
theorem runpack_any (a : Option Addr) (len cap : Nat) (l : List UInt8) (w : World) (h : Bts w a len cap l) :
    Calls Try.prog 52 #[.slice a len cap] w fun e w' => e = .returned (.tuple #[.agg (recOut l).toArray, .int .i64 (recErr l)]) ∧ Below w.heap.size w w' := by
  by_cases hs : len < 37
  · rw [(out_short (h.1 ▸ hs)).1, (out_short (h.1 ▸ hs)).2]
    exact runpack_short a len cap l w h hs
  · exact runpack_long a len cap l w h (by omega)
end Go.Proofs.Ytobblbplanimgaa.Codec
/-
  Scan of the reference by contract. Helper text; no statement is proved here.
-/
set_option linter.unusedVariables false
set_option maxRecDepth 20000
set_option linter.unusedSimpArgs false
namespace Go.Proofs.Ytobblbplanimgaa.Codec
open Go.RowKit Go.Proofs.Ytobblbplanimgaa.Base Go.Proofs.Ytobblbplanimgaa.Laws Go.Proofs.Ytobblbplanimgaa.InvM
set_option maxRecDepth 4000 in
set_option maxHeartbeats 4000000 in
theorem rscan_any (a : Option Addr) (len cap : Nat) (l : List UInt8) (w : World) (h : Bts w a len cap l) (hlen : len ≤ 1048576 * 64) :
    Calls Try.prog 40 #[.slice a len cap] w fun e w' => ∃ v, e = .returned (.tuple #[v, .int .i64 (37 * (scanAll l).length : Nat)]) ∧ w'.ownsRow w.heap.size 27 19 v (scanAll l).length (rv (scanAll l)) ∧ Below w.heap.size w w' := by
  have hl := h.1
  have hlc := h.2.1
  have hm := h.2.2.1
  unfold maxLen at hm
  have HT := Lib.hid h
  have HV := Lib.hid (scanAll_valid l)
  have HN := Lib.hid (scanAll_len l)
  clear h
  go_enter Try.func40, Try.ntmps40
  go_wp2
  go_loopw [4, 5] (fun v i wr => ∃ (k : Nat) (rs : List Rc), rs.length = k ∧ 37 * k ≤ len ∧ i = .int .i64 (37 * k : Nat) ∧ scanAll l = rs ++ scanAll (l.drop (37 * k)) ∧ wr.ownsRow w.heap.size 27 19 v k (rv rs) ∧ Below w.heap.size w wr) (fun _ i _ => len + 1 - (intOf i).toNat)
  case atStart => exact ⟨0, [], rfl, by omega, rfl, rfl, World.ownsRow_made (e := 27) (size := 19) (base := w.heap.size) w #[] 0 (Nat.le_refl _) (Nat.zero_le _) rfl, (Below.refl _ _).alloc (Nat.le_refl _) _⟩
  case round =>
    obtain ⟨k, rs, hrk, hk, rfl, hsc, ho, hb⟩ := hrel
    have HO := Lib.hid ho
    have HB := Lib.hid hb
    have HS := Lib.hid hsc
    have hs0 := hb.size
    have hbt := HT.out.below hb (Nat.le_refl _)
    have hbf := bts_from (i := 37 * k) hbt (by omega)
    have HU := Lib.hid (runpack_any _ _ _ _ wr hbf)
    have SF := Lib.hid (slice_from wr a len cap (37 * k) .i64 (by omega) (by omega))
    clear ho hb hsc hbt hbf
    have hs0' : wr.heap.size = wr.heap.size := rfl
    by_cases hrec : IsRec (l.drop (37 * k))
    · rw [(out_yes hrec).1, (out_yes hrec).2] at HU
      have hs2 := scanAll_yes hrec
      have hrv := recOf_valid hrec
      have h37 := hrec.1
      rw [List.length_drop, hl] at h37
      obtain ⟨r, hr⟩ : ∃ r, r = recOf (l.drop (37 * k)) := ⟨_, rfl⟩
      rw [← hr] at hs2 hrv
      rw [show recV (kindOf (l.drop (37 * k))) (verOf (l.drop (37 * k))) (lbaOf (l.drop (37 * k))) (dataOf (l.drop (37 * k))) = r.cells from by rw [hr]; rfl] at HU
      rw [List.drop_drop, show 37 * k + 37 = 37 * (k + 1) from by omega] at hs2
      have HR := Lib.hid (HS.out.trans (by rw [hs2]) : scanAll l = rs ++ (r :: scanAll (l.drop (37 * (k + 1)))))
      have h19 := Rc.len hrv
      have hr1 := Rc.one r
      have HVr := Lib.hid hrv
      clear hs2 hr hrec hrv HS
      go_wp2_with (first | (refine wpList_value_g rfl (.slice (shifted a (37 * k) cap) (len - 37 * k) (cap - 37 * k)) (exec_slice rfl SF.out) ?_))
      refine HU.out.mono ?_
      rintro e w2 ⟨rfl, hb2⟩
      have L2 := Lib.hid (HB.out.trans (hb2.mono hs0))
      have O2 := Lib.hid (own_below HO.out hb2)
      have hs2 := L2.out.size
      have Z2 := Lib.hid (blk_at (w := w2) (g := w2.heap.size) (cs := zrec) (t := 27) (arr := #[.int .i64 0, .int .u64 0, .int .i64 0, .int .u8 0, .int .u8 0, .int .u8 0, .int .u8 0, .int .u8 0, .int .u8 0, .int .u8 0, .int .u8 0, .int .u8 0, .int .u8 0, .int .u8 0, .int .u8 0, .int .u8 0, .int .u8 0, .int .u8 0, .int .u8 0]) rfl rfl)
      clear hb2 HU SF HB HO
      go_wp2_with (first | (refine wpList_store_blk rfl 27 _ _ rfl w2.heap.size 0 19 rfl 27 zrec r.cells rfl Z2.out (by kernel_rfl) h19 (by decide) hr1 ?_; intro w3 z3 g3; rw [put_all _ _ (by rw [h19]; rfl)] at z3; have L3 := Lib.hid (below_grown (L2.out.alloc hs2 _) g3 (by simp only [size_alloc]; omega) hs2); have Z3 := Lib.hid z3; have O3 := Lib.hid ((O2.out.alloc _).kept g3 (.inr fun e => by have := (O2.out.lt _ e).2; omega)); have hs3 := L3.out.size; clear z3 g3) | (refine wpList_load_g rfl 27 _ rfl w2.heap.size 19 rfl 27 r.cells _ Z3.out Try.underlying27 rfl (by kernel_rfl) h19 ?_) | (refine wpList_world_g rfl (.slice (some ⟨w3.heap.size, 0, none⟩) 1 1) (exec_build_one rfl rfl Try.underlying22 info_rec h19 (by decide) (by decide)) ?_) | (at_builtin; refine wpList_append_any _ rfl _ _ 22 rfl w.heap.size 27 (.agg zrec.toArray) 19 40 Try.underlying22 info_rec rfl (by decide) _ k _ rfl (O3.out.alloc _) _ 1 1 r.cells rfl (src_rec HVr.out (blk_at rfl rfl)) ?c1 ?c2 ?c3 ?_))
      case c1 => omega
      case c2 => unfold maxLen; omega
      case c3 => simp only [size_alloc]; omega
      intro v' w4 ho4 hg4
      have L4 := Lib.hid ((L3.out.alloc hs3 _).grown hg4 (by simp only [size_alloc]; omega) (fun q hq => (O3.out.lt q hq).1))
      have O4 := Lib.hid ho4
      clear ho4 hg4 O2 O3 L2 L3 Z2 Z3
      go_wp2
      go_roundw
      case rel => exact ⟨k + 1, rs ++ [r], by simp [hrk], by omega, by congr 1, by rw [HR.out]; simp, by rw [rv_append, rv_one]; exact O4.out, L4.out⟩
      case measure => simp [intOf]; omega
    · obtain ⟨e1, er, e2, e3⟩ := out_not hrec
      rw [e1, e2] at HU
      have hs2 := scanAll_no hrec
      rw [hs2, List.append_nil] at HS
      clear hs2 hrec e1 e2
      go_wp2_with (first | (refine wpList_value_g rfl (.slice (shifted a (37 * k) cap) (len - 37 * k) (cap - 37 * k)) (exec_slice rfl SF.out) ?_))
      refine HU.out.mono ?_
      rintro e w2 ⟨rfl, hb2⟩
      have L2 := Lib.hid (HB.out.trans (hb2.mono hs0))
      have O2 := Lib.hid (own_below HO.out hb2)
      have hs2 := L2.out.size
      have Z2 := Lib.hid (blk_at (w := w2) (g := w2.heap.size) (cs := zrec) (t := 27) (arr := #[.int .i64 0, .int .u64 0, .int .i64 0, .int .u8 0, .int .u8 0, .int .u8 0, .int .u8 0, .int .u8 0, .int .u8 0, .int .u8 0, .int .u8 0, .int .u8 0, .int .u8 0, .int .u8 0, .int .u8 0, .int .u8 0, .int .u8 0, .int .u8 0, .int .u8 0]) rfl rfl)
      clear hb2 HU SF HB HO
      go_wp2_with (first | (refine wpList_store_blk rfl 27 _ _ rfl w2.heap.size 0 19 rfl 27 zrec zrec rfl Z2.out (by kernel_rfl) rfl (by decide) (recV_one _ _ _ _) ?_; intro w3 z3 g3; have L3 := Lib.hid (below_grown (L2.out.alloc hs2 _) g3 (by simp only [size_alloc]; omega) hs2); have O3 := Lib.hid ((O2.out.alloc _).kept g3 (.inr fun e => by have := (O2.out.lt _ e).2; omega)); clear z3 g3))
      go_ret2
      exact ⟨u4, by rw [HS.out, hrk, Int.natCast_mul]; rfl, by rw [HS.out, hrk]; exact O3.out, L3.out⟩
end Go.Proofs.Ytobblbplanimgaa.Codec
/-
  A region whose order is open and in which two operations that make memory come up in either order: the orders fall into two classes, each walked by itself. Helper text; no statement is proved here.
-/
set_option linter.unusedVariables false
set_option maxRecDepth 20000
namespace Go.Proofs.Ytobblbplanimgaa.InvC
open Go.RowKit Go.Proofs.Ytobblbplanimgaa.Laws Go.Proofs.Ytobblbplanimgaa.Inv Go.Proofs.Ytobblbplanimgaa.InvL
section
variable {P : Program} {I : Array Bool → World → Prop} {G : Nat → Array Bool → Prop} {T : Nat → Option Value} {ops : Array Oper} {md : Region.Mode}
/-- operation i yields v, the one of the table if it has one, wherever its gate is open -/
def GivesC (P : Program) (I : Array Bool → World → Prop) (G : Nat → Array Bool → Prop) (T : Nat → Option Value) (ops : Array Oper) (i : Nat) (o : Oper) (a : Act) (v : Value) : Prop :=
  (∀ u, T i = some u → v = u) ∧
  ((Region.wanted o (yielded ops a.tmps) = true ∧ ∀ d w, d.getD i true = false → G i d → I d w → Meets P (I (d.setIfInBounds i true)) v ((execOp a.eval o).run P w)) ∨
  (Region.wanted o (yielded ops a.tmps) = false ∧ v = undef ∧ ∀ d w, d.getD i true = false → G i d → I d w → I (d.setIfInBounds i true) w))
def wpInvC (P : Program) (I : Array Bool → World → Prop) (G : Nat → Array Bool → Prop) (T : Nat → Option Value) (ops : Array Oper) (Q : Act → Prop) : Nat → List Oper → Act → Prop
  | _, [], a => Q a
  | i, o :: rest, a => ∃ v, GivesC P I G T ops i o a v ∧ wpInvC P I G T ops Q (i + 1) rest (a.put o.dst v)
theorem GivesC.moved {i : Nat} {o : Oper} {v : Value} {a b : Act} (h : GivesC P I G T ops i o a v) (he : execOp b.eval o = execOp a.eval o) (hw : Region.wanted o (yielded ops b.tmps) = Region.wanted o (yielded ops a.tmps)) : GivesC P I G T ops i o b v := by
  unfold GivesC at *
  rw [he, hw]
  exact h
def turn (P : Program) (I : Array Bool → World → Prop) (G : Nat → Array Bool → Prop) (T : Nat → Option Value) (ops : Array Oper) (i : Nat) (K : Act → Prop) (a : Act) : Prop :=
  match ops[i]? with
  | none => False
  | some o => ∃ v, GivesC P I G T ops i o a v ∧ K (a.put o.dst v)
theorem turn_some {i : Nat} {o : Oper} (ho : ops[i]? = some o) {K : Act → Prop} {a : Act} : turn P I G T ops i K a ↔ ∃ v, GivesC P I G T ops i o a v ∧ K (a.put o.dst v) := by
  unfold turn; rw [ho]
theorem turn_mono {i : Nat} {a : Act} {K K' : Act → Prop} (h : ∀ a, K a → K' a) (hh : turn P I G T ops i K a) : turn P I G T ops i K' a := by
  cases ho : ops[i]? with
  | none => simp only [turn, ho] at hh
  | some o =>
    obtain ⟨v, h1, h2⟩ := (turn_some ho).1 hh
    exact (turn_some ho).2 ⟨v, h1, h _ h2⟩
theorem turn_past {i j : Nat} {oi oj : Oper} {v : Value} (hj : ops[j]? = some oj) (hap : oi.apart ops oj = true) (hsi : ∀ cs b, oi.op ≠ .select cs b) (hsj : ∀ cs b, oj.op ≠ .select cs b) {K : Act → Prop} {a : Act}
    (hg : GivesC P I G T ops i oi a v) (h : turn P I G T ops j K (a.put oi.dst v)) : turn P I G T ops j (fun b => GivesC P I G T ops i oi b v ∧ K (b.put oi.dst v)) a := by
  obtain ⟨h1, h2, h3⟩ := Oper.apart_spec hap
  obtain ⟨u, hu, hk⟩ := (turn_some hj).1 h
  refine (turn_some hj).2 ⟨u, hu.moved (execOp_put oj hsj a oi.dst v h1).symm (wanted_put oj a oi.dst v h1).symm, hg.moved (execOp_put oi hsi a oj.dst u h3) (wanted_put oi a oj.dst u h3), ?_⟩
  rw [← Act.put_comm a v u h2]
  exact hk
def every (P : Program) (I : Array Bool → World → Prop) (G : Nat → Array Bool → Prop) (T : Nat → Option Value) (md : Region.Mode) (ops : Array Oper) (n : Nat) (L : Array Bool → Act → Prop) : Nat → Array Bool → Act → Prop
  | 0, listed, a => L listed a
  | f + 1, listed, a => Region.ready md ops listed ≠ [] ∧ ∀ i ∈ Region.ready md ops listed, i < n ∧ turn P I G T ops i (every P I G T md ops n L f (listed.setIfInBounds i true)) a
/-- what may come up now may be taken first -/
theorem every_first {J : Array Bool → Prop} {n i : Nat} {oi : Oper} {v : Value} {L : Array Bool → Act → Prop} (hi : ops[i]? = some oi) (hsel : ∀ (j : Nat) (o : Oper) cs b, ops[j]? = some o → o.op ≠ .select cs b)
    (hn : ∀ listed, J listed → listed.getD i true = false → ∀ j ∈ Region.ready md ops listed, j < n)
    (hset : ∀ (listed : Array Bool) (j : Nat), J listed → j ∈ Region.ready md ops listed → j < n → J (listed.setIfInBounds j true))
    (hdone : ∀ listed a, L listed a → ∀ j ∈ Region.ready md ops listed, n ≤ j) :
    ∀ (f : Nat) (listed : Array Bool) (a : Act), J listed →
      (∀ j oj, ops[j]? = some oj → j ≠ i → listed.getD j true = false → (∀ e ∈ oj.after, Region.binds md e = true → e.on ≠ i) → oi.apart ops oj = true) →
      i ∈ Region.ready md ops listed → GivesC P I G T ops i oi a v → every P I G T md ops n L f (listed.setIfInBounds i true) (a.put oi.dst v) → every P I G T md ops n L (f + 1) listed a := by
  intro f
  induction f with
  | zero =>
    intro listed a inv _ hr hg H
    refine ⟨fun h => (by rw [h] at hr; cases hr), fun j hj => ?_⟩
    have hjn := hn listed inv (mem_ready.1 hr).1 j hj
    refine ⟨hjn, ?_⟩
    by_cases e : j = i
    · subst e; exact (turn_some hi).2 ⟨v, hg, H⟩
    · have := hdone _ _ H j (ready_mono hj e)
      omega
  | succ f ih =>
    intro listed a inv hfree hr hg H
    refine ⟨fun h => (by rw [h] at hr; cases hr), fun j hj => ?_⟩
    have hjn := hn listed inv (mem_ready.1 hr).1 j hj
    refine ⟨hjn, ?_⟩
    by_cases e : j = i
    · subst e; exact (turn_some hi).2 ⟨v, hg, H⟩
    · have h1 := (H.2 j (ready_mono hj e)).2
      obtain ⟨hjun, oj, hoj, hall⟩ := mem_ready.1 hj
      have hnot : ∀ x ∈ oj.after, Region.binds md x = true → x.on ≠ i := fun x hx hb heq => by
        have h5 := hall x hx hb
        rw [heq, getD_both (mem_ready.1 hr).1] at h5
        cases h5
      have h2 := turn_past hoj (hfree j oj hoj e hjun hnot) (fun cs b => hsel i oi cs b hi) (fun cs b => hsel j oj cs b hoj) hg h1
      refine turn_mono (fun b h3 => ih (listed.setIfInBounds j true) b (hset _ _ inv hj hjn) (fun k ok hk hki hun hno => ?_) (ready_mono hr (Ne.symm e)) h3.1 ?_) h2
      · refine hfree k ok hk hki ?_ hno
        by_cases hjk : j = k
        · subst hjk; exact hjun
        · rwa [getD_set_ne true hjk] at hun
      · rw [Array.setIfInBounds_comm _ _ e]
        exact h3.2

theorem every_of_walk {J : Array Bool → Prop} {s n g : Nat} {Lq : Act → Prop} (hsel : Region.noSelect ops = true) (hn : ∀ (i : Nat) listed, i < n → J listed → listed.getD i true = false → ∀ j ∈ Region.ready md ops listed, j < n)
    (hset : ∀ (listed : Array Bool) (j : Nat), J listed → j ∈ Region.ready md ops listed → j < n → J (listed.setIfInBounds j true)) :
    ∀ (l : List Oper) (k : Nat) (listed : Array Bool) (a : Act), (∀ j, j < l.length → l[j]? = ops[k + j]?) → k + l.length = n → J listed → listed = doneTo s k →
    Region.lexHead md ops g l.length k listed = true → wpInvC P I G T ops Lq k l a → every P I G T md ops n (fun listed' a' => Region.seqB md ops g n listed' = true ∧ listed' = doneTo s n ∧ Lq a') l.length listed a
  | [], k, listed, a, _, hk, _, hd, hB, h => by
    obtain rfl : k = n := by simpa using hk
    exact ⟨by simpa [Region.lexHead] using hB, hd, h⟩
  | o :: l, k, listed, a, hl, hk, inv, hd, hB, h => by
    have h0 : ops[k]? = some o := by simpa using (hl 0 (by simp)).symm
    simp only [List.length_cons, Region.lexHead, Bool.and_eq_true] at hB
    obtain ⟨⟨hr, hf⟩, hB'⟩ := hB
    have hkn : k < n := by simp only [List.length_cons] at hk; omega
    have hr' : k ∈ Region.ready md ops listed := by simpa using hr
    obtain ⟨v, hg, hK⟩ := h
    exact every_first h0 (Region.noSelect_spec hsel) (fun listed => hn k listed hkn) hset (fun listed' a' hL => seqB_ready hL.1) l.length listed a inv (Region.free_spec h0 hf) hr' hg
      (every_of_walk hsel hn hset l (k + 1) _ _ (fun j hj => by have := hl (j + 1) (by simp; omega); simpa [Nat.add_assoc, Nat.add_comm 1 j] using this) (by simp only [List.length_cons] at hk; omega) (hset _ _ inv hr' hkn) (by rw [hd, done_succ]) hB' hK)

/-- the orders fall into classes: each class with its own condition, gates and values -/
theorem wpAny_of_classes {K : Type} {I : K → Array Bool → World → Prop} {G : K → Nat → Array Bool → Prop} {T : K → Nat → Option Value} {n g : Nat} {L : K → Array Bool → Act → Prop} {Q : Exit → Act → World → Prop} {Good : (K → Prop) → Array Bool → Prop}
    (hopen : ∀ S d i, Good S d → i ∈ Region.ready md ops d → i < n → (∃ κ, S κ ∧ G κ i d) ∧ Good (fun κ => S κ ∧ G κ i d) (d.setIfInBounds i true))
    (hI : ∀ S d w κ κ', Good S d → S κ → S κ' → I κ d w → I κ' d w)
    (hT : ∀ S d i κ κ', Good S d → i ∈ Region.ready md ops d → i < n → S κ → S κ' → G κ i d → G κ' i d → κ = κ' ∨ ∃ u, T κ i = some u ∧ T κ' i = some u)
    (hL : ∀ κ listed a w, I κ listed w → L κ listed a → wpAny P md ops Q g listed a w) :
    ∀ (f : Nat) (S : K → Prop) (listed : Array Bool) (a : Act) (w : World), (∃ κ, S κ) → Good S listed → (∀ κ, S κ → I κ listed w ∧ every P (I κ) (G κ) (T κ) md ops n (L κ) f listed a) → wpAny P md ops Q (f + g) listed a w
  | 0, S, listed, a, w, ⟨κ, hS⟩, hg, h => by rw [Nat.zero_add]; exact hL κ _ _ _ (h κ hS).1 (h κ hS).2
  | f + 1, S, listed, a, w, ⟨κ0, hS0⟩, hg, h => by
    rw [show f + 1 + g = (f + g) + 1 from by omega]
    refine ⟨fun h0 => absurd h0 (h κ0 hS0).2.1, fun i hi => ?_⟩
    have hin := ((h κ0 hS0).2.2 i hi).1
    obtain ⟨⟨κ, hSκ, hGκ⟩, hg2⟩ := hopen S listed i hg hi hin
    obtain ⟨hIκ, hEκ⟩ := h κ hSκ
    have ht := (hEκ.2 i hi).2
    obtain ⟨hdi, o, ho, _⟩ := mem_ready.1 hi
    obtain ⟨v, hv, hk⟩ := (turn_some ho).1 ht
    have key : ∀ w', I κ (listed.setIfInBounds i true) w' → wpAny P md ops Q (f + g) (listed.setIfInBounds i true) (a.put o.dst v) w' := fun w' hw' => by
      refine wpAny_of_classes hopen hI hT hL f (fun κ => S κ ∧ G κ i listed) _ _ _ ⟨κ, hSκ, hGκ⟩ hg2 fun κ' ⟨hS', hG'⟩ => ⟨hI _ _ _ κ κ' hg2 ⟨hSκ, hGκ⟩ ⟨hS', hG'⟩ hw', ?_⟩
      rcases hT S listed i κ κ' hg hi hin hSκ hS' hGκ hG' with e | ⟨u, e1, e2⟩
      · subst e
        exact hk
      · obtain ⟨v', hv', hk'⟩ := (turn_some ho).1 (((h κ' hS').2.2 i hi).2)
        rw [show v = v' from by rw [hv.1 u e1, hv'.1 u e2]]
        exact hk'
    unfold wpOp
    simp only [ho]
    rcases hv.2 with ⟨h1, h2⟩ | ⟨h1, rfl, h2⟩
    · simp only [h1, if_true]
      exact .inl (wp_of_meets (h2 listed w hdi hGκ hIκ) key)
    · simp only [h1]
      exact key w (h2 listed w hdi hGκ hIκ)
/-- of two operations p and c: true: p comes ahead of c; false: behind it -/
def Two (p c : Nat) (κ : Bool) (i : Nat) (d : Array Bool) : Prop := match κ with | true => i = c → d.getD p false = true | false => i = p → d.getD c false = true
def GoodTwo (p c : Nat) (S : Bool → Prop) (d : Array Bool) : Prop := (d.getD p false = false ∧ d.getD c false = false ∧ S true ∧ S false) ∨ (S true ∧ ¬ S false ∧ d.getD p false = true) ∨ (S false ∧ ¬ S true ∧ d.getD c false = true)
/-- all but p and c have values that both classes share, or wait for p or c -/
def sharedB (T : Nat → Option Value) (ops : Array Oper) (n p c : Nat) : Bool :=
  (List.range n).all fun i => i == p || i == c || (T i).isSome || (match ops[i]? with | some o => o.after.any fun e => Region.binds .any e && (e.on == p || e.on == c) | none => true)
theorem getD_true_of {d : Array Bool} {i : Nat} (h : d.getD i true = false) : d.getD i false = false := by
  simp only [Array.getD_eq_getD_getElem?] at *
  cases hx : d[i]? with
  | none => rfl
  | some x => rw [hx] at h; exact h
theorem wp_region_two_tail {id : Nat} {Q : Exit → Act → World → Prop} {a : Act} {w : World} {l : List Oper} (I : Bool → Array Bool → World → Prop) (T : Nat → Option Value) (n p c : Nat) (hm : P.follows .mixedOrders = true) (hB : Region.lexTailB .any l.toArray n = true) (hpc : p ≠ c) (hpl : p < l.length) (hcl : c < l.length) (hsh : sharedB T l.toArray n p c = true)
    (hI : ∀ d w, d.getD p false = false → d.getD c false = false → (I true d w ↔ I false d w)) (hI0 : ∀ κ, I κ (doneTo l.length 0) w.drew)
    (h : ∀ κ, wpInvC P (I κ) (Two p c κ) T l.toArray (fun a' => ∀ w', I κ (doneTo l.length n) w' → wpList P l.toArray Q (l.drop n) a' w') 0 (l.take n) a) : (Code.region id l.toArray true).wp P Q a w := by
  simp only [Region.lexTailB, Bool.and_eq_true, decide_eq_true_eq] at hB
  obtain ⟨⟨⟨⟨hsel, hn⟩, hs⟩, hc⟩, hlex⟩ := hB
  have hn' : n < l.length := by simpa using hn
  have htl : (l.take n).length = n := by simp; omega
  have hdl : (l.drop n).length = l.toArray.size - n := by simp
  have inv0 : HeadInv .any l.toArray n (Array.replicate l.toArray.size false) :=
    ⟨by simp, fun j oj _ hl => (by rw [getD_replicate_false] at hl; cases hl), fun t _ ht => getD_in (by simpa using ht) (getD_replicate_false _ _)⟩
  have hlt : ∀ (i : Nat) listed, i < n → HeadInv .any l.toArray n listed → listed.getD i true = false → ∀ j ∈ Region.ready .any l.toArray listed, j < n := fun i listed hi inv hun j hj => by
    rcases Nat.lt_or_ge j n with h | h
    · exact h
    · exact absurd hj (tail_waits hs hc hn inv _ i rfl hi hun j h)
  have H := fun κ => every_of_walk (md := .any) (s := l.length) (g := l.toArray.size - n) (J := HeadInv .any l.toArray n) hsel hlt (fun listed j hJ hj hjn => hJ.set hj hjn) (l.take n) 0 _ a (fun j hj => by
    have hj' : j < n := by rw [htl] at hj; exact hj
    simp [hj']) (by simpa using htl) inv0 (by simp [doneTo]) (by rw [htl]; exact hlex) (h κ)
  refine wp_region_any hm ?_
  have hset : ∀ (d : Array Bool) (i j : Nat), i ≠ j → (d.setIfInBounds i true).getD j false = d.getD j false := fun d i j hij => getD_set_ne false hij
  have hsetS : ∀ (d : Array Bool) (i : Nat), d.getD i true = false → (d.setIfInBounds i true).getD i false = true := fun d i hd => by
    have hp : i < d.size := by
      rcases Nat.lt_or_ge i d.size with h' | h'
      · exact h'
      · simp [Array.getElem?_eq_none h'] at hd
    simp [hp]
  have hopen : ∀ (S : Bool → Prop) (d : Array Bool) (i : Nat), GoodTwo p c S d → i ∈ Region.ready .any l.toArray d → i < n → (∃ κ, S κ ∧ Two p c κ i d) ∧ GoodTwo p c (fun κ => S κ ∧ Two p c κ i d) (d.setIfInBounds i true) := by
    intro S d i hg hi hin
    have hdi := (mem_ready.1 hi).1
    have hdi' := getD_true_of hdi
    rcases hg with ⟨g1, g2, g3, g4⟩ | ⟨g1, g2, g3⟩ | ⟨g1, g2, g3⟩
    · by_cases e1 : i = p
      · subst e1
        refine ⟨⟨true, g3, fun e => absurd e hpc⟩, .inr (.inl ⟨⟨g3, fun e => absurd e hpc⟩, fun x => ?_, hsetS d i hdi⟩)⟩
        have := x.2 rfl
        rw [g2] at this
        cases this
      · by_cases e2 : i = c
        · subst e2
          refine ⟨⟨false, g4, fun e => absurd e e1⟩, .inr (.inr ⟨⟨g4, fun e => absurd e e1⟩, fun x => ?_, hsetS d i hdi⟩)⟩
          have := x.2 rfl
          rw [g1] at this
          cases this
        · refine ⟨⟨true, g3, fun e => absurd e e2⟩, .inl ⟨by rw [hset _ _ _ e1]; exact g1, by rw [hset _ _ _ e2]; exact g2, ⟨g3, fun e => absurd e e2⟩, ⟨g4, fun e => absurd e e1⟩⟩⟩
    · refine ⟨⟨true, g1, fun _ => g3⟩, .inr (.inl ⟨⟨g1, fun _ => g3⟩, fun x => g2 x.1, ?_⟩)⟩
      by_cases e : i = p
      · subst e; rw [hdi'] at g3; cases g3
      · rw [hset _ _ _ e]; exact g3
    · refine ⟨⟨false, g1, fun _ => g3⟩, .inr (.inr ⟨⟨g1, fun _ => g3⟩, fun x => g2 x.1, ?_⟩)⟩
      by_cases e : i = c
      · subst e; rw [hdi'] at g3; cases g3
      · rw [hset _ _ _ e]; exact g3
  have hII : ∀ (S : Bool → Prop) (d : Array Bool) (w : World) (κ κ' : Bool), GoodTwo p c S d → S κ → S κ' → I κ d w → I κ' d w := by
    intro S d w κ κ' hg h1 h2 hi
    rcases hg with ⟨g1, g2, _, _⟩ | ⟨_, g2, _⟩ | ⟨_, g2, _⟩
    · cases κ <;> cases κ' <;> first | exact hi | exact (hI d w g1 g2).1 hi | exact (hI d w g1 g2).2 hi
    · cases κ <;> cases κ' <;> first | exact hi | exact absurd h1 g2 | exact absurd h2 g2
    · cases κ <;> cases κ' <;> first | exact hi | exact absurd h1 g2 | exact absurd h2 g2
  have hTT : ∀ (S : Bool → Prop) (d : Array Bool) (i : Nat) (κ κ' : Bool), GoodTwo p c S d → i ∈ Region.ready .any l.toArray d → i < n → S κ → S κ' → Two p c κ i d → Two p c κ' i d → κ = κ' ∨ ∃ u, T i = some u ∧ T i = some u := by
    intro S d i κ κ' hg hi hin h1 h2 k1 k2
    rcases hg with ⟨g1, g2, _, _⟩ | ⟨_, g2, _⟩ | ⟨_, g2, _⟩
    · by_cases e0 : κ = κ'
      · exact .inl e0
      have hne1 : i ≠ p := fun e => by
        have : Two p c false i d := by cases κ <;> cases κ' <;> first | exact absurd rfl e0 | assumption
        have := this e
        rw [g2] at this; cases this
      have hne2 : i ≠ c := fun e => by
        have : Two p c true i d := by cases κ <;> cases κ' <;> first | exact absurd rfl e0 | assumption
        have := this e
        rw [g1] at this; cases this
      have hb := List.all_eq_true.1 hsh i (by simpa using hin)
      simp only [Bool.or_eq_true, beq_iff_eq] at hb
      rcases hb with ((hb | hb) | hb) | hb
      · exact absurd hb hne1
      · exact absurd hb hne2
      · obtain ⟨u, hu⟩ := Option.isSome_iff_exists.1 hb
        exact .inr ⟨u, hu, hu⟩
      · obtain ⟨_, o, ho, hall⟩ := mem_ready.1 hi
        rw [ho] at hb
        obtain ⟨e, he, hbe⟩ := Array.any_eq_true'.1 hb
        simp only [Bool.and_eq_true, Bool.or_eq_true, beq_iff_eq] at hbe
        have := hall e he hbe.1
        rcases hbe.2 with e3 | e3
        · rw [e3, g1] at this; cases this
        · rw [e3, g2] at this; cases this
    · cases κ <;> cases κ' <;> first | exact .inl rfl | exact absurd h1 g2 | exact absurd h2 g2
    · cases κ <;> cases κ' <;> first | exact .inl rfl | exact absurd h1 g2 | exact absurd h2 g2
  have := wpAny_of_classes (Q := Q) (I := I) (G := Two p c) (T := fun _ => T) (n := n) (g := l.toArray.size - n) (Good := GoodTwo p c) hopen hII hTT (fun κ listed a' w' hw' hL => by
    have := wpAny_of_seq (md := .any) (Q' := Q) (l.drop n) n listed a' w' (fun j => by simp [List.getElem?_drop]) (by rw [hdl]; exact hL.1) (hL.2.2 w' (hL.2.1 ▸ hw'))
    rwa [hdl] at this) _ (fun _ => True) _ _ _ ⟨true, trivial⟩ (.inl ⟨getD_replicate_false _ _, getD_replicate_false _ _, trivial, trivial⟩) (fun κ _ => ⟨by simpa [doneTo] using hI0 κ, H κ⟩)
  rw [htl, show n + (l.toArray.size - n) = l.toArray.size from by omega] at this
  exact this
theorem invc_nil {Q : Act → Prop} {i : Nat} {a : Act} (h : Q a) : wpInvC P I G T ops Q i [] a := h
theorem invc_value {Q : Act → Prop} {i : Nat} {a : Act} {o : Oper} {rest : List Oper} (v : Value) (hT : ∀ u, T i = some u → v = u) (hw : Region.wanted o (yielded ops a.tmps) = true) (hr : ∀ d w, d.getD i true = false → G i d → I d w → (execOp a.eval o).run P w = .ok (.value v) w) (hk : ∀ d w, d.getD i true = false → G i d → I d w → I (d.setIfInBounds i true) w)
    (h : wpInvC P I G T ops Q (i + 1) rest (a.put o.dst v)) : wpInvC P I G T ops Q i (o :: rest) a :=
  ⟨v, ⟨hT, .inl ⟨hw, fun d w hd hG hI => by rw [hr d w hd hG hI]; exact ⟨rfl, hk d w hd hG hI⟩⟩⟩, h⟩
theorem invc_world {Q : Act → Prop} {i : Nat} {a : Act} {o : Oper} {rest : List Oper} (v : Value) (hT : ∀ u, T i = some u → v = u) (hw : Region.wanted o (yielded ops a.tmps) = true) (hr : ∀ d w, d.getD i true = false → G i d → I d w → ∃ w', (execOp a.eval o).run P w = .ok (.value v) w' ∧ I (d.setIfInBounds i true) w')
    (h : wpInvC P I G T ops Q (i + 1) rest (a.put o.dst v)) : wpInvC P I G T ops Q i (o :: rest) a :=
  ⟨v, ⟨hT, .inl ⟨hw, fun d w hd hG hI => by obtain ⟨w', h1, h2⟩ := hr d w hd hG hI; rw [h1]; exact ⟨rfl, h2⟩⟩⟩, h⟩
theorem invc_call {Q : Act → Prop} {i : Nat} {a : Act} {o : Oper} {rest : List Oper} (v : Value) (hT : ∀ u, T i = some u → v = u) (hw : Region.wanted o (yielded ops a.tmps) = true) (f : FuncId) (args : Array Value) (hr : ∀ d w, I d w → (execOp a.eval o).run P w = .ok (.enter f args) w)
    (hc : ∀ d w, d.getD i true = false → G i d → I d w → Calls P f args w fun e w' => e = .returned v ∧ I (d.setIfInBounds i true) w') (h : wpInvC P I G T ops Q (i + 1) rest (a.put o.dst v)) : wpInvC P I G T ops Q i (o :: rest) a :=
  ⟨v, ⟨hT, .inl ⟨hw, fun d w hd hG hI => by rw [hr d w hI]; exact hc d w hd hG hI⟩⟩, h⟩
end
end Go.Proofs.Ytobblbplanimgaa.InvC
/-
  A region whose order is open, in which an operation may lean on what it waits for: gates by what must be done ahead of it. Helper text; no statement is proved here.
-/
set_option linter.unusedVariables false
set_option maxRecDepth 20000
namespace Go.Proofs.Ytobblbplanimgaa.InvG
open Go.RowKit Go.Proofs.Ytobblbplanimgaa.Laws Go.Proofs.Ytobblbplanimgaa.Inv Go.Proofs.Ytobblbplanimgaa.InvL Go.Proofs.Ytobblbplanimgaa.InvC
section
variable {P : Program}
/-- what operation i waits for is done -/
def Closed (ops : Array Oper) (d : Array Bool) : Prop := ∀ j o, ops[j]? = some o → d.getD j false = true → ∀ e ∈ o.after, Region.binds .any e = true → d.getD e.on false = true
def Gate (ops : Array Oper) (i : Nat) (d : Array Bool) : Prop := (∀ o, ops[i]? = some o → ∀ e ∈ o.after, Region.binds .any e = true → d.getD e.on false = true) ∧ Closed ops d
def waitsB (ops : Array Oper) (i p : Nat) : Bool := match ops[i]? with | some o => o.after.any fun e => Region.binds .any e && e.on == p | none => false
theorem Gate.of {ops : Array Oper} {i p : Nat} {d : Array Bool} (hG : Gate ops i d) (h : waitsB ops i p = true) : d.getD p false = true := by
  unfold waitsB at h
  cases ho : ops[i]? with
  | none => rw [ho] at h; cases h
  | some o =>
    rw [ho] at h
    obtain ⟨e, he, hbe⟩ := Array.any_eq_true'.1 h
    simp only [Bool.and_eq_true, beq_iff_eq] at hbe
    have := hG.1 o ho e he hbe.1
    rwa [hbe.2] at this
theorem Gate.of2 {ops : Array Oper} {i j p : Nat} {d : Array Bool} (hG : Gate ops i d) (h : waitsB ops i j = true) (h2 : waitsB ops j p = true) : d.getD p false = true := by
  have hj := hG.of h
  unfold waitsB at h2
  cases ho : ops[j]? with
  | none => rw [ho] at h2; cases h2
  | some o =>
    rw [ho] at h2
    obtain ⟨e, he, hbe⟩ := Array.any_eq_true'.1 h2
    simp only [Bool.and_eq_true, beq_iff_eq] at hbe
    have := hG.2 j o ho hj e he hbe.1
    rwa [hbe.2] at this
theorem wp_region_gate_tail {id : Nat} {Q : Exit → Act → World → Prop} {a : Act} {w : World} {l : List Oper} (I : Array Bool → World → Prop) (n : Nat) (hm : P.follows .mixedOrders = true) (hB : Region.lexTailB .any l.toArray n = true)
    (hI0 : I (doneTo l.length 0) w.drew)
    (h : wpInvC P I (Gate l.toArray) (fun _ => none) l.toArray (fun a' => ∀ w', I (doneTo l.length n) w' → wpList P l.toArray Q (l.drop n) a' w') 0 (l.take n) a) : (Code.region id l.toArray true).wp P Q a w := by
  simp only [Region.lexTailB, Bool.and_eq_true, decide_eq_true_eq] at hB
  obtain ⟨⟨⟨⟨hsel, hn⟩, hs⟩, hc⟩, hlex⟩ := hB
  have hn' : n < l.length := by simpa using hn
  have htl : (l.take n).length = n := by simp; omega
  have hdl : (l.drop n).length = l.toArray.size - n := by simp
  have inv0 : HeadInv .any l.toArray n (Array.replicate l.toArray.size false) :=
    ⟨by simp, fun j oj _ hl => (by rw [getD_replicate_false] at hl; cases hl), fun t _ ht => getD_in (by simpa using ht) (getD_replicate_false _ _)⟩
  have hlt : ∀ (i : Nat) listed, i < n → HeadInv .any l.toArray n listed → listed.getD i true = false → ∀ j ∈ Region.ready .any l.toArray listed, j < n := fun i listed hi inv hun j hj => by
    rcases Nat.lt_or_ge j n with h | h
    · exact h
    · exact absurd hj (tail_waits hs hc hn inv _ i rfl hi hun j h)
  have H := InvC.every_of_walk (md := .any) (s := l.length) (g := l.toArray.size - n) (J := HeadInv .any l.toArray n) hsel hlt (fun listed j hJ hj hjn => hJ.set hj hjn) (l.take n) 0 _ a (fun j hj => by
    have hj' : j < n := by rw [htl] at hj; exact hj
    simp [hj']) (by simpa using htl) inv0 (by simp [doneTo]) (by rw [htl]; exact hlex) h
  refine wp_region_any hm ?_
  have hset : ∀ (d : Array Bool) (i x : Nat), d.getD x false = true → (d.setIfInBounds i true).getD x false = true := fun d i x hx => by
    by_cases e : i = x
    · subst e
      have hp : i < d.size := by
        rcases Nat.lt_or_ge i d.size with h' | h'
        · exact h'
        · simp [Array.getElem?_eq_none h'] at hx
      simp [hp]
    · rw [getD_set_ne false e]; exact hx
  have hopen : ∀ (S : Unit → Prop) (d : Array Bool) (i : Nat), (S () ∧ Closed l.toArray d) → i ∈ Region.ready .any l.toArray d → i < n → (∃ κ, S κ ∧ Gate l.toArray i d) ∧ ((S () ∧ Gate l.toArray i d) ∧ Closed l.toArray (d.setIfInBounds i true)) := by
    intro S d i hg hi hin
    have hG1 : ∀ o, l.toArray[i]? = some o → ∀ e ∈ o.after, Region.binds .any e = true → d.getD e.on false = true := fun o ho e he hb => by
      obtain ⟨_, o', ho', hall⟩ := mem_ready.1 hi
      rw [ho] at ho'
      cases ho'
      exact hall e he hb
    have hG : Gate l.toArray i d := ⟨hG1, hg.2⟩
    refine ⟨⟨(), hg.1, hG⟩, ⟨hg.1, hG⟩, fun j o ho hj e he hb => ?_⟩
    by_cases eij : i = j
    · subst eij
      exact hset _ _ _ (hG1 o ho e he hb)
    · rw [getD_set_ne false eij] at hj
      exact hset _ _ _ (hg.2 j o ho hj e he hb)
  have := wpAny_of_classes (K := Unit) (Q := Q) (I := fun _ => I) (G := fun _ => Gate l.toArray) (T := fun _ _ => none) (n := n) (g := l.toArray.size - n) (Good := fun S d => S () ∧ Closed l.toArray d) hopen (fun _ _ _ _ _ _ _ _ h => h) (fun _ _ _ _ _ _ _ _ _ _ _ _ => .inl rfl) (fun κ listed a' w' hw' hL => by
    have := wpAny_of_seq (md := .any) (Q' := Q) (l.drop n) n listed a' w' (fun j => by simp [List.getElem?_drop]) (by rw [hdl]; exact hL.1) (hL.2.2 w' (hL.2.1 ▸ hw'))
    rwa [hdl] at this) _ (fun _ => True) _ _ _ ⟨(), trivial⟩ ⟨trivial, fun j o _ hj => (by rw [getD_replicate_false] at hj; cases hj)⟩ (fun κ _ => ⟨by simpa [doneTo] using hI0, H⟩)
  rw [htl, show n + (l.toArray.size - n) = l.toArray.size from by omega] at this
  exact this
end
/-- A, then B behind operation p, then C behind operation q, which waits for p -/
def At2 (p q : Nat) (A B C : World → Prop) (d : Array Bool) (w : World) : Prop := if d.getD q false = true then d.getD p false = true ∧ C w else if d.getD p false = true then B w else A w
section
variable {p q i : Nat} {A B C : World → Prop} {d : Array Bool} {w w' : World}
theorem At2.keep (h1 : i ≠ p) (h2 : i ≠ q) (h : At2 p q A B C d w) : At2 p q A B C (d.setIfInBounds i true) w := by
  unfold At2 at *
  rwa [getD_set_ne false h1, getD_set_ne false h2]
theorem At2.start (h1 : d.getD p false = false) (h2 : d.getD q false = false) (h : A w) : At2 p q A B C d w := by
  unfold At2
  rw [h1, h2]
  simpa using h
theorem At2.at_p (hd : d.getD p true = false) (h : At2 p q A B C d w) : A w ∧ d.getD q false = false := by
  have hd' := getD_true_of hd
  unfold At2 at h
  rw [hd'] at h
  split at h
  · simp at h
  · rename_i e
    exact ⟨by simpa using h, by simpa using e⟩
theorem now {i : Nat} (h : d.getD i true = false) : (d.setIfInBounds i true).getD i false = true := by
  have hp : i < d.size := by
    rcases Nat.lt_or_ge i d.size with h' | h'
    · exact h'
    · simp [Array.getElem?_eq_none h'] at h
  simp [hp]
theorem At2.did_p (hpq : p ≠ q) (hd : d.getD p true = false) (h : At2 p q A B C d w) (h' : B w') : At2 p q A B C (d.setIfInBounds p true) w' := by
  have h2 := (h.at_p hd).2
  unfold At2
  rw [now hd, getD_set_ne false hpq, h2]
  simpa using h'
theorem At2.at_q (hd : d.getD q true = false) (hp : d.getD p false = true) (h : At2 p q A B C d w) : B w := by
  have hd' := getD_true_of hd
  unfold At2 at h
  rw [hd', hp] at h
  simpa using h
theorem At2.did_q (hpq : p ≠ q) (hd : d.getD q true = false) (hp : d.getD p false = true) (h' : C w') : At2 p q A B C (d.setIfInBounds q true) w' := by
  unfold At2
  rw [now hd, getD_set_ne false (Ne.symm hpq), hp]
  simpa using h'
theorem At2.done (hd : d.getD q false = true) (h : At2 p q A B C d w) : C w := by
  unfold At2 at h
  rw [if_pos hd] at h
  exact h.2
theorem At2.any (h : At2 p q A B C d w) : A w ∨ B w ∨ C w := by
  unfold At2 at h
  split at h
  · exact .inr (.inr h.2)
  · split at h
    · exact .inr (.inl h)
    · exact .inl h
end
end Go.Proofs.Ytobblbplanimgaa.InvG
/-
  The reference's memory by contract: Room, Records, Trim. Helper text; no statement is proved here.
-/
set_option linter.unusedVariables false
set_option maxRecDepth 20000
set_option linter.unusedSimpArgs false
namespace Go.Proofs.Ytobblbplanimgaa.Nvram
open Go.RowKit Go.Proofs.Ytobblbplanimgaa.Base Go.Proofs.Ytobblbplanimgaa.Laws Go.Proofs.Ytobblbplanimgaa.Disk Go.Proofs.Ytobblbplanimgaa.Row Go.Proofs.Ytobblbplanimgaa.Codec Go.Proofs.Ytobblbplanimgaa.InvL Go.Proofs.Ytobblbplanimgaa.InvM
/-- a memory of the reference -/
def rmv (size : Nat) (s : Value) : Value := .agg #[.int .i64 (size : Int), s]
theorem rroom_any (size : Nat) (a : Option Addr) (n c : Nat) (w : World) (h1 : n ≤ size) (h2 : size ≤ 65536) : Calls Try.prog 29 #[rmv size (.slice a n c)] w fun e w' => e = .returned (.int .i64 (((size - n) / 37 : Nat) : Int)) ∧ Below w.heap.size w w' := by
  unfold rmv
  have e1 : (size : Int) - (n : Int) = ((size - n : Nat) : Int) := by omega
  have e2 : ((size : Int) - (n : Int)).tdiv 37 = (((size - n) / 37 : Nat) : Int) := by rw [e1]; rfl
  have W1 := Lib.hid e2
  have h3 : (0 : Int) ≤ (size : Int) - (n : Int) ∧ (size : Int) - (n : Int) ≤ 65536 := by omega
  clear e1
  go_enter Try.func29, Try.ntmps29
  go_wp2_with fail
  go_ret
  exact ⟨rfl, (Below.refl _ _).alloc (Nat.le_refl _) _⟩
theorem rrecords_any (size : Nat) (a : Option Addr) (n c : Nat) (B : List UInt8) (w : World) (hB : Bts w a n c B) (h2 : n ≤ 65536) : Calls Try.prog 31 #[rmv size (.slice a n c)] w fun e w' => ∃ v, e = .returned v ∧ w'.ownsRow w.heap.size 27 19 v (scanAll B).length (rv (scanAll B)) ∧ Below w.heap.size w w' := by
  unfold rmv
  have SC := Lib.hid (fun w' (hb : Below w.heap.size w w') => rscan_any a n c B w' (hB.below hb (Nat.le_refl _)) (by omega))
  clear hB
  go_enter Try.func31, Try.ntmps31
  go_wp2_with (go_at_call 40; refine (SC.out _ ((Below.refl _ _).alloc (Nat.le_refl _) _)).mono ?_; rintro e w5 ⟨v, rfl, hv, hb⟩)
  go_ret
  have ba : Below w.heap.size w (w.alloc (.cells #[.int .i64 (size : Int), .slice a n c] 48)) := (Below.refl _ _).alloc (Nat.le_refl _) _
  exact ⟨v, rfl, own_base hv (fun g hg => Nat.le_trans ba.size (own_lt hv hg).1), ba.trans (hb.mono ba.size)⟩
theorem copy_own {w : World} {g : Nat} (hg : Blk w g [] 5) {a : Option Addr} {bn c : Nat} {B : List UInt8} (hB : Bts w a bn c B) (hn : bn ≤ 140737488351232) : ∃ v' w', (Builtin.append_ #[46, 46] 46 #[.slice (some ⟨g, 0, none⟩) 0 0, .slice a bn c]).run Try.prog w = .ok v' w' ∧ w'.ownsRow g 5 1 v' bn (bv B) ∧ Below g w w' := by
  have own0 : w.ownsRow g 5 1 (.slice (some ⟨g, 0, none⟩) 0 0) 0 ([] : List Value) := ⟨by simp, .inr ⟨g, 0, #[], rfl, Nat.le_refl _, hg, Nat.le_refl _, by unfold maxLen; omega, by simp, by simp⟩⟩
  obtain ⟨v', w', hr, ho, hgr, hv⟩ := run_append_any_at (P := Try.prog) w g 46 46 5 (.int .u8 0) 1 1 Try.underlying46 OwnB.infou8 rfl (by decide) (.slice (some ⟨g, 0, none⟩) 0 0) 0 [] own0 a bn c (bv B) (OwnB.src_bts hB) (by omega) (by unfold maxLen; omega) (by have := hg.lt; omega)
  rw [Nat.zero_add, List.nil_append] at ho
  exact ⟨v', w', hr, ho, ⟨hgr.os, hgr.tape, hgr.output, hgr.size, fun x hx => hgr.block x (by have := hg.lt; omega) (fun e => by have := Option.some.inj e; simp only at this; omega)⟩⟩
/-- what a call of the reference leaves of a memory's bytes -/
def Sv (w0 w : World) (s s' : Value) (B' : List UInt8) (base : Nat) : Prop := w.ownsRow base 5 1 s' B'.length (bv B') ∧ (s' = s ∨ ∀ g, s'.ownBlock = some g → w0.heap.size ≤ g)
open InvG in
theorem rtrim_any (size : Nat) (s : Value) (B : List UInt8) (base : Nat) (w : World) (hs : w.ownsRow base 5 1 s B.length (bv B)) (hb : base ≤ w.heap.size) (h2 : B.length ≤ 65536) (hsz : size ≤ 65536) : Calls Try.prog 26 #[rmv size s] w fun e w' => ∃ s', e = .returned (rmv size s') ∧ Sv w w' s s' (B.take (37 * (scanAll B).length)) base ∧ Below w.heap.size w w' := by
  obtain ⟨a, c, rfl, hB⟩ := OwnB.bts_own rfl hs
  obtain ⟨n, hn⟩ : ∃ n, n = B.length := ⟨_, rfl⟩
  rw [← hn] at hB h2 hs ⊢
  obtain ⟨m, hm⟩ : ∃ m, m = 37 * (scanAll B).length := ⟨_, rfl⟩
  have hmn : m ≤ n := by rw [hm, hn]; have := scanAll_len B; omega
  obtain ⟨wb, hwb⟩ : ∃ wb, wb = (w.alloc (.cells #[.int .i64 (size : Int), .slice a n c] 48)).alloc (.cells #[.int .i64 0, .slice none 0 0] 48) := ⟨_, rfl⟩
  have bb : Below w.heap.size w wb := hwb ▸ ((Below.refl _ _).alloc (Nat.le_refl _) _).alloc (by simp) _
  have SC := Lib.hid (rscan_any a n c B wb (hB.below bb (Nat.le_refl _)) (by omega))
  rw [← hm] at SC ⊢
  unfold rmv
  have HWB := Lib.hid hwb.symm
  have HN := Lib.hid hn
  have HM := Lib.hid hm
  have HB := Lib.hid hB
  have HS := Lib.hid hs
  have BB := Lib.hid bb
  have ZB := Lib.hid (show Blk wb w.heap.size [.int .i64 (size : Int), .slice a n c] 48 ∧ Blk wb (w.heap.size + 1) [.int .i64 0, .slice none 0 0] 48 from by rw [hwb]; exact ⟨(blk_at (w := w) rfl rfl).alloc _, blk_at (by simp) rfl⟩)
  clear hwb hn hm hB hs bb
  go_enter Try.func26, Try.ntmps26
  go_upto_region 1 with (fail)
  rw [HWB.out]
  have q1 := ZB.out.1.cell 1
  simp only [List.getElem?_cons_succ, List.getElem?_cons_zero] at q1
  go_upto_region 2 with (go_at_call 40; refine SC.out.mono ?_; rintro e w5 ⟨v, rfl, hv, hb5⟩)
  clear q1
  have b5 : Below w.heap.size w w5 := BB.out.trans (hb5.mono BB.out.size)
  have z1 := ZB.out.1.below hb5 ZB.out.1.lt
  have z2 := ZB.out.2.below hb5 ZB.out.2.lt
  obtain ⟨wA, hwA⟩ : ∃ x, x = w5.drew.alloc (.cells #[] 5) := ⟨_, rfl⟩
  have bA : Below w5.heap.size w5 wA := hwA ▸ (Below.refl w5.heap.size w5).drew.alloc (Nat.le_refl _) _
  have zA : Blk wA w5.heap.size [] 5 := by rw [hwA]; exact blk_at rfl rfl
  obtain ⟨v3, wD, hr3, ho3, hb3⟩ := copy_own zA ((HB.out.below (b5.trans (bA.mono b5.size)) (Nat.le_refl _)).take hmn) (by omega)
  obtain ⟨a3, c3, rfl, _⟩ := OwnB.bts_own (l := B.take m) (by rw [List.length_take]; have := HN.out; omega) ho3
  have bD : Below w5.heap.size w5 wD := bA.trans hb3
  have KEY := Lib.hid (show ∀ d w', At2 2 7 (fun w' => w' = w5.drew) (fun w' => w' = wA) (fun w' => w' = wD) d w' → w'.cell? ⟨w.heap.size, 0, none⟩ = some (.int .i64 (size : Int)) ∧ w'.cell? ⟨w.heap.size, 1, none⟩ = some (.slice a n c) from fun d w' h => by
    have z : Blk w' w.heap.size [.int .i64 (size : Int), .slice a n c] 48 := by
      rcases h.any with rfl | rfl | rfl
      · exact z1.drew
      · exact z1.below bA z1.lt
      · exact z1.below bD z1.lt
    exact ⟨z.cell 0, z.cell 1⟩)
  have ZD := Lib.hid (z2.below bD z2.lt)
  have BD := Lib.hid (b5.trans (bD.mono b5.size))
  have O3 := Lib.hid ho3
  have HWA := Lib.hid hwA.symm
  have HR3 := Lib.hid hr3
  have S5 := Lib.hid b5.size
  have S6 := Lib.hid hb5.size
  clear hwA bA zA hr3 ho3 hb3 bD z1 z2 b5 hb5 hv
  refine wp_region_gate_tail (fun d w' => At2 2 7 (fun w' => w' = w5.drew) (fun w' => w' = wA) (fun w' => w' = wD) d w') 9 (by kernel_rfl) (by kernel_rfl) ?hI ?_
  case hI => exact At2.start (by rfl) (by rfl) rfl
  simp only [List.take_succ_cons, List.take_zero, List.drop_succ_cons, List.drop_zero]
  refine InvC.invc_value (.pointer (some ⟨w.heap.size, 0, none⟩)) (fun u hu => by cases hu) rfl (fun d w' _ _ h => by go_simp; all_goals rfl) (fun d w' _ _ h => At2.keep (by decide) (by decide) h) ?_
  simp only [Act.put, List.setIfInBounds_toArray, List.set_cons_zero, List.set_cons_succ]
  refine InvC.invc_value (.int .i64 (size : Int)) (fun u hu => by cases hu) rfl (fun d w' _ _ h => by have q := (KEY.out d w' h).1; go_simp) (fun d w' _ _ h => At2.keep (by decide) (by decide) h) ?_
  simp only [Act.put, List.setIfInBounds_toArray, List.set_cons_zero, List.set_cons_succ]
  refine InvC.invc_world (.slice (some ⟨w5.heap.size, 0, none⟩) 0 0) (fun u hu => by cases hu) rfl (fun d w' hd hG h => ⟨wA, by
    have e := (h.at_p hd).1
    subst e
    rw [← HWA.out]
    go_simp, At2.did_p (by decide) hd h rfl⟩) ?_
  simp only [Act.put, List.setIfInBounds_toArray, List.set_cons_zero, List.set_cons_succ]
  refine InvC.invc_value (.pointer (some ⟨w.heap.size, 1, none⟩)) (fun u hu => by cases hu) rfl (fun d w' _ _ h => by go_simp; all_goals rfl) (fun d w' _ _ h => At2.keep (by decide) (by decide) h) ?_
  simp only [Act.put, List.setIfInBounds_toArray, List.set_cons_zero, List.set_cons_succ]
  refine InvC.invc_value (.slice a n c) (fun u hu => by cases hu) rfl (fun d w' _ _ h => by have q := (KEY.out d w' h).2; go_simp) (fun d w' _ _ h => At2.keep (by decide) (by decide) h) ?_
  simp only [Act.put, List.setIfInBounds_toArray, List.set_cons_zero, List.set_cons_succ]
  refine InvC.invc_value (.int .i64 (m : Int)) (fun u hu => by cases hu) rfl (fun d w' _ _ h => by go_simp; all_goals rfl) (fun d w' _ _ h => At2.keep (by decide) (by decide) h) ?_
  simp only [Act.put, List.setIfInBounds_toArray, List.set_cons_zero, List.set_cons_succ]
  have hmc := HB.out.2.1
  refine InvC.invc_value (.slice a m c) (fun u hu => by cases hu) rfl (fun d w' _ _ h => by go_simp; all_goals first | rfl | (intro h9; exfalso; omega)) (fun d w' _ _ h => At2.keep (by decide) (by decide) h) ?_
  simp only [Act.put, List.setIfInBounds_toArray, List.set_cons_zero, List.set_cons_succ]
  refine InvC.invc_world (.slice a3 m c3) (fun u hu => by cases hu) rfl (fun d w' hd hG h => ⟨wD, by
    have e := h.at_q hd (hG.of (by kernel_rfl))
    subst e
    exact exec_append _ _ rfl rfl rfl HR3.out, At2.did_q (by decide) hd (hG.of (by kernel_rfl)) rfl⟩) ?_
  simp only [Act.put, List.setIfInBounds_toArray, List.set_cons_zero, List.set_cons_succ]
  have BT := Lib.hid (show Try.prog.built 48 [(0, .int .i64 (size : Int)), (1, .slice a3 m c3)] = some #[.int .i64 (size : Int), .slice a3 m c3] from by kernel_rfl)
  refine InvC.invc_value (.agg #[.int .i64 (size : Int), .slice a3 m c3]) (fun u hu => by cases hu) rfl (fun d w' _ _ h => by exact exec_build (vs := [(0, .int .i64 (size : Int)), (1, .slice a3 m c3)]) rfl rfl BT.out) (fun d w' _ _ h => At2.keep (by decide) (by decide) h) ?_
  simp only [Act.put, List.setIfInBounds_toArray, List.set_cons_zero, List.set_cons_succ]
  refine InvC.invc_nil fun wq hI => ?_
  have e6 := hI.done (by rfl)
  subst e6
  clear hI KEY HR3 HWA BT SC
  go_wp2_with (refine wpList_store_blk rfl 48 _ _ rfl (w.heap.size + 1) 0 2 rfl 48 [.int .i64 0, .slice none 0 0] [.int .i64 (size : Int), .slice a3 m c3] rfl ZD.out (by kernel_rfl) rfl (by decide) (by simp [Value.oneCell']) ?_; intro w7 z7 g7; have Z7 := Lib.hid (show Blk w7 (w.heap.size + 1) [.int .i64 (size : Int), .slice a3 m c3] 48 from z7); have G7 := Lib.hid g7; clear z7 g7)
  have hlm : (B.take m).length = m := by rw [List.length_take]; have := HN.out; omega
  exact bodyPost_ret (v := .agg #[.int .i64 (size : Int), .slice a3 m c3]) (results_cell_row rfl _ _ (w.heap.size + 1) 48 _ (0, 0) _ rfl Z7.out Try.underlying48 rfl (by kernel_rfl)) rfl ⟨.slice a3 m c3, rfl, ⟨own_only (by rw [hlm]; exact own_base O3.out (fun g hg => by have := (own_lt O3.out hg).1; have := S5.out; omega)) (Only.of_grown G7.out) (fun g hg => by have := (own_lt O3.out hg).1; have := ZB.out.2.lt; have := S6.out; simp only [List.mem_singleton]; omega), .inr fun g hg => by have := (own_lt O3.out hg).1; have := S5.out; omega⟩, below_grown BD.out G7.out BD.out.size (by omega)⟩
end Go.Proofs.Ytobblbplanimgaa.Nvram
