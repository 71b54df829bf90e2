/-
  Helper texts, joined in build order; no statement is proved here.
-/
import Derived.WalkKit
import Derived.ProofKit
import Derived.OpenShut
import Derived.ChangeOld
import Derived.SizedLaws
import Derived.Test.YtgnnjinpcdemiaaRows
import Derived.Deep.Cut
import Derived.Lib.LazyBuf
import Derived.Deep.RegionHeld3
import Derived.Deep.QuietTactic
import Derived.BigQuiet
import Derived.Test.YtgnnjinpcdemiaaWc2
/-
  How data that came in read, cell by cell: numbers, bools and slices, whatever structs and arrays they stand in. Helper text of this seat's claims; no statement is proved here.
-/
set_option linter.unusedSimpArgs false
set_option linter.unusedVariables false
set_option maxRecDepth 20000
namespace Go.Proofs.Ytgnnjinpcdemiaa.Opens
open Go.ChangeShapes Go.WideShapes Go.ChangeAt Go.RowKit

/-- what a cell of a type is -/
inductive Lf where
  | int (k : IntKind)
  | bool
  | slice (e : TypeId)
  deriving DecidableEq

section
variable {H : Type} (enc : TypeId × Value → H) (P : Program) (w : World) (base : Nat) (spare : Nat → Bool) (held : Bool)

def LfOk : Lf → Value → Prop
  | .int k, c => ∃ n, c = .int k n ∧ (Lit.int k n).wf = true
  | .bool, c => ∃ b, c = .bool b
  | .slice e, c => c = .slice none 0 0 ∨ ∃ a len cap, c = .slice (some a) len cap ∧ base ≤ a.block ∧ len ≤ cap ∧ cap ≤ maxLen ∧
      len * P.bytesOf e ≤ reachBytes ∧
      ∀ i, i < len → ∃ cs n x, w.cells? base (a.add (i * P.cellsOf e)) (P.cellsOf e) = some cs ∧ DataW.trod enc P w base spare held n e cs = some x ∧ ∀ m ∈ x.1.weights P e, m ≤ reachBytes

/-- the cells of a type in their order -/
def leaves : Nat → TypeId → Option (List Lf)
  | 0, _ => none
  | d + 1, t =>
    (match P.underlying t with
     | some (.int k) => some [Lf.int k]
     | some .bool => some [Lf.bool]
     | some (.slice e) => some [Lf.slice e]
     | some (.struct fs) => fs.toList.foldlM (fun (acc : List Lf) (f : Field) => if f.offset = acc.length then (leaves d f.type).map (acc ++ ·) else none) []
     | some (.array n e) => (leaves d e).map fun (ks : List Lf) => (List.replicate n ks).flatten
     | _ => (none : Option (List Lf))).bind fun (ks : List Lf) => if ks.length = P.cellsOf t then some ks else none

def Fits (ks : List Lf) (cs : List Value) : Prop := ∀ (i : Nat) (k : Lf), ks[i]? = some k → ∃ c, cs[i]? = some c ∧ LfOk enc P w base spare held k c
end

section
variable {H : Type} {enc : TypeId × Value → H} {P : Program} {w : World} {base : Nat} {spare : Nat → Bool} {held : Bool}

theorem leaves_len {d : Nat} {t : TypeId} {ks : List Lf} (h : leaves P d t = some ks) : ks.length = P.cellsOf t := by
  cases d with
  | zero => simp [leaves] at h
  | succ d =>
    unfold leaves at h
    rw [Option.bind_eq_some_iff] at h
    obtain ⟨ks', _, h⟩ := h
    split at h
    · cases h; assumption
    · cases h

theorem Fits.append {ks ks' : List Lf} {cs : List Value} {m : Nat} (hm : ks'.length ≤ m) (h : Fits enc P w base spare held ks cs) (h' : Fits enc P w base spare held ks' ((cs.drop ks.length).take m)) :
    Fits enc P w base spare held (ks ++ ks') cs := by
  intro i k hk
  by_cases hi : i < ks.length
  · rw [List.getElem?_append_left hi] at hk
    exact h i k hk
  · rw [List.getElem?_append_right (by omega)] at hk
    obtain ⟨c, hc, ok⟩ := h' _ _ hk
    have hlt : i - ks.length < m := Nat.lt_of_lt_of_le (List.getElem?_eq_some_iff.1 hk).1 hm
    rw [List.getElem?_take, if_pos hlt, List.getElem?_drop] at hc
    exact ⟨c, by rwa [show ks.length + (i - ks.length) = i from by omega] at hc, ok⟩

theorem weights_mem_all {e : TypeId} : ∀ {ds : List (DataW H)} {d : DataW H}, d ∈ ds → ∀ n ∈ d.weights P e, n ∈ DataW.weightsAll P e ds
  | d0 :: ds, d, hd, n, hn => by
    simp only [DataW.weightsAll, List.mem_append]
    rcases List.mem_cons.1 hd with rfl | hd
    · exact .inl hn
    · exact .inr (weights_mem_all hd n hn)
  | [], d, hd, _, _ => by cases hd

/-- what a slice's reading says of it -/
theorem lf_of_slice {t e : TypeId} {fuel : Nat} {a : Addr} {len cap : Nat} {elems rest : List (DataW H × List MemPlace)} {n : Nat} {ps : List MemPlace} (hu : P.underlying t = some (.slice e))
    (hb : base ≤ a.block) (hl : len ≤ cap) (hm : cap ≤ maxLen) (hel : elems.length = len)
    (hr : ∀ i, i < len → (w.cells? base (a.add (i * P.cellsOf e)) (P.cellsOf e)).bind (DataW.trod enc P w base spare held n e) = elems[i]?)
    (hw : ∀ m ∈ (DataW.slice (elems.map (·.1)) (rest.map (·.1))).weights P t, m ≤ reachBytes) : LfOk enc P w base spare held (.slice e) (.slice (some a) len cap) := by
  simp only [DataW.weights, hu] at hw
  refine .inr ⟨a, len, cap, rfl, hb, hl, hm, ?_, fun j hj => ?_⟩
  · have := hw _ (List.mem_cons_self ..)
    simp only [List.length_map] at this
    rw [hel] at this
    exact Nat.le_trans (Nat.mul_le_mul_right _ (Nat.le_add_right _ _)) this
  · have hj' := hr j hj
    obtain ⟨y, hy⟩ : ∃ y, elems[j]? = some y := ⟨elems[j]'(by omega), List.getElem?_eq_getElem (by omega)⟩
    rw [hy, Option.bind_eq_some_iff] at hj'
    obtain ⟨cs', h1, h2⟩ := hj'
    refine ⟨cs', n, y, h1, h2, fun m hmm => hw m (List.mem_cons_of_mem _ (List.mem_append.2 (.inl (weights_mem_all (List.mem_map.2 ⟨y, List.mem_of_getElem? hy, rfl⟩) m hmm))))⟩

theorem fits_nil (cs : List Value) : Fits enc P w base spare held [] cs := fun i k h => by simp at h

theorem fits_of_trod (d : Nat) : ∀ (t : TypeId) (ks : List Lf), leaves P d t = some ks → ∀ (fuel : Nat) (cs : List Value) (x : DataW H × List MemPlace), DataW.trod enc P w base spare held fuel t cs = some x →
    (∀ m ∈ x.1.weights P t, m ≤ reachBytes) → Fits enc P w base spare held ks cs := by
  induction d with
  | zero => intro t ks h; simp [leaves] at h
  | succ d ih =>
    intro t ks h fuel cs x hx hw
    unfold leaves at h
    rw [Option.bind_eq_some_iff] at h
    obtain ⟨ks', h, h2⟩ := h
    split at h2
    case isFalse => cases h2
    case isTrue hlen =>
    cases h2
    cases hu : P.underlying t with
    | none => rw [hu] at h; cases h
    | some u =>
    rw [hu] at h
    cases u with
    | int k =>
      cases h
      obtain ⟨n, rfl, _, hwf⟩ := DataW.trod_int hu hx
      intro i k' hk
      cases i with
      | zero => simp at hk; subst hk; exact ⟨_, rfl, n, rfl, hwf⟩
      | succ i => simp at hk
    | bool =>
      cases h
      obtain ⟨b, rfl, _⟩ := DataW.trod_bool hu hx
      intro i k' hk
      cases i with
      | zero => simp at hk; subst hk; exact ⟨_, rfl, b, rfl⟩
      | succ i => simp at hk
    | slice e =>
      cases h
      intro i k' hk
      cases i with
      | succ i => simp at hk
      | zero =>
        simp at hk
        subst hk
        rcases DataW.trod_slice hu hx with ⟨rfl, _⟩ | ⟨a, len, cap, elems, rest, n, _, rfl, rfl, hb, hl, hm, hel, hr, _, _⟩
        · exact ⟨_, rfl, .inl rfl⟩
        · exact ⟨_, rfl, lf_of_slice (fuel := 0) (ps := []) hu hb hl hm hel hr hw⟩
    | struct fs =>
      obtain ⟨xs, n, _, rfl, _, hxl, hf⟩ := DataW.trod_struct hu hx
      simp only [DataW.weights, hu] at hw
      have key : ∀ (rest done : List Field) (acc ks : List Lf), fs.toList = done ++ rest → Fits enc P w base spare held acc cs →
          rest.foldlM (fun (acc : List Lf) (f : Field) => if f.offset = acc.length then (leaves P d f.type).map (acc ++ ·) else none) acc = some ks → Fits enc P w base spare held ks cs := by
        intro rest
        induction rest with
        | nil => intro done acc ks _ ha hk; simp at hk; subst hk; exact ha
        | cons f rest ihr =>
          intro done acc ks hfs ha hk
          simp only [List.foldlM_cons] at hk
          by_cases ho : f.offset = acc.length
          · simp only [ho, if_true] at hk
            cases hl : leaves P d f.type with
            | none => rw [hl] at hk; simp at hk
            | some kf =>
              rw [hl] at hk
              simp only [Option.map_some, Option.bind_eq_bind, Option.bind_some] at hk
              have hj : fs[done.length]? = some f := by
                rw [← Array.getElem?_toList, hfs]
                simp
              have hlt : done.length < fs.size := (Array.getElem?_eq_some_iff.1 hj).1
              obtain ⟨y, hy⟩ : ∃ y, xs[done.length]? = some y := ⟨xs[done.length]'(by omega), List.getElem?_eq_getElem (by omega)⟩
              have ht := hf _ f hj
              rw [hy, ho] at ht
              exact ihr (done ++ [f]) (acc ++ kf) ks (by rw [hfs]; simp) (ha.append (by rw [leaves_len hl]; exact Nat.le_refl _) (ih _ _ hl _ _ _ ht (fun m hm => hw m (DataW.weights_mem_each (j := done.length) (by rw [List.getElem?_map, Array.getElem?_toList, hj]; rfl) (by rw [List.getElem?_map, hy]; rfl) m hm)))) hk
          · simp [ho] at hk
      exact key fs.toList [] [] _ rfl (fits_nil cs) h
    | array n e =>
      obtain ⟨xs, m, _, rfl, _, hxl, hf⟩ := DataW.trod_array hu hx
      simp only [DataW.weights, hu] at hw
      dsimp only at h
      cases hl : leaves P d e with
      | none => rw [hl] at h; simp at h
      | some ke =>
        rw [hl] at h
        simp only [Option.map_some, Option.some.injEq] at h
        subst h
        have kl := leaves_len hl
        have key : ∀ j, j ≤ n → Fits enc P w base spare held (List.replicate j ke).flatten cs := by
          intro j
          induction j with
          | zero => intro _; exact fits_nil cs
          | succ j ihj =>
            intro hj
            rw [List.replicate_succ', List.flatten_append]
            obtain ⟨y, hy⟩ : ∃ y, xs[j]? = some y := ⟨xs[j]'(by omega), List.getElem?_eq_getElem (by omega)⟩
            have ht := hf j (by omega)
            rw [hy] at ht
            have hz : (List.replicate j ke).flatten.length = j * P.cellsOf e := by simp [List.length_flatten, kl]
            refine (ihj (by omega)).append (m := P.cellsOf e) (by simp [kl]) ?_
            rw [hz]
            simp only [List.flatten_cons, List.flatten_nil, List.append_nil]
            exact ih _ _ hl _ _ _ ht (fun m' hm' => hw m' (weights_mem_all (List.mem_map.2 ⟨y, List.mem_of_getElem? hy, rfl⟩) m' hm'))
        exact key n (Nat.le_refl _)
    | _ => cases h

/-- a byte as a value -/
def u8 (b : UInt8) : Value := .int .u8 (b.toNat : Int)

theorem wf_u8 {n : Int} (h : (Lit.int .u8 n).wf = true) : ∃ b : UInt8, n = (b.toNat : Int) := by
  simp only [Lit.wf, IntKind.min, IntKind.max, IntKind.signed, IntKind.bits, Bool.and_eq_true, decide_eq_true_eq] at h
  refine ⟨UInt8.ofNat n.toNat, ?_⟩
  rw [UInt8.toNat_ofNat']
  simp at h
  omega
theorem wf_u16 {n : Int} (h : (Lit.int .u16 n).wf = true) : ∃ m : Nat, m < 65536 ∧ n = (m : Int) := by
  simp only [Lit.wf, IntKind.min, IntKind.max, IntKind.signed, IntKind.bits, Bool.and_eq_true, decide_eq_true_eq] at h
  simp at h
  exact ⟨n.toNat, by omega, by omega⟩
theorem wf_u32 {n : Int} (h : (Lit.int .u32 n).wf = true) : ∃ m : Nat, m < 4294967296 ∧ n = (m : Int) := by
  simp only [Lit.wf, IntKind.min, IntKind.max, IntKind.signed, IntKind.bits, Bool.and_eq_true, decide_eq_true_eq] at h
  simp at h
  exact ⟨n.toNat, by omega, by omega⟩
theorem wf_u64 {n : Int} (h : (Lit.int .u64 n).wf = true) : ∃ m : Nat, m < 18446744073709551616 ∧ n = (m : Int) := by
  simp only [Lit.wf, IntKind.min, IntKind.max, IntKind.signed, IntKind.bits, Bool.and_eq_true, decide_eq_true_eq] at h
  simp at h
  exact ⟨n.toNat, by omega, by omega⟩
theorem wf_i64 {n : Int} (h : (Lit.int .i64 n).wf = true) : -9223372036854775808 ≤ n ∧ n ≤ 9223372036854775807 := by
  simp only [Lit.wf, IntKind.min, IntKind.max, IntKind.signed, IntKind.bits, Bool.and_eq_true, decide_eq_true_eq] at h
  simp at h
  exact h

theorem Fits.next {k : Lf} {ks : List Lf} {cs : List Value} (h : Fits enc P w base spare held (k :: ks) cs) : ∃ c cs', cs = c :: cs' ∧ LfOk enc P w base spare held k c ∧ Fits enc P w base spare held ks cs' := by
  obtain ⟨c, hc, ok⟩ := h 0 k rfl
  cases cs with
  | nil => simp at hc
  | cons c' cs' =>
    simp at hc
    subst hc
    refine ⟨_, _, rfl, ok, fun i k' hk => ?_⟩
    obtain ⟨c, hc, ok⟩ := h (i + 1) k' (by simpa using hk)
    exact ⟨c, by simpa using hc, ok⟩
theorem Fits.int {k : IntKind} {ks : List Lf} {cs : List Value} (h : Fits enc P w base spare held (.int k :: ks) cs) : ∃ n cs', cs = .int k n :: cs' ∧ (Lit.int k n).wf = true ∧ Fits enc P w base spare held ks cs' := by
  obtain ⟨c, cs', rfl, ⟨n, rfl, hn⟩, hf⟩ := h.next
  exact ⟨n, cs', rfl, hn, hf⟩
theorem Fits.bytes (n : Nat) : ∀ {ks : List Lf} {cs : List Value}, Fits enc P w base spare held (List.replicate n (.int .u8) ++ ks) cs → ∃ (l : List UInt8) (cs' : List Value), l.length = n ∧ cs = l.map u8 ++ cs' ∧ Fits enc P w base spare held ks cs' := by
  induction n with
  | zero => intro ks cs h; exact ⟨[], cs, rfl, rfl, h⟩
  | succ n ih =>
    intro ks cs h
    rw [List.replicate_succ, List.cons_append] at h
    obtain ⟨m, cs', rfl, hm, hf⟩ := h.int
    obtain ⟨b, rfl⟩ := wf_u8 hm
    obtain ⟨l, cs'', rfl, rfl, hf'⟩ := ih hf
    exact ⟨b :: l, cs'', rfl, rfl, hf'⟩

/-- an argument that is a struct or an array: its cells -/
theorem open_agg {r : Reach} {b0 : Nat} {t : TypeId} {v : Value} {x : DataW H} {p : List MemPlace} {ks : List Lf} (d : Nat) (ha : (match P.underlying t with | some (.struct _) | some (.array _ _) => true | _ => false) = true) (hk : leaves P d t = some ks)
    (hv : Value.okWide P w r b0 t v) (h : DataW.Trod enc P w base spare held t v x p) (hw : ∀ m ∈ x.weights P t, m ≤ reachBytes) :
    ∃ cs : List Value, v = .agg cs.toArray ∧ cs.length = ks.length ∧ Fits enc P w base spare held ks cs := by
  have : ∃ cs, v = .agg cs ∧ cs.size = P.cellsOf t := by
    unfold Value.okWide at hv
    split at hv
    · obtain ⟨cs, h1, h2, _⟩ := hv; exact ⟨cs, h1, h2⟩
    · obtain ⟨cs, h1, h2, _⟩ := hv; exact ⟨cs, h1, h2⟩
    · rename_i n1 n2
      split at ha
      · rename_i hs; exact absurd hs (n1 _)
      · rename_i hs; exact absurd hs (n2 _ _)
      · cases ha
  obtain ⟨cs, rfl, hsz⟩ := this
  obtain ⟨fuel, hf⟩ := h
  exact ⟨cs.toList, by simp, by rw [leaves_len hk, ← hsz]; simp, fits_of_trod d t ks hk fuel _ _ hf hw⟩

/-- an argument that is a slice -/
theorem open_any_slice {t e : TypeId} {a : Option Addr} {len cap : Nat} {x : DataW H} {p : List MemPlace} (ht : P.underlying t = some (.slice e)) (h : DataW.Trod enc P w base spare held t (.slice a len cap) x p)
    (hw : ∀ m ∈ x.weights P t, m ≤ reachBytes) : LfOk enc P w base spare held (.slice e) (.slice a len cap) := by
  obtain ⟨fuel, hf⟩ := h
  rcases DataW.trod_slice ht hf with ⟨h1, _⟩ | ⟨a', len', cap', elems, rest, n, _, h1, hx, hb, hl, hm, hel, hr, _, _⟩
  · simp [Value.cells] at h1
    obtain ⟨rfl, rfl, rfl⟩ := h1
    exact .inl rfl
  · simp [Value.cells] at h1
    obtain ⟨rfl, rfl, rfl⟩ := h1
    simp only [Prod.mk.injEq] at hx
    obtain ⟨rfl, _⟩ := hx
    exact lf_of_slice (fuel := 0) (ps := []) ht hb hl hm hel hr hw

/-- cells one behind the other, chosen -/
theorem choose_list {α : Type} {q : Nat → α → Prop} : ∀ n : Nat, (∀ i, i < n → ∃ u, q i u) → ∃ l : List α, l.length = n ∧ ∀ i u, l[i]? = some u → q i u
  | 0, _ => ⟨[], rfl, fun i u h => by simp at h⟩
  | n + 1, h => by
    obtain ⟨l, hl, hq⟩ := choose_list n fun i hi => h i (by omega)
    obtain ⟨u, hu⟩ := h n (by omega)
    refine ⟨l ++ [u], by simp [hl], fun i v hv => ?_⟩
    by_cases hi : i < n
    · rw [List.getElem?_append_left (by omega)] at hv
      exact hq i v hv
    · rw [List.getElem?_append_right (by omega)] at hv
      obtain rfl : i = n := by
        have := (List.getElem?_eq_some_iff.1 hv).1
        simp at this
        omega
      rw [hl] at hv
      simp at hv
      subst hv
      exact hu

theorem cells_one {a : Addr} {cs : List Value} (h : w.cells? base a 1 = some cs) : ∃ v, cs = [v] ∧ w.cell? (a.add 0) = some v := by
  unfold World.cells? at h
  split at h
  · simp [List.range_succ] at h
    cases hc : w.cell? (a.add 0) with
    | none => rw [hc] at h; simp at h
    | some v =>
      rw [hc] at h
      simp at h
      exact ⟨v, h.symm, rfl⟩
  · cases h

/-- a slice of bytes that came in -/
theorem bytes_of_lf {e : TypeId} {a : Option Addr} {len cap : Nat} (hu : P.underlying e = some (.int .u8)) (hc : P.cellsOf e = 1) (hbo : P.bytesOf e = 1) (h : LfOk enc P w base spare held (.slice e) (.slice a len cap)) :
    ∃ l : List UInt8, l.length = len ∧ len ≤ cap ∧ cap ≤ maxLen ∧ len ≤ 140737488351232 ∧ (len = 0 ∨ ∃ b o, a = some ⟨b, o, none⟩ ∧ ∀ i u, l[i]? = some u → w.cell? ⟨b, o + i, none⟩ = some (u8 u)) := by
  rcases h with h | ⟨ad, len', cap', h, hb, hl, hm, hr, hcells⟩
  · simp only [Value.slice.injEq] at h
    obtain ⟨rfl, rfl, rfl⟩ := h
    exact ⟨[], rfl, by omega, by unfold maxLen; omega, by omega, .inl rfl⟩
  · simp only [Value.slice.injEq] at h
    obtain ⟨rfl, rfl, rfl⟩ := h
    rw [hbo, Nat.mul_one] at hr
    rw [hc] at hcells
    obtain ⟨l, hll, hq⟩ := choose_list (q := fun i u => w.cell? (ad.add i) = some (u8 u)) len fun i hi => by
      obtain ⟨cs, n, x, h1, h2, _⟩ := hcells i hi
      obtain ⟨v, rfl, hv⟩ := cells_one h1
      obtain ⟨m, hm', _, hwf⟩ := DataW.trod_int hu h2
      simp at hm'
      subst hm'
      obtain ⟨b, rfl⟩ := wf_u8 hwf
      exact ⟨b, by unfold u8; simpa [Addr.add] using hv⟩
    refine ⟨l, hll, hl, hm, hr, ?_⟩
    by_cases h0 : len = 0
    · exact .inl h0
    · obtain ⟨u, hu0⟩ : ∃ u, l[0]? = some u := ⟨l[0]'(by omega), List.getElem?_eq_getElem (by omega)⟩
      have hs := World.cell?_spot (hq 0 u hu0)
      obtain ⟨b, o, sp⟩ := ad
      have hsp : sp = none := by simpa [Addr.add] using hs
      subst hsp
      exact .inr ⟨b, o, rfl, fun i u hu => by
        have := hq i u hu
        by_cases hi : i = 0
        · subst hi; simpa [Addr.add] using this
        · simpa [Addr.add, hi] using this⟩
end
end Go.Proofs.Ytgnnjinpcdemiaa.Opens
/-
  Records that came in, and '==' on records. Helper text; no statement is proved here.
-/
set_option linter.unusedVariables false
set_option maxRecDepth 20000
set_option linter.unusedSimpArgs false
namespace Go.Proofs.Ytgnnjinpcdemiaa.Codec
open Go.RowKit Go.Proofs.Ytgnnjinpcdemiaa.Base Go.Proofs.Ytgnnjinpcdemiaa.Laws
/-- a record's numbers, with their kinds -/
def recP (k : Int) (v : Nat) (a : Int) (l : List UInt8) : List (IntKind × Int) := [(.i64, k), (.u64, (v : Int)), (.i64, a)] ++ l.map fun b => (.u8, (b.toNat : Int))
theorem recP_val (k : Int) (v : Nat) (a : Int) (l : List UInt8) : (recP k v a l).map Eq.val = recV k v a l := by
  unfold recP recV bv
  simp [Eq.val, Base.u8]
theorem val_inj {p q : IntKind × Int} (h : Eq.val p = Eq.val q) : p = q := by
  unfold Eq.val at h
  simp only [Value.int.injEq] at h
  exact Prod.ext h.1 h.2
theorem map_val_inj : ∀ {l m : List (IntKind × Int)}, l.map Eq.val = m.map Eq.val → l = m
  | [], [], _ => rfl
  | p :: l, q :: m, h => by
    simp only [List.map_cons, List.cons.injEq] at h
    rw [val_inj h.1, map_val_inj h.2]
  | [], _ :: _, h => by simp at h
  | _ :: _, [], h => by simp at h
def I64 (k : Int) : Prop := -9223372036854775808 ≤ k ∧ k ≤ 9223372036854775807
theorem recP_wf {k : Int} {v : Nat} {a : Int} {l : List UInt8} (hk : I64 k) (hv : v < 18446744073709551616) (ha : I64 a) : ∀ p ∈ recP k v a l, (Eq.lit p).wf = true := by
  intro p hp
  unfold recP at hp
  rcases List.mem_append.1 hp with h | h
  · simp only [List.mem_cons, List.not_mem_nil, or_false] at h
    unfold I64 at *
    rcases h with rfl | rfl | rfl <;> simp only [Eq.lit, Lit.wf, IntKind.min, IntKind.max, IntKind.signed, IntKind.bits, Bool.and_eq_true, decide_eq_true_eq] <;> simp <;> omega
  · obtain ⟨x, _, rfl⟩ := List.mem_map.1 h
    have := x.toNat_lt
    simp only [Eq.lit, Lit.wf, IntKind.min, IntKind.max, IntKind.signed, IntKind.bits, Bool.and_eq_true, decide_eq_true_eq]
    simp
    omega
theorem recP_kinds {k : Int} {v : Nat} {a : Int} {l : List UInt8} (hl : l.length = 16) : (recP k v a l).map (·.1) = [.i64, .u64, .i64] ++ List.replicate 16 .u8 := by
  unfold recP
  obtain ⟨x0, x1, x2, x3, x4, x5, x6, x7, x8, x9, x10, x11, x12, x13, x14, x15, rfl⟩ := list16 l hl
  rfl
theorem rec_eq {k k' : Int} {v v' : Nat} {a a' : Int} {l l' : List UInt8} (hl : l.length = 16) (hl' : l'.length = 16) (hk : I64 k) (hv : v < 18446744073709551616) (ha : I64 a) (hk' : I64 k') (hv' : v' < 18446744073709551616) (ha' : I64 a') (w : World) :
    (Op.equalIn 10000 35 (.agg (recV k v a l).toArray) (.agg (recV k' v' a' l').toArray)).run Try.prog w = .ok (decide (recP k v a l = recP k' v' a' l')) w := by
  rw [← recP_val, ← recP_val]
  exact Eq.run_eq_flat (P := Try.prog) (t := 35) (ks := [.i64, .u64, .i64] ++ List.replicate 16 .u8) 6 (by kernel_rfl) (by kernel_rfl) (by kernel_rfl) (recP_kinds hl) (recP_kinds hl') (recP_wf hk hv ha) (recP_wf hk' hv' ha') w
section
variable {H : Type} {enc : TypeId × Value → H} {P : Program} {base : Nat} {spare : Nat → Bool} {held : Bool} {W : World}
/-- a record that came in, other cells behind it -/
theorem rec_next {c : List Value} {ks : List Opens.Lf} (h : Opens.Fits enc P W base spare held (.int .i64 :: .int .u64 :: .int .i64 :: (List.replicate 16 (.int .u8) ++ ks)) c) : ∃ k v a l c', l.length = 16 ∧ v < 18446744073709551616 ∧ I64 k ∧ I64 a ∧ c = recV k v a l ++ c' ∧ Opens.Fits enc P W base spare held ks c' := by
  obtain ⟨k, c1, rfl, hk, h1⟩ := h.int
  obtain ⟨v, c2, rfl, hv, h2⟩ := h1.int
  obtain ⟨a, c3, rfl, ha, h3⟩ := h2.int
  obtain ⟨l, c4, hl, rfl, h4⟩ := h3.bytes 16
  obtain ⟨n, hn, rfl⟩ := Opens.wf_u64 hv
  exact ⟨k, n, a, l, c4, hl, hn, Opens.wf_i64 hk, Opens.wf_i64 ha, by simp [recV, bv, Base.u8, Opens.u8], h4⟩
theorem rec_in {c : List Value} {ks : List Opens.Lf} (hl : c.length = 19) (hk : ks = [.int .i64, .int .u64, .int .i64] ++ List.replicate 16 (.int .u8)) (h : Opens.Fits enc P W base spare held ks c) : ∃ k v a l, l.length = 16 ∧ v < 18446744073709551616 ∧ I64 k ∧ I64 a ∧ c = recV k v a l := by
  subst hk
  have h' : Opens.Fits enc P W base spare held (.int .i64 :: .int .u64 :: .int .i64 :: (List.replicate 16 (.int .u8) ++ [])) c := by simpa using h
  obtain ⟨k, v, a, l, c', hl16, hv, hk, ha, rfl, _⟩ := rec_next h'
  obtain rfl : c' = [] := List.eq_nil_of_length_eq_zero (by rw [List.length_append, recV_len _ _ _ _ hl16] at hl; omega)
  exact ⟨k, v, a, l, hl16, hv, hk, ha, List.append_nil _⟩
end
end Go.Proofs.Ytgnnjinpcdemiaa.Codec
/-
  What the bound of an '..Upto' statement gives. Helper text (after the page's own lemmas); no statement is proved here.
-/
set_option linter.unusedVariables false
set_option maxRecDepth 20000
namespace Go.Proofs.Ytgnnjinpcdemiaa.Bulk
open Go.RowKit

theorem length_le {H : Type} (l : List (DataW H)) : l.length ≤ Rows.uptoBulkAll l := by
  induction l with
  | nil => simp [Rows.uptoBulkAll]
  | cons x r ih =>
    have : 1 ≤ Rows.uptoBulk x := by
      cases x with
      | lit l => cases l <;> simp [Rows.uptoBulk]
      | nil => simp [Rows.uptoBulk]
      | ptr d => simp [Rows.uptoBulk]
      | slice elems spare => simp [Rows.uptoBulk]
      | agg parts => simp [Rows.uptoBulk]
      | iface t d => simp [Rows.uptoBulk]
      | map entries => simp [Rows.uptoBulk]
      | held h => simp [Rows.uptoBulk]
    simp only [Rows.uptoBulkAll, List.length_cons]
    omega

/-- the bulks of a list's parts, one beside the other -/
theorem sum_le {H α : Type} (g : α → Nat) : ∀ (l : List α) (ds : List (DataW H)), (∀ (i : Nat) (u : α), l[i]? = some u → ∃ d, ds[i]? = some d ∧ g u ≤ Rows.uptoBulk d) → (l.map g).sum ≤ Rows.uptoBulkAll ds := by
  intro l
  induction l with
  | nil => intro ds _; simp
  | cons x l ih =>
    intro ds h
    obtain ⟨d, hd, hg⟩ := h 0 x rfl
    cases ds with
    | nil => simp at hd
    | cons d' ds =>
      simp at hd
      subst hd
      have := ih ds fun i u hu => by
        obtain ⟨d, h1, h2⟩ := h (i + 1) u (by simpa using hu)
        exact ⟨d, by simpa using h1, h2⟩
      simp only [List.map_cons, List.sum_cons, Rows.uptoBulkAll]
      omega

section
variable {H : Type} {enc : TypeId × Value → H} {P : Program} {w : World} {base : Nat} {spare : Nat → Bool} {held : Bool}
/-- a slice's reading, its elements' data beside the cells -/
theorem open_elems {t e : TypeId} {a : Option Addr} {len cap : Nat} {x : DataW H} {p : List MemPlace} (ht : P.underlying t = some (.slice e)) (h : DataW.Trod enc P w base spare held t (.slice a len cap) x p)
    (hw : ∀ m ∈ x.weights P t, m ≤ reachBytes) :
    (a = none ∧ len = 0 ∧ cap = 0) ∨ ∃ ad elems rest, a = some ad ∧ x = .slice elems rest ∧ elems.length = len ∧ len ≤ cap ∧ cap ≤ maxLen ∧ len * P.bytesOf e ≤ reachBytes ∧
      ∀ i, i < len → ∃ cs n y, w.cells? base (ad.add (i * P.cellsOf e)) (P.cellsOf e) = some cs ∧ DataW.trod enc P w base spare held n e cs = some y ∧ elems[i]? = some y.1 ∧ ∀ m ∈ y.1.weights P e, m ≤ reachBytes := by
  obtain ⟨fuel, hf⟩ := h
  rcases DataW.trod_slice ht hf with ⟨h1, _⟩ | ⟨a', len', cap', elems, rest, n, _, h1, hx, hb, hl, hm, hel, hr, _, _⟩
  · simp [Value.cells] at h1
    obtain ⟨rfl, rfl, rfl⟩ := h1
    exact .inl ⟨rfl, rfl, rfl⟩
  · simp [Value.cells] at h1
    obtain ⟨rfl, rfl, rfl⟩ := h1
    simp only [Prod.mk.injEq] at hx
    obtain ⟨rfl, _⟩ := hx
    simp only [DataW.weights, ht] at hw
    refine .inr ⟨a', _, _, rfl, rfl, by simpa using hel, hl, hm, ?_, fun j hj => ?_⟩
    · have := hw _ (List.mem_cons_self ..)
      simp only [List.length_map] at this
      rw [hel] at this
      exact Nat.le_trans (Nat.mul_le_mul_right _ (Nat.le_add_right _ _)) this
    · have hj' := hr j hj
      obtain ⟨y, hy⟩ : ∃ y, elems[j]? = some y := ⟨elems[j]'(by omega), List.getElem?_eq_getElem (by omega)⟩
      rw [hy, Option.bind_eq_some_iff] at hj'
      obtain ⟨cs', h1, h2⟩ := hj'
      refine ⟨cs', n, y, h1, h2, by rw [List.getElem?_map, hy]; rfl, fun m hmm => hw m (List.mem_cons_of_mem _ (List.mem_append.2 (.inl (Opens.weights_mem_all (List.mem_map.2 ⟨y, List.mem_of_getElem? hy, rfl⟩) m hmm))))⟩

/-- a slice's bulk is at least its length and one -/
theorem slice_len {t e : TypeId} {fuel : Nat} {a : Option Addr} {len cap : Nat} {y : DataW H × List MemPlace} (ht : P.underlying t = some (.slice e)) (h : DataW.trod enc P w base spare held fuel t [.slice a len cap] = some y) : len + 1 ≤ Rows.uptoBulk y.1 := by
  rcases DataW.trod_slice ht h with ⟨h1, rfl⟩ | ⟨a', len', cap', elems, rest, n, _, h1, rfl, hb, hl, hm, hel, hr, _, _⟩
  · simp at h1
    obtain ⟨rfl, rfl, rfl⟩ := h1
    simp [Rows.uptoBulk]
  · simp at h1
    obtain ⟨rfl, rfl, rfl⟩ := h1
    have := length_le (elems.map (·.1))
    simp only [List.length_map] at this
    simp only [Rows.uptoBulk]
    omega
end
end Go.Proofs.Ytgnnjinpcdemiaa.Bulk
/-
  Rows of records. Helper text; no statement is proved here.
-/
set_option linter.unusedVariables false
set_option maxRecDepth 20000
set_option linter.unusedSimpArgs false
namespace Go.Proofs.Ytgnnjinpcdemiaa.Codec
open Go.RowKit Go.Proofs.Ytgnnjinpcdemiaa.Base Go.Proofs.Ytgnnjinpcdemiaa.Laws Go.Proofs.Ytgnnjinpcdemiaa.InvM
/-- a record -/
structure Rc where
  k : Int
  v : Nat
  a : Int
  l : List UInt8
  deriving DecidableEq
def Rc.cells (r : Rc) : List Value := recV r.k r.v r.a r.l
def Rc.p (r : Rc) : List (IntKind × Int) := recP r.k r.v r.a r.l
def Rc.Valid (r : Rc) : Prop := r.l.length = 16 ∧ r.v < 18446744073709551616 ∧ I64 r.k ∧ I64 r.a
theorem Rc.len {r : Rc} (h : r.Valid) : r.cells.length = 19 := recV_len _ _ _ _ h.1
theorem Rc.one (r : Rc) : ∀ u ∈ r.cells, u.oneCell' = true := recV_one _ _ _ _
theorem map_u8_inj : ∀ {l m : List UInt8}, (l.map fun b => ((IntKind.u8, (b.toNat : Int)) : IntKind × Int)) = m.map (fun b => (.u8, (b.toNat : Int))) → l = m
  | [], [], _ => rfl
  | p :: l, q :: m, h => by
    simp only [List.map_cons, List.cons.injEq, Prod.mk.injEq, true_and] at h
    rw [UInt8.toNat_inj.1 (show p.toNat = q.toNat by omega), map_u8_inj h.2]
  | [], _ :: _, h => by simp at h
  | _ :: _, [], h => by simp at h
theorem Rc.p_inj {r q : Rc} (h : r.p = q.p) : r = q := by
  obtain ⟨k, v, a, l⟩ := r
  obtain ⟨k', v', a', l'⟩ := q
  unfold Rc.p recP at h
  simp only [List.cons_append, List.nil_append, List.cons.injEq, Prod.mk.injEq, true_and] at h
  obtain ⟨h1, h2, h3, h4⟩ := h
  have := map_u8_inj h4
  subst h1
  subst h3
  subst this
  obtain rfl : v = v' := by omega
  rfl
theorem Rc.eq {r q : Rc} (h : r.Valid) (g : q.Valid) (w : World) : (Op.equalIn 10000 35 (.agg r.cells.toArray) (.agg q.cells.toArray)).run Try.prog w = .ok (decide (r = q)) w := by
  obtain ⟨h1, h2, h3, h4⟩ := h
  obtain ⟨g1, g2, g3, g4⟩ := g
  have := rec_eq h1 g1 h3 h2 h4 g3 g2 g4 w
  unfold Rc.cells
  rw [this]
  congr 1
  by_cases e : r = q
  · subst e; simp
  · rw [decide_eq_false e, decide_eq_false (p := recP r.k r.v r.a r.l = recP q.k q.v q.a q.l) (fun e2 => e (Rc.p_inj e2))]
/-- the cells of records, one behind the other -/
def rv : List Rc → List Value
  | [] => []
  | r :: rs => r.cells ++ rv rs
theorem rv_append (rs qs : List Rc) : rv (rs ++ qs) = rv rs ++ rv qs := by
  induction rs with
  | nil => rfl
  | cons r rs ih => simp [rv, ih]
theorem rv_one (r : Rc) : rv [r] = r.cells := by simp [rv]
theorem rv_cells : ∀ (rs : List Rc), ∀ u ∈ rv rs, u.oneCell' = true
  | [], u, h => by simp [rv] at h
  | r :: rs, u, h => by
    rcases List.mem_append.1 h with h | h
    · exact Rc.one r u h
    · exact rv_cells rs u h
theorem rv_len : ∀ {rs : List Rc}, (∀ r ∈ rs, r.Valid) → (rv rs).length = rs.length * 19
  | [], _ => rfl
  | r :: rs, h => by
    rw [rv, List.length_append, Rc.len (h r (by simp)), rv_len (fun q hq => h q (by simp [hq])), List.length_cons]
    omega
theorem rv_get : ∀ {rs : List Rc}, (∀ r ∈ rs, r.Valid) → ∀ (i : Nat) (r : Rc), rs[i]? = some r → ∀ (j : Nat) (u : Value), r.cells[j]? = some u → (rv rs)[i * 19 + j]? = some u
  | [], _, i, r, h, j, u, hu => by simp at h
  | q :: rs, hv, i, r, h, j, u, hu => by
    have hq := Rc.len (hv q (by simp))
    cases i with
    | zero =>
      simp at h
      subst h
      rw [rv, Nat.zero_mul, Nat.zero_add, List.getElem?_append_left (List.getElem?_eq_some_iff.1 hu).1]
      exact hu
    | succ i =>
      rw [rv, List.getElem?_append_right (by omega), hq, show (i + 1) * 19 + j - 19 = i * 19 + j from by omega]
      exact rv_get (fun q hq => hv q (by simp [hq])) i r (by simpa using h) j u hu
/-- a slice of records reads as a list -/
def Recs (w : World) (a : Option Addr) (n cap : Nat) (rs : List Rc) : Prop :=
  rs.length = n ∧ n ≤ cap ∧ cap ≤ maxLen ∧ (∀ r ∈ rs, r.Valid) ∧ (n = 0 ∨ ∃ b o, a = some ⟨b, o, none⟩ ∧ ∀ j u, (rv rs)[j]? = some u → w.cell? ⟨b, o + j, none⟩ = some u)
theorem Recs.below {w w' : World} {a : Option Addr} {n cap : Nat} {rs : List Rc} (h : Recs w a n cap rs) {B : Nat} (hb : Below B w w') (hB : w.heap.size ≤ B) : Recs w' a n cap rs := by
  obtain ⟨h1, h2, h3, h5, h4⟩ := h
  refine ⟨h1, h2, h3, h5, ?_⟩
  rcases h4 with h4 | ⟨b, o, e, hc⟩
  · exact .inl h4
  · exact .inr ⟨b, o, e, fun j u hu => (hb.cell (p := ⟨b, o + j, none⟩) (Nat.lt_of_lt_of_le (block_lt_of_cell (hc j u hu)) hB)).trans (hc j u hu)⟩
theorem Recs.src {w : World} {a : Option Addr} {n cap : Nat} {rs : List Rc} (h : Recs w a n cap rs) : SrcOf w a n 19 (rv rs) := by
  obtain ⟨h1, _, _, h5, h4⟩ := h
  refine ⟨by rw [rv_len h5, h1], rv_cells rs, ?_⟩
  rcases h4 with h4 | ⟨b, o, e, hc⟩
  · exact .inl h4
  · exact .inr ⟨_, e, fun j u hu => by rw [Addr.add_lit]; exact hc j u hu⟩
theorem recs_own {w : World} {base : Nat} {e : TypeId} {v : Value} {n : Nat} {rs : List Rc} (hn : rs.length = n) (hv : ∀ r ∈ rs, r.Valid) (h : w.ownsRow base e 19 v n (rv rs)) : ∃ a cap, v = .slice a n cap ∧ Recs w a n cap rs := by
  obtain ⟨a, cap, rfl, h1, h2, h3⟩ := own_slice h (by decide)
  refine ⟨a, cap, rfl, hn, h1, h2, hv, ?_⟩
  rcases h3 with h3 | ⟨g, rfl, _, hc⟩
  · exact .inl h3
  · exact .inr ⟨g, 0, rfl, fun j u hu => hc j u hu⟩
theorem info_rec : (Try.prog.info? 35).map (fun i => (i.zero, i.size, i.bytes)) = some (some (.agg zrec.toArray), 19, 40) := by kernel_rfl
/-- one new block as what is appended -/
theorem src_rec {w : World} {r : Rc} (hv : r.Valid) {t : TypeId} {g : Nat} (h : Blk w g r.cells t) : SrcOf w (some ⟨g, 0, none⟩) 1 19 r.cells := by
  refine ⟨by rw [Rc.len hv], Rc.one r, .inr ⟨_, rfl, fun j u hu => ?_⟩⟩
  rw [Addr.add_lit, Nat.zero_add, h.cell]
  exact hu
section
variable {H : Type} {enc : TypeId × Value → H} {base : Nat} {spare : Nat → Bool} {held : Bool} {W : World}
theorem leavesRec : Opens.leaves Try.prog 8 35 = some ([.int .i64, .int .u64, .int .i64] ++ List.replicate 16 (.int .u8)) := by kernel_rfl
theorem cellsRec : Try.prog.cellsOf 35 = 19 := by kernel_rfl
/-- records that came in -/
theorem recs_elems {ad : Addr} {len cap : Nat} (hl : len ≤ cap) (hm : cap ≤ maxLen) (hq : ∀ i, i < len → ∃ cs n y, W.cells? base (ad.add (i * Try.prog.cellsOf 35)) (Try.prog.cellsOf 35) = some cs ∧ DataW.trod enc Try.prog W base spare held n 35 cs = some y ∧ ∀ m ∈ y.1.weights Try.prog 35, m ≤ reachBytes) :
    ∃ rs, Recs W (some ad) len cap rs := by
  rw [cellsRec] at hq
  obtain ⟨rs, hrl, hrs⟩ := Opens.choose_list (q := fun i (r : Rc) => r.Valid ∧ ∀ j u, r.cells[j]? = some u → W.cell? ((ad.add (i * 19)).add j) = some u) len fun i hi => by
    obtain ⟨cs, n, y, h1, h2, h3⟩ := hq i hi
    have hf := Opens.fits_of_trod 8 _ _ leavesRec n cs y h2 h3
    obtain ⟨hb, hcl, hc⟩ := World.cells?_some h1
    obtain ⟨k, v, a, l, hl16, hv, hk, ha, rfl⟩ := rec_in hcl rfl hf
    exact ⟨⟨k, v, a, l⟩, ⟨hl16, hv, hk, ha⟩, fun j u hu => by
      have hj := (List.getElem?_eq_some_iff.1 hu).1
      have hlen : (recV k v a l).length = 19 := recV_len _ _ _ _ hl16
      have hj2 : j < 19 := by
        have : (Rc.cells ⟨k, v, a, l⟩).length = 19 := hlen
        omega
      have := hc j hj2
      rw [this]
      exact hu⟩
  have hval : ∀ r ∈ rs, r.Valid := fun r hr => by
    obtain ⟨i, hi⟩ := List.mem_iff_getElem?.1 hr
    exact (hrs i r hi).1
  refine ⟨rs, hrl, hl, hm, hval, ?_⟩
  by_cases h0 : len = 0
  · exact .inl h0
  · obtain ⟨r0, hr0⟩ : ∃ u, rs[0]? = some u := ⟨rs[0]'(by omega), List.getElem?_eq_getElem (by omega)⟩
    have hc0 := (hrs 0 r0 hr0).2 0 (.int .i64 r0.k) rfl
    have hs := World.cell?_spot hc0
    obtain ⟨b, o, sp⟩ := ad
    have hsp : sp = none := by simpa [Addr.add] using hs
    subst hsp
    refine .inr ⟨b, o, rfl, fun j u hu => ?_⟩
    have hj := (List.getElem?_eq_some_iff.1 hu).1
    rw [rv_len hval] at hj
    have hi : j / 19 < rs.length := by omega
    obtain ⟨r, hr⟩ : ∃ r, rs[j / 19]? = some r := ⟨_, List.getElem?_eq_getElem hi⟩
    obtain ⟨hrv, hcells⟩ := hrs _ r hr
    have hm19 : j % 19 < r.cells.length := by rw [Rc.len hrv]; omega
    have hg : r.cells[j % 19]? = some (r.cells[j % 19]'hm19) := List.getElem?_eq_getElem hm19
    have e := rv_get hval _ r hr _ _ hg
    rw [show j / 19 * 19 + j % 19 = j from by omega, hu] at e
    have := hcells _ _ hg
    rw [← Option.some.inj e] at this
    simp only [Addr.add_lit] at this
    rw [show o + j = o + j / 19 * 19 + j % 19 from by omega]
    exact this
theorem recs_in {a : Option Addr} {len cap : Nat} {d : DataW H} {p : List MemPlace} (h : DataW.Trod enc Try.prog W base spare held 22 (.slice a len cap) d p) (hw : ∀ m ∈ d.weights Try.prog 22, m ≤ reachBytes) :
    ∃ rs, Recs W a len cap rs ∧ len ≤ Rows.uptoBulk d := by
  rcases Bulk.open_elems Try.underlying22 h hw with ⟨rfl, rfl, rfl⟩ | ⟨ad, elems, rest, rfl, rfl, hel, hl, hm, _, hq⟩
  · exact ⟨[], ⟨rfl, by omega, by unfold maxLen; omega, by simp, .inl rfl⟩, by simp⟩
  · obtain ⟨rs, hrs⟩ := recs_elems (ad := ad) hl hm (fun i hi => by
      obtain ⟨cs, n, y, h1, h2, h3, h4⟩ := hq i hi
      exact ⟨cs, n, y, h1, h2, h4⟩)
    refine ⟨rs, hrs, ?_⟩
    have := Bulk.length_le elems
    simp only [Rows.uptoBulk]
    omega
end
end Go.Proofs.Ytgnnjinpcdemiaa.Codec
/-
  What a scan reads: plain. Helper text; no statement is proved here.
-/
set_option linter.unusedVariables false
set_option maxRecDepth 20000
set_option linter.unusedSimpArgs false
namespace Go.Proofs.Ytgnnjinpcdemiaa.Codec
open Go.RowKit Go.Proofs.Ytgnnjinpcdemiaa.Base Go.Proofs.Ytgnnjinpcdemiaa.Laws
def recOf (l : List UInt8) : Rc := ⟨kindOf l, verOf l, lbaOf l, dataOf l⟩
def scan : Nat → List UInt8 → List Rc
  | 0, _ => []
  | n + 1, l => if IsRec l then recOf l :: scan n (l.drop 37) else []
def scanAll (l : List UInt8) : List Rc := scan l.length l
theorem scan_fuel : ∀ (n m : Nat) (l : List UInt8), l.length ≤ n → l.length ≤ m → scan n l = scan m l := by
  intro n
  induction n with
  | zero =>
    intro m l h1 h2
    obtain rfl : l = [] := List.eq_nil_of_length_eq_zero (by omega)
    cases m with
    | zero => rfl
    | succ m => rw [scan, scan, if_neg (fun h => by have := h.1; simp at this)]
  | succ n ih =>
    intro m l h1 h2
    cases m with
    | zero =>
      obtain rfl : l = [] := List.eq_nil_of_length_eq_zero (by omega)
      rw [scan, scan, if_neg (fun h => by have := h.1; simp at this)]
    | succ m =>
      rw [scan, scan]
      by_cases h : IsRec l
      · rw [if_pos h, if_pos h, ih m (l.drop 37) (by rw [List.length_drop]; have := h.1; omega) (by rw [List.length_drop]; have := h.1; omega)]
      · rw [if_neg h, if_neg h]
theorem scanAll_yes {l : List UInt8} (h : IsRec l) : scanAll l = recOf l :: scanAll (l.drop 37) := by
  unfold scanAll
  have hl := h.1
  rw [show l.length = (l.length - 1) + 1 from by omega, scan, if_pos h]
  rw [scan_fuel (l.length - 1) (l.drop 37).length _ (by rw [List.length_drop]; omega) (Nat.le_refl _)]
theorem scanAll_no {l : List UInt8} (h : ¬ IsRec l) : scanAll l = [] := by
  unfold scanAll
  cases hn : l.length with
  | zero => rfl
  | succ n => rw [scan, if_neg h]
theorem recOf_valid {l : List UInt8} (h : IsRec l) : (recOf l).Valid := by
  obtain ⟨h1, ⟨⟨h2, h3⟩, ⟨h4, h5⟩⟩, _⟩ := h
  refine ⟨?_, verOf_lt l, ?_, ?_⟩
  · show (dataOf l).length = 16
    unfold dataOf; rw [List.length_take, List.length_drop]; omega
  · show I64 (kindOf l)
    unfold I64; omega
  · show I64 (lbaOf l)
    unfold I64; omega
theorem scan_valid : ∀ (n : Nat) (l : List UInt8), ∀ r ∈ scan n l, r.Valid := by
  intro n
  induction n with
  | zero => intro l r h; simp [scan] at h
  | succ n ih =>
    intro l r h
    rw [scan] at h
    by_cases hi : IsRec l
    · rw [if_pos hi] at h
      rcases List.mem_cons.1 h with rfl | h
      · exact recOf_valid hi
      · exact ih _ r h
    · rw [if_neg hi] at h
      simp at h
theorem scanAll_valid (l : List UInt8) : ∀ r ∈ scanAll l, r.Valid := scan_valid _ _
theorem scan_len : ∀ (n : Nat) (l : List UInt8), (scan n l).length * 37 ≤ l.length := by
  intro n
  induction n with
  | zero => intro l; simp [scan]
  | succ n ih =>
    intro l
    rw [scan]
    by_cases hi : IsRec l
    · rw [if_pos hi, List.length_cons]
      have := ih (l.drop 37)
      rw [List.length_drop] at this
      have := hi.1
      omega
    · rw [if_neg hi]; simp
theorem scanAll_len (l : List UInt8) : (scanAll l).length * 37 ≤ l.length := scan_len _ _
/-- a record that can be packed -/
def Rc.Good (r : Rc) : Prop := Ok r.k r.a
instance (r : Rc) : Decidable r.Good := by unfold Rc.Good; infer_instance
/-- its bytes -/
def Rc.bytes (r : Rc) : List UInt8 := rec37 r.k r.v r.a.toNat r.l
theorem Rc.bytes_len {r : Rc} (h : r.Valid) : r.bytes.length = 37 := rec37_len _ _ _ _ h.1
theorem Rc.back {r : Rc} (h : r.Valid) (g : r.Good) (t : List UInt8) : IsRec (r.bytes ++ t) ∧ recOf (r.bytes ++ t) = r ∧ (r.bytes ++ t).drop 37 = t := by
  obtain ⟨k, v, a, l⟩ := r
  obtain ⟨hl, hv, hk, ha⟩ := h
  have ha0 : 0 ≤ a := g.2.1
  obtain ⟨n, rfl⟩ : ∃ n : Nat, a = n := ⟨a.toNat, by omega⟩
  have hb : Rc.bytes ⟨k, v, (n : Int), l⟩ = rec37 k v n l := by unfold Rc.bytes; simp
  rw [hb]
  obtain ⟨e1, e2, e3, e4, _, _⟩ := rec_parts (r := t) (k := k) (v := v) (a := n) (l := l) hl hv g
  refine ⟨(rec_back t hl hv g).1, ?_, ?_⟩
  · unfold recOf
    rw [e1, e2, e3, e4]
  · have := rec37_len k v n l hl
    rw [← this, List.drop_left]
/-- records' bytes, one behind the other -/
def laidAll : List Rc → List UInt8
  | [] => []
  | r :: rs => r.bytes ++ laidAll rs
theorem laidAll_append (rs qs : List Rc) : laidAll (rs ++ qs) = laidAll rs ++ laidAll qs := by
  induction rs with
  | nil => rfl
  | cons r rs ih => simp [laidAll, ih]
theorem laidAll_len : ∀ {rs : List Rc}, (∀ r ∈ rs, r.Valid) → (laidAll rs).length = 37 * rs.length
  | [], _ => rfl
  | r :: rs, h => by
    rw [laidAll, List.length_append, Rc.bytes_len (h r (by simp)), laidAll_len (fun q hq => h q (by simp [hq])), List.length_cons]
    omega
/-- of records that are cut short, the whole ones are read -/
theorem scan_cut : ∀ (rs : List Rc), (∀ r ∈ rs, r.Valid ∧ r.Good) → ∀ cut, cut ≤ (laidAll rs).length → scanAll ((laidAll rs).take cut) = rs.take (cut / 37)
  | [], _, cut, hc => by
    simp only [laidAll, List.length_nil] at hc
    obtain rfl : cut = 0 := by omega
    rw [scanAll_no (fun h => by have := h.1; simp [laidAll] at this)]
    simp
  | r :: rs, h, cut, hc => by
    have hr := h r (by simp)
    have hrl := Rc.bytes_len hr.1
    rw [laidAll]
    by_cases h37 : cut < 37
    · rw [scanAll_no (fun h => by have := h.1; rw [List.length_take] at this; omega), show cut / 37 = 0 from by omega]
      rfl
    · obtain ⟨c, rfl⟩ : ∃ c, cut = 37 + c := ⟨cut - 37, by omega⟩
      have e : (r.bytes ++ laidAll rs).take (37 + c) = r.bytes ++ (laidAll rs).take c := by
        rw [List.take_append, List.take_of_length_le (by omega), hrl, show 37 + c - 37 = c from by omega]
      obtain ⟨b1, b2, b3⟩ := Rc.back hr.1 hr.2 ((laidAll rs).take c)
      rw [laidAll, List.length_append, hrl] at hc
      rw [e, scanAll_yes b1, b2, b3, scan_cut rs (fun q hq => h q (by simp [hq])) c (by omega), show (37 + c) / 37 = c / 37 + 1 from by omega]
      rfl
theorem scan_laid (rs : List Rc) (h : ∀ r ∈ rs, r.Valid ∧ r.Good) : scanAll (laidAll rs) = rs := by
  have := scan_cut rs h (laidAll rs).length (Nat.le_refl _)
  rw [List.take_length, laidAll_len (fun r hr => (h r hr).1), show 37 * rs.length / 37 = rs.length from by omega, List.take_length] at this
  exact this
end Go.Proofs.Ytgnnjinpcdemiaa.Codec
/-
  Pieces of slices of bytes, wherever they lie; a slice built of one whole value. Helper text; no statement is proved here.
-/
set_option linter.unusedVariables false
set_option maxRecDepth 20000
set_option linter.unusedSimpArgs false
namespace Go.Proofs.Ytgnnjinpcdemiaa.Codec
open Go.RowKit Go.Proofs.Ytgnnjinpcdemiaa.Base Go.Proofs.Ytgnnjinpcdemiaa.Laws Go.Proofs.Ytgnnjinpcdemiaa.InvM
/-- the address behind a slicing -/
def shifted (a : Option Addr) (i m : Nat) : Option Addr := if m = i then a else a.map (·.add (i * 1))
theorem sizeu8 (w : World) : (sizeOf 5).run Try.prog w = .ok 1 w := by
  obtain ⟨i, hi, hz, hs, hb⟩ := info_parts OwnB.infou8
  simp [sizeOf, typeInfo, hi, hs]
theorem slice_from (w : World) (a : Option Addr) (len cap i : Nat) (k : IntKind) (hi : i ≤ len) (hc : len ≤ cap) : (Instr.sliceAt 27 (.slice a len cap) (some (.int k i)) none none).run Try.prog w = .ok (.slice (shifted a i cap) (len - i) (cap - i)) w := by
  have hu := run_underlying (P := Try.prog) (w := w) Try.underlying27
  have hb := run_sliceBound (P := Try.prog) (w := w) k i len .sliceB (by omega) (by omega)
  simp only [Instr.sliceAt, Sem.run_bind, hu, Result.andThen_ok, Instr.slice, Instr.sliceBounds, Option.isSome_none, Sem.run_pure, sizeu8 w]
  simp [hb, shifted, sizeu8 w]
theorem slice_to (w : World) (a : Option Addr) (len cap j : Nat) (k : IntKind) (hj : j ≤ cap) : (Instr.sliceAt 27 (.slice a len cap) none (some (.int k j)) none).run Try.prog w = .ok (.slice (shifted a 0 cap) j cap) w := by
  have hu := run_underlying (P := Try.prog) (w := w) Try.underlying27
  have hb := run_sliceBound (P := Try.prog) (w := w) k j cap .sliceAcap (by omega) (by omega)
  simp only [Instr.sliceAt, Sem.run_bind, hu, Result.andThen_ok, Instr.slice, Instr.sliceBounds, Option.isSome_none, Sem.run_pure, sizeu8 w]
  simp [hb, shifted, sizeu8 w]
theorem exec_slice {P : Program} {ρ : Operand → Value} {w : World} {o : Oper} {t : TypeId} {x : Operand} {lo hi mx : Option Operand} {v : Value} (ho : o.op = .slice t x lo hi mx) (h : (Instr.sliceAt t (ρ x) (lo.map ρ) (hi.map ρ) (mx.map ρ)).run P w = .ok v w) : (execOp ρ o).run P w = .ok (.value v) w := by
  unfold execOp
  simp only [ho, Sem.run_bind, h, Result.andThen_ok, Sem.run_pure]
theorem bts_from {w : World} {a : Option Addr} {len cap i : Nat} {l : List UInt8} (h : Bts w a len cap l) (hi : i ≤ len) : Bts w (shifted a i cap) (len - i) (cap - i) (l.drop i) := by
  obtain ⟨h1, h2, h3, h4⟩ := h
  refine ⟨by rw [List.length_drop]; omega, by omega, by omega, ?_⟩
  by_cases h0 : len - i = 0
  · exact .inl h0
  · rcases h4 with h4 | ⟨b, o, rfl, hc⟩
    · omega
    · unfold shifted
      rw [if_neg (by omega)]
      refine .inr ⟨b, o + i, by simp [Addr.add], fun j u hu => ?_⟩
      rw [List.getElem?_drop] at hu
      rw [Nat.add_assoc]
      exact hc _ u hu
theorem bts_to {w : World} {a : Option Addr} {len cap j : Nat} {l : List UInt8} (h : Bts w a len cap l) (hj : j ≤ len) : Bts w (shifted a 0 cap) j cap (l.take j) := by
  obtain ⟨h1, h2, h3, h4⟩ := h
  refine ⟨by rw [List.length_take]; omega, by omega, by omega, ?_⟩
  by_cases h0 : j = 0
  · exact .inl h0
  · rcases h4 with h4 | ⟨b, o, rfl, hc⟩
    · omega
    · unfold shifted
      rw [if_neg (by omega)]
      refine .inr ⟨b, o, by simp [Addr.add], fun i u hu => ?_⟩
      rw [List.getElem?_take] at hu
      split at hu
      · exact hc i u hu
      · cases hu
/-- a slice of one whole value is built -/
theorem run_build_one {P : Program} (w : World) {t e : TypeId} {vs : List Value} {z : Value} {size bytes : Nat} (hu : P.underlying t = some (.slice e)) (hi : (P.info? e).map (fun i => (i.zero, i.size, i.bytes)) = some (some z, size, bytes)) (hl : vs.length = size) (h0 : 0 < size) (hs : size ≤ 1000) :
    (Instr.buildSlice t 1 #[(0, .agg vs.toArray)]).run P w = .ok (.slice (some ⟨w.heap.size, 0, none⟩) 1 1) (w.alloc (.cells vs.toArray e)) := by
  obtain ⟨i, hi, hz, hsz, hb⟩ := info_parts hi
  have hso : (sizeOf e).run P w = .ok size w := by simp [sizeOf, typeInfo, hi, hsz]
  have hzo : (zeroValue e).run P w = .ok z w := by simp [zeroValue, typeInfo, hi, hz]
  have hf : ∀ A : Array Value, A.size = size → Instr.fill (fun i => some (i * size, size)) A [(0, .agg vs.toArray)] = some vs.toArray := fun A hA => by
    have := fill_cons (fun i => some (i * size, size)) A.toList vs 0 0 (.agg vs.toArray) [] (by simp [hl]) rfl (by simp [hA, hl])
    rw [show A.toList.toArray = A from by simp] at this
    rw [this, put_all _ _ (by simp [hA, hl])]
    rfl
  unfold Instr.buildSlice
  have hfa := hf ((Array.range (1 * size)).map (fun x => z.cells[x % z.cells.size]!)) (by simp)
  simp only [Sem.run_bind, run_underlying hu, Result.andThen_ok, hso, Nat.one_mul, hzo] at hfa ⊢
  rw [if_neg (by omega), if_neg (by omega)]
  simp [hzo, hfa, newRow, newObj]
  rfl
theorem exec_build_one {P : Program} {ρ : Operand → Value} {w : World} {o : Oper} {t e : TypeId} {x : Operand} {vs : List Value} {z : Value} {size bytes : Nat} (ho : o.op = .buildSlice t 1 #[(0, x)]) (hx : ρ x = .agg vs.toArray) (hu : P.underlying t = some (.slice e)) (hi : (P.info? e).map (fun i => (i.zero, i.size, i.bytes)) = some (some z, size, bytes)) (hl : vs.length = size) (h0 : 0 < size) (hs : size ≤ 1000) :
    (execOp ρ o).run P w = .ok (.value (.slice (some ⟨w.heap.size, 0, none⟩) 1 1)) (w.alloc (.cells vs.toArray e)) := by
  have hm : (#[((0 : Nat), x)].map fun (i, x) => (i, ρ x)) = #[(0, .agg vs.toArray)] := by simp [hx]
  unfold execOp
  simp only [ho, hm, Sem.run_bind, run_build_one w hu hi hl h0 hs, Result.andThen_ok, Sem.run_pure]
theorem wpList_world_g {P : Program} {w w' : World} {ops : Array Oper} {rest : List Oper} {o : Oper} {a : Act} {Q : Exit → Act → World → Prop} (hw : Region.wanted o (yielded ops a.tmps) = true) (v : Value) (hr : (execOp a.eval o).run P w = .ok (.value v) w')
    (h : wpList P ops Q rest (a.put o.dst v) w') : wpList P ops Q (o :: rest) a w := by
  unfold wpList
  rw [if_pos hw]
  refine .inl ?_
  unfold Oper.wp
  rw [hr]
  exact h
end Go.Proofs.Ytgnnjinpcdemiaa.Codec
/-
  Clone of the library by contract, its answer told exactly. Helper text; no statement is proved here.
-/
set_option linter.unusedVariables false
set_option maxRecDepth 20000
set_option linter.unusedSimpArgs false
namespace Go.Proofs.Ytgnnjinpcdemiaa.Codec
open Go.RowKit Go.Proofs.Ytgnnjinpcdemiaa.Base Go.Proofs.Ytgnnjinpcdemiaa.Laws
/-- how much room a clone of n bytes has -/
def cloneCap (w0 : World) (n : Nat) : Nat := if n = 0 then 0 else grownCap w0 n 0 5
def cloneOff (n : Nat) : Nat := if n = 0 then 0 else 1
theorem grownCap_same {w w0 : World} (ht : w.tape = w0.tape) (hd : w.drawn = w0.drawn) (n o : Nat) (e : TypeId) : grownCap w n o e = grownCap w0 n o e := by
  unfold grownCap
  rw [ht, hd]
theorem wpList_append_grow {w : World} {ops : Array Oper} {rest : List Oper} {o : Oper} {a : Act} {Q : Exit → Act → World → Prop} (hgd : o.guard = none) (s x : Operand)
    (ho : o.op = .call { callee := .builtin .append, args := #[s, x], argTypes := #[27, 27] })
    (g : Nat) (hs : a.eval s = .slice (some ⟨g, 0, none⟩) 0 0) (ad : Addr) (m c : Nat) (news : List Value) (hx : a.eval x = .slice (some ad) m c) (hy : SrcOf w (some ad) m 1 news) (hm0 : 0 < m)
    (hm : m ≤ 140737488355328)
    (h : wpList Try.prog ops Q rest (a.put o.dst (.slice (some ⟨w.heap.size, 0, none⟩) m (grownCap w m 0 5))) (w.drew.alloc (.cells (#[] ++ news.toArray ++ Builtin.zeroCells (Value.int .u8 0).cells (grownCap w m 0 5 - m)) 5))) : wpList Try.prog ops Q (o :: rest) a w := by
  obtain ⟨i, hi, hz, hsize, hby⟩ := info_parts OwnB.infou8
  refine wpList_plain hgd fun K hK => ?_
  obtain ⟨hl, h1, h2⟩ := hy
  rcases h2 with h2 | ⟨ad', e, hc⟩
  · omega
  obtain rfl := Option.some.inj e
  have hr := run_append_grow (P := Try.prog) w 27 o.type 5 i (.int .u8 0) Try.underlying27 hi hz ⟨g, 0, none⟩ 0 0 [] (by simp) (fun j u hu => by simp at hu) ad m c news (by rw [hl, hsize]) hc (by omega) (by omega) (by rw [hby]; exact growslice_fits (by omega) (by omega))
  unfold Oper.wp execOp
  simp only [ho, resolve, invoke, builtin, Sem.run_bind, Sem.run_pure, Result.andThen_ok, List.map_toArray, List.map_cons, List.map_nil, hs, hx, hr]
  simp only [Nat.zero_add] at *
  exact hK _ _ h
theorem run_eql_slice_nil' (w : World) (ad : Addr) (l c : Nat) : (binOp .eql 27 (.slice (some ad) l c) (.slice none 0 0)).run Try.prog w = .ok (.bool false) w :=
  Go.run_eql_slice_nil w _ _ _ _ _ Try.underlying27
theorem bts_grown {w : World} {g n cp : Nat} {l : List UInt8} {z : Array Value} (hg : w.heap.size = g) (hl : l.length = n) (h1 : n ≤ cp) (h2 : cp ≤ maxLen) : Bts (w.alloc (.cells ((bv l).toArray ++ z) 5)) (some ⟨g, 0, none⟩) n cp l := by
  subst hg
  refine ⟨hl, h1, h2, .inr ⟨_, _, rfl, fun i u hu => ?_⟩⟩
  have hi := (List.getElem?_eq_some_iff.1 hu).1
  rw [Nat.zero_add, cell_of_row _ _ _ _ 5 (0, 0) (heap_alloc_new w _)]
  have : ((bv l).toArray ++ z)[i]? = (bv l)[i]? := by
    rw [Array.getElem?_append_left (by simp [bv_len]; omega)]
    simp
  rw [this, bv_get, hu]
  rfl
set_option maxHeartbeats 1000000 in
theorem clone_any (ad : Addr) (n c : Nat) (l : List UInt8) (hn : n ≤ 140737488355328) (w w0 : World) (ht : w.tape = w0.tape) (hd : w.drawn = w0.drawn) (h : Bts w (some ad) n c l) :
    Calls Try.prog 25 #[.slice (some ad) n c] w fun x w' => x = .returned (.slice (some ⟨w.heap.size + cloneOff n, 0, none⟩) n (cloneCap w0 n)) ∧ w'.heap.size = w.heap.size + 1 + cloneOff n ∧ Bts w' (some ⟨w.heap.size + cloneOff n, 0, none⟩) n (cloneCap w0 n) l ∧ Below w.heap.size w w' := by
  have hl := h.1
  have HT := Lib.hid (OwnB.src_bts (bts_alloc h (.cells #[] 5)))
  have HG := Lib.hid (grownCap_same ht hd n 0 5)
  have HG2 := Lib.hid (grownCap_ge w0 n 0 5)
  have HG3 := Lib.hid (grownCap_le_maxLen w0 n 0 5 (by unfold maxLen; omega))
  have hq := fun w' => run_eql_slice_nil' w' ad n c
  clear h ht hd
  by_cases h0 : n = 0
  · subst h0
    obtain rfl : l = [] := List.eq_nil_of_length_eq_zero hl
    have e1 : cloneOff 0 = 0 := rfl
    have e2 : cloneCap w0 0 = 0 := rfl
    have hl0 := Lib.hid hl
    have M1 := Lib.hid (World.ownsRow_made (e := 5) (size := 1) (base := w.heap.size) w #[] 0 (Nat.le_refl _) (Nat.zero_le _) rfl)
    have L1 := Lib.hid ((Below.refl w.heap.size w).alloc (Nat.le_refl _) (.cells #[] 5))
    rw [e1, e2]
    clear e1 e2 hl
    go_enter Try.func25, Try.ntmps25
    go_wp2
    go_ret
    exact ⟨rfl, by simp only [size_alloc], ⟨hl0.out, by omega, by unfold maxLen; omega, .inl rfl⟩, L1.out⟩
  · have e1 : cloneOff n = 1 := if_neg h0
    have e2 : cloneCap w0 n = grownCap w0 n 0 5 := if_neg h0
    rw [e1, e2]
    have hn0 : 0 < n := by omega
    have HG3E := Lib.hid (grownCap_same (w := w.alloc (.cells #[] 5)) (w0 := w) rfl rfl n 0 5 |>.trans HG.out)
    clear e1 e2
    go_enter Try.func25, Try.ntmps25
    go_wp2_with (first | (at_builtin; refine wpList_append_grow rfl _ _ rfl w.heap.size rfl ad n c (bv l) rfl HT.out hn0 hn ?_))
    have BT := Lib.hid (show Bts ((w.alloc (.cells #[] 5)).alloc (.cells ((bv l).toArray ++ Builtin.zeroCells #[.int .u8 0] (grownCap (w.alloc (.cells #[] 5)) n 0 5 - n)) 5)).drew _ _ _ _ from bts_grown (w := w.alloc (.cells #[] 5)) (g := w.heap.size + 1) (z := Builtin.zeroCells #[.int .u8 0] (grownCap (w.alloc (.cells #[] 5)) n 0 5 - n)) (by simp) hl HG2.out HG3.out)
    have BL := Lib.hid (show Below w.heap.size w ((w.alloc (.cells #[] 5)).alloc (.cells ((bv l).toArray ++ Builtin.zeroCells #[.int .u8 0] (grownCap (w.alloc (.cells #[] 5)) n 0 5 - n)) 5)).drew from (((Below.refl w.heap.size w).alloc (Nat.le_refl _) (.cells #[] 5)).alloc (by simp) _).drew)
    have HZ := Lib.hid (show ((w.alloc (.cells #[] 5)).alloc (.cells ((bv l).toArray ++ Builtin.zeroCells #[.int .u8 0] (grownCap (w.alloc (.cells #[] 5)) n 0 5 - n)) 5)).drew.heap.size = w.heap.size + 1 + 1 from by simp)
    obtain ⟨w2, hw2⟩ : ∃ w2, w2 = ((w.alloc (.cells #[] 5)).alloc (.cells ((bv l).toArray ++ Builtin.zeroCells #[.int .u8 0] (grownCap (w.alloc (.cells #[] 5)) n 0 5 - n)) 5)).drew := ⟨_, rfl⟩
    rw [← hw2] at BT BL HZ ⊢
    rw [HG3E.out]
    clear hw2
    go_ret
    exact ⟨rfl, HZ.out, BT.out, BL.out⟩
end Go.Proofs.Ytgnnjinpcdemiaa.Codec
/-
  slices.Clone of bytes by contract. Helper text; no statement is proved here.
-/
set_option linter.unusedVariables false
set_option maxRecDepth 20000
set_option linter.unusedSimpArgs false
namespace Go.Proofs.Ytgnnjinpcdemiaa.Codec
open Go.RowKit Go.Proofs.Ytgnnjinpcdemiaa.Base Go.Proofs.Ytgnnjinpcdemiaa.Laws

set_option maxHeartbeats 1000000 in
theorem sclone_any (ad : Addr) (n c : Nat) (l : List UInt8) (hn : n ≤ 140737488355328) (w w0 : World) (ht : w.tape = w0.tape) (hd : w.drawn = w0.drawn) (h : Bts w (some ad) n c l) :
    Calls Try.prog 64 #[.slice (some ad) n c] w fun x w' => x = .returned (.slice (some ⟨w.heap.size + cloneOff n, 0, none⟩) n (cloneCap w0 n)) ∧ w'.heap.size = w.heap.size + 1 + cloneOff n ∧ Bts w' (some ⟨w.heap.size + cloneOff n, 0, none⟩) n (cloneCap w0 n) l ∧ Below w.heap.size w w' := by
  have hl := h.1
  have HT := Lib.hid (OwnB.src_bts (bts_alloc h (.cells #[] 5)))
  have HG := Lib.hid (grownCap_same ht hd n 0 5)
  have HG2 := Lib.hid (grownCap_ge w0 n 0 5)
  have HG3 := Lib.hid (grownCap_le_maxLen w0 n 0 5 (by unfold maxLen; omega))
  have hq := fun w' => run_eql_slice_nil' w' ad n c
  clear h ht hd
  by_cases h0 : n = 0
  · subst h0
    obtain rfl : l = [] := List.eq_nil_of_length_eq_zero hl
    have e1 : cloneOff 0 = 0 := rfl
    have e2 : cloneCap w0 0 = 0 := rfl
    have hl0 := Lib.hid hl
    have M1 := Lib.hid (World.ownsRow_made (e := 5) (size := 1) (base := w.heap.size) w #[] 0 (Nat.le_refl _) (Nat.zero_le _) rfl)
    have L1 := Lib.hid ((Below.refl w.heap.size w).alloc (Nat.le_refl _) (.cells #[] 5))
    rw [e1, e2]
    clear e1 e2 hl
    go_enter Try.func64, Try.ntmps64
    go_wp2
    go_ret
    exact ⟨rfl, by simp only [size_alloc], ⟨hl0.out, by omega, by unfold maxLen; omega, .inl rfl⟩, L1.out⟩
  · have e1 : cloneOff n = 1 := if_neg h0
    have e2 : cloneCap w0 n = grownCap w0 n 0 5 := if_neg h0
    rw [e1, e2]
    have hn0 : 0 < n := by omega
    have HG3E := Lib.hid (grownCap_same (w := w.alloc (.cells #[] 5)) (w0 := w) rfl rfl n 0 5 |>.trans HG.out)
    clear e1 e2
    go_enter Try.func64, Try.ntmps64
    go_wp2_with (first | (at_builtin; refine wpList_append_grow rfl _ _ rfl w.heap.size rfl ad n c (bv l) rfl HT.out hn0 hn ?_))
    have BT := Lib.hid (show Bts ((w.alloc (.cells #[] 5)).alloc (.cells ((bv l).toArray ++ Builtin.zeroCells #[.int .u8 0] (grownCap (w.alloc (.cells #[] 5)) n 0 5 - n)) 5)).drew _ _ _ _ from bts_grown (w := w.alloc (.cells #[] 5)) (g := w.heap.size + 1) (z := Builtin.zeroCells #[.int .u8 0] (grownCap (w.alloc (.cells #[] 5)) n 0 5 - n)) (by simp) hl HG2.out HG3.out)
    have BL := Lib.hid (show Below w.heap.size w ((w.alloc (.cells #[] 5)).alloc (.cells ((bv l).toArray ++ Builtin.zeroCells #[.int .u8 0] (grownCap (w.alloc (.cells #[] 5)) n 0 5 - n)) 5)).drew from (((Below.refl w.heap.size w).alloc (Nat.le_refl _) (.cells #[] 5)).alloc (by simp) _).drew)
    have HZ := Lib.hid (show ((w.alloc (.cells #[] 5)).alloc (.cells ((bv l).toArray ++ Builtin.zeroCells #[.int .u8 0] (grownCap (w.alloc (.cells #[] 5)) n 0 5 - n)) 5)).drew.heap.size = w.heap.size + 1 + 1 from by simp)
    obtain ⟨w2, hw2⟩ : ∃ w2, w2 = ((w.alloc (.cells #[] 5)).alloc (.cells ((bv l).toArray ++ Builtin.zeroCells #[.int .u8 0] (grownCap (w.alloc (.cells #[] 5)) n 0 5 - n)) 5)).drew := ⟨_, rfl⟩
    rw [← hw2] at BT BL HZ ⊢
    rw [HG3E.out]
    clear hw2
    go_ret
    exact ⟨rfl, HZ.out, BT.out, BL.out⟩
end Go.Proofs.Ytgnnjinpcdemiaa.Codec
/-
  Tables of columns; Encode by contract. Helper text; no statement is proved here.
-/
set_option linter.unusedVariables false
set_option maxRecDepth 20000
set_option linter.unusedSimpArgs false
namespace Go.Proofs.Ytgnnjinpcdemiaa.Par
open Go.RowKit Go.Proofs.Ytgnnjinpcdemiaa.Base Go.Proofs.Ytgnnjinpcdemiaa.Laws Go.Proofs.Ytgnnjinpcdemiaa.Disk Go.Proofs.Ytgnnjinpcdemiaa.Row Go.Proofs.Ytgnnjinpcdemiaa.OwnB
/-- a table of columns: the slices 'ps', whose bytes are 'l' -/
structure Tab (w : World) (a : Option Addr) (ps : List Sv) (l : List (List UInt8)) : Prop where
  len : ps.length = l.length
  src : l.length = 0 ∨ ∃ g o, a = some ⟨g, o, none⟩ ∧ ∀ (j : Nat) (u : Value), (sv ps)[j]? = some u → w.cell? ⟨g, o + j, none⟩ = some u
  each : ∀ (i : Nat) (p : Sv) (B : List UInt8), ps[i]? = some p → l[i]? = some B → p.2.1 = B.length ∧ Bts w p.1 p.2.1 p.2.2 B
theorem sv_one (ps : List Sv) : ∀ u ∈ sv ps, u.oneCell' = true := fun u hu => by
  unfold sv at hu
  obtain ⟨x, _, rfl⟩ := List.mem_map.1 hu
  rfl
theorem Tab.srcOf {w : World} {a : Option Addr} {ps : List Sv} {l : List (List UInt8)} (h : Tab w a ps l) : SrcOf w a ps.length 1 (sv ps) := by
  refine ⟨by rw [sv_len, Nat.mul_one], sv_one ps, ?_⟩
  rcases h.src with h0 | ⟨g, o, rfl, hc⟩
  · exact .inl (h.len.trans h0)
  · exact .inr ⟨_, rfl, fun j u hu => by rw [Addr.add_lit]; exact hc j u hu⟩
theorem Tab.cols {w : World} {a : Option Addr} {ps : List Sv} {l : List (List UInt8)} (h : Tab w a ps l) (hm : l.length ≤ maxLen) (c : Nat) : Cols w (.slice a l.length c) l := by
  refine ⟨a, c, rfl, hm, fun i B hB => ?_⟩
  have hi : i < l.length := (List.getElem?_eq_some_iff.1 hB).1
  obtain ⟨p, hp⟩ : ∃ p, ps[i]? = some p := ⟨_, List.getElem?_eq_getElem (by rw [h.len]; exact hi)⟩
  obtain ⟨h1, h2⟩ := h.each i p B hp hB
  rcases h.src with h0 | ⟨g, o, rfl, hc⟩
  · omega
  · refine ⟨g, o, p.1, p.2.2, rfl, ?_, by rw [← h1]; exact h2⟩
    rw [← h1]
    exact hc i _ (by rw [sv_get, hp]; rfl)
theorem Tab.below {w w' : World} {a : Option Addr} {ps : List Sv} {l : List (List UInt8)} (h : Tab w a ps l) {B : Nat} (hb : Below B w w') (hB : w.heap.size ≤ B) : Tab w' a ps l := by
  refine ⟨h.len, ?_, fun i p X hp hX => ⟨(h.each i p X hp hX).1, (h.each i p X hp hX).2.below hb hB⟩⟩
  rcases h.src with h0 | ⟨g, o, rfl, hc⟩
  · exact .inl h0
  · refine .inr ⟨g, o, rfl, fun j u hu => ?_⟩
    have := hc j u hu
    rw [hb.cell (Nat.lt_of_lt_of_le (block_lt_of_cell this) hB)]
    exact this
theorem Tab.lens {w : World} {a : Option Addr} {ps : List Sv} {l : List (List UInt8)} (h : Tab w a ps l) {W : Nat} (hl : ∀ B ∈ l, B.length = W) : ∀ p ∈ ps, p.2.1 = W := by
  intro p hp
  obtain ⟨i, hi⟩ := List.getElem?_of_mem hp
  have hlt : i < ps.length := (List.getElem?_eq_some_iff.1 hi).1
  obtain ⟨B, hB⟩ : ∃ B, l[i]? = some B := ⟨_, List.getElem?_eq_getElem (by rw [← h.len]; exact hlt)⟩
  rw [(h.each i p B hi hB).1]
  exact hl B (List.mem_of_getElem? hB)
theorem gone_none {l : List Sv} {W : Nat} (hW : 1 ≤ W) (h : ∀ p ∈ l, p.2.1 = W) : gone l = 0 := by
  unfold gone
  rw [List.countP_eq_zero]
  intro p hp
  have := h p hp
  simp; omega
theorem wide_none {l : List Sv} {W : Nat} (hW : 1 ≤ W) (h : ∀ p ∈ l, p.2.1 = W) (h1 : 1 ≤ l.length) : wide W l = W := by
  unfold wide
  rw [gone_none hW h, if_neg (by omega)]
set_option maxHeartbeats 2000000 in
theorem encode_any (W : Nat) (hW : 1 ≤ W) (hW2 : W ≤ 4096) (a : Option Addr) (c : Nat) (ps : List Sv) (l : List (List UInt8)) (w : World) (T : Tab w a ps l) (h1 : 1 ≤ l.length) (h2 : l.length ≤ 30) (hl : ∀ B ∈ l, B.length = W) :
    Calls Try.prog 40 #[.slice a l.length c] w fun e w' => ∃ bp bq, e = .returned (.tuple #[.slice (some ⟨bp, 0, none⟩) W W, .slice (some ⟨bq, 0, none⟩) W W, .int .i64 0]) ∧ w.heap.size ≤ bp ∧ w.heap.size ≤ bq ∧ bp ≠ bq ∧ Blk w' bp (bv (sumP W l l.length)) 5 ∧ Blk w' bq (bv (sumQ W l l.length)) 5 ∧ Below w.heap.size w w' := by
  have WI := Lib.hid (width_any W hW hW2 a none c 0 ps [] w T.srcOf ⟨rfl, by simp [sv], .inl rfl⟩ (by rw [T.len]; exact h1) (by rw [T.len]; exact h2) (by simp) (by rw [List.append_nil]; exact fun p hp => .inr (T.lens hl p hp)))
  rw [List.append_nil, gone_none hW (T.lens hl), wide_none hW (T.lens hl) (by rw [T.len]; exact h1), T.len] at WI
  have SU := Lib.hid (fun w' (hb : Below w.heap.size w w') => sums_any (.slice a l.length c) l W hW2 w' ((T.below hb (Nat.le_refl _)).cols (by unfold maxLen; omega) c) (fun B hB => Nat.le_of_eq (hl B hB)) (by omega))
  have e0 : (((W : Nat) : Int) == 0) = false := by rw [beq_eq_false_iff_ne]; omega
  obtain ⟨n, hn⟩ : ∃ n, n = l.length := ⟨_, rfl⟩
  rw [← hn] at WI SU ⊢
  have HN := Lib.hid hn
  clear hl T hn h1 h2
  go_enter Try.func40, Try.ntmps40
  go_wp2_with (first
    | (go_at_call 54; go_must (refine WI.out.mono ?_; rintro e w1 ⟨rfl, hb1⟩; have B1 := Lib.hid hb1; clear hb1))
    | (go_at_call 55; go_must (refine (SU.out _ B1.out).mono ?_; rintro e w2 ⟨bp, bq, rfl, hp0, hq0, hne, hP, hQ, hB⟩; have HP := Lib.hid hP; have HQ := Lib.hid hQ; have B2 := Lib.hid hB; clear hP hQ hB)))
  go_ret3
  have hs := B1.out.size
  exact ⟨bp, bq, rfl, by omega, by omega, hne, HP.out, HQ.out, B1.out.trans (B2.out.mono hs)⟩
end Go.Proofs.Ytgnnjinpcdemiaa.Par
/-
  A link as data, and where it lies. Helper text; no statement is proved here.
-/
set_option linter.unusedVariables false
set_option maxRecDepth 20000
set_option linter.unusedSimpArgs false
namespace Go.Proofs.Ytgnnjinpcdemiaa.Link
open Go.RowKit Go.Proofs.Ytgnnjinpcdemiaa.Base Go.Proofs.Ytgnnjinpcdemiaa.Laws Go.Proofs.Ytgnnjinpcdemiaa.Disk Go.Proofs.Ytgnnjinpcdemiaa.Row Go.Proofs.Ytgnnjinpcdemiaa.Flat
/-- a message: epoch, number, ack, body -/
structure Mk where
  e : Nat
  s : Nat
  k : Nat
  B : List UInt8
/-- a packet: the end it comes from, the message -/
structure Pk where
  f : Nat
  m : Mk
structure En where
  op : List Mk
  sent : Nat
  come : Nat
  got : List (List UInt8)
structure Lk where
  ep : Nat
  a : En
  b : En
  fl : List Pk
def Lk.en (k : Lk) (n : Nat) : En := if n = 0 then k.a else k.b
def Lk.with (k : Lk) (n : Nat) (e : En) : Lk := if n = 0 then { k with a := e } else { k with b := e }
def Lk.put (k : Lk) (n s : Nat) (B : List UInt8) : Lk := { k with fl := k.fl ++ [⟨n, ⟨k.ep, s, (k.en n).come, B⟩⟩] }
/-- a body that lies in no block of S -/
def Body (w : World) (S : List Nat) (v : Value) (B : List UInt8) : Prop :=
  (B = [] ∧ v = .slice none 0 0) ∨
  ∃ g o c, v = .slice (some ⟨g, o, none⟩) B.length c ∧ 0 < B.length ∧ B.length ≤ 64 ∧ Bts w (some ⟨g, o, none⟩) B.length c B ∧ g ∉ S
theorem bts_only {w w' : World} {T : List Nat} {g o n cap : Nat} {l : List UInt8} (h : Bts w (some ⟨g, o, none⟩) n cap l) (ho : Only T w w') (hg : g ∉ T) : Bts w' (some ⟨g, o, none⟩) n cap l := by
  obtain ⟨q1, q2, q3, q4⟩ := h
  refine ⟨q1, q2, q3, ?_⟩
  rcases q4 with q4 | ⟨gb, og, ea, hc⟩
  · exact .inl q4
  · simp only [Option.some.injEq, Addr.mk.injEq, and_true] at ea
    obtain ⟨rfl, rfl⟩ := ea
    exact .inr ⟨_, _, rfl, fun i u hu => by
      have h0 := hc i u hu
      exact (World.cell?_of_block (w := w) (ho.block g (block_lt_of_cell h0) hg)).trans h0⟩
theorem bts_block {w : World} {g o n cap : Nat} {l : List UInt8} (h : Bts w (some ⟨g, o, none⟩) n cap l) (hn : 0 < n) : g < w.heap.size := by
  obtain ⟨q1, q2, q3, q4⟩ := h
  rcases q4 with q4 | ⟨gb, og, ea, hc⟩
  · omega
  · simp only [Option.some.injEq, Addr.mk.injEq, and_true] at ea
    obtain ⟨rfl, rfl⟩ := ea
    obtain ⟨x, hx⟩ : ∃ x, l[0]? = some x := ⟨_, List.getElem?_eq_getElem (by omega)⟩
    exact block_lt_of_cell (hc 0 x hx)
theorem Body.move {w w' : World} {S S' T : List Nat} {v : Value} {B : List UInt8} (h : Body w S v B) (ho : Only T w w') (hT : ∀ x ∈ T, x ∈ S) (hS : ∀ x ∈ S', x ∈ S ∨ w.heap.size ≤ x) : Body w' S' v B := by
  rcases h with h | ⟨g, o, c, e, h1, h2, h3, h4⟩
  · exact .inl h
  · refine .inr ⟨g, o, c, e, h1, h2, bts_only h3 ho (fun hx => h4 (hT g hx)), fun hx => ?_⟩
    rcases hS g hx with hx | hx
    · exact h4 hx
    · have := bts_block h3 h1
      omega
section
variable {α : Type}
/-- a row of things of m cells, each with a body -/
def RowOf (w : World) (base : Nat) (S : List Nat) (t : TypeId) (m : Nat) (f : α × Value → List Value) (body : α → List UInt8) (v : Value) (xs : List α) : Prop :=
  ∃ ps : List (α × Value), ps.map Prod.fst = xs ∧ w.ownsRow base t m v ps.length (flat f ps) ∧ ∀ p ∈ ps, Body w S p.2 (body p.1)
variable {w w' : World} {base : Nat} {S S' T : List Nat} {t : TypeId} {m : Nat} {f : α × Value → List Value} {body : α → List UInt8} {v : Value} {xs : List α}
theorem RowOf.move (h : RowOf w base S t m f body v xs) (ho : Only T w w') (hT : ∀ x ∈ T, x ∈ S) (hS : ∀ x ∈ S', x ∈ S ∨ w.heap.size ≤ x) (hv : ∀ g, v.ownBlock = some g → g ∉ T) : RowOf w' base S' t m f body v xs := by
  obtain ⟨ps, e, h1, h2⟩ := h
  exact ⟨ps, e, own_only h1 ho hv, fun p hp => (h2 p hp).move ho hT hS⟩
theorem RowOf.nil : RowOf w base S t m f body (.slice none 0 0) ([] : List α) :=
  ⟨[], rfl, ⟨by simp [flat], .inl ⟨rfl, rfl⟩⟩, by simp⟩
theorem RowOf.lt (h : RowOf w base S t m f body v xs) {g : Nat} (hg : v.ownBlock = some g) : base ≤ g ∧ g < w.heap.size := by
  obtain ⟨ps, e, h1, h2⟩ := h
  exact own_lt h1 hg
/-- nothing of it but its row has changed -/
theorem RowOf.grown (h : RowOf w base S t m f body v xs) {row : Option Nat} (hg : w.grownBy w' row) (hT : ∀ x, row = some x → x ∈ S) (hS : ∀ x ∈ S', x ∈ S ∨ w.heap.size ≤ x) (hv : ∀ g, v.ownBlock = some g → row ≠ some g) : RowOf w' base S' t m f body v xs := by
  have ho : Only (row.toList) w w' := ⟨hg.os, hg.tape, hg.output, hg.size, fun k hk hn => hg.block k hk (by intro e; apply hn; rw [← e]; simp)⟩
  exact h.move ho (fun x hx => hT x (by simpa using hx)) hS (fun g hg hx => hv g hg (by simpa using hx))
end
def mc (p : Mk × Value) : List Value := [.int .u32 (p.1.e : Int), .int .u32 (p.1.s : Int), .int .u32 (p.1.k : Int), p.2]
def pc (p : Pk × Value) : List Value := [.int .i64 (p.1.f : Int), .int .u32 (p.1.m.e : Int), .int .u32 (p.1.m.s : Int), .int .u32 (p.1.m.k : Int), p.2]
def gc (p : List UInt8 × Value) : List Value := [p.2]
/-- the blocks that a link may write -/
def reach (bl : Nat) (V : Nat → Value) : List Nat := [bl, blkOf (V 0) bl, blkOf (V 1) bl, blkOf (V 2) bl, blkOf (V 3) bl, blkOf (V 4) bl]
theorem mem_reach {bl : Nat} {V : Nat → Value} {x : Nat} : x ∈ reach bl V ↔ x = bl ∨ ∃ i, i < 5 ∧ (V i).ownBlock = some x := by
  have hb : ∀ i, x = blkOf (V i) bl → x = bl ∨ (V i).ownBlock = some x := fun i e => by
    unfold blkOf at e
    cases h : (V i).ownBlock with
    | none => rw [h] at e; exact .inl e
    | some g => rw [h] at e; exact .inr (by rw [e]; rfl)
  have hb' : ∀ i, (V i).ownBlock = some x → x = blkOf (V i) bl := fun i e => by unfold blkOf; rw [e]; rfl
  constructor
  · intro h
    simp only [reach, List.mem_cons, List.not_mem_nil, or_false] at h
    rcases h with h | h | h | h | h | h
    · exact .inl h
    · exact (hb 0 h).imp id fun e => ⟨0, by decide, e⟩
    · exact (hb 1 h).imp id fun e => ⟨1, by decide, e⟩
    · exact (hb 2 h).imp id fun e => ⟨2, by decide, e⟩
    · exact (hb 3 h).imp id fun e => ⟨3, by decide, e⟩
    · exact (hb 4 h).imp id fun e => ⟨4, by decide, e⟩
  · rintro (rfl | ⟨i, hi, e⟩)
    · simp [reach]
    · have := hb' i e
      simp only [reach, List.mem_cons, List.not_mem_nil, or_false]
      obtain rfl | rfl | rfl | rfl | rfl : i = 0 ∨ i = 1 ∨ i = 2 ∨ i = 3 ∨ i = 4 := by omega
      · exact .inr (.inl this)
      · exact .inr (.inr (.inl this))
      · exact .inr (.inr (.inr (.inl this)))
      · exact .inr (.inr (.inr (.inr (.inl this))))
      · exact .inr (.inr (.inr (.inr (.inr this))))
def lcells (k : Lk) (V : Nat → Value) : List Value :=
  [.int .u32 (k.ep : Int), V 0, .int .u32 (k.a.sent : Int), .int .u32 (k.a.come : Int), V 1, V 2, .int .u32 (k.b.sent : Int), .int .u32 (k.b.come : Int), V 3, V 4]
structure LinkAt (w : World) (bl : Nat) (V : Nat → Value) (A : List Nat) (k : Lk) : Prop where
  head : Blk w bl (lcells k V) 55
  o : ∀ n, n < 2 → RowOf w (bl + 1) (reach bl V ++ A) 75 4 mc (·.B) (V (2 * n)) (k.en n).op
  g : ∀ n, n < 2 → RowOf w (bl + 1) (reach bl V ++ A) 27 1 gc id (V (2 * n + 1)) (k.en n).got
  fl : RowOf w (bl + 1) (reach bl V ++ A) 78 5 pc (·.m.B) (V 4) k.fl
  dist : ∀ i j, i < 5 → j < 5 → i ≠ j → ∀ g, (V i).ownBlock = some g → (V j).ownBlock ≠ some g
  out : ∀ x ∈ A, x < w.heap.size
section
variable {w w' : World} {bl : Nat} {V : Nat → Value} {A : List Nat} {k : Lk}
theorem LinkAt.row (h : LinkAt w bl V A k) (i : Nat) (hi : i < 5) {g : Nat} (hg : (V i).ownBlock = some g) : bl + 1 ≤ g ∧ g < w.heap.size := by
  obtain rfl | rfl | rfl | rfl | rfl : i = 0 ∨ i = 1 ∨ i = 2 ∨ i = 3 ∨ i = 4 := by omega
  · exact (h.o 0 (by decide)).lt hg
  · exact (h.g 0 (by decide)).lt hg
  · exact (h.o 1 (by decide)).lt hg
  · exact (h.g 1 (by decide)).lt hg
  · exact h.fl.lt hg
theorem LinkAt.reach_lt (h : LinkAt w bl V A k) {x : Nat} (hx : x ∈ reach bl V) : bl ≤ x ∧ x < w.heap.size := by
  rcases mem_reach.1 hx with rfl | ⟨i, hi, e⟩
  · exact ⟨Nat.le_refl _, h.head.lt⟩
  · have := h.row i hi e
    omega
/-- the link stands where others write -/
theorem LinkAt.move (h : LinkAt w bl V A k) {T A' : List Nat} (ho : Only T w w') (hT : ∀ x ∈ T, x ∈ A) (hR : ∀ x ∈ T, x ∉ reach bl V) (hA : ∀ x ∈ A', (x ∈ A ∨ w.heap.size ≤ x) ∧ x < w'.heap.size) : LinkAt w' bl V A' k := by
  have h1 : ∀ x ∈ T, x ∈ reach bl V ++ A := fun x hx => List.mem_append_right _ (hT x hx)
  have h2 : ∀ x ∈ reach bl V ++ A', x ∈ reach bl V ++ A ∨ w.heap.size ≤ x := fun x hx => by
    rcases List.mem_append.1 hx with hx | hx
    · exact .inl (List.mem_append_left _ hx)
    · exact (hA x hx).1.imp (List.mem_append_right _) id
  have h3 : ∀ i, i < 5 → ∀ g, (V i).ownBlock = some g → g ∉ T := fun i hi g hg hx => hR g hx (mem_reach.2 (.inr ⟨i, hi, hg⟩))
  exact { head := h.head.only ho fun hx => hR bl hx (mem_reach.2 (.inl rfl)),
          o := fun n hn => (h.o n hn).move ho h1 h2 (h3 _ (by omega)),
          g := fun n hn => (h.g n hn).move ho h1 h2 (h3 _ (by omega)),
          fl := h.fl.move ho h1 h2 (h3 _ (by omega)),
          dist := h.dist,
          out := fun x hx => (hA x hx).2 }
theorem LinkAt.only (h : LinkAt w bl V A k) {T : List Nat} (ho : Only T w w') (hT : ∀ x ∈ T, x ∈ A) (hR : ∀ x ∈ T, x ∉ reach bl V) : LinkAt w' bl V A k :=
  h.move ho hT hR fun x hx => ⟨.inl hx, Nat.lt_of_lt_of_le (h.out x hx) ho.size⟩
theorem LinkAt.below (h : LinkAt w bl V A k) (hb : Below w.heap.size w w') : LinkAt w' bl V A k :=
  h.only (Only.of_below (S := []) hb) (by simp) (by simp)
theorem LinkAt.drewN (h : LinkAt w bl V A k) (n : Nat) : LinkAt (w.drewN n) bl V A k := h.only (T := []) ((Only.refl [] w).drewN n) (by simp) (by simp)
theorem LinkAt.drew (h : LinkAt w bl V A k) : LinkAt w.drew bl V A k := h.only (T := []) (Only.refl [] w).drew (by simp) (by simp)
/-- a link's cell -/
theorem LinkAt.cell (h : LinkAt w bl V A k) (i : Nat) : w.cell? ⟨bl, i, none⟩ = (lcells k V)[i]? := h.head.cell i
/-- what the blocks of V' are, of V -/
def Kin (w : World) (V V' : Nat → Value) : Prop := ∀ i, i < 5 → ∀ g, (V' i).ownBlock = some g → (V i).ownBlock = some g ∨ w.heap.size ≤ g
theorem Kin.refl (w : World) (V : Nat → Value) : Kin w V V := fun i hi g hg => .inl hg
theorem Kin.reach {V' : Nat → Value} (h : Kin w V V') {x : Nat} (hx : x ∈ reach bl V') : x ∈ reach bl V ∨ w.heap.size ≤ x := by
  rcases mem_reach.1 hx with rfl | ⟨i, hi, e⟩
  · exact .inl (mem_reach.2 (.inl rfl))
  · exact (h i hi x e).imp (fun e => mem_reach.2 (.inr ⟨i, hi, e⟩)) id
structure Goes (w : World) (bl : Nat) (V : Nat → Value) (A : List Nat) (w' : World) (V' : Nat → Value) (k' : Lk) : Prop where
  at_ : LinkAt w' bl V' A k'
  only : Only (reach bl V) w w'
  kin : Kin w V V'
theorem Goes.refl (h : LinkAt w bl V A k) : Goes w bl V A w V k := ⟨h, Only.refl _ _, Kin.refl _ _⟩
theorem Goes.trans {w1 w2 : World} {V1 V2 : Nat → Value} {k1 k2 : Lk} (h : Goes w bl V A w1 V1 k1) (h2 : Goes w1 bl V1 A w2 V2 k2) : Goes w bl V A w2 V2 k2 :=
  ⟨h2.at_, ⟨h2.only.os.trans h.only.os, h2.only.tape.trans h.only.tape, h2.only.output.trans h.only.output, Nat.le_trans h.only.size h2.only.size, fun x hx hn =>
    (h2.only.block x (Nat.lt_of_lt_of_le hx h.only.size) fun hm => by
      rcases h.kin.reach hm with e | e
      · exact hn e
      · omega).trans (h.only.block x hx hn)⟩,
   fun i hi g hg => by
    rcases h2.kin i hi g hg with e | e
    · exact h.kin i hi g e
    · exact .inr (Nat.le_trans h.only.size e)⟩
theorem Goes.of_below (h : LinkAt w bl V A k) (hb : Below w.heap.size w w') : Goes w bl V A w' V k := ⟨h.below hb, Only.of_below hb, Kin.refl _ _⟩
theorem Goes.keep {V' : Nat → Value} {k' : Lk} {w2 : World} (h : Goes w bl V A w' V' k') (hb : Below w'.heap.size w' w2) : Goes w bl V A w2 V' k' := h.trans (Goes.of_below h.at_ hb)
end
end Go.Proofs.Ytgnnjinpcdemiaa.Link
/-
  Recover by contract where nothing is lost. Helper text; no statement is proved here.
-/
set_option linter.unusedVariables false
set_option maxRecDepth 20000
set_option linter.unusedSimpArgs false
namespace Go.Proofs.Ytgnnjinpcdemiaa.Par
open Go.RowKit Go.Proofs.Ytgnnjinpcdemiaa.Base Go.Proofs.Ytgnnjinpcdemiaa.Laws Go.Proofs.Ytgnnjinpcdemiaa.Disk Go.Proofs.Ytgnnjinpcdemiaa.Row Go.Proofs.Ytgnnjinpcdemiaa.OwnB
theorem results_tmp4 {fn : Func} {t u v x : Tmp} (h : fn.results = #[.tmp t, .tmp u, .tmp v, .tmp x]) (tmps : Array Value) (P : Program) (w : World) :
    (results fn tmps).run P w = .ok (.tuple #[tmps.getD t undef, tmps.getD u undef, tmps.getD v undef, tmps.getD x undef]) w := by
  simp [results, h]
/-- slices that lie at the beginning of blocks from 'base' on, and their bytes -/
structure Each (base : Nat) (w : World) (ps : List Sv) (l : List (List UInt8)) : Prop where
  len : ps.length = l.length
  at_ : ∀ (i : Nat) (p : Sv) (B : List UInt8), ps[i]? = some p → l[i]? = some B → ∃ g, p.1 = some ⟨g, 0, none⟩ ∧ base ≤ g ∧ p.2.1 = B.length ∧ Bts w (some ⟨g, 0, none⟩) B.length p.2.2 B
theorem Each.below {base : Nat} {w w' : World} {ps : List Sv} {l : List (List UInt8)} (h : Each base w ps l) {B : Nat} (hb : Below B w w') (hB : w.heap.size ≤ B) : Each base w' ps l :=
  ⟨h.len, fun i p X hp hX => by
    obtain ⟨g, h1, h2, h3, h4⟩ := h.at_ i p X hp hX
    exact ⟨g, h1, h2, h3, h4.below hb hB⟩⟩
theorem Each.only {base : Nat} {w w' : World} {ps : List Sv} {l : List (List UInt8)} {S : List Nat} (h : Each base w ps l) (ho : Only S w w') (hS : ∀ g c, (some ⟨g, 0, none⟩, c) ∈ ps → g ∉ S) : Each base w' ps l :=
  ⟨h.len, fun i p X hp hX => by
    obtain ⟨g, h1, h2, h3, h4⟩ := h.at_ i p X hp hX
    refine ⟨g, h1, h2, h3, Link.bts_only h4 ho (hS g p.2 ?_)⟩
    rw [← h1]
    exact List.mem_of_getElem? hp⟩
theorem Each.snoc {base : Nat} {w : World} {ps : List Sv} {l : List (List UInt8)} {g c : Nat} {B : List UInt8} (h : Each base w ps l) (hg : base ≤ g) (hb : Bts w (some ⟨g, 0, none⟩) B.length c B) : Each base w (ps ++ [(some ⟨g, 0, none⟩, B.length, c)]) (l ++ [B]) := by
  refine ⟨by simp [h.len], fun i p X hp hX => ?_⟩
  by_cases hi : i < ps.length
  · rw [List.getElem?_append_left hi] at hp
    rw [List.getElem?_append_left (by rw [← h.len]; exact hi)] at hX
    exact h.at_ i p X hp hX
  · rw [List.getElem?_append_right (by omega)] at hp
    rw [List.getElem?_append_right (by rw [← h.len]; omega), ← h.len] at hX
    have h0 : i - ps.length = 0 := by
      have := (List.getElem?_eq_some_iff.1 hp).1
      simp at this; omega
    rw [h0] at hp hX
    simp at hp hX
    subst hp
    subst hX
    exact ⟨g, rfl, hg, rfl, hb⟩
theorem Each.mem {base : Nat} {w : World} {ps : List Sv} {l : List (List UInt8)} (h : Each base w ps l) {p : Sv} (hp : p ∈ ps) : ∃ g B, p.1 = some ⟨g, 0, none⟩ ∧ B ∈ l ∧ Bts w (some ⟨g, 0, none⟩) B.length p.2.2 B := by
  obtain ⟨i, hi⟩ := List.getElem?_of_mem hp
  have hlt : i < ps.length := (List.getElem?_eq_some_iff.1 hi).1
  obtain ⟨B, hB⟩ : ∃ B, l[i]? = some B := ⟨_, List.getElem?_eq_getElem (by rw [← h.len]; exact hlt)⟩
  obtain ⟨g, h1, h2, h3, h4⟩ := h.at_ i p B hi hB
  exact ⟨g, B, h1, List.mem_of_getElem? hB, h4⟩
theorem each_nil (base : Nat) (w : World) : Each base w [] [] := ⟨rfl, fun i p B hp => by simp at hp⟩
theorem own_ne {w : World} {base b2 : Nat} {v : Value} {n m c g : Nat} {p : Sv} {ps : List Sv} {B : List UInt8} (h : w.ownsRow base 27 1 v n (sv (p :: ps))) (hb : Bts w (some ⟨g, 0, none⟩) m c B) (hm : 0 < m) : v.ownBlock ≠ some g := by
  intro e
  rcases h.2 with ⟨rfl, h2⟩ | ⟨g', cap, cur, rfl, _, hg, _, _, _, h3⟩
  · cases e
  · simp only [Value.ownBlock, Option.some.injEq] at e
    subst e
    obtain ⟨h1, h2, _, h0 | ⟨b, o, e, hc⟩⟩ := hb
    · omega
    · simp only [Option.some.injEq, Addr.mk.injEq, and_true] at e
      obtain ⟨rfl, rfl⟩ := e
      have := hc 0 B[0] (List.getElem?_eq_getElem (by omega))
      rw [cell_of_row w g' (0 + 0) cur _ (0, 0) hg] at this
      have h4 : (sv (p :: ps))[0]? = some (.slice p.1 p.2.1 p.2.2) := rfl
      rw [← h3, List.getElem?_take] at h4
      split at h4
      · rw [Array.getElem?_toList, show cur[0]? = cur[0 + 0]? from rfl, this] at h4
        cases h4
      · cases h4
/-- what is written behind an append onto a row of slices is none of the columns -/
theorem each_grown {w w' : World} {base b2 : Nat} {v : Value} {n W : Nat} {ps qs : List Sv} {l : List (List UInt8)} (h : w.ownsRow base 27 1 v n (sv ps)) (hv : n = 0 → v = .slice none 0 0) (he : Each b2 w qs l) (hl : ∀ B ∈ l, B.length = W) (hW : 0 < W) (hg : w.grownBy w' v.ownBlock) : Each b2 w' qs l := by
  refine he.only (only_grown (d := w.heap.size) hg) (fun g c hm => ?_)
  obtain ⟨g', B, e, hB, hb⟩ := he.mem hm
  simp only [Option.some.injEq, Addr.mk.injEq, and_true] at e
  subst e
  have hb0 : 0 < B.length := by rw [hl B hB]; exact hW
  have hlt := Link.bts_block hb hb0
  rw [List.mem_singleton]
  intro e
  unfold blkOf at e
  cases ho : v.ownBlock with
  | none => rw [ho] at e; simp at e; omega
  | some gv =>
    rw [ho] at e
    simp at e
    subst e
    cases ps with
    | nil =>
      have := h.1
      simp [sv] at this
      rw [hv this.symm] at ho
      cases ho
    | cons p ps => exact own_ne (b2 := 0) h hb hb0 ho
theorem src_blk {w : World} {g m size : Nat} {cs : List Value} {t : TypeId} (h : Blk w g cs t) (hl : cs.length = m * size) (h1 : ∀ u ∈ cs, u.oneCell' = true) : SrcOf w (some ⟨g, 0, none⟩) m size cs :=
  ⟨hl, h1, .inr ⟨_, rfl, fun j u hu => by rw [Addr.add_lit, Nat.zero_add, h.cell]; exact hu⟩⟩
theorem sclone_new (ad : Addr) (n c : Nat) (l : List UInt8) (hn : n ≤ 140737488355328) (h0 : 0 < n) (w : World) (h : Bts w (some ad) n c l) :
    Calls Try.prog 64 #[.slice (some ad) n c] w fun x w' => ∃ g k, x = .returned (.slice (some ⟨g, 0, none⟩) n k) ∧ w.heap.size ≤ g ∧ Bts w' (some ⟨g, 0, none⟩) n k l ∧ Below w.heap.size w w' :=
  (Codec.sclone_any ad n c l hn w w rfl rfl h).mono fun e w' ⟨h1, _, h3, h4⟩ => ⟨_, _, h1, Nat.le_add_right _ _, h3, h4⟩
theorem bts_some {w : World} {a : Option Addr} {n c : Nat} {l : List UInt8} (h : Bts w a n c l) (h0 : 0 < n) : ∃ g o, a = some ⟨g, o, none⟩ := by
  obtain ⟨_, _, _, h1 | ⟨g, o, e, _⟩⟩ := h
  · omega
  · exact ⟨g, o, e⟩
/-- a row of the call's own of slices is a table -/
theorem own_tab {w : World} {base b2 : Nat} {v : Value} {n : Nat} {ps : List Sv} {l : List (List UInt8)} (h : w.ownsRow base 27 1 v n (sv ps)) (hn : n = l.length) (he : Each b2 w ps l) : ∃ a c, v = .slice a n c ∧ Tab w a ps l := by
  obtain ⟨a, c, rfl, _, _, hz⟩ := own_slice h (by decide)
  refine ⟨a, c, rfl, he.len, ?_, fun i p B hp hB => ?_⟩
  · rcases hz with h0 | ⟨g, rfl, _, hc⟩
    · exact .inl (by omega)
    · exact .inr ⟨g, 0, rfl, hc⟩
  · obtain ⟨g, h1, h2, h3, h4⟩ := he.at_ i p B hp hB
    exact ⟨h3, by rw [h1, h3]; exact h4⟩
set_option maxHeartbeats 4000000 in
theorem recover_none (W : Nat) (hW : 1 ≤ W) (hW2 : W ≤ 4096) (a : Option Addr) (c : Nat) (ps : List Sv) (l : List (List UInt8)) (w : World) (T : Tab w a ps l) (h1 : 1 ≤ l.length) (h2 : l.length ≤ 30) (hl : ∀ B ∈ l, B.length = W)
    (pa qa : Addr) (pc qc : Nat) (P Q : List UInt8) (hP : Bts w (some pa) W pc P) (hQ : Bts w (some qa) W qc Q) :
    Calls Try.prog 53 #[.slice a l.length c, .slice (some pa) W pc, .slice (some qa) W qc] w fun e w' => ∃ v ps' g1 k1 g2 k2, e = .returned (.tuple #[v, .slice (some ⟨g1, 0, none⟩) W k1, .slice (some ⟨g2, 0, none⟩) W k2, .int .i64 0]) ∧ w'.ownsRow w.heap.size 27 1 v l.length (sv ps') ∧ Each w.heap.size w' ps' l ∧ w.heap.size ≤ g1 ∧ w.heap.size ≤ g2 ∧ Bts w' (some ⟨g1, 0, none⟩) W k1 P ∧ Bts w' (some ⟨g2, 0, none⟩) W k2 Q ∧ Below w.heap.size w w' := by
  have HT := Lib.hid T
  have WI := Lib.hid (fun (w' : World) (hb : Below w.heap.size w w') (hs : SrcOf w' (some ⟨w.heap.size, 0, none⟩) 2 1 (sv [(some pa, W, pc), (some qa, W, qc)])) => width_any W hW hW2 a (some ⟨w.heap.size, 0, none⟩) c 2 ps [(some pa, W, pc), (some qa, W, qc)] w' (HT.out.below hb (Nat.le_refl _)).srcOf hs (by rw [T.len]; exact h1) (by rw [T.len]; exact h2) (by simp) (fun p hp => .inr (by
    rcases List.mem_append.1 hp with hp | hp
    · exact T.lens hl p hp
    · simp at hp; rcases hp with rfl | rfl <;> rfl)))
  have hall : ∀ p ∈ ps ++ [(some pa, W, pc), (some qa, W, qc)], p.2.1 = W := fun p hp => by
    rcases List.mem_append.1 hp with hp | hp
    · exact T.lens hl p hp
    · simp at hp; rcases hp with rfl | rfl <;> rfl
  rw [gone_none hW hall, wide_none hW hall (by simp), T.len] at WI
  have e0 : (((W : Nat) : Int) == 0) = false := by rw [beq_eq_false_iff_ne]; omega
  have hW0 : ¬ ((W : Nat) : Int) = 0 := by omega
  have hWp : (0 : Int) < (W : Int) := by omega
  have HL := Lib.hid hl
  obtain ⟨n, hn⟩ : ∃ n, n = l.length := ⟨_, rfl⟩
  rw [← hn] at WI ⊢
  have HN := Lib.hid hn
  have HP := Lib.hid hP
  have HQ := Lib.hid hQ
  rw [← hn] at h1 h2
  clear hl T hn hall hP hQ
  go_enter Try.func53, Try.ntmps53
  go_wp2_with (first
    | (go_at_call 54; go_must (refine (WI.out _ ((Below.refl w.heap.size w).alloc (Nat.le_refl _) _) (src_blk (blk_at rfl rfl) rfl (sv_one _))).mono ?_; rintro e w1 ⟨rfl, hb1⟩; have B1 := Lib.hid hb1; clear hb1)))
  have s1 := B1.out.size
  rw [size_alloc] at s1
  have B1 := Lib.hid ((((Below.refl w.heap.size w).alloc (Nat.le_refl _) _).trans (B1.out.mono (by simp))) : Below w.heap.size w w1)
  go_loopw [6, 12, 37] (fun v gn i wr => ∃ (k : Nat) (ps' : List Sv), k ≤ n ∧ gn = .slice none 0 0 ∧ i = .int .i64 k ∧ wr.ownsRow w.heap.size 27 1 v k (sv ps') ∧ (k = 0 → v = .slice none 0 0) ∧ Each w.heap.size wr ps' (l.take k) ∧ Below w.heap.size w wr) (fun _ _ i _ => n - (intOf i).toNat)
  case atStart => exact ⟨0, [], by omega, rfl, rfl, ⟨rfl, .inl ⟨rfl, rfl⟩⟩, fun _ => rfl, by rw [List.take_zero]; exact each_nil _ _, B1.out⟩
  case round =>
    obtain ⟨k, ps', hk, rfl, rfl, hown, hv0, heach, hB⟩ := hrel
    have HO := Lib.hid hown
    have HV := Lib.hid hv0
    have HE := Lib.hid heach
    have HB := Lib.hid hB
    clear hown hv0 heach hB
    by_cases hkn : k < n
    · obtain ⟨X, hX⟩ : ∃ X, l[k]? = some X := ⟨_, List.getElem?_eq_getElem (by rw [← HN.out]; exact hkn)⟩
      have hXW := HL.out X (List.mem_of_getElem? hX)
      obtain ⟨p, hp⟩ : ∃ p, ps[k]? = some p := ⟨_, List.getElem?_eq_getElem (by rw [HT.out.len, ← HN.out]; exact hkn)⟩
      obtain ⟨hp1, hp2⟩ := HT.out.each k p X hp hX
      rw [hp1, hXW] at hp2
      rw [hXW] at hp1
      obtain ⟨cg, co, hpa⟩ := bts_some hp2 (by omega)
      rw [hpa] at hp2
      obtain ⟨ga, oa, rfl, hcell⟩ : ∃ ga oa, a = some ⟨ga, oa, none⟩ ∧ wr.cell? ⟨ga, oa + k, none⟩ = some (.slice (some ⟨cg, co, none⟩) W p.2.2) := by
        rcases HT.out.src with h0 | ⟨ga, oa, rfl, hc⟩
        · have := HN.out; omega
        · have hc1 := hc k (.slice p.1 p.2.1 p.2.2) (by rw [sv_get, hp]; rfl)
          refine ⟨ga, oa, rfl, ?_⟩
          rw [HB.out.cell (p := ⟨ga, oa + k, none⟩) (block_lt_of_cell hc1), hc1, hpa, hp1]
      have hbt := hp2.below HB.out (Nat.le_refl _)
      have CL := Lib.hid (sclone_new ⟨cg, co, none⟩ W p.2.2 X (by omega) (by omega) wr hbt)
      have HK := Lib.hid (show l.take (k + 1) = l.take k ++ [X] from take_snoc _ _ _ hX)
      have HXW := Lib.hid hXW
      obtain ⟨pk, hpk⟩ : ∃ pk, pk = p.2.2 := ⟨_, rfl⟩
      rw [← hpk] at CL hcell
      clear hX hXW hp hp1 hp2 hpa hbt hpk
      have sr := HB.out.size
      go_wp2_with (first
        | (go_at_call 64; go_must (refine CL.out.mono ?_; rintro e w2 ⟨g2, k2, rfl, hg2, hb2, hbl2⟩; have C2 := Lib.hid hb2; have L2 := Lib.hid hbl2; clear hb2 hbl2))
        | (at_builtin; refine wpList_append_any _ rfl _ _ 42 rfl w.heap.size 27 (.slice none 0 0) 1 24 Try.underlying42 info_b rfl (by decide) _ k (sv ps') rfl ((Lay.own_below HO.out L2.out).alloc _) (some ⟨w2.heap.size, 0, none⟩) 1 1 [.slice (some ⟨g2, 0, none⟩) W k2] rfl (src_blk (blk_at rfl rfl) rfl (fun u hu => by simp at hu; subst hu; rfl)) ?a1 ?a2 ?a3 ?_))
      case a1 => omega
      case a2 => unfold maxLen; omega
      case a3 => have := L2.out.size; rw [size_alloc]; omega
      intro v3 w3 o3 g3
      have s2 := L2.out.size
      have e2 := (HE.out.below L2.out (Nat.le_refl _)).snoc (Nat.le_trans sr hg2) (show Bts w2 (some ⟨g2, 0, none⟩) X.length k2 X by rw [HXW.out]; exact C2.out)
      rw [← HK.out, HXW.out] at e2
      have e3 := e2.below ((Below.refl w2.heap.size w2).alloc (Nat.le_refl _) (.cells #[.slice (some ⟨g2, 0, none⟩) W k2] 27)) (Nat.le_refl _)
      have e4 := Lib.hid (each_grown ((Lay.own_below HO.out L2.out).alloc _) HV.out e3 (fun B hB => HL.out B (List.mem_of_mem_take hB)) (by omega) g3)
      have b4 := Lib.hid (((HB.out.trans (L2.out.mono sr)).alloc (Nat.le_trans sr s2) (.cells #[.slice (some ⟨g2, 0, none⟩) W k2] 27)).grown g3 (by rw [size_alloc]; omega) (fun k hk => (HO.out.lt k hk).1))
      have o4 := Lib.hid (show w3.ownsRow w.heap.size 27 1 v3 (k + 1) (sv (ps' ++ [(some ⟨g2, 0, none⟩, W, k2)])) by unfold sv; rw [List.map_append]; exact o3)
      clear e2 e3 o3 g3
      go_wp2_with fail
      go_roundw
      case rel => exact ⟨k + 1, _, by omega, rfl, by go_num, o4.out, fun h => absurd h (by omega), e4.out, b4.out⟩
      case measure => simp [intOf]; omega
    · obtain rfl : k = n := by omega
      have hE := HE.out
      rw [List.take_of_length_le (by rw [← HN.out]; omega)] at hE
      have HE := Lib.hid hE
      clear hE
      obtain ⟨av, cv, rfl, T2⟩ := own_tab HO.out HN.out HE.out
      have HT2 := Lib.hid T2
      have SU1 := Lib.hid (show Calls Try.prog 55 #[.slice a k c, .int .i64 (W : Int)] wr _ from by
        have h := sums_any (.slice a l.length c) l W hW2 wr ((HT.out.below HB.out (Nat.le_refl _)).cols (by rw [← HN.out]; unfold maxLen; omega) c) (fun B hB => Nat.le_of_eq (HL.out B hB)) (by rw [← HN.out]; omega)
        rw [← HN.out] at h
        exact h)
      have SU2 := Lib.hid (fun w' (hb : Below wr.heap.size wr w') => show Calls Try.prog 55 #[.slice av k cv, .int .i64 (W : Int)] w' _ from by
        have h := sums_any (.slice av l.length cv) l W hW2 w' ((HT2.out.below hb (Nat.le_refl _)).cols (by rw [← HN.out]; unfold maxLen; omega) cv) (fun B hB => Nat.le_of_eq (HL.out B hB)) (by rw [← HN.out]; omega)
        rw [← HN.out] at h
        exact h)
      obtain ⟨SP, hSP⟩ : ∃ SP, SP = sumP W l k := ⟨_, rfl⟩
      obtain ⟨SQ, hSQ⟩ : ∃ SQ, SQ = sumQ W l k := ⟨_, rfl⟩
      have hSPl := sumP_len W l k
      have hSQl := sumQ_len W l k
      rw [← hSP] at hSPl SU1 SU2
      rw [← hSQ] at hSQl SU1 SU2
      have PL := Lib.hid hSPl
      have QL := Lib.hid hSQl
      have sr := HB.out.size
      obtain ⟨gp, op, hpa⟩ := bts_some HP.out (by omega)
      obtain ⟨gq, oq, hqa⟩ := bts_some HQ.out (by omega)
      simp only [Option.some.injEq] at hpa hqa
      subst hpa
      subst hqa
      have hp0 := Lib.hid (Link.bts_block HP.out (by omega))
      have hq0 := Lib.hid (Link.bts_block HQ.out (by omega))
      clear hSP hSQ hSPl hSQl T2
      go_upto_region 15 with (first
        | (go_at_call 55; go_must (refine SU1.out.mono ?_; rintro e w2 ⟨bs, bt, rfl, hs0, ht0, hst, hS, hTT, hb2⟩; have S2 := Lib.hid hS; have T2 := Lib.hid hTT; have L2 := Lib.hid hb2; clear hS hTT hb2)))
      have A1 := Lib.hid (show Calls Try.prog 65 #[.slice (some ⟨bs, 0, none⟩) W W, .slice (some ⟨gp, op, none⟩) W pc, .int .u8 1] w2 fun e w' => e = .returned (.tuple #[]) ∧ Blk w' bs (bv (addTo 1 SP P)) 5 ∧ Only [bs] w2 w' from by
        have h := add_any 1 (by decide) bs W W SP (some ⟨gp, op, none⟩) W pc P w2 S2.out PL.out (Nat.le_refl _) ((HP.out.below HB.out (Nat.le_refl _)).below L2.out (Nat.le_refl _)) (Nat.le_refl _) (fun _ b o e => by have := hp0.out; cases e; omega)
        exact h)
      go_upto_region 16 with (first
        | (go_at_call 65; go_must (refine A1.out.mono ?_; rintro e w3 ⟨rfl, hS3, ho3⟩; have S3 := Lib.hid hS3; have O3 := Lib.hid ho3; clear hS3 ho3)))
      have L3 := Lib.hid (L2.out.trans (O3.out.below L2.out.size (by simpa using hs0)))
      have T3 := Lib.hid (T2.out.only O3.out (by simpa using hst.symm))
      have A2 := Lib.hid (show Calls Try.prog 65 #[.slice (some ⟨bt, 0, none⟩) W W, .slice (some ⟨gq, oq, none⟩) W qc, .int .u8 1] w3 fun e w' => e = .returned (.tuple #[]) ∧ Blk w' bt (bv (addTo 1 SQ Q)) 5 ∧ Only [bt] w3 w' from by
        have h := add_any 1 (by decide) bt W W SQ (some ⟨gq, oq, none⟩) W qc Q w3 T3.out QL.out (Nat.le_refl _) ((HQ.out.below HB.out (Nat.le_refl _)).below L3.out (Nat.le_refl _)) (Nat.le_refl _) (fun _ b o e => by have := hq0.out; cases e; omega)
        exact h)
      clear A1
      go_upto_region 17 with (first
        | (go_at_call 65; go_must (refine A2.out.mono ?_; rintro e w4 ⟨rfl, hT4, ho4⟩; have O4 := Lib.hid ho4; clear hT4 ho4)))
      have L4 := Lib.hid (L3.out.trans (O4.out.below L3.out.size (by simpa using ht0)))
      have C1 := Lib.hid (sclone_new ⟨gp, op, none⟩ W pc P (by omega) (by omega) w4 ((HP.out.below HB.out (Nat.le_refl _)).below L4.out (Nat.le_refl _)))
      have C2 := Lib.hid (fun w' (hb : Below w4.heap.size w4 w') => sclone_new ⟨gq, oq, none⟩ W qc Q (by omega) (by omega) w' (((HQ.out.below HB.out (Nat.le_refl _)).below L4.out (Nat.le_refl _)).below hb (Nat.le_refl _)))
      clear A2
      go_upto_region 33 with (first
        | (go_at_call 64; refine C1.out.mono ?_; rintro e w5 ⟨g5, k5, rfl, hg5, hb5, hl5⟩; have M5 := Lib.hid hb5; have L5 := Lib.hid hl5; clear hb5 hl5)
        | (go_at_call 64; refine (C2.out _ L5.out).mono ?_; rintro e w6 ⟨g6, k6, rfl, hg6, hb6, hl6⟩; have M6 := Lib.hid hb6; have L6 := Lib.hid hl6; clear hb6 hl6))
      have s4 := L4.out.size
      have s5 := L5.out.size
      have s6 := L6.out.size
      have N6 := Lib.hid ((L4.out.trans (L5.out.mono s4)).trans (L6.out.mono (Nat.le_trans s4 s5)))
      go_wp2_with (first
        | (go_at_call 55; go_must (refine (SU2.out _ N6.out).mono ?_; rintro e w7 ⟨bs7, bt7, rfl, hs7, ht7, hst7, hS7, hT7, hb7⟩; have L7 := Lib.hid hb7; clear hS7 hT7 hb7)))
      have s7 := L7.out.size
      have N7 := N6.out.trans (L7.out.mono (Nat.le_trans s4 (Nat.le_trans s5 s6)))
      refine bodyPost_ret (results_tmp4 rfl _ _ _) rfl ?_
      exact ⟨_, ps', g5, k5, g6, k6, rfl, Lay.own_below HO.out N7, HE.out.below N7 (Nat.le_refl _), by omega, by omega, (M5.out.below L6.out (Nat.le_refl _)).below L7.out (Nat.le_refl _), M6.out.below L7.out (Nat.le_refl _), HB.out.trans (N7.mono sr)⟩
end Go.Proofs.Ytgnnjinpcdemiaa.Par
/-
  A region whose order is open, with one operation whose value is not known ahead: the value is chosen when it comes up, and the others are walked for every value. Helper text; no statement is proved here.
-/
set_option linter.unusedVariables false
set_option maxRecDepth 20000
namespace Go.Proofs.Ytgnnjinpcdemiaa.InvX
open Go.RowKit Go.Proofs.Ytgnnjinpcdemiaa.Laws Go.Proofs.Ytgnnjinpcdemiaa.Inv Go.Proofs.Ytgnnjinpcdemiaa.InvL Go.Proofs.Ytgnnjinpcdemiaa.InvG
/-- what one run of an operation comes to: a value and a world that J lets in -/
def MeetsX (P : Program) (J : Value → World → Prop) : Result Next → Prop
  | .ok (.value u) w' => J u w'
  | .ok .skip w' => J undef w'
  | .ok (.enter f args) w' => Calls P f args w' fun e w'' => ∃ u, e = .returned u ∧ J u w''
  | _ => False
theorem MeetsX.of {P : Program} {I : World → Prop} {v : Value} {r : Result Next} (h : Meets P I v r) : MeetsX P (fun u w => u = v ∧ I w) r := by
  cases r with
  | ok n w =>
    cases n with
    | value u => exact h
    | skip => exact ⟨h.1, h.2⟩
    | enter f args => exact Calls.mono h fun e w'' he => ⟨v, he.1, rfl, he.2⟩
    | _ => exact h.elim
  | _ => exact h.elim
section
variable {P : Program} {K : Type} {I : K → Array Bool → World → Prop} {G : Nat → Array Bool → Prop} {T : K → Nat → Option Value} {p : Nat} {κ : K} {ops : Array Oper} {md : Region.Mode}
/-- operation i yields v, the one of the table if it has one; operation p yields what the table tells of some κ' -/
def GivesX (P : Program) {K : Type} (I : K → Array Bool → World → Prop) (G : Nat → Array Bool → Prop) (T : K → Nat → Option Value) (p : Nat) (κ : K) (ops : Array Oper) (i : Nat) (o : Oper) (a : Act) (v : Value) : Prop :=
  (∀ u, T κ i = some u → v = u) ∧
  ((Region.wanted o (yielded ops a.tmps) = true ∧ ∀ d w, d.getD i true = false → G i d → I κ d w → MeetsX P (fun u w' => (i = p ∧ ∃ κ', T κ' i = some u ∧ I κ' (d.setIfInBounds i true) w') ∨ (i ≠ p ∧ u = v ∧ I κ (d.setIfInBounds i true) w')) ((execOp a.eval o).run P w)) ∨
  (Region.wanted o (yielded ops a.tmps) = false ∧ i ≠ p ∧ v = undef ∧ ∀ d w, d.getD i true = false → G i d → I κ d w → I κ (d.setIfInBounds i true) w))
def wpInvX (P : Program) {K : Type} (I : K → Array Bool → World → Prop) (G : Nat → Array Bool → Prop) (T : K → Nat → Option Value) (p : Nat) (κ : K) (ops : Array Oper) (Q : Act → Prop) : Nat → List Oper → Act → Prop
  | _, [], a => Q a
  | i, o :: rest, a => ∃ v, GivesX P I G T p κ ops i o a v ∧ wpInvX P I G T p κ ops Q (i + 1) rest (a.put o.dst v)
theorem GivesX.moved {i : Nat} {o : Oper} {v : Value} {a b : Act} (h : GivesX P I G T p κ ops i o a v) (he : execOp b.eval o = execOp a.eval o) (hw : Region.wanted o (yielded ops b.tmps) = Region.wanted o (yielded ops a.tmps)) : GivesX P I G T p κ ops i o b v := by
  unfold GivesX at *
  rw [he, hw]
  exact h
def turn (P : Program) {K : Type} (I : K → Array Bool → World → Prop) (G : Nat → Array Bool → Prop) (T : K → Nat → Option Value) (p : Nat) (κ : K) (ops : Array Oper) (i : Nat) (Kp : Act → Prop) (a : Act) : Prop :=
  match ops[i]? with
  | none => False
  | some o => ∃ v, GivesX P I G T p κ ops i o a v ∧ Kp (a.put o.dst v)
theorem turn_some {i : Nat} {o : Oper} (ho : ops[i]? = some o) {Kp : Act → Prop} {a : Act} : turn P I G T p κ ops i Kp a ↔ ∃ v, GivesX P I G T p κ ops i o a v ∧ Kp (a.put o.dst v) := by
  unfold turn; rw [ho]
theorem turn_mono {i : Nat} {a : Act} {Kp Kq : Act → Prop} (h : ∀ a, Kp a → Kq a) (hh : turn P I G T p κ ops i Kp a) : turn P I G T p κ ops i Kq a := by
  cases ho : ops[i]? with
  | none => simp only [turn, ho] at hh
  | some o =>
    obtain ⟨v, h1, h2⟩ := (turn_some ho).1 hh
    exact (turn_some ho).2 ⟨v, h1, h _ h2⟩
theorem turn_past {i j : Nat} {oi oj : Oper} {v : Value} (hj : ops[j]? = some oj) (hap : oi.apart ops oj = true) (hsi : ∀ cs b, oi.op ≠ .select cs b) (hsj : ∀ cs b, oj.op ≠ .select cs b) {Kp : Act → Prop} {a : Act}
    (hg : GivesX P I G T p κ ops i oi a v) (h : turn P I G T p κ ops j Kp (a.put oi.dst v)) : turn P I G T p κ ops j (fun b => GivesX P I G T p κ ops i oi b v ∧ Kp (b.put oi.dst v)) a := by
  obtain ⟨h1, h2, h3⟩ := Oper.apart_spec hap
  obtain ⟨u, hu, hk⟩ := (turn_some hj).1 h
  refine (turn_some hj).2 ⟨u, hu.moved (execOp_put oj hsj a oi.dst v h1).symm (wanted_put oj a oi.dst v h1).symm, hg.moved (execOp_put oi hsi a oj.dst u h3) (wanted_put oi a oj.dst u h3), ?_⟩
  rw [← Act.put_comm a v u h2]
  exact hk
def every (P : Program) {K : Type} (I : K → Array Bool → World → Prop) (G : Nat → Array Bool → Prop) (T : K → Nat → Option Value) (p : Nat) (κ : K) (md : Region.Mode) (ops : Array Oper) (n : Nat) (L : Array Bool → Act → Prop) : Nat → Array Bool → Act → Prop
  | 0, listed, a => L listed a
  | f + 1, listed, a => Region.ready md ops listed ≠ [] ∧ ∀ i ∈ Region.ready md ops listed, i < n ∧ turn P I G T p κ ops i (every P I G T p κ md ops n L f (listed.setIfInBounds i true)) a
/-- what may come up now may be taken first -/
theorem every_first {J : Array Bool → Prop} {n i : Nat} {oi : Oper} {v : Value} {L : Array Bool → Act → Prop} (hi : ops[i]? = some oi) (hsel : ∀ (j : Nat) (o : Oper) cs b, ops[j]? = some o → o.op ≠ .select cs b)
    (hn : ∀ listed, J listed → listed.getD i true = false → ∀ j ∈ Region.ready md ops listed, j < n)
    (hset : ∀ (listed : Array Bool) (j : Nat), J listed → j ∈ Region.ready md ops listed → j < n → J (listed.setIfInBounds j true))
    (hdone : ∀ listed a, L listed a → ∀ j ∈ Region.ready md ops listed, n ≤ j) :
    ∀ (f : Nat) (listed : Array Bool) (a : Act), J listed →
      (∀ j oj, ops[j]? = some oj → j ≠ i → listed.getD j true = false → (∀ e ∈ oj.after, Region.binds md e = true → e.on ≠ i) → oi.apart ops oj = true) →
      i ∈ Region.ready md ops listed → GivesX P I G T p κ ops i oi a v → every P I G T p κ md ops n L f (listed.setIfInBounds i true) (a.put oi.dst v) → every P I G T p κ md ops n L (f + 1) listed a := by
  intro f
  induction f with
  | zero =>
    intro listed a inv _ hr hg H
    refine ⟨fun h => (by rw [h] at hr; cases hr), fun j hj => ?_⟩
    have hjn := hn listed inv (mem_ready.1 hr).1 j hj
    refine ⟨hjn, ?_⟩
    by_cases e : j = i
    · subst e; exact (turn_some hi).2 ⟨v, hg, H⟩
    · have := hdone _ _ H j (ready_mono hj e)
      omega
  | succ f ih =>
    intro listed a inv hfree hr hg H
    refine ⟨fun h => (by rw [h] at hr; cases hr), fun j hj => ?_⟩
    have hjn := hn listed inv (mem_ready.1 hr).1 j hj
    refine ⟨hjn, ?_⟩
    by_cases e : j = i
    · subst e; exact (turn_some hi).2 ⟨v, hg, H⟩
    · have h1 := (H.2 j (ready_mono hj e)).2
      obtain ⟨hjun, oj, hoj, hall⟩ := mem_ready.1 hj
      have hnot : ∀ x ∈ oj.after, Region.binds md x = true → x.on ≠ i := fun x hx hb heq => by
        have h5 := hall x hx hb
        rw [heq, getD_both (mem_ready.1 hr).1] at h5
        cases h5
      have h2 := turn_past hoj (hfree j oj hoj e hjun hnot) (fun cs b => hsel i oi cs b hi) (fun cs b => hsel j oj cs b hoj) hg h1
      refine turn_mono (fun b h3 => ih (listed.setIfInBounds j true) b (hset _ _ inv hj hjn) (fun k ok hk hki hun hno => ?_) (ready_mono hr (Ne.symm e)) h3.1 ?_) h2
      · refine hfree k ok hk hki ?_ hno
        by_cases hjk : j = k
        · subst hjk; exact hjun
        · rwa [getD_set_ne true hjk] at hun
      · rw [Array.setIfInBounds_comm _ _ e]
        exact h3.2

theorem every_of_walk {J : Array Bool → Prop} {s n g : Nat} {Lq : Act → Prop} (hsel : Region.noSelect ops = true) (hn : ∀ (i : Nat) listed, i < n → J listed → listed.getD i true = false → ∀ j ∈ Region.ready md ops listed, j < n)
    (hset : ∀ (listed : Array Bool) (j : Nat), J listed → j ∈ Region.ready md ops listed → j < n → J (listed.setIfInBounds j true)) :
    ∀ (l : List Oper) (k : Nat) (listed : Array Bool) (a : Act), (∀ j, j < l.length → l[j]? = ops[k + j]?) → k + l.length = n → J listed → listed = doneTo s k →
    Region.lexHead md ops g l.length k listed = true → wpInvX P I G T p κ ops Lq k l a → every P I G T p κ md ops n (fun listed' a' => Region.seqB md ops g n listed' = true ∧ listed' = doneTo s n ∧ Lq a') l.length listed a
  | [], k, listed, a, _, hk, _, hd, hB, h => by
    obtain rfl : k = n := by simpa using hk
    exact ⟨by simpa [Region.lexHead] using hB, hd, h⟩
  | o :: l, k, listed, a, hl, hk, inv, hd, hB, h => by
    have h0 : ops[k]? = some o := by simpa using (hl 0 (by simp)).symm
    simp only [List.length_cons, Region.lexHead, Bool.and_eq_true] at hB
    obtain ⟨⟨hr, hf⟩, hB'⟩ := hB
    have hkn : k < n := by simp only [List.length_cons] at hk; omega
    have hr' : k ∈ Region.ready md ops listed := by simpa using hr
    obtain ⟨v, hg, hK⟩ := h
    exact every_first h0 (Region.noSelect_spec hsel) (fun listed => hn k listed hkn) hset (fun listed' a' hL => seqB_ready hL.1) l.length listed a inv (Region.free_spec h0 hf) hr' hg
      (every_of_walk hsel hn hset l (k + 1) _ _ (fun j hj => by have := hl (j + 1) (by simp; omega); simpa [Nat.add_assoc, Nat.add_comm 1 j] using this) (by simp only [List.length_cons] at hk; omega) (hset _ _ inv hr' hkn) (by rw [hd, done_succ]) hB' hK)

/-- does operation i wait for p, through others? -/
def leansB (ops : Array Oper) (p : Nat) : Nat → Nat → Bool
  | 0, _ => false
  | f + 1, i => match ops[i]? with
    | some o => o.after.any fun e => Region.binds .any e && (e.on == p || leansB ops p f e.on)
    | none => false
theorem leans_done {ops : Array Oper} {p : Nat} {d : Array Bool} (hC : Closed ops d) : ∀ (f i : Nat), leansB ops p f i = true → d.getD i false = true → d.getD p false = true
  | 0, _, h, _ => by cases h
  | f + 1, i, h, hd => by
    unfold leansB at h
    cases ho : ops[i]? with
    | none => rw [ho] at h; cases h
    | some o =>
      rw [ho] at h
      obtain ⟨e, he, hbe⟩ := Array.any_eq_true'.1 h
      simp only [Bool.and_eq_true, Bool.or_eq_true, beq_iff_eq] at hbe
      have h1 := hC i o ho hd e he hbe.1
      rcases hbe.2 with e2 | e2
      · rwa [e2] at h1
      · exact leans_done hC f _ e2 h1
theorem leans_gate {ops : Array Oper} {p i f : Nat} {d : Array Bool} (hG : Gate ops i d) (h : leansB ops p f i = true) : d.getD p false = true := by
  cases f with
  | zero => cases h
  | succ f =>
    unfold leansB at h
    cases ho : ops[i]? with
    | none => rw [ho] at h; cases h
    | some o =>
      rw [ho] at h
      obtain ⟨e, he, hbe⟩ := Array.any_eq_true'.1 h
      simp only [Bool.and_eq_true, Bool.or_eq_true, beq_iff_eq] at hbe
      have h1 := hG.1 o ho e he hbe.1
      rcases hbe.2 with e2 | e2
      · rwa [e2] at h1
      · exact leans_done hG.2 f _ e2 h1
theorem wp_of_meetsX {o : Oper} {a : Act} {w : World} {J : Value → World → Prop} {Kp : Act → World → Prop} {Q : Exit → Act → World → Prop} (h : MeetsX P J ((execOp a.eval o).run P w)) (hk : ∀ v w', J v w' → Kp (a.put o.dst v) w') : o.wp P a w Kp Q := by
  unfold Oper.wp
  revert h
  cases (execOp a.eval o).run P w with
  | ok n w' =>
    cases n with
    | value u => intro h; exact hk _ _ h
    | skip => intro h; exact hk _ _ h
    | enter f args =>
      intro h
      refine Calls.mono h fun e w'' he => ?_
      obtain ⟨u, rfl, hj⟩ := he
      exact hk _ _ hj
    | _ => intro h; exact h.elim
  | _ => intro h; exact h.elim
/-- the table: operation p by κ, the others shared -/
def tab (S : Nat → Option Value) (p : Nat) (val : K → Value) (κ : K) (i : Nat) : Option Value := if i = p then some (val κ) else S i
def sharedX (S : Nat → Option Value) (ops : Array Oper) (n p : Nat) : Bool := (List.range n).all fun i => i == p || (S i).isSome || leansB ops p ops.size i
theorem upS {d : Array Bool} (i x : Nat) (hx : d.getD x false = true) : (d.setIfInBounds i true).getD x false = true := by
  by_cases e : i = x
  · subst e
    have hp : i < d.size := by
      rcases Nat.lt_or_ge i d.size with h' | h'
      · exact h'
      · simp [Array.getElem?_eq_none h'] at hx
    simp [hp]
  · rw [getD_set_ne false e]; exact hx
theorem wpAny_of_choice {S : Nat → Option Value} {val : K → Value} {n g : Nat} {L : K → Array Bool → Act → Prop} {Q : Exit → Act → World → Prop}
    (hI : ∀ κ κ' d w, d.getD p false = false → I κ d w → I κ' d w) (hsh : sharedX S ops n p = true)
    (hL : ∀ κ listed a w, I κ listed w → L κ listed a → wpAny P .any ops Q g listed a w) :
    ∀ (f : Nat) (κ0 : K) (listed : Array Bool) (a : Act) (w : World), Closed ops listed → (∀ κ, (listed.getD p false = true → κ = κ0) → I κ listed w ∧ every P I (Gate ops) (tab S p val) p κ .any ops n (L κ) f listed a) → wpAny P .any ops Q (f + g) listed a w
  | 0, κ0, listed, a, w, _, h => by rw [Nat.zero_add]; exact hL κ0 _ _ _ (h κ0 fun _ => rfl).1 (h κ0 fun _ => rfl).2
  | f + 1, κ0, listed, a, w, hC, h => by
    rw [show f + 1 + g = (f + g) + 1 from by omega]
    obtain ⟨hI0, hE0⟩ := h κ0 fun _ => rfl
    refine ⟨fun h0 => absurd h0 hE0.1, fun i hi => ?_⟩
    obtain ⟨hin, ht⟩ := hE0.2 i hi
    obtain ⟨hdi, o, ho, hall⟩ := mem_ready.1 hi
    have hG : Gate ops i listed := ⟨fun o' ho' e he hb => by rw [ho] at ho'; cases ho'; exact hall e he hb, hC⟩
    have hC2 : Closed ops (listed.setIfInBounds i true) := by
      intro j o' ho' hj e he hb
      by_cases eij : i = j
      · subst eij
        exact upS _ _ (hG.1 o' ho' e he hb)
      · rw [getD_set_ne false eij] at hj
        exact upS _ _ (hC j o' ho' hj e he hb)
    obtain ⟨v, hv, hk⟩ := (turn_some ho).1 ht
    -- behind operation i, which is not p
    have key : ∀ w', i ≠ p → I κ0 (listed.setIfInBounds i true) w' → wpAny P .any ops Q (f + g) (listed.setIfInBounds i true) (a.put o.dst v) w' := fun w' hip hw' => by
      refine wpAny_of_choice (val := val) hI hsh hL f κ0 _ _ _ hC2 fun κ hκ => ?_
      rw [getD_set_ne false hip] at hκ
      cases hp : listed.getD p false with
      | true =>
        have := hκ hp
        subst this
        exact ⟨hw', hk⟩
      | false =>
        refine ⟨hI κ0 κ _ _ (by rw [getD_set_ne false hip]; exact hp) hw', ?_⟩
        obtain ⟨v', hv', hk'⟩ := (turn_some ho).1 ((h κ (fun e => by rw [hp] at e; cases e)).2.2 i hi).2
        have hb := List.all_eq_true.1 hsh i (by simpa using hin)
        simp only [Bool.or_eq_true, beq_iff_eq] at hb
        rcases hb with (hb | hb) | hb
        · exact absurd hb hip
        · obtain ⟨u, hu⟩ := Option.isSome_iff_exists.1 hb
          have e1 := hv.1 u (by unfold tab; rw [if_neg hip]; exact hu)
          have e2 := hv'.1 u (by unfold tab; rw [if_neg hip]; exact hu)
          rw [e1, ← e2]
          exact hk'
        · have := leans_gate hG hb
          rw [hp] at this
          cases this
    unfold wpOp
    simp only [ho]
    rcases hv.2 with ⟨h1, h2⟩ | ⟨h1, hip, rfl, h2⟩
    · simp only [h1, if_true]
      refine .inl (wp_of_meetsX (h2 listed w hdi hG hI0) fun u w' hj => ?_)
      rcases hj with ⟨hip, κ', hu, hw'⟩ | ⟨hip, rfl, hw'⟩
      · have hp : listed.getD p false = false := by rw [← hip]; exact InvC.getD_true_of hdi
        refine wpAny_of_choice (val := val) hI hsh hL f κ' _ _ _ hC2 fun κ hκ => ?_
        have hκ2 := hκ (by rw [← hip]; exact InvG.now hdi)
        rw [hκ2]
        refine ⟨hw', ?_⟩
        obtain ⟨v', hv', hk'⟩ := (turn_some ho).1 ((h κ' (fun e => by rw [hp] at e; cases e)).2.2 i hi).2
        rw [← hv'.1 u hu]
        exact hk'
      · exact key w' hip hw'
    · simp only [h1]
      exact key w hip (h2 listed w hdi hG hI0)
theorem wp_region_choice {id : Nat} {Q : Exit → Act → World → Prop} {a : Act} {w : World} {l : List Oper} [Nonempty K] (I : K → Array Bool → World → Prop) (S : Nat → Option Value) (val : K → Value) (n p : Nat) (hm : P.follows .mixedOrders = true) (hB : Region.lexTailB .any l.toArray n = true) (hsh : sharedX S l.toArray n p = true)
    (hI : ∀ κ κ' d w, d.getD p false = false → I κ d w → I κ' d w) (hI0 : ∀ κ, I κ (doneTo l.length 0) w.drew)
    (h : ∀ κ, wpInvX P I (Gate l.toArray) (tab S p val) p κ l.toArray (fun a' => ∀ w', I κ (doneTo l.length n) w' → wpList P l.toArray Q (l.drop n) a' w') 0 (l.take n) a) : (Code.region id l.toArray true).wp P Q a w := by
  simp only [Region.lexTailB, Bool.and_eq_true, decide_eq_true_eq] at hB
  obtain ⟨⟨⟨⟨hsel, hn⟩, hs⟩, hc⟩, hlex⟩ := hB
  have hn' : n < l.length := by simpa using hn
  have htl : (l.take n).length = n := by simp; omega
  have hdl : (l.drop n).length = l.toArray.size - n := by simp
  have inv0 : HeadInv .any l.toArray n (Array.replicate l.toArray.size false) :=
    ⟨by simp, fun j oj _ hl => (by rw [getD_replicate_false] at hl; cases hl), fun t _ ht => getD_in (by simpa using ht) (getD_replicate_false _ _)⟩
  have hlt : ∀ (i : Nat) listed, i < n → HeadInv .any l.toArray n listed → listed.getD i true = false → ∀ j ∈ Region.ready .any l.toArray listed, j < n := fun i listed hi inv hun j hj => by
    rcases Nat.lt_or_ge j n with h | h
    · exact h
    · exact absurd hj (tail_waits hs hc hn inv _ i rfl hi hun j h)
  have H := fun κ => every_of_walk (md := .any) (s := l.length) (g := l.toArray.size - n) (J := HeadInv .any l.toArray n) hsel hlt (fun listed j hJ hj hjn => hJ.set hj hjn) (l.take n) 0 _ a (fun j hj => by
    have hj' : j < n := by rw [htl] at hj; exact hj
    simp [hj']) (by simpa using htl) inv0 (by simp [doneTo]) (by rw [htl]; exact hlex) (h κ)
  refine wp_region_any hm ?_
  obtain ⟨κ0⟩ := ‹Nonempty K›
  have := wpAny_of_choice (Q := Q) (I := I) (S := S) (val := val) (p := p) (n := n) (g := l.toArray.size - n) hI hsh (fun κ listed a' w' hw' hL => by
    have := wpAny_of_seq (md := .any) (Q' := Q) (l.drop n) n listed a' w' (fun j => by simp [List.getElem?_drop]) (by rw [hdl]; exact hL.1) (hL.2.2 w' (hL.2.1 ▸ hw'))
    rwa [hdl] at this) _ κ0 _ _ _ (fun j o _ hj => (by rw [getD_replicate_false] at hj; cases hj)) (fun κ _ => ⟨by simpa [doneTo] using hI0 κ, H κ⟩)
  rw [htl, show n + (l.toArray.size - n) = l.toArray.size from by omega] at this
  exact this
theorem invx_nil {Q : Act → Prop} {i : Nat} {a : Act} (h : Q a) : wpInvX P I G T p κ ops Q i [] a := h
/-- an operation that reads -/
theorem invx_value {Q : Act → Prop} {i : Nat} {a : Act} {o : Oper} {rest : List Oper} (v : Value) (hip : i ≠ p) (hT : ∀ u, T κ i = some u → v = u) (hw : Region.wanted o (yielded ops a.tmps) = true) (hr : ∀ d w, d.getD i true = false → G i d → I κ d w → (execOp a.eval o).run P w = .ok (.value v) w) (hk : ∀ d w, d.getD i true = false → G i d → I κ d w → I κ (d.setIfInBounds i true) w)
    (h : wpInvX P I G T p κ ops Q (i + 1) rest (a.put o.dst v)) : wpInvX P I G T p κ ops Q i (o :: rest) a :=
  ⟨v, ⟨hT, .inl ⟨hw, fun d w hd hG hI => by rw [hr d w hd hG hI]; exact .inr ⟨hip, rfl, hk d w hd hG hI⟩⟩⟩, h⟩
/-- an operation that changes the world -/
theorem invx_meets {Q : Act → Prop} {i : Nat} {a : Act} {o : Oper} {rest : List Oper} (v : Value) (hip : i ≠ p) (hT : ∀ u, T κ i = some u → v = u) (hw : Region.wanted o (yielded ops a.tmps) = true) (hr : ∀ d w, d.getD i true = false → G i d → I κ d w → Meets P (I κ (d.setIfInBounds i true)) v ((execOp a.eval o).run P w))
    (h : wpInvX P I G T p κ ops Q (i + 1) rest (a.put o.dst v)) : wpInvX P I G T p κ ops Q i (o :: rest) a :=
  ⟨v, ⟨hT, .inl ⟨hw, fun d w hd hG hI => by
    have h := MeetsX.of (hr d w hd hG hI)
    revert h
    cases (execOp a.eval o).run P w with
    | ok n w' =>
      cases n with
      | value u => intro h; exact .inr ⟨hip, h.1, h.2⟩
      | skip => intro h; exact .inr ⟨hip, h.1, h.2⟩
      | enter f args => intro h; exact Calls.mono h fun e w'' he => by obtain ⟨u, e1, e2, e3⟩ := he; exact ⟨u, e1, .inr ⟨hip, e2, e3⟩⟩
      | _ => intro h; exact h.elim
    | _ => intro h; exact h.elim⟩⟩, h⟩
/-- the call whose value is chosen -/
theorem invx_call {Q : Act → Prop} {a : Act} {o : Oper} {rest : List Oper} (v : Value) (hT : ∀ u, T κ p = some u → v = u) (hw : Region.wanted o (yielded ops a.tmps) = true) (f : FuncId) (args : Array Value) (hr : ∀ d w, I κ d w → (execOp a.eval o).run P w = .ok (.enter f args) w)
    (hc : ∀ d w, d.getD p true = false → G p d → I κ d w → Calls P f args w fun e w' => ∃ κ' u, e = .returned u ∧ T κ' p = some u ∧ I κ' (d.setIfInBounds p true) w')
    (h : wpInvX P I G T p κ ops Q (p + 1) rest (a.put o.dst v)) : wpInvX P I G T p κ ops Q p (o :: rest) a :=
  ⟨v, ⟨hT, .inl ⟨hw, fun d w hd hG hI => by rw [hr d w hI]; exact Calls.mono (hc d w hd hG hI) fun e w' he => by obtain ⟨κ', u, e1, e2, e3⟩ := he; exact ⟨u, e1, .inl ⟨rfl, κ', e2, e3⟩⟩⟩⟩, h⟩
end
/-- A ahead of operation p, B behind it -/
def Cs {K : Type} (p : Nat) (A : World → Prop) (B : K → World → Prop) (κ : K) (d : Array Bool) (w : World) : Prop := if d.getD p false = true then B κ w else A w
section
variable {K : Type} {p i : Nat} {A : World → Prop} {B : K → World → Prop} {κ κ' : K} {d : Array Bool} {w w' : World}
theorem Cs.keep (h1 : i ≠ p) (h : Cs p A B κ d w) : Cs p A B κ (d.setIfInBounds i true) w := by
  unfold Cs at *
  rwa [getD_set_ne false h1]
theorem Cs.same (hp : d.getD p false = false) (h : Cs p A B κ d w) : Cs p A B κ' d w := by
  unfold Cs at *
  rw [hp] at h ⊢
  exact h
theorem Cs.start (hp : d.getD p false = false) (h : A w) : Cs p A B κ d w := by
  unfold Cs
  rw [hp]
  exact h
theorem Cs.before (hd : d.getD p true = false) (h : Cs p A B κ d w) : A w := by
  unfold Cs at h
  rw [InvC.getD_true_of hd] at h
  exact h
theorem Cs.after (hd : d.getD p true = false) (h : B κ' w') : Cs p A B κ' (d.setIfInBounds p true) w' := by
  unfold Cs
  rw [InvG.now hd]
  exact h
theorem Cs.done (hd : d.getD p false = true) (h : Cs p A B κ d w) : B κ w := by
  unfold Cs at h
  rw [hd] at h
  exact h
theorem Cs.either (h : Cs p A B κ d w) : A w ∨ B κ w := by
  unfold Cs at h
  split at h
  · exact .inr h
  · exact .inl h
theorem getD_undone {d : Array Bool} {i : Nat} (h : d.getD i false = false) (hi : i < d.size) : d.getD i true = false := by
  simpa [Array.getD_eq_getD_getElem?, hi] using h
end
/-- what waits for an operation that is not done is not done -/
theorem undone {ops : Array Oper} {p f q : Nat} {d : Array Bool} (hC : Closed ops d) (hd : d.getD p true = false) (h : leansB ops p f q = true) : d.getD q false = false := by
  cases hq : d.getD q false with
  | false => rfl
  | true =>
    have := leans_done hC f q h hq
    rw [InvC.getD_true_of hd] at this
    cases this
theorem Cs.before' {K : Type} {p : Nat} {A : World → Prop} {B : K → World → Prop} {κ : K} {d : Array Bool} {w : World} (hd : d.getD p false = false) (h : Cs p A B κ d w) : A w := by
  unfold Cs at h
  rw [hd] at h
  exact h
end Go.Proofs.Ytgnnjinpcdemiaa.InvX
/-
  stripe.Row by contract where no cell is lost. Helper text; no statement is proved here.
-/
set_option linter.unusedVariables false
set_option maxRecDepth 20000
set_option linter.unusedSimpArgs false
namespace Go.Proofs.Ytgnnjinpcdemiaa.Str
open Go.RowKit Go.Proofs.Ytgnnjinpcdemiaa.Base Go.Proofs.Ytgnnjinpcdemiaa.Laws Go.Proofs.Ytgnnjinpcdemiaa.Disk Go.Proofs.Ytgnnjinpcdemiaa.Lay Go.Proofs.Ytgnnjinpcdemiaa.Par Go.Proofs.Ytgnnjinpcdemiaa.Flat Go.Proofs.Ytgnnjinpcdemiaa.Row Go.Proofs.Ytgnnjinpcdemiaa.InvM Go.Proofs.Ytgnnjinpcdemiaa.InvX Go.Proofs.Ytgnnjinpcdemiaa.Codec
def svf (p : Sv) : List Value := [.slice p.1 p.2.1 p.2.2]
theorem flat_svf (l : List Sv) : flat svf l = sv l := by
  induction l with
  | nil => rfl
  | cons p l ih => rw [flat_cons, ih]; rfl
/-- the cells of a row are good and hold these columns -/
def RowOk (d c st off : Int) (ds : List Dk) (p : Pow) (n : Nat) (cols : List (List UInt8)) : Prop :=
  (st * c + off).toNat < n ∧ ∀ (q : Nat) (X : List UInt8), cols[q]? = some X → X.length = 16 ∧ ∃ x : Dk, ds[((fst d st + q) % d).toNat]? = some x ∧ x.2.2.read p (st * c + off).toNat = (cellOf (st * c + off).toNat X, 0)
theorem places_at {d c st off : Int} {k q : Nat} (h : q < k) (j : Nat) (hj : j < 2) : (placesTo d c st off k)[q * 2 + j]? = [Value.int .i64 ((fst d st + q) % d), .int .i64 (st * c + off)][j]? := by
  induction k with
  | zero => omega
  | succ k ih =>
    have hl : (placesTo d c st off k).length = k * 2 := by
      clear ih h
      induction k with
      | zero => rfl
      | succ k ih => rw [places_succ, List.length_append, ih]; simp; omega
    rw [places_succ]
    by_cases hq : q < k
    · rw [List.getElem?_append_left (by omega)]
      exact ih hq
    · obtain rfl : q = k := by omega
      rw [List.getElem?_append_right (by omega), hl]
      congr 1
      omega
theorem cellOut_of {A : Nat} {X : List UInt8} : cellOut A (cellOf A X) 0 = (X, true, 0) := by
  unfold cellOut cellOf
  rw [if_neg (by decide), if_pos ⟨rfl, rfl⟩]
theorem cellOf_ok {A : Nat} {X : List UInt8} (h : X.length = 16) : (cellOf A X).Ok := ⟨h, Crc.crc_lt _⟩
theorem info_sec : (Try.prog.info? 33).map (fun i => (i.zero, i.size, i.bytes)) = some (some (.agg (Seal.zeros 16).toArray), 16, 16) := by kernel_rfl
/-- what Recover answers: the row, its slices, and the two others -/
abbrev RK := Value × List Sv × Nat × Nat × Nat × Nat
def RB (wr : World) (m : Nat) (cols : List (List UInt8)) (P Q : List UInt8) (κ : RK) (w' : World) : Prop :=
  w'.ownsRow wr.heap.size 27 1 κ.1 m (sv κ.2.1) ∧ Each wr.heap.size w' κ.2.1 (cols.take m) ∧ wr.heap.size ≤ κ.2.2.1 ∧ wr.heap.size ≤ κ.2.2.2.2.1 ∧ Bts w' (some ⟨κ.2.2.1, 0, none⟩) 16 κ.2.2.2.1 P ∧ Bts w' (some ⟨κ.2.2.2.2.1, 0, none⟩) 16 κ.2.2.2.2.2 Q ∧ Below wr.heap.size wr w'
set_option maxHeartbeats 4000000 in
theorem srow_good {d c s st off : Int} (h : Sound d c s) (hr : InRow c s st off) {gd bm n cap : Nat} {ds : List Dk} {w : World} {p : Pow} (S : SetAt w gd bm n ds) (hp : PowAt w bm p) (hn : (n : Int) = c * s) (hd : (ds.length : Int) = d) (hcap : ds.length ≤ cap) {cols : List (List UInt8)} (hcl : cols.length = ds.length) (hok : RowOk d c st off ds p n cols) :
    Calls Try.prog 39 #[.agg (setV d c s gd ds.length cap).toArray, .int .i64 st, .int .i64 off] w fun e w' => ∃ v, e = .returned (.tuple #[v, .slice none 0 0, .int .i64 0]) ∧ w'.ownsRow w.heap.size 33 16 v ds.length (flat bv cols) ∧ Below w.heap.size w w' := by
  obtain ⟨k, hk⟩ : ∃ k, k = ds.length := ⟨_, rfl⟩
  have k1 : k ≤ 32 := by have := h.1; omega
  have k0 : 4 ≤ k := by have := h.1; omega
  have hn1 : n ≤ 512 := by
    have := mul_bd (a := c) (b := s) (A := 8) (B := 64) (by have := h.2.1; omega) (by have := h.2.1; omega) (by have := h.2.2; omega) (by have := h.2.2; omega)
    omega
  obtain ⟨A, hA⟩ : ∃ A, A = (st * c + off).toNat := ⟨_, rfl⟩
  have hA0 : st * c + off = (A : Int) := by
    have := Int.mul_nonneg hr.1.1 (show 0 ≤ c by have := h.2.1; omega)
    have := hr.2.1
    omega
  have hAn : A < n := by rw [hA]; exact hok.1
  have RW := Lib.hid (fun (w' : World) => row_yes (st := st) (off := off) h hr w')
  have CK := Lib.hid (fun (w' : World) (hb : Below w.heap.size w w') => check_any h (S.below hb (Nat.le_refl _)) hn hd hcap)
  have CE := Lib.hid (fun (q : Nat) (X : List UInt8) (hX : cols[q]? = some X) (w' : World) (hb : Below w.heap.size w w') => show Calls Try.prog 44 #[.agg (setV d c s gd k cap).toArray, .agg #[.int .i64 ((fst d st + q) % d), .int .i64 (A : Int)]] w' fun e w'' => e = .returned (.tuple #[.agg (bv X).toArray, .bool true, .int .i64 0]) ∧ Below w'.heap.size w' w'' from by
    obtain ⟨hX16, x, hx, hrd⟩ := hok.2 q X hX
    rw [← hA] at hrd
    have hc := cell_any (d := d) (c := c) (s := s) (cap := cap) (k := k) (S.below hb (Nat.le_refl _)) (hp.below hb hp.lt) hk.symm (by rw [hk]; exact hcap) hx hAn (by omega) hrd (cellOf_ok hX16) (by decide)
    rw [cellOut_of] at hc
    have hm0 : 0 ≤ (fst d st + q) % d := Int.emod_nonneg _ (by omega)
    rw [show (((fst d st + q) % d).toNat : Int) = (fst d st + q) % d from by omega] at hc
    exact hc)
  have HL := Lib.hid (fun (q : Nat) (X : List UInt8) (hX : cols[q]? = some X) => (hok.2 q X hX).1)
  have HCL := Lib.hid (hcl.trans hk.symm)
  have dk : d.toNat = k := by omega
  rw [dk] at RW
  rw [← hk] at CK ⊢
  have HA0 := Lib.hid hA0
  clear hok hcl hn hd hcap S hp hk hr dk hA hA0
  go_enter Try.func39, Try.ntmps39
  have SB0 := Lib.hid (show Blk (w.alloc (.cells #[.int .i64 d, .int .i64 c, .int .i64 s, .slice (some ⟨gd, 0, none⟩) k cap] 60)) w.heap.size [.int .i64 d, .int .i64 c, .int .i64 s, .slice (some ⟨gd, 0, none⟩) k cap] 60 from blk_at rfl rfl)
  have SL0 := Lib.hid (show Below w.heap.size w (w.alloc (.cells #[.int .i64 d, .int .i64 c, .int .i64 s, .slice (some ⟨gd, 0, none⟩) k cap] 60)) from (Below.refl w.heap.size w).alloc (Nat.le_refl _) _)
  unfold setV
  go_upto_region 4 with (first | (go_at_call 37; go_must (refine (CK.out _ SL0.out).mono ?_; rintro e w1 ⟨rfl, hb1⟩; have B1 := Lib.hid hb1; clear hb1)))
  have SB1 := Lib.hid (SB0.out.below B1.out SB0.out.lt)
  have SL1 := Lib.hid (SL0.out.trans (B1.out.mono (SL0.out.size)))
  have s1 := SL1.out.size
  have c0 := SB1.out.cell 0
  have c1 := SB1.out.cell 1
  have c2 := SB1.out.cell 2
  have c3 := SB1.out.cell 3
  simp only [List.getElem?_cons_zero, List.getElem?_cons_succ] at c0 c1 c2 c3
  clear B1 SB0 SL0 CK
  go_upto_region 7 with (first | (go_at_call 41; go_must (refine (RW.out _).mono ?_; rintro e w2 ⟨v2, rfl, ho2, hb2⟩; have O2 := Lib.hid ho2; have B2 := Lib.hid hb2; clear ho2 hb2)))
  have SB2 := Lib.hid (SB1.out.below B2.out SB1.out.lt)
  have SL2 := Lib.hid (SL1.out.trans (B2.out.mono s1))
  have s2 := SL2.out.size
  clear SB1 SL1 c0 c1 c2 c3 RW B2
  obtain ⟨ap, cp, rfl, hpc, hpm, hpz⟩ := own_slice O2.out (by decide)
  obtain ⟨gp, rfl, hgp, hpat⟩ := hpz.resolve_left (by omega)
  have PL := Lib.hid (fun (q : Nat) (hq : q < k) => show w2.cell? ⟨gp, q * 2 + 0, none⟩ = some (.int .i64 ((fst d st + q) % d)) ∧ w2.cell? ⟨gp, q * 2 + 1, none⟩ = some (.int .i64 (A : Int)) from by
    have h0 := hpat (q * 2 + 0) (.int .i64 ((fst d st + q) % d)) (by rw [places_at hq 0 (by decide)]; rfl)
    have h1 := hpat (q * 2 + 1) (.int .i64 (A : Int)) (by rw [places_at hq 1 (by decide), HA0.out]; rfl)
    rw [Nat.zero_add] at h0 h1
    exact ⟨h0, h1⟩)
  have hgp2 : gp < w2.heap.size := block_lt_of_cell (PL.out 0 (by omega)).1
  clear hpz hpat O2
  go_upto_region 8 with (first | (refine wpList_make_flat (f := svf) (x := (none, 0, 0)) rfl 42 27 _ _ rfl _ 1 24 Try.underlying42 info_b rfl rfl (by decide) .i64 .i64 k rfl rfl (by omega) (by unfold maxLen; omega) ?_))
  obtain ⟨w3, hw3⟩ : ∃ w3, w3 = w2.alloc (.cells (flat svf (List.replicate k (none, 0, 0))).toArray 27) := ⟨_, rfl⟩
  have AB3 := Lib.hid (show Blk w3 w2.heap.size (sv (List.replicate k (none, 0, 0))) 27 from by rw [hw3, ← flat_svf]; exact blk_at rfl rfl)
  have hb3 : Below w2.heap.size w2 w3 := by rw [hw3]; exact (Below.refl _ _).alloc (Nat.le_refl _) _
  have s3 : w3.heap.size = w2.heap.size + 1 := by rw [hw3]; simp
  rw [← hw3]
  clear hw3
  have SB3 := Lib.hid (SB2.out.below hb3 SB2.out.lt)
  have SL3 := Lib.hid (SL2.out.trans (hb3.mono s2))
  have PL3 := Lib.hid (fun (q : Nat) (hq : q < k) => show w3.cell? ⟨gp, q * 2 + 0, none⟩ = some (.int .i64 ((fst d st + q) % d)) ∧ w3.cell? ⟨gp, q * 2 + 1, none⟩ = some (.int .i64 (A : Int)) from by
    obtain ⟨h0, h1⟩ := PL.out q hq
    rw [hb3.cell (p := ⟨gp, q * 2 + 0, none⟩) hgp2, hb3.cell (p := ⟨gp, q * 2 + 1, none⟩) hgp2]
    exact ⟨h0, h1⟩)
  obtain ⟨ga, hga⟩ : ∃ ga, ga = w2.heap.size := ⟨_, rfl⟩
  rw [← hga] at AB3 hgp2 s3 s2 ⊢
  clear PL SB2 SL2 hb3 hga
  go_wp2_with fail
  go_loopw [6, 7, 45] (fun t6 t7 i wr => ∃ (q : Nat) (ps : List Sv), q ≤ k ∧ t6 = .slice none 0 0 ∧ t7 = .slice none 0 0 ∧ i = .int .i64 q ∧ Only [ga] w3 wr ∧ Blk wr ga (sv (ps ++ List.replicate (k - q) (none, 0, 0))) 27 ∧ Each w3.heap.size wr ps (cols.take q)) (fun _ _ i _ => k - (intOf i).toNat)
  case atStart => exact ⟨0, [], by omega, rfl, rfl, rfl, Only.refl _ _, by simpa using AB3.out, by rw [List.take_zero]; exact each_nil _ _⟩
  case round =>
    obtain ⟨q, ps, hq, rfl, rfl, rfl, ho, hbl, hea⟩ := hrel
    have HO := Lib.hid ho
    have HBL := Lib.hid hbl
    have HEA := Lib.hid hea
    clear ho hbl hea
    by_cases hqk : q < k
    · obtain ⟨X, hX⟩ : ∃ X, cols[q]? = some X := ⟨_, List.getElem?_eq_getElem (by rw [HCL.out]; exact hqk)⟩
      have hX16 := HL.out q X hX
      have CQ := Lib.hid (CE.out q X hX)
      have HK := Lib.hid (show cols.take (q + 1) = cols.take q ++ [X] from take_snoc _ _ _ hX)
      have hpl := PL3.out q hqk
      have hgp3 : gp < w3.heap.size := block_lt_of_cell hpl.1
      have p0 : wr.cell? ⟨gp, q * 2 + 0, none⟩ = some (.int .i64 ((fst d st + q) % d)) := by rw [cell_only HO.out hgp3 (by simp; omega)]; exact hpl.1
      have p1 : wr.cell? ⟨gp, q * 2 + 1, none⟩ = some (.int .i64 (A : Int)) := by rw [cell_only HO.out hgp3 (by simp; omega)]; exact hpl.2
      have SBr := Lib.hid (SB3.out.only HO.out (by simp; omega))
      have SLr := Lib.hid (SL3.out.trans (HO.out.below (by omega) (by simp; omega)))
      clear hpl hX
      go_upto_region 11 with (first | ((refine wpList_value_g rfl (.agg #[.int .i64 ((fst d st + q) % d), .int .i64 (A : Int)]) (exec_load_from (ad := ⟨gp, q * 2, none⟩) (m := 2) (vs := [.int .i64 ((fst d st + q) % d), .int .i64 (A : Int)]) rfl rfl (fun j v hv => by
          rcases j with _ | _ | j
          · cases hv; exact p0
          · cases hv; exact p1
          · cases hv) Try.underlying109 rfl (by kernel_rfl) rfl) ?_)))
      obtain ⟨w4, hw4⟩ : ∃ w4, w4 = wr.alloc (.cells #[.int .i64 ((fst d st + q) % d), .int .i64 (A : Int)] 109) := ⟨_, rfl⟩
      have L4 := Lib.hid (show Below wr.heap.size wr w4 from by rw [hw4]; exact (Below.refl _ _).alloc (Nat.le_refl _) _)
      have PB4 := Lib.hid (show Blk w4 wr.heap.size [.int .i64 ((fst d st + q) % d), .int .i64 (A : Int)] 109 from by rw [hw4]; exact blk_at rfl rfl)
      have s4 : w4.heap.size = wr.heap.size + 1 := by rw [hw4]; simp
      have SB4 := Lib.hid (SBr.out.below L4.out SBr.out.lt)
      have sr := SLr.out.size
      have SL4 := Lib.hid (SLr.out.trans (L4.out.mono sr))
      rw [← hw4]
      clear hw4 p0 p1
      have c0 := SB4.out.cell 0
      have c1 := SB4.out.cell 1
      have c2 := SB4.out.cell 2
      have c3 := SB4.out.cell 3
      have p0 := PB4.out.cell 0
      have p1 := PB4.out.cell 1
      simp only [List.getElem?_cons_zero, List.getElem?_cons_succ] at c0 c1 c2 c3 p0 p1
      go_upto_region 13 with (first
        | (go_at_call 44; go_must (refine (CQ.out _ SL4.out).mono ?_; rintro e w5 ⟨rfl, hb5⟩; have L5 := Lib.hid hb5; clear hb5))
        | (refine wpList_store_blk rfl 33 _ _ rfl w5.heap.size 0 16 rfl 33 (Seal.zeros 16) (bv X) rfl (blk_at rfl rfl) (by kernel_rfl) (by rw [bv_len]; exact hX16) (by decide) (bv_cell _) ?_; intro w6 z6 g6; rw [put_all _ _ (by rw [bv_len, hX16]; rfl)] at z6; have Z6 := Lib.hid z6; have L6 := Lib.hid (below_grown ((Below.refl w5.heap.size w5).alloc (Nat.le_refl _) _) g6 (by simp) (Nat.le_refl _)); clear z6 g6))
      have s5 := L5.out.size
      have s6 := L6.out.size
      have L46 := Lib.hid ((L4.out.trans (L5.out.mono (by omega))).trans (L6.out.mono (by omega)))
      have hlen : (sv (ps ++ List.replicate (k - q) (none, 0, 0))).length = k := by
        rw [sv_len, List.length_append, HEA.out.len, List.length_take, HCL.out, List.length_replicate]; omega
      have hpsl : ps.length = q := by rw [HEA.out.len, List.length_take, HCL.out]; omega
      have AB6 := Lib.hid (HBL.out.below L46.out HBL.out.lt)
      have hga6 : w6.cell? ⟨ga, q, none⟩ = some (.slice none 0 0) := by
        rw [AB6.out.cell, sv_get, List.getElem?_append_right (by omega), hpsl, Nat.sub_self, show k - q = (k - q - 1) + 1 from by omega, List.replicate_succ]
        rfl
      have hgf6 := AB6.out.frozen q
      have hset : (sv (ps ++ List.replicate (k - q) (none, 0, 0))).set q (.slice (some ⟨w5.heap.size, 0, none⟩) 16 16) = sv ((ps ++ [(some ⟨w5.heap.size, 0, none⟩, 16, 16)]) ++ List.replicate (k - (q + 1)) (none, 0, 0)) := by
        rw [show k - q = (k - (q + 1)) + 1 from by omega, List.replicate_succ]
        unfold sv
        rw [List.map_append, List.map_cons, set_mid _ _ _ _ _ (by rw [List.length_map, hpsl])]
        simp
      have HSET := Lib.hid hset
      have e6 := (HEA.out.below L46.out (Nat.le_refl _)).snoc (B := X) (c := 16) (show w3.heap.size ≤ w5.heap.size by have := HO.out.size; omega) (by rw [hX16]; exact Z6.out.bts hX16 (by omega) (by decide))
      rw [← HK.out, hX16] at e6
      have E6 := Lib.hid e6
      have hga3 := AB3.out.lt
      have O6 := Lib.hid (HO.out.trans (Only.of_below (S := [ga]) L46.out))
      clear hset e6 hlen c0 c1 c2 c3 p0 p1
      go_wp2_with fail
      go_roundw
      case rel =>
        refine ⟨q + 1, _, by omega, rfl, rfl, by go_num, O6.out.setCell (List.mem_singleton.2 rfl) q _, by rw [← HSET.out]; exact AB6.out.setCell q _, E6.out.only ((Only.refl [ga] w6).setCell (List.mem_singleton.2 rfl) q _) (fun g c hm => ?_)⟩
        obtain ⟨i, hi⟩ := List.getElem?_of_mem hm
        have hil : i < (ps ++ [(some (⟨w5.heap.size, 0, none⟩ : Addr), 16, 16)]).length := (List.getElem?_eq_some_iff.1 hi).1
        obtain ⟨B, hB⟩ : ∃ B, (cols.take (q + 1))[i]? = some B := ⟨_, List.getElem?_eq_getElem (by rw [← E6.out.len]; exact hil)⟩
        obtain ⟨g', e, hg', _⟩ := E6.out.at_ i _ B hi hB
        simp only [Option.some.injEq, Addr.mk.injEq, and_true] at e
        subst e
        rw [List.mem_singleton]
        omega
      case measure => simp [intOf]; omega
    · obtain rfl : q = k := by omega
      obtain ⟨m, rfl⟩ : ∃ m, q = m + 2 := ⟨q - 2, by omega⟩
      have hea := HEA.out
      have hbl := HBL.out
      rw [List.take_of_length_le (Nat.le_of_eq HCL.out)] at hea
      rw [Nat.sub_self, List.replicate_zero, List.append_nil] at hbl
      obtain ⟨P, hP⟩ : ∃ P, cols[m]? = some P := ⟨_, List.getElem?_eq_getElem (by rw [HCL.out]; omega)⟩
      obtain ⟨Q, hQ⟩ : ∃ Q, cols[m + 1]? = some Q := ⟨_, List.getElem?_eq_getElem (by rw [HCL.out]; omega)⟩
      obtain ⟨pp, hpp⟩ : ∃ pp, ps[m]? = some pp := ⟨_, List.getElem?_eq_getElem (by rw [hea.len, HCL.out]; omega)⟩
      obtain ⟨pq, hpq⟩ : ∃ pq, ps[m + 1]? = some pq := ⟨_, List.getElem?_eq_getElem (by rw [hea.len, HCL.out]; omega)⟩
      obtain ⟨gP, eP1, hgP, eP2, bP⟩ := hea.at_ m pp P hpp hP
      obtain ⟨gQ, eQ1, hgQ, eQ2, bQ⟩ := hea.at_ (m + 1) pq Q hpq hQ
      rw [HL.out m P hP] at eP2 bP
      rw [HL.out (m + 1) Q hQ] at eQ2 bQ
      have cm : wr.cell? ⟨ga, m, none⟩ = some (.slice (some ⟨gP, 0, none⟩) 16 pp.2.2) := by rw [hbl.cell, sv_get, hpp, ← eP1, ← eP2]; rfl
      have cm1 : wr.cell? ⟨ga, m + 1, none⟩ = some (.slice (some ⟨gQ, 0, none⟩) 16 pq.2.2) := by rw [hbl.cell, sv_get, hpq, ← eQ1, ← eQ2]; rfl
      obtain ⟨cP, hcP⟩ : ∃ cP, cP = pp.2.2 := ⟨_, rfl⟩
      obtain ⟨cQ, hcQ⟩ : ∃ cQ, cQ = pq.2.2 := ⟨_, rfl⟩
      rw [← hcP] at bP cm
      rw [← hcQ] at bQ cm1
      have hcols : cols = cols.take m ++ [P, Q] := by
        have h1 := take_snoc _ _ _ hP
        have h2 := take_snoc _ _ _ hQ
        rw [h1, List.take_of_length_le (Nat.le_of_eq HCL.out), List.append_assoc] at h2
        exact h2
      have T : Tab wr (some ⟨ga, 0, none⟩) (ps.take m) (cols.take m) := by
        refine ⟨by rw [List.length_take, List.length_take, hea.len], .inr ⟨ga, 0, rfl, fun j u hu => ?_⟩, fun i p B hp hB => ?_⟩
        · rw [Nat.zero_add, hbl.cell]
          have hu' : (sv ps)[j]? = some u := by
            unfold sv at hu ⊢
            rw [List.map_take, List.getElem?_take] at hu
            split at hu
            · exact hu
            · cases hu
          exact hu'
        · rw [List.getElem?_take] at hp hB
          split at hp
          · rename_i him
            rw [if_pos him] at hB
            obtain ⟨g, h1, h2, h3, h4⟩ := hea.at_ i p B hp hB
            exact ⟨h3, by rw [h1, h3]; exact h4⟩
          · cases hp
      have RC := Lib.hid (fun (w' : World) (hb : Below wr.heap.size wr w') => recover_none 16 (by decide) (by decide) (some ⟨ga, 0, none⟩) (m + 2) (ps.take m) (cols.take m) w' (T.below hb (Nat.le_refl _)) (by rw [List.length_take, HCL.out]; omega) (by rw [List.length_take, HCL.out]; omega) (fun B hB => by
        obtain ⟨i, hi⟩ := List.getElem?_of_mem (List.mem_of_mem_take hB)
        exact HL.out i B hi) ⟨gP, 0, none⟩ ⟨gQ, 0, none⟩ cP cQ P Q (bP.below hb (Nat.le_refl _)) (bQ.below hb (Nat.le_refl _)))
      rw [List.length_take, HCL.out, show min m (m + 2) = m from by omega] at RC
      have HCS := Lib.hid hcols
      have hP16 := HL.out m P hP
      have hQ16 := HL.out (m + 1) Q hQ
      have hmlen := Lib.hid (show (cols.take m).length = m from by rw [List.length_take, HCL.out]; omega)
      clear T hcols hbl hea hP hQ hpp hpq hcP hcQ eP1 eP2 eQ1 eQ2 hgP hgQ HCL
      go_upto_region 21 with (fail)
      obtain ⟨sr, hsr⟩ : ∃ sr, sr = wr.heap.size := ⟨_, rfl⟩
      have hsr2 := HO.out.size
      have C0 := Lib.hid (fun (w' : World) (h : w' = wr.drew) => show w'.cell? ⟨ga, m, none⟩ = some (.slice (some ⟨gP, 0, none⟩) 16 cP) ∧ w'.cell? ⟨ga, m + 1, none⟩ = some (.slice (some ⟨gQ, 0, none⟩) 16 cQ) from by subst h; exact ⟨cm, cm1⟩)
      clear cm cm1
      refine wp_region_choice (K := RK) (fun κ d w' => Cs 12 (fun w' => w' = wr.drew) (RB wr m cols P Q) κ d w') (fun i => [some (.slice (some ⟨ga, 0, none⟩) (m + 2) (m + 2)), some (.int .i64 (m : Int)), some (.slice (some ⟨ga, 0, none⟩) m (m + 2)), some (.slice (some ⟨ga, 0, none⟩) (m + 2) (m + 2)), some (.int .i64 (m : Int)), some (.pointer (some ⟨ga, m, none⟩)), some (.slice (some ⟨gP, 0, none⟩) 16 cP), some (.slice (some ⟨ga, 0, none⟩) (m + 2) (m + 2)), some (.int .i64 (m : Int)), some (.int .i64 ((m : Int) + 1)), some (.pointer (some ⟨ga, m + 1, none⟩)), some (.slice (some ⟨gQ, 0, none⟩) 16 cQ)].getD i none) (fun κ => .tuple #[κ.1, .slice (some ⟨κ.2.2.1, 0, none⟩) 16 κ.2.2.2.1, .slice (some ⟨κ.2.2.2.2.1, 0, none⟩) 16 κ.2.2.2.2.2, .int .i64 0]) 21 12 (by kernel_rfl) (by kernel_rfl) (by kernel_rfl) (fun κ κ' d w' hp h => h.same hp) (fun κ => Cs.start (by kernel_rfl) rfl) ?_
      intro κ
      simp only [List.take_succ_cons, List.take_zero, List.drop_succ_cons, List.drop_zero]
      refine invx_value (.slice (some ⟨ga, 0, none⟩) (m + 2) (m + 2)) (by decide) (fun u hu => Option.some.inj hu) rfl (fun d w' hd hG h => by clear h; go_simp) (fun d w' _ _ h => h.keep (by decide)) ?_
      simp only [Act.put, List.setIfInBounds_toArray, List.set_cons_zero, List.set_cons_succ]
      refine invx_value (.int .i64 (m : Int)) (by decide) (fun u hu => Option.some.inj hu) rfl (fun d w' hd hG h => by clear h; go_simp) (fun d w' _ _ h => h.keep (by decide)) ?_
      simp only [Act.put, List.setIfInBounds_toArray, List.set_cons_zero, List.set_cons_succ]
      refine invx_value (.slice (some ⟨ga, 0, none⟩) m (m + 2)) (by decide) (fun u hu => Option.some.inj hu) rfl (fun d w' hd hG h => by clear h; go_simp; all_goals (first | rfl | omega)) (fun d w' _ _ h => h.keep (by decide)) ?_
      simp only [Act.put, List.setIfInBounds_toArray, List.set_cons_zero, List.set_cons_succ]
      refine invx_value (.slice (some ⟨ga, 0, none⟩) (m + 2) (m + 2)) (by decide) (fun u hu => Option.some.inj hu) rfl (fun d w' hd hG h => by clear h; go_simp) (fun d w' _ _ h => h.keep (by decide)) ?_
      simp only [Act.put, List.setIfInBounds_toArray, List.set_cons_zero, List.set_cons_succ]
      refine invx_value (.int .i64 (m : Int)) (by decide) (fun u hu => Option.some.inj hu) rfl (fun d w' hd hG h => by clear h; go_simp) (fun d w' _ _ h => h.keep (by decide)) ?_
      simp only [Act.put, List.setIfInBounds_toArray, List.set_cons_zero, List.set_cons_succ]
      refine invx_value (.pointer (some ⟨ga, m, none⟩)) (by decide) (fun u hu => Option.some.inj hu) rfl (fun d w' hd hG h => by clear h; go_simp; all_goals (first | rfl | omega)) (fun d w' _ _ h => h.keep (by decide)) ?_
      simp only [Act.put, List.setIfInBounds_toArray, List.set_cons_zero, List.set_cons_succ]
      refine invx_value (.slice (some ⟨gP, 0, none⟩) 16 cP) (by decide) (fun u hu => Option.some.inj hu) rfl (fun d w' hd hG h => by have hw := h.before' (InvX.undone hG.2 hd (by kernel_rfl : leansB _ 6 22 12 = true)); obtain ⟨q0, q1⟩ := C0.out w' hw; clear h hw; go_simp) (fun d w' _ _ h => h.keep (by decide)) ?_
      simp only [Act.put, List.setIfInBounds_toArray, List.set_cons_zero, List.set_cons_succ]
      refine invx_value (.slice (some ⟨ga, 0, none⟩) (m + 2) (m + 2)) (by decide) (fun u hu => Option.some.inj hu) rfl (fun d w' hd hG h => by clear h; go_simp) (fun d w' _ _ h => h.keep (by decide)) ?_
      simp only [Act.put, List.setIfInBounds_toArray, List.set_cons_zero, List.set_cons_succ]
      refine invx_value (.int .i64 (m : Int)) (by decide) (fun u hu => Option.some.inj hu) rfl (fun d w' hd hG h => by clear h; go_simp) (fun d w' _ _ h => h.keep (by decide)) ?_
      simp only [Act.put, List.setIfInBounds_toArray, List.set_cons_zero, List.set_cons_succ]
      refine invx_value (.int .i64 ((m : Int) + 1)) (by decide) (fun u hu => Option.some.inj hu) rfl (fun d w' hd hG h => by clear h; go_simp; exact w64 (by omega) (by omega)) (fun d w' _ _ h => h.keep (by decide)) ?_
      simp only [Act.put, List.setIfInBounds_toArray, List.set_cons_zero, List.set_cons_succ]
      refine invx_value (.pointer (some ⟨ga, m + 1, none⟩)) (by decide) (fun u hu => Option.some.inj hu) rfl (fun d w' hd hG h => by clear h; go_simp; all_goals (first | rfl | omega)) (fun d w' _ _ h => h.keep (by decide)) ?_
      simp only [Act.put, List.setIfInBounds_toArray, List.set_cons_zero, List.set_cons_succ]
      refine invx_value (.slice (some ⟨gQ, 0, none⟩) 16 cQ) (by decide) (fun u hu => Option.some.inj hu) rfl (fun d w' hd hG h => by have hw := h.before' (InvX.undone hG.2 hd (by kernel_rfl : leansB _ 11 22 12 = true)); obtain ⟨q0, q1⟩ := C0.out w' hw; clear h hw; go_simp) (fun d w' _ _ h => h.keep (by decide)) ?_
      simp only [Act.put, List.setIfInBounds_toArray, List.set_cons_zero, List.set_cons_succ]
      refine invx_call (.tuple #[κ.1, .slice (some ⟨κ.2.2.1, 0, none⟩) 16 κ.2.2.2.1, .slice (some ⟨κ.2.2.2.2.1, 0, none⟩) 16 κ.2.2.2.2.2, .int .i64 0]) (fun u hu => Option.some.inj hu) rfl 53 #[.slice (some ⟨ga, 0, none⟩) m (m + 2), .slice (some ⟨gP, 0, none⟩) 16 cP, .slice (some ⟨gQ, 0, none⟩) 16 cQ] (fun d w' h => by go_simp) (fun d w' hd hG h => by
        have hw := h.before hd
        subst hw
        refine (RC.out _ (Below.refl _ _).drew).mono ?_
        rintro e w4 ⟨v4, ps4, g1, k1', g2, k2', rfl, ho4, he4, hg1, hg2, hb1, hb2, hbl4⟩
        exact ⟨(v4, ps4, g1, k1', g2, k2'), _, rfl, rfl, Cs.after hd ⟨ho4, he4, hg1, hg2, hb1, hb2, (Below.refl _ _).drew.trans hbl4⟩⟩) ?_
      simp only [Act.put, List.setIfInBounds_toArray, List.set_cons_zero, List.set_cons_succ]
      refine invx_value (.tuple #[κ.1, .slice (some ⟨κ.2.2.1, 0, none⟩) 16 κ.2.2.2.1, .slice (some ⟨κ.2.2.2.2.1, 0, none⟩) 16 κ.2.2.2.2.2, .int .i64 0]) (by decide) (fun u hu => by have hu' : (none : Option Value) = some u := hu; cases hu') rfl (fun d w' hd hG h => by clear h; go_simp) (fun d w' _ _ h => h.keep (by decide)) ?_
      simp only [Act.put, List.setIfInBounds_toArray, List.set_cons_zero, List.set_cons_succ]
      refine invx_value (κ.1) (by decide) (fun u hu => by have hu' : (none : Option Value) = some u := hu; cases hu') rfl (fun d w' hd hG h => by clear h; go_simp) (fun d w' _ _ h => h.keep (by decide)) ?_
      simp only [Act.put, List.setIfInBounds_toArray, List.set_cons_zero, List.set_cons_succ]
      refine invx_value (.slice (some ⟨κ.2.2.1, 0, none⟩) 16 κ.2.2.2.1) (by decide) (fun u hu => by have hu' : (none : Option Value) = some u := hu; cases hu') rfl (fun d w' hd hG h => by clear h; go_simp) (fun d w' _ _ h => h.keep (by decide)) ?_
      simp only [Act.put, List.setIfInBounds_toArray, List.set_cons_zero, List.set_cons_succ]
      refine invx_value (.slice (some ⟨κ.2.2.2.2.1, 0, none⟩) 16 κ.2.2.2.2.2) (by decide) (fun u hu => by have hu' : (none : Option Value) = some u := hu; cases hu') rfl (fun d w' hd hG h => by clear h; go_simp) (fun d w' _ _ h => h.keep (by decide)) ?_
      simp only [Act.put, List.setIfInBounds_toArray, List.set_cons_zero, List.set_cons_succ]
      refine invx_value (.int .i64 0) (by decide) (fun u hu => by have hu' : (none : Option Value) = some u := hu; cases hu') rfl (fun d w' hd hG h => by clear h; go_simp) (fun d w' _ _ h => h.keep (by decide)) ?_
      simp only [Act.put, List.setIfInBounds_toArray, List.set_cons_zero, List.set_cons_succ]
      refine invx_value (κ.1) (by decide) (fun u hu => by have hu' : (none : Option Value) = some u := hu; cases hu') rfl (fun d w' hd hG h => by clear h; go_simp) (fun d w' _ _ h => h.keep (by decide)) ?_
      simp only [Act.put, List.setIfInBounds_toArray, List.set_cons_zero, List.set_cons_succ]
      refine invx_value (.slice (some ⟨κ.2.2.1, 0, none⟩) 16 κ.2.2.2.1) (by decide) (fun u hu => by have hu' : (none : Option Value) = some u := hu; cases hu') rfl (fun d w' hd hG h => by clear h; go_simp) (fun d w' _ _ h => h.keep (by decide)) ?_
      simp only [Act.put, List.setIfInBounds_toArray, List.set_cons_zero, List.set_cons_succ]
      refine invx_value (.slice (some ⟨κ.2.2.2.2.1, 0, none⟩) 16 κ.2.2.2.2.2) (by decide) (fun u hu => by have hu' : (none : Option Value) = some u := hu; cases hu') rfl (fun d w' hd hG h => by clear h; go_simp) (fun d w' _ _ h => h.keep (by decide)) ?_
      simp only [Act.put, List.setIfInBounds_toArray, List.set_cons_zero, List.set_cons_succ]
      refine invx_nil fun w4 hI => ?_
      obtain ⟨ho4, he4, hg1, hg2, hb1, hb2, hbl4⟩ := hI.done (by kernel_rfl)
      obtain ⟨v4, ps4, g1, k1', g2, k2'⟩ := κ
      simp only at ho4 he4 hg1 hg2 hb1 hb2
      have HO4 := Lib.hid ho4
      have HE4 := Lib.hid he4
      have M1 := Lib.hid hb1
      have M2 := Lib.hid hb2
      have L4 := Lib.hid hbl4
      have s4 := hbl4.size
      clear ho4 he4 hb1 hb2 hbl4 hI C0 RC
      go_wp2_with (first
        | (at_builtin; refine wpList_append_any _ rfl _ _ 42 rfl wr.heap.size 27 (.slice none 0 0) 1 24 Try.underlying42 info_b rfl (by decide) v4 m (sv ps4) rfl (HO4.out.alloc _) (some ⟨w4.heap.size, 0, none⟩) 2 2 [.slice (some ⟨g1, 0, none⟩) 16 k1', .slice (some ⟨g2, 0, none⟩) 16 k2'] rfl (src_blk (blk_at rfl rfl) rfl (sv_one [(some ⟨g1, 0, none⟩, 16, k1'), (some ⟨g2, 0, none⟩, 16, k2')])) ?a1 ?a2 ?a3 ?_))
      case a1 => omega
      case a2 => unfold maxLen; omega
      case a3 => rw [size_alloc]; omega
      intro v5 w5 o5 g5
      have s5 := g5.size
      rw [size_alloc] at s5
      have e4 := (HE4.out.snoc (B := P) (c := k1') hg1 (by rw [hP16]; exact M1.out)).snoc (B := Q) (c := k2') hg2 (by rw [hQ16]; exact M2.out)
      rw [hP16, hQ16, List.append_assoc, List.append_assoc] at e4
      have hcs := HCS.out
      simp only [List.cons_append, List.nil_append] at e4
      rw [← hcs] at e4
      have hall : ∀ B ∈ cols, B.length = 16 := fun B hB => by
        obtain ⟨i, hi⟩ := List.getElem?_of_mem hB
        exact HL.out i B hi
      have e5 := each_grown (W := 16) (HO4.out.alloc (.cells #[.slice (some ⟨g1, 0, none⟩) 16 k1', .slice (some ⟨g2, 0, none⟩) 16 k2'] 27)) (fun h0 => by omega) (e4.below ((Below.refl w4.heap.size w4).alloc (Nat.le_refl _) _) (Nat.le_refl _)) hall (by decide) g5
      have o5' : w5.ownsRow wr.heap.size 27 1 v5 (m + 2) (sv (ps4 ++ [(some ⟨g1, 0, none⟩, 16, k1'), (some ⟨g2, 0, none⟩, 16, k2')])) := by
        unfold sv
        rw [List.map_append]
        exact o5
      have b5 : Below wr.heap.size wr w5 := (L4.out.alloc (Nat.le_trans (Nat.le_refl _) s4) (.cells #[.slice (some ⟨g1, 0, none⟩) 16 k1', .slice (some ⟨g2, 0, none⟩) 16 k2'] 27)).grown g5 (by rw [size_alloc]; omega) (fun k hk => (HO4.out.lt k hk).1)
      have hclen : m + 2 = cols.length := by rw [hcs]; simp [hmlen.out]
      obtain ⟨a5, c5, rfl, T5⟩ := own_tab o5' hclen e5
      have SL5 := Lib.hid ((SL3.out.trans (HO.out.below (by omega) (by simp; omega))).trans (b5.mono (by omega)))
      have HT5 := Lib.hid T5
      obtain ⟨ps5, hps5⟩ : ∃ ps5, ps5 = ps4 ++ [(some ⟨g1, 0, none⟩, 16, k1'), (some ⟨g2, 0, none⟩, 16, k2')] := ⟨_, rfl⟩
      rw [← hps5] at HT5 e5
      have HE5 := Lib.hid e5
      have HCL := Lib.hid hclen
      have HALL := Lib.hid hall
      clear e4 e5 o5' o5 g5 hcs hall T5 hps5 hclen HE4 HO4 M1 M2 L4 HCS
      obtain ⟨g5, o5, rfl, hc5⟩ := HT5.out.src.resolve_left (by rw [← HCL.out]; omega)
      have HC5 := Lib.hid hc5
      clear hc5
      go_wp2_with fail
      go_loopw [6, 102] (fun v i w' => ∃ q : Nat, q ≤ m + 2 ∧ i = .int .i64 q ∧ w'.ownsRow w5.heap.size 33 16 v q (flat bv (cols.take q)) ∧ Below w5.heap.size w5 w') (fun _ i _ => m + 2 - (intOf i).toNat)
      case atStart => exact ⟨0, by omega, rfl, ⟨rfl, .inl ⟨rfl, by simp [flat]⟩⟩, Below.refl _ _⟩
      case round =>
        obtain ⟨q, hq, rfl, hown, hbe⟩ := hrel
        have HOW := Lib.hid hown
        have HBE := Lib.hid hbe
        have sw := hbe.size
        clear hown hbe
        by_cases hqm : q < m + 2
        · obtain ⟨X, hX⟩ : ∃ X, cols[q]? = some X := ⟨_, List.getElem?_eq_getElem (by rw [← HCL.out]; exact hqm)⟩
          obtain ⟨pp, hpp⟩ : ∃ pp, ps5[q]? = some pp := ⟨_, List.getElem?_eq_getElem (by rw [HE5.out.len, ← HCL.out]; exact hqm)⟩
          obtain ⟨gx, e1, _, e2, hbx⟩ := HE5.out.at_ q pp X hpp hX
          have hX16 := HL.out q X hX
          rw [hX16] at e2 hbx
          obtain ⟨cx, hcx⟩ : ∃ cx, cx = pp.2.2 := ⟨_, rfl⟩
          have hcell : wr.cell? ⟨g5, o5 + q, none⟩ = some (.slice (some ⟨gx, 0, none⟩) 16 cx) := by
            have h := HC5.out q (.slice pp.1 pp.2.1 pp.2.2) (by rw [sv_get, hpp]; rfl)
            rw [HBE.out.cell (p := ⟨g5, o5 + q, none⟩) (block_lt_of_cell h), h, e1, e2, hcx]
          rw [← hcx] at hbx
          have BX := Lib.hid (hbx.below HBE.out (Nat.le_refl _))
          have HK := Lib.hid (show flat bv (cols.take (q + 1)) = flat bv (cols.take q) ++ bv X from by rw [take_snoc _ _ _ hX, flat_append, flat_one])
          clear hX hpp e1 e2 hbx hcx
          have hbx16 : (bv X).length = 16 := by rw [bv_len]; exact hX16
          go_wp2_with (first
            | (refine wpList_value_g rfl (.pointer (some ⟨gx, 0, none⟩)) (exec_array_at (len := 16) rfl rfl Try.underlying33 (by decide)) ?_)
            | (refine wpList_value_g rfl (.agg (bv X).toArray) (exec_load_from (ad := ⟨gx, 0, none⟩) (m := 16) rfl rfl (fun j u hu => by
                obtain ⟨_, _, _, h0 | ⟨b, o, e, hc⟩⟩ := BX.out
                · omega
                · simp only [Option.some.injEq, Addr.mk.injEq, and_true] at e
                  obtain ⟨rfl, rfl⟩ := e
                  rw [bv_get] at hu
                  obtain ⟨y, hy, rfl⟩ := Option.map_eq_some_iff.1 hu
                  rw [Addr.add_lit]
                  exact hc j y hy) Try.underlying33 rfl (by kernel_rfl) (by rw [bv_len]; exact hX16)) ?_)
            | (refine wpList_world_g rfl (.slice (some ⟨wr.heap.size, 0, none⟩) 1 1) (exec_build_one rfl rfl Try.underlying112 info_sec hbx16 (by decide) (by decide)) ?_)
            | (at_builtin; refine wpList_append_any _ rfl _ _ 112 rfl w5.heap.size 33 (.agg (Seal.zeros 16).toArray) 16 16 Try.underlying112 info_sec rfl (by decide) _ q (flat bv (cols.take q)) rfl (HOW.out.alloc _) (some ⟨wr.heap.size, 0, none⟩) 1 1 (bv X) rfl (src_blk (blk_at rfl rfl) (by rw [bv_len]; omega) (bv_cell X)) ?b1 ?b2 ?b3 ?_))
          case b1 => omega
          case b2 => unfold maxLen; omega
          case b3 => rw [size_alloc]; omega
          intro v6 w6 o6 g6
          rw [← HK.out] at o6
          have B6 := Lib.hid ((HBE.out.alloc sw (.cells (bv X).toArray 33)).grown g6 (by rw [size_alloc]; omega) (fun k hk => (HOW.out.lt k hk).1))
          have O6 := Lib.hid o6
          clear o6 g6
          go_wp2_with fail
          go_roundw
          case rel => exact ⟨q + 1, by omega, by go_num, O6.out, B6.out⟩
          case measure => simp [intOf]; omega
        · obtain rfl : q = m + 2 := by omega
          have ho := HOW.out
          rw [List.take_of_length_le (Nat.le_of_eq HCL.out.symm)] at ho
          have HO := Lib.hid ho
          clear ho
          have sz5 := SL5.out.size
          go_wp2_with fail
          go_ret3
          exact ⟨_, rfl, own_base HO.out (fun g hg => by have := (own_lt HO.out hg).1; omega), SL5.out.trans (HBE.out.mono sz5)⟩
end Go.Proofs.Ytgnnjinpcdemiaa.Str
/-
  stripe.Read by contract where the sector's own cell is good. Helper text; no statement is proved here.
-/
set_option linter.unusedVariables false
set_option maxRecDepth 20000
set_option linter.unusedSimpArgs false
namespace Go.Proofs.Ytgnnjinpcdemiaa.Str
open Go.RowKit Go.Proofs.Ytgnnjinpcdemiaa.Base Go.Proofs.Ytgnnjinpcdemiaa.Laws Go.Proofs.Ytgnnjinpcdemiaa.Disk Go.Proofs.Ytgnnjinpcdemiaa.Lay Go.Proofs.Ytgnnjinpcdemiaa.Par Go.Proofs.Ytgnnjinpcdemiaa.Flat Go.Proofs.Ytgnnjinpcdemiaa.Row Go.Proofs.Ytgnnjinpcdemiaa.InvM Go.Proofs.Ytgnnjinpcdemiaa.InvX Go.Proofs.Ytgnnjinpcdemiaa.Codec
theorem pl_bd {d c s n : Int} (h : Sound d c s) (h0 : 0 ≤ n) (h1 : n < (d - 2) * c * s) : (0 ≤ plD d c n ∧ plD d c n < d) ∧ (0 ≤ plA d c n ∧ plA d c n < c * s) := by
  obtain ⟨⟨a0, a1⟩, _, b0, b1⟩ := sp_bd h h0 h1
  refine ⟨⟨Int.emod_nonneg _ (by have := h.1; omega), Int.emod_lt_of_pos _ (by have := h.1; omega)⟩, ?_, ?_⟩
  · have := Int.mul_nonneg a0 (show 0 ≤ c by have := h.2.1; omega)
    unfold plA
    omega
  · unfold plA
    have h2 : spS d c n * c ≤ (s - 1) * c := Int.mul_le_mul_of_nonneg_right (by omega) (by have := h.2.1; omega)
    have h3 : (s - 1) * c = c * s - c := by rw [Int.sub_mul, Int.one_mul, Int.mul_comm]
    omega
set_option maxHeartbeats 4000000 in
theorem read_good {d c s lba : Int} (h : Sound d c s) (h0 : 0 ≤ lba) (h1 : lba < (d - 2) * c * s) {gd bm n cap : Nat} {ds : List Dk} {w : World} {p : Pow} (S : SetAt w gd bm n ds) (hp : PowAt w bm p) (hn : (n : Int) = c * s) (hd : (ds.length : Int) = d) (hcap : ds.length ≤ cap) {x : Dk} (hx : ds[(plD d c lba).toNat]? = some x) {X : List UInt8} (hX : X.length = 16) (hr : x.2.2.read p (plA d c lba).toNat = (cellOf (plA d c lba).toNat X, 0)) :
    Calls Try.prog 21 #[.agg (setV d c s gd ds.length cap).toArray, .int .i64 lba] w fun e w' => e = .returned (.tuple #[.agg (bv X).toArray, .int .i64 0]) ∧ Below w.heap.size w w' := by
  obtain ⟨k, hk⟩ : ∃ k, k = ds.length := ⟨_, rfl⟩
  have hn1 : n ≤ 512 := by
    have := mul_bd (a := c) (b := s) (A := 8) (B := 64) (by have := h.2.1; omega) (by have := h.2.1; omega) (by have := h.2.2; omega) (by have := h.2.2; omega)
    omega
  obtain ⟨⟨D0, D1⟩, A0, A1⟩ := pl_bd h h0 h1
  have MP := Lib.hid (fun w' => map_any h h0 h1 w')
  have CK := Lib.hid (fun (w' : World) (hb : Below w.heap.size w w') => check_any h (S.below hb (Nat.le_refl _)) hn hd hcap)
  have CE := Lib.hid (fun (w' : World) (hb : Below w.heap.size w w') => show Calls Try.prog 44 #[.agg (setV d c s gd k cap).toArray, .agg #[.int .i64 (plD d c lba), .int .i64 (plA d c lba)]] w' fun e w'' => e = .returned (.tuple #[.agg (bv X).toArray, .bool true, .int .i64 0]) ∧ Below w'.heap.size w' w'' from by
    have hc := cell_any (d := d) (c := c) (s := s) (cap := cap) (k := k) (S.below hb (Nat.le_refl _)) (hp.below hb hp.lt) hk.symm (by rw [hk]; exact hcap) hx (by omega) (by omega) hr (cellOf_ok hX) (by decide)
    rw [cellOut_of, show ((plD d c lba).toNat : Int) = plD d c lba from by omega, show ((plA d c lba).toNat : Int) = plA d c lba from by omega] at hc
    exact hc)
  rw [← hk] at CK ⊢
  obtain ⟨K, hK⟩ : ∃ K, K = plD d c lba := ⟨_, rfl⟩
  obtain ⟨A, hA⟩ : ∃ A, A = plA d c lba := ⟨_, rfl⟩
  obtain ⟨s1', hs1⟩ : ∃ x, x = spS d c lba := ⟨_, rfl⟩
  obtain ⟨s2', hs2⟩ : ∃ x, x = spC d c lba := ⟨_, rfl⟩
  obtain ⟨s3', hs3⟩ : ∃ x, x = spO c lba := ⟨_, rfl⟩
  rw [← hK, ← hA] at MP CE
  rw [← hs1, ← hs2, ← hs3] at MP
  have hbx16 : (bv X).length = 16 := by rw [bv_len]; exact hX
  clear hr hx S hp hK hA hs1 hs2 hs3 hk hd hn D0 D1 A0 A1
  have Z16 := Lib.hid (show Blk ((w.alloc (.cells #[.int .i64 d, .int .i64 c, .int .i64 s, .slice (some ⟨gd, 0, none⟩) k cap] 60)).alloc (.cells (Seal.zeros 16).toArray 33)) (w.heap.size + 1) (Seal.zeros 16) 33 from blk_at (by simp) rfl)
  have Zs := Lib.hid (show Blk ((w.alloc (.cells #[.int .i64 d, .int .i64 c, .int .i64 s, .slice (some ⟨gd, 0, none⟩) k cap] 60)).alloc (.cells (Seal.zeros 16).toArray 33)) w.heap.size [.int .i64 d, .int .i64 c, .int .i64 s, .slice (some ⟨gd, 0, none⟩) k cap] 60 from (blk_at rfl rfl).alloc _)
  have Zl := Lib.hid (show Below w.heap.size w ((w.alloc (.cells #[.int .i64 d, .int .i64 c, .int .i64 s, .slice (some ⟨gd, 0, none⟩) k cap] 60)).alloc (.cells (Seal.zeros 16).toArray 33)) from ((Below.refl w.heap.size w).alloc (Nat.le_refl _) _).alloc (by simp) _)
  unfold setV
  go_enter Try.func21, Try.ntmps21
  go_upto_region 1 with (fail)
  obtain ⟨w1, hw1⟩ : ∃ w1, w1 = (w.alloc (.cells #[.int .i64 d, .int .i64 c, .int .i64 s, .slice (some ⟨gd, 0, none⟩) k cap] 60)).alloc (.cells (Seal.zeros 16).toArray 33) := ⟨_, rfl⟩
  rw [← hw1] at Z16 Zs Zl
  simp only [Seal.zeros, List.replicate] at hw1
  rw [← hw1]
  clear hw1
  have c0 := Zs.out.cell 0
  have c1 := Zs.out.cell 1
  have c2 := Zs.out.cell 2
  have c3 := Zs.out.cell 3
  simp only [List.getElem?_cons_zero, List.getElem?_cons_succ] at c0 c1 c2 c3
  go_upto_region 4 with (first | (go_at_call 37; go_must (refine (CK.out _ Zl.out).mono ?_; rintro e w2 ⟨rfl, hb2⟩; have B2 := Lib.hid hb2; clear hb2)))
  have s2 := Zl.out.size
  have S2 := Lib.hid (Zs.out.below B2.out Zs.out.lt)
  have R2 := Lib.hid (Z16.out.below B2.out Z16.out.lt)
  have L2 := Lib.hid (Zl.out.trans (B2.out.mono s2))
  clear c0 c1 c2 c3 Zs Z16 Zl B2 CK
  have c0 := S2.out.cell 0
  have c1 := S2.out.cell 1
  have c2 := S2.out.cell 2
  simp only [List.getElem?_cons_zero, List.getElem?_cons_succ] at c0 c1 c2
  go_upto_region 7 with (first | (go_at_call 38; go_must (refine (MP.out _).mono ?_; rintro e w3 ⟨rfl, hb3⟩; have B3 := Lib.hid hb3; clear hb3)))
  obtain ⟨w4, hw4⟩ : ∃ w4, w4 = (w3.alloc (.cells #[.int .i64 s1', .int .i64 s2', .int .i64 s3'] 107)).alloc (.cells #[.int .i64 K, .int .i64 A] 109) := ⟨_, rfl⟩
  have B4 := Lib.hid (show Below w3.heap.size w3 w4 from by rw [hw4]; exact ((Below.refl _ _).alloc (Nat.le_refl _) _).alloc (by simp) _)
  have PB := Lib.hid (show Blk w4 (w3.heap.size + 1) [.int .i64 K, .int .i64 A] 109 from by rw [hw4]; exact blk_at (by simp) rfl)
  rw [← hw4]
  clear hw4 c0 c1 c2
  have s3 := L2.out.size
  have s4 := B3.out.size
  have B24 := Lib.hid (B3.out.trans (B4.out.mono s4))
  have S4 := Lib.hid (S2.out.below B24.out S2.out.lt)
  have R4 := Lib.hid (R2.out.below B24.out R2.out.lt)
  have L4 := Lib.hid (L2.out.trans (B24.out.mono s3))
  have c0 := S4.out.cell 0
  have c1 := S4.out.cell 1
  have c2 := S4.out.cell 2
  have c3 := S4.out.cell 3
  have p0 := PB.out.cell 0
  have p1 := PB.out.cell 1
  simp only [List.getElem?_cons_zero, List.getElem?_cons_succ] at c0 c1 c2 c3 p0 p1
  go_wp2_with (first
    | (go_at_call 44; go_must (refine (CE.out _ L4.out).mono ?_; rintro e w5 ⟨rfl, hb5⟩; have B5 := Lib.hid hb5; clear hb5; have R5 := Lib.hid (R4.out.below B5.out R4.out.lt); have s5 := B5.out.size; have s6 := L4.out.size; have L5 := Lib.hid (L4.out.trans (B5.out.mono s6)); have hr5 := R5.out.lt))
    | (refine wpList_store_blk rfl 33 _ _ rfl w5.heap.size 0 16 rfl 33 (Seal.zeros 16) (bv X) rfl (blk_at rfl rfl) (by kernel_rfl) hbx16 (by decide) (bv_cell _) ?_; intro w6 z6 g6; rw [put_all _ _ (by rw [hbx16]; rfl)] at z6; have Z6 := Lib.hid z6; have B6 := Lib.hid (below_grown ((Below.refl w5.heap.size w5).alloc (Nat.le_refl _) _) g6 (by simp) (Nat.le_refl _)); clear z6 g6; have R6 := Lib.hid (R5.out.below B6.out R5.out.lt); have s7 := B6.out.size; have L6 := Lib.hid (L5.out.trans (B6.out.mono L5.out.size)))
    | (refine wpList_load_blk rfl 33 _ rfl w5.heap.size 0 16 rfl 33 _ _ Z6.out Try.underlying33 rfl (by kernel_rfl) (by rw [hbx16]; omega) (bv X) (by rw [List.drop_zero, List.take_of_length_le (by rw [hbx16]; omega)]) ?_)
    | (refine wpList_store_blk rfl 33 _ _ rfl (w.heap.size + 1) 0 16 rfl 33 (Seal.zeros 16) (bv X) rfl R6.out (by kernel_rfl) hbx16 (by decide) (bv_cell _) ?_; intro w7 z7 g7; rw [put_all _ _ (by rw [hbx16]; rfl)] at z7; have Z7 := Lib.hid z7; have L7 := Lib.hid (below_grown L6.out g7 L6.out.size (by omega)); clear z7 g7))
  exact bodyPost_ret (v := .tuple #[.agg (bv X).toArray, .int .i64 0]) (results_cell_two rfl _ _ (w.heap.size + 1) 33 _ (0, 0) _ _ rfl rfl Z7.out Try.underlying33 rfl (by rw [List.size_toArray, hbx16]; kernel_rfl)) rfl ⟨rfl, L7.out⟩
end Go.Proofs.Ytgnnjinpcdemiaa.Str
/-
  stripe.Apply by contract where the power stays and no disk has failed. Helper text; no statement is proved here.
-/
set_option linter.unusedVariables false
set_option maxRecDepth 20000
set_option linter.unusedSimpArgs false
namespace Go.Proofs.Ytgnnjinpcdemiaa.Str
open Go.RowKit Go.Proofs.Ytgnnjinpcdemiaa.Base Go.Proofs.Ytgnnjinpcdemiaa.Laws Go.Proofs.Ytgnnjinpcdemiaa.Disk Go.Proofs.Ytgnnjinpcdemiaa.Lay Go.Proofs.Ytgnnjinpcdemiaa.Par Go.Proofs.Ytgnnjinpcdemiaa.Flat Go.Proofs.Ytgnnjinpcdemiaa.Row Go.Proofs.Ytgnnjinpcdemiaa.InvM Go.Proofs.Ytgnnjinpcdemiaa.InvX Go.Proofs.Ytgnnjinpcdemiaa.InvG Go.Proofs.Ytgnnjinpcdemiaa.InvC Go.Proofs.Ytgnnjinpcdemiaa.Codec
/-- a cell that is to be written: its disk, its place, the cell -/
abbrev Put := Nat × Nat × Cel
def putV (q : Put) : List Value := [.int .i64 (q.1 : Int), .int .i64 (q.2.1 : Int)] ++ q.2.2.cells
theorem putV_len {q : Put} (h : q.2.2.Ok) : (putV q).length = 19 := by simp [putV, Cel.len h]
theorem putV_one (q : Put) : ∀ u ∈ putV q, u.oneCell' = true := fun u hu => by
  unfold putV at hu
  rcases List.mem_append.1 hu with h | h
  · simp at h; rcases h with rfl | rfl <;> rfl
  · exact Cel.one _ u h
def putOne (ds : List Dk) (q : Put) : List Dk := match ds[q.1]? with
  | some x => ds.set q.1 (x.1, x.2.1, ⟨x.2.2.key, x.2.2.dead, x.2.2.secs.set q.2.1 ⟨q.2.2, true⟩⟩)
  | none => ds
def putAll (ds : List Dk) (l : List Put) : List Dk := l.foldl putOne ds
theorem putOne_some {ds : List Dk} {q : Put} {x : Dk} (h : ds[q.1]? = some x) : putOne ds q = ds.set q.1 (x.1, x.2.1, ⟨x.2.2.key, x.2.2.dead, x.2.2.secs.set q.2.1 ⟨q.2.2, true⟩⟩) := by unfold putOne; rw [h]
theorem putOne_len (ds : List Dk) (q : Put) : (putOne ds q).length = ds.length := by unfold putOne; split <;> simp
theorem putAll_len (l : List Put) : ∀ ds : List Dk, (putAll ds l).length = ds.length := by
  induction l with
  | nil => intro ds; rfl
  | cons q l ih => intro ds; exact (ih _).trans (putOne_len _ _)
theorem putAll_snoc {l : List Put} {k : Nat} {q : Put} (ds : List Dk) (h : l[k]? = some q) : putAll ds (l.take (k + 1)) = putOne (putAll ds (l.take k)) q := by
  unfold putAll
  rw [take_snoc _ _ _ h, List.foldl_append]
  rfl
/-- what the writes leave of a disk -/
theorem putOne_at {ds : List Dk} {q : Put} {i : Nat} {y : Dk} (h : (putOne ds q)[i]? = some y) : ∃ x : Dk, ds[i]? = some x ∧ y.1 = x.1 ∧ y.2.1 = x.2.1 ∧ y.2.2.key = x.2.2.key ∧ y.2.2.dead = x.2.2.dead := by
  unfold putOne at h
  split at h
  · rename_i x hx
    by_cases e : q.1 = i
    · subst e
      rw [List.getElem?_set_self (List.getElem?_eq_some_iff.1 hx).1] at h
      cases h
      exact ⟨x, hx, rfl, rfl, rfl, rfl⟩
    · rw [List.getElem?_set_ne e] at h
      exact ⟨y, h, rfl, rfl, rfl, rfl⟩
  · exact ⟨y, h, rfl, rfl, rfl, rfl⟩
theorem putAll_at (l : List Put) : ∀ (ds : List Dk) {i : Nat} {y : Dk}, (putAll ds l)[i]? = some y → ∃ x : Dk, ds[i]? = some x ∧ y.1 = x.1 ∧ y.2.1 = x.2.1 ∧ y.2.2.key = x.2.2.key ∧ y.2.2.dead = x.2.2.dead := by
  induction l with
  | nil => intro ds i y h; exact ⟨y, h, rfl, rfl, rfl, rfl⟩
  | cons q l ih =>
    intro ds i y h
    obtain ⟨x, h1, h2, h3, h4, h5⟩ := ih _ h
    obtain ⟨z, k1, k2, k3, k4, k5⟩ := putOne_at h1
    exact ⟨z, k1, h2.trans k2, h3.trans k3, h4.trans k4, h5.trans k5⟩
theorem SetAt.only {w w' : World} {gd bm n : Nat} {ds : List Dk} {S : List Nat} (h : SetAt w gd bm n ds) (ho : Only S w w') (h0 : gd ∉ S) (h1 : ∀ x ∈ ds, x.1 ∉ S ∧ x.2.1 ∉ S) : SetAt w' gd bm n ds where
  ptr i x hx := by
    have := h.ptr i x hx
    rw [cell_only ho (block_lt_of_cell this) h0]
    exact this
  disk i x hx := (h.disk i x hx).only ho (h1 x (List.mem_of_getElem? hx)).1 (h1 x (List.mem_of_getElem? hx)).2
  far := h.far
  gm := h.gm
  gs := h.gs
theorem At2.or {p q : Nat} {A B C : World → Prop} {d : Array Bool} {w : World} (hq : d.getD q false = false) (h : At2 p q A B C d w) : A w ∨ B w := by
  unfold At2 at h
  rw [hq] at h
  simp only [Bool.false_eq_true, if_false] at h
  split at h
  · exact .inr h
  · exact .inl h
theorem info_cell : (Try.prog.info? 92).map (fun i => (i.zero, i.size, i.bytes)) = some (some (.agg Cel.zero.cells.toArray), 17, 20) := by kernel_rfl
/-- one write to a disk of the set -/
theorem SetAt.put {w w' : World} {gd bm n : Nat} {ds : List Dk} {K : Nat} {x : Dk} {D : Dsk} (h : SetAt w gd bm n ds) (hx : ds[K]? = some x) (hd : DiskAt w' x.1 bm x.2.1 n D) (ho : Only [bm, x.2.1] w w') : SetAt w' gd bm n (ds.set K (x.1, x.2.1, D)) where
  ptr i y hy := by
    have hy' : ∃ z : Dk, ds[i]? = some z ∧ y.1 = z.1 := by
      by_cases e : K = i
      · subst e
        rw [List.getElem?_set_self (List.getElem?_eq_some_iff.1 hx).1] at hy
        cases hy
        exact ⟨x, hx, rfl⟩
      · rw [List.getElem?_set_ne e] at hy
        exact ⟨y, hy, rfl⟩
    obtain ⟨z, hz, e⟩ := hy'
    have := h.ptr i z hz
    rw [cell_only ho (block_lt_of_cell this) (by simp [h.gm, h.gs x (List.mem_of_getElem? hx)]), e]
    exact this
  disk i y hy := by
    by_cases e : K = i
    · subst e
      rw [List.getElem?_set_self (List.getElem?_eq_some_iff.1 hx).1] at hy
      cases hy
      exact hd
    · rw [List.getElem?_set_ne e] at hy
      have hdy := h.disk i y hy
      have hf := h.far i K y x (fun e' => e e'.symm) hy hx
      exact hdy.only ho (by simp [hdy.ne1, hf.2.2]) (by simp [hdy.ne2, hf.2.1])
  far i j y z hij hy hz := by
    have hh : ∀ (i : Nat) (y : Dk), (ds.set K (x.1, x.2.1, D))[i]? = some y → ∃ y' : Dk, ds[i]? = some y' ∧ y.1 = y'.1 ∧ y.2.1 = y'.2.1 := by
      intro i y hy
      by_cases e : K = i
      · subst e
        rw [List.getElem?_set_self (List.getElem?_eq_some_iff.1 hx).1] at hy
        cases hy
        exact ⟨x, hx, rfl, rfl⟩
      · rw [List.getElem?_set_ne e] at hy
        exact ⟨y, hy, rfl, rfl⟩
    obtain ⟨y', h1, h2, h3⟩ := hh i y hy
    obtain ⟨z', k1, k2, k3⟩ := hh j z hz
    rw [h2, h3, k2, k3]
    exact h.far i j y' z' hij h1 k1
  gm := h.gm
  gs y hy := by
    rcases List.mem_or_eq_of_mem_set hy with h1 | h1
    · exact h.gs y h1
    · subst h1; exact h.gs x (List.mem_of_getElem? hx)
theorem size_c {bd bs n : Nat} (w : World) (c1 : w.cell? ⟨bd, 1, none⟩ = some (.slice (some ⟨bs, 0, none⟩) n n)) : Calls Try.prog 43 #[.pointer (some ⟨bd, 0, none⟩)] w fun e w' => e = .returned (.int .i64 (n : Int)) ∧ w = w' := by
  go_enter Try.func43, Try.ntmps43
  go_wp2_with fail
  go_ret
  exact ⟨rfl, rfl⟩
set_option maxHeartbeats 4000000 in
theorem apply_ok {d c s : Int} (h : Sound d c s) {gd bm n cap : Nat} {ds : List Dk} {w : World} {p : Pow} (S : SetAt w gd bm n ds) (hp : PowAt w bm p) (hn : (n : Int) = c * s) (hd : (ds.length : Int) = d) (hcap : ds.length ≤ cap) (hoff : p.off = false) (hleft : p.left = 0)
    {a : Option Addr} {m cc : Nat} {puts : List Put} (hs : Sl w putV 19 a m cc puts) (hq : ∀ q ∈ puts, q.1 < ds.length ∧ q.2.1 < n ∧ q.2.2.Ok) (hm : m ≤ 1000) (hst : p.steps + m ≤ 4611686018427387904) (hne : m ≠ 0 → ∀ b o, a = some ⟨b, o, none⟩ → b ≠ bm ∧ ∀ x ∈ ds, b ≠ x.2.1) {ep : Nat} (hep : ep < 4294967296) (hds : ∀ x ∈ ds, x.2.2.dead = false ∧ x.2.2.key ≤ ep) :
    Calls Try.prog 20 #[.agg (setV d c s gd ds.length cap).toArray, .slice a m cc, .int .u32 (ep : Int)] w fun e w' => e = .returned (.int .i64 0) ∧ SetAt w' gd bm n (putAll ds puts) ∧ PowAt w' bm ⟨false, 0, p.steps + m⟩ ∧ Only (bm :: ds.map fun x => x.2.1) w w' := by
  obtain ⟨k, hk⟩ : ∃ k, k = ds.length := ⟨_, rfl⟩
  have k1 : k ≤ 32 := by have := h.1; omega
  have k0 : 4 ≤ k := by have := h.1; omega
  have hn1 : n ≤ 512 := by
    have := mul_bd (a := c) (b := s) (A := 8) (B := 64) (by have := h.2.1; omega) (by have := h.2.1; omega) (by have := h.2.2; omega) (by have := h.2.2; omega)
    omega
  have CK := Lib.hid (fun (w' : World) (hb : Below w.heap.size w w') => check_any h (S.below hb (Nat.le_refl _)) hn hd hcap)
  rw [← hk] at CK hq ⊢
  have hpl : puts.length = m := hs.1
  have HS := Lib.hid hs
  have HSET := Lib.hid S
  have HP := Lib.hid hp
  have HQ := Lib.hid hq
  have HK := Lib.hid hk
  have HPL := Lib.hid hpl
  have HNE := Lib.hid hne
  have HDS := Lib.hid hds
  have HOFF := Lib.hid hoff
  have HLEFT := Lib.hid hleft
  clear S hs hp hq hn hd hcap hk hpl hne hds h hoff hleft
  have Zs := Lib.hid (show Blk (w.alloc (.cells #[.int .i64 d, .int .i64 c, .int .i64 s, .slice (some ⟨gd, 0, none⟩) k cap] 60)) w.heap.size [.int .i64 d, .int .i64 c, .int .i64 s, .slice (some ⟨gd, 0, none⟩) k cap] 60 from blk_at rfl rfl)
  have Zl := Lib.hid (show Below w.heap.size w (w.alloc (.cells #[.int .i64 d, .int .i64 c, .int .i64 s, .slice (some ⟨gd, 0, none⟩) k cap] 60)) from (Below.refl w.heap.size w).alloc (Nat.le_refl _) _)
  unfold setV
  go_enter Try.func20, Try.ntmps20
  go_upto_region 4 with (first | (go_at_call 37; go_must (refine (CK.out _ Zl.out).mono ?_; rintro e w2 ⟨rfl, hb2⟩; have B2 := Lib.hid hb2; clear hb2)))
  have S2 := Lib.hid (Zs.out.below B2.out Zs.out.lt)
  have L2 := Lib.hid (Zl.out.trans (B2.out.mono Zl.out.size))
  clear Zs Zl B2 CK
  go_wp2_with fail
  go_loopw [21] (fun i wr => ∃ q : Nat, q ≤ m ∧ i = .int .i64 q ∧ Below w.heap.size w wr ∧ Blk wr w.heap.size [.int .i64 d, .int .i64 c, .int .i64 s, .slice (some ⟨gd, 0, none⟩) k cap] 60) (fun i _ => m - (intOf i).toNat)
  case atStart => exact ⟨0, by omega, rfl, L2.out, S2.out⟩
  case round =>
    obtain ⟨q, hq, rfl, hbl, hsb⟩ := hrel
    have L3 := Lib.hid hbl
    have S3 := Lib.hid hsb
    have s3 := hbl.size
    clear hbl hsb
    by_cases hqm : q < m
    · obtain ⟨P, hP⟩ : ∃ P, puts[q]? = some P := ⟨_, List.getElem?_eq_getElem (by rw [HPL.out]; exact hqm)⟩
      obtain ⟨q1, q2, q3⟩ := HQ.out P (List.mem_of_getElem? hP)
      obtain ⟨b, o, rfl, hat⟩ := HS.out.at hP
      have hat2 : ∀ (j : Nat) (u : Value), (putV P)[j]? = some u → wr.cell? ⟨b, o + q * 19 + j, none⟩ = some u := fun j u hu => by
        have := hat j u hu
        rw [L3.out.cell (p := ⟨b, o + q * 19 + j, none⟩) (block_lt_of_cell this)]
        exact this
      have AT := Lib.hid hat2
      have P19 := Lib.hid (putV_len q3)
      have PL := Lib.hid (show putV P = [.int .i64 (P.1 : Int), .int .i64 (P.2.1 : Int)] ++ P.2.2.cells from rfl)
      have Z := Lib.hid (show Blk (wr.alloc (.cells #[.int .i64 0, .int .i64 0, .int .u8 0, .int .u8 0, .int .u8 0, .int .u8 0, .int .u8 0, .int .u8 0, .int .u8 0, .int .u8 0, .int .u8 0, .int .u8 0, .int .u8 0, .int .u8 0, .int .u8 0, .int .u8 0, .int .u8 0, .int .u8 0, .int .u32 0] 122)) wr.heap.size [.int .i64 0, .int .i64 0, .int .u8 0, .int .u8 0, .int .u8 0, .int .u8 0, .int .u8 0, .int .u8 0, .int .u8 0, .int .u8 0, .int .u8 0, .int .u8 0, .int .u8 0, .int .u8 0, .int .u8 0, .int .u8 0, .int .u8 0, .int .u8 0, .int .u32 0] 122 from blk_at rfl rfl)
      have D0 := Lib.hid (HSET.out.ptr 0)
      clear hat hat2 hP q3
      go_upto_region 7 with (first
        | (refine wpList_value_g rfl (.agg (putV P).toArray) (exec_load_from (ad := ⟨b, o + q * 19, none⟩) (m := 19) rfl rfl (fun j u hu => by rw [Addr.add_lit]; exact AT.out j u hu) Try.underlying122 rfl (by kernel_rfl) P19.out) ?_)
        | (refine wpList_store_blk rfl 122 _ _ rfl wr.heap.size 0 19 rfl 122 _ (putV P) rfl Z.out (by kernel_rfl) P19.out (by decide) (putV_one P) ?_; intro w4 z4 g4; rw [put_all _ _ (by rw [P19.out]; rfl)] at z4; have Z4 := Lib.hid z4; have B4 := Lib.hid (below_grown ((Below.refl wr.heap.size wr).alloc (Nat.le_refl _) _) g4 (by simp) (Nat.le_refl _)); clear z4 g4))
      have L4 := Lib.hid (L3.out.trans (B4.out.mono s3))
      have S4 := Lib.hid (S3.out.below B4.out S3.out.lt)
      have ST4 := Lib.hid (HSET.out.below L4.out (Nat.le_refl _))
      obtain ⟨x0, hx0⟩ : ∃ x0, ds[0]? = some x0 := ⟨_, List.getElem?_eq_getElem (by rw [← HK.out]; omega)⟩
      have hp0 := ST4.out.ptr 0 x0 hx0
      have z1 := (ST4.out.disk 0 x0 hx0).c1
      have c3 := S4.out.cell 3
      have p0 := Z4.out.cell 0
      have p1 := Z4.out.cell 1
      rw [PL.out] at p0 p1
      simp only [List.getElem?_cons_zero, List.getElem?_cons_succ, List.cons_append, List.nil_append] at c3 p0 p1
      obtain ⟨bd0, bs0, D0'⟩ := x0
      simp only at hp0 z1
      clear hx0 D0
      go_upto_region 7 with (fail)
      have e1 : decide ((P.1 : Int) < 0) = false := decide_eq_false (by omega)
      have e2 : decide ((k : Int) ≤ (P.1 : Int)) = false := decide_eq_false (by omega)
      have e3 : decide ((P.2.1 : Int) < 0) = false := decide_eq_false (by omega)
      have e4 : decide ((n : Int) ≤ (P.2.1 : Int)) = false := decide_eq_false (by omega)
      have kz : (0 : Int) < (k : Int) := by omega
      have kn : 0 < k := by omega
      have e5 : decide (k ≤ P.1) = false := decide_eq_false (by omega)
      have e6 : decide (n ≤ P.2.1) = false := decide_eq_false (by omega)
      go_region_held3 (fun w' => w'.cell? ⟨w.heap.size, 3, none⟩ = some (.slice (some ⟨gd, 0, none⟩) k cap) ∧ w'.cell? ⟨wr.heap.size, 0, none⟩ = some (.int .i64 (P.1 : Int)) ∧ w'.cell? ⟨wr.heap.size, 1, none⟩ = some (.int .i64 (P.2.1 : Int)) ∧ w'.cell? ⟨gd, 0, none⟩ = some (.pointer (some ⟨bd0, 0, none⟩)) ∧ w'.cell? ⟨bd0, 1, none⟩ = some (.slice (some ⟨bs0, 0, none⟩) n n)) (go_keep)
        (first | (go_at_call 43; refine (size_c (bs := bs0) (n := n) w4.drew z1).mono ?_; rintro e w' ⟨rfl, rfl⟩))
      go_wp2_with fail
      go_roundw
      case rel => exact ⟨q + 1, by omega, by go_num, L4.out.drew, S4.out.drew⟩
      case measure => simp [intOf]; omega
    · obtain rfl : q = m := by omega
      obtain ⟨w5, rfl⟩ : ∃ w5, w5 = wr := ⟨wr, rfl⟩
      go_wp2_with fail
      go_loopw [58] (fun i w' => ∃ q' : Nat, q' ≤ q ∧ i = .int .i64 q' ∧ SetAt w' gd bm n (putAll ds (puts.take q')) ∧ PowAt w' bm ⟨false, 0, p.steps + q'⟩ ∧ Only (bm :: ds.map fun x => x.2.1) w5 w') (fun i _ => q - (intOf i).toNat)
      case atStart => exact ⟨0, by omega, rfl, by simpa [putAll] using HSET.out.below L3.out (Nat.le_refl _), by
        have hpw := HP.out.below L3.out HP.out.lt
        have e : p = ⟨false, 0, p.steps + 0⟩ := by
          have h1 := HOFF.out
          have h2 := HLEFT.out
          cases p
          simp only at h1 h2
          subst h1
          subst h2
          rfl
        rw [← e]
        exact hpw, Only.refl _ _⟩
      case round =>
        obtain ⟨q', hq', rfl, hset, hpow, honly⟩ := hrel
        have ST := Lib.hid hset
        have PW := Lib.hid hpow
        have HO := Lib.hid honly
        have so := honly.size
        clear hset hpow honly
        by_cases hqm : q' < q
        · obtain ⟨P, hP⟩ : ∃ P, puts[q']? = some P := ⟨_, List.getElem?_eq_getElem (by rw [HPL.out]; exact hqm)⟩
          obtain ⟨q1, q2, q3⟩ := HQ.out P (List.mem_of_getElem? hP)
          obtain ⟨b, o, rfl, hat⟩ := HS.out.at hP
          have hnb := HNE.out (by omega) b o rfl
          have hbS : b ∉ (bm :: ds.map fun x => x.2.1) := by
            simp only [List.mem_cons, List.mem_map, not_or, not_exists, not_and]
            exact ⟨hnb.1, fun x hx e => hnb.2 x hx e.symm⟩
          have hat2 : ∀ (j : Nat) (u : Value), (putV P)[j]? = some u → wr.cell? ⟨b, o + q' * 19 + j, none⟩ = some u := fun j u hu => by
            have h1 := hat j u hu
            have h2 := block_lt_of_cell h1
            rw [cell_only HO.out (Nat.lt_of_lt_of_le h2 s3) hbS, L3.out.cell (p := ⟨b, o + q' * 19 + j, none⟩) h2]
            exact h1
          have AT := Lib.hid hat2
          have P19 := Lib.hid (putV_len q3)
          have C17 := Lib.hid (Cel.len q3)
          have PL := Lib.hid (show putV P = [.int .i64 (P.1 : Int), .int .i64 (P.2.1 : Int)] ++ P.2.2.cells from rfl)
          have Z := Lib.hid (show Blk (wr.alloc (.cells #[.int .i64 0, .int .i64 0, .int .u8 0, .int .u8 0, .int .u8 0, .int .u8 0, .int .u8 0, .int .u8 0, .int .u8 0, .int .u8 0, .int .u8 0, .int .u8 0, .int .u8 0, .int .u8 0, .int .u8 0, .int .u8 0, .int .u8 0, .int .u8 0, .int .u32 0] 122)) wr.heap.size [.int .i64 0, .int .i64 0, .int .u8 0, .int .u8 0, .int .u8 0, .int .u8 0, .int .u8 0, .int .u8 0, .int .u8 0, .int .u8 0, .int .u8 0, .int .u8 0, .int .u8 0, .int .u8 0, .int .u8 0, .int .u8 0, .int .u8 0, .int .u8 0, .int .u32 0] 122 from blk_at rfl rfl)
          have hbox : w.heap.size ∉ (bm :: ds.map fun x => x.2.1) := by
            simp only [List.mem_cons, List.mem_map, not_or, not_exists, not_and]
            refine ⟨by have := HP.out.lt; omega, fun x hx e => ?_⟩
            obtain ⟨i, hi⟩ := List.getElem?_of_mem hx
            have := (HSET.out.disk i x hi).body.lt
            omega
          have S3r := Lib.hid (S3.out.only HO.out hbox)
          have PKs := Lib.hid (putAll_snoc ds hP)
          have Q3 := Lib.hid q3
          clear hat hat2 hP q3 hbS hbox
          go_upto_region 13 with (first
            | (refine wpList_value_g rfl (.agg (putV P).toArray) (exec_load_from (ad := ⟨b, o + q' * 19, none⟩) (m := 19) rfl rfl (fun j u hu => by rw [Addr.add_lit]; exact AT.out j u hu) Try.underlying122 rfl (by kernel_rfl) P19.out) ?_)
            | (refine wpList_store_blk rfl 122 _ _ rfl wr.heap.size 0 19 rfl 122 _ (putV P) rfl Z.out (by kernel_rfl) P19.out (by decide) (putV_one P) ?_; intro w4 z4 g4; rw [put_all _ _ (by rw [P19.out]; rfl)] at z4; have Z4 := Lib.hid z4; have B4 := Lib.hid (below_grown ((Below.refl wr.heap.size wr).alloc (Nat.le_refl _) _) g4 (by simp) (Nat.le_refl _)); clear z4 g4))
          have s4 := B4.out.size
          have S4 := Lib.hid (S3r.out.below B4.out S3r.out.lt)
          have ST4 := Lib.hid (ST.out.below B4.out (Nat.le_refl _))
          have PW4 := Lib.hid (PW.out.below B4.out PW.out.lt)
          have O4 := Lib.hid (HO.out.trans (Only.of_below B4.out))
          obtain ⟨x, hx⟩ : ∃ x, (putAll ds (puts.take q'))[P.1]? = some x := ⟨_, List.getElem?_eq_getElem (by rw [putAll_len, ← HK.out]; exact q1)⟩
          obtain ⟨x0, hx0, ex1, ex2, ex3, ex4⟩ := putAll_at _ _ hx
          have hd0 := HDS.out x0 (List.mem_of_getElem? hx0)
          have hDk := ST4.out.disk P.1 x hx
          have hptr := ST4.out.ptr P.1 x hx
          have hxm : x.2.1 ∈ (bm :: ds.map fun x => x.2.1) := by
            rw [ex2]
            exact List.mem_cons_of_mem _ (List.mem_map.2 ⟨x0, List.mem_of_getElem? hx0, rfl⟩)
          have PUT := Lib.hid (fun (w' : World) (D : Dsk) (hd : DiskAt w' x.1 bm x.2.1 n D) (ho : Only [bm, x.2.1] w4 w') => ST4.out.put hx hd ho)
          have hone := putOne_some (q := P) hx
          rw [← PKs.out] at hone
          have HONE := Lib.hid hone
          obtain ⟨bd, bs, D⟩ := x
          simp only at ex1 ex2 ex3 ex4 hDk hptr hxm PUT HONE
          have hgd4 : gd < w4.heap.size := block_lt_of_cell hptr
          have hz4 := Z4.out.lt
          have hs4 := S4.out.lt
          have FA := Lib.hid (fun (w' : World) (hb : Below w4.heap.size w4 w') => show w'.cell? ⟨w.heap.size, 3, none⟩ = some (.slice (some ⟨gd, 0, none⟩) k cap) ∧ w'.cell? ⟨wr.heap.size, 0, none⟩ = some (.int .i64 (P.1 : Int)) ∧ w'.cell? ⟨wr.heap.size, 1, none⟩ = some (.int .i64 (P.2.1 : Int)) ∧ w'.cell? ⟨gd, P.1, none⟩ = some (.pointer (some ⟨bd, 0, none⟩)) from by
            rw [hb.cell (p := ⟨w.heap.size, 3, none⟩) hs4, hb.cell (p := ⟨wr.heap.size, 0, none⟩) hz4, hb.cell (p := ⟨wr.heap.size, 1, none⟩) hz4, hb.cell (p := ⟨gd, P.1, none⟩) hgd4, S4.out.cell, Z4.out.cell, Z4.out.cell]
            exact ⟨rfl, rfl, rfl, hptr⟩)
          have CC := Lib.hid (fun (w' : World) (hb : Below w4.heap.size w4 w') (j : Nat) (u : Value) (hu : P.2.2.cells[j]? = some u) => show w'.cell? ⟨wr.heap.size, 2 + j, none⟩ = some u from by
            rw [hb.cell (p := ⟨wr.heap.size, 2 + j, none⟩) hz4, Z4.out.cell, PL.out, List.getElem?_append_right (by simp), show 2 + j - [Value.int .i64 (P.1 : Int), Value.int .i64 (P.2.1 : Int)].length = j from by simp]
            exact hu)
          have BL := Lib.hid (fun (w' : World) (h : w' = w4.drew ∨ w' = w4.drew.alloc (.cells P.2.2.cells.toArray 92)) => show Below w4.heap.size w4 w' from by
            rcases h with rfl | rfl
            · exact (Below.refl _ _).drew
            · exact (Below.refl _ _).drew.alloc (Nat.le_refl _) _)
          have hstp : p.steps + q' + 1 ≤ 4611686018427387904 := by omega
          have WB := Lib.hid (BL.out _ (.inr rfl))
          have WR := Lib.hid (show Calls Try.prog 34 #[.pointer (some ⟨bd, 0, none⟩), .int .i64 (P.2.1 : Int), .slice (some ⟨w4.heap.size, 0, none⟩) 1 1, .int .u32 (ep : Int)] (w4.drew.alloc (.cells P.2.2.cells.toArray 92)) fun e w' => e = .returned (.tuple #[.int .i64 1, .int .i64 0]) ∧ (SetAt w' gd bm n (putAll ds (puts.take (q' + 1))) ∧ PowAt w' bm ⟨false, 0, p.steps + (q' + 1)⟩ ∧ Only (bm :: ds.map fun x => x.2.1) w5 w') from by
            have hsl : Sl (w4.drew.alloc (.cells P.2.2.cells.toArray 92)) Cel.cells 17 (some ⟨w4.heap.size, 0, none⟩) 1 1 [P.2.2] := sl_blk (t := 92) (by rw [flat_one]; exact blk_at rfl rfl) (fun x hx => by simp at hx; subst hx; exact Cel.len Q3.out) rfl (Nat.le_refl _) (by decide)
            have hw := write_at (D := D) (p := ⟨false, 0, p.steps + q'⟩) { hDk with head := hDk.head.below WB.out hDk.head.lt, body := hDk.body.below WB.out hDk.body.lt } (PW4.out.below WB.out PW4.out.lt) ⟨Nat.zero_le _, by show p.steps + q' ≤ _; omega⟩ P.2.1 (P.2.1 : Int) rfl (some ⟨w4.heap.size, 0, none⟩) 1 1 ep (ep : Int) rfl [P.2.2] hsl (fun x hx => by simp at hx; subst hx; exact Q3.out) (by omega) (by show p.steps + q' + 1 ≤ _; omega) (fun b o e _ => by
              cases e
              have h1 := PW4.out.lt
              have h2 := hDk.body.lt
              simp only [List.mem_cons, List.not_mem_nil, or_false, not_or]
              omega) (by unfold Dsk.refuse; rw [if_neg (show ¬ false = true from by decide), if_neg (by rw [ex4, hd0.1]; decide), if_neg (by rw [ex3]; omega)]) 1 ⟨false, 0, p.steps + q' + 1⟩ (D.secs.set P.2.1 ⟨P.2.2, true⟩) (by simp [wrs, Pow.step]) 1 0 rfl (by simp [wErr])
            refine hw.mono fun e w' he => ⟨he.1, ?_, ?_, ?_⟩
            · rw [HONE.out]
              exact PUT.out w' _ he.2.2.1 ((Only.of_below WB.out).trans he.2.2.2)
            · exact he.2.1
            · exact O4.out.trans ((Only.of_below WB.out).trans (he.2.2.2.mono (fun y hy => by
                simp only [List.mem_cons, List.not_mem_nil, or_false] at hy
                rcases hy with rfl | rfl
                · exact List.mem_cons_self
                · exact hxm))))
          clear PUT HONE hDk hptr hxm hx hx0 hd0 ex1 ex2 ex3 ex4
          refine wp_region_gate_tail (fun d w' => At2 12 14 (fun w' => w' = w4.drew) (fun w' => w' = w4.drew.alloc (.cells P.2.2.cells.toArray 92)) (fun w' => SetAt w' gd bm n (putAll ds (puts.take (q' + 1))) ∧ PowAt w' bm ⟨false, 0, p.steps + (q' + 1)⟩ ∧ Only (bm :: ds.map fun x => x.2.1) w5 w') d w') 19 (by kernel_rfl) (by kernel_rfl) (At2.start (by kernel_rfl) (by kernel_rfl) rfl) ?_
          simp only [List.take_succ_cons, List.take_zero, List.drop_succ_cons, List.drop_zero]
          refine invc_value (.pointer (some ⟨w.heap.size, 3, none⟩)) (fun u hu => by cases hu) rfl (fun d w' hd hG h => by have hb := BL.out w' (At2.or (undone hG.2 hd (by kernel_rfl : leansB _ 0 20 14 = true)) h); have f0 := (FA.out w' hb).1; have f1 := (FA.out w' hb).2.1; have f2 := (FA.out w' hb).2.2.1; have f3 := (FA.out w' hb).2.2.2; clear h hb hG hd; go_simp; all_goals (first | rfl | omega)) (fun d w' _ _ h => h.keep (by decide) (by decide)) ?_
          simp only [Act.put, List.setIfInBounds_toArray, List.set_cons_zero, List.set_cons_succ]
          refine invc_value (.slice (some ⟨gd, 0, none⟩) k cap) (fun u hu => by cases hu) rfl (fun d w' hd hG h => by have hb := BL.out w' (At2.or (undone hG.2 hd (by kernel_rfl : leansB _ 1 20 14 = true)) h); have f0 := (FA.out w' hb).1; have f1 := (FA.out w' hb).2.1; have f2 := (FA.out w' hb).2.2.1; have f3 := (FA.out w' hb).2.2.2; clear h hb hG hd; go_simp; all_goals (first | rfl | omega)) (fun d w' _ _ h => h.keep (by decide) (by decide)) ?_
          simp only [Act.put, List.setIfInBounds_toArray, List.set_cons_zero, List.set_cons_succ]
          refine invc_value (.pointer (some ⟨wr.heap.size, 0, none⟩)) (fun u hu => by cases hu) rfl (fun d w' hd hG h => by have hb := BL.out w' (At2.or (undone hG.2 hd (by kernel_rfl : leansB _ 2 20 14 = true)) h); have f0 := (FA.out w' hb).1; have f1 := (FA.out w' hb).2.1; have f2 := (FA.out w' hb).2.2.1; have f3 := (FA.out w' hb).2.2.2; clear h hb hG hd; go_simp; all_goals (first | rfl | omega)) (fun d w' _ _ h => h.keep (by decide) (by decide)) ?_
          simp only [Act.put, List.setIfInBounds_toArray, List.set_cons_zero, List.set_cons_succ]
          refine invc_value (.pointer (some ⟨wr.heap.size, 0, none⟩)) (fun u hu => by cases hu) rfl (fun d w' hd hG h => by have hb := BL.out w' (At2.or (undone hG.2 hd (by kernel_rfl : leansB _ 3 20 14 = true)) h); have f0 := (FA.out w' hb).1; have f1 := (FA.out w' hb).2.1; have f2 := (FA.out w' hb).2.2.1; have f3 := (FA.out w' hb).2.2.2; clear h hb hG hd; go_simp; all_goals (first | rfl | omega)) (fun d w' _ _ h => h.keep (by decide) (by decide)) ?_
          simp only [Act.put, List.setIfInBounds_toArray, List.set_cons_zero, List.set_cons_succ]
          refine invc_value (.int .i64 (P.1 : Int)) (fun u hu => by cases hu) rfl (fun d w' hd hG h => by have hb := BL.out w' (At2.or (undone hG.2 hd (by kernel_rfl : leansB _ 4 20 14 = true)) h); have f0 := (FA.out w' hb).1; have f1 := (FA.out w' hb).2.1; have f2 := (FA.out w' hb).2.2.1; have f3 := (FA.out w' hb).2.2.2; clear h hb hG hd; go_simp; all_goals (first | rfl | omega)) (fun d w' _ _ h => h.keep (by decide) (by decide)) ?_
          simp only [Act.put, List.setIfInBounds_toArray, List.set_cons_zero, List.set_cons_succ]
          refine invc_value (.pointer (some ⟨gd, P.1, none⟩)) (fun u hu => by cases hu) rfl (fun d w' hd hG h => by have hb := BL.out w' (At2.or (undone hG.2 hd (by kernel_rfl : leansB _ 5 20 14 = true)) h); have f0 := (FA.out w' hb).1; have f1 := (FA.out w' hb).2.1; have f2 := (FA.out w' hb).2.2.1; have f3 := (FA.out w' hb).2.2.2; clear h hb hG hd; go_simp; all_goals (first | rfl | omega)) (fun d w' _ _ h => h.keep (by decide) (by decide)) ?_
          simp only [Act.put, List.setIfInBounds_toArray, List.set_cons_zero, List.set_cons_succ]
          refine invc_value (.pointer (some ⟨bd, 0, none⟩)) (fun u hu => by cases hu) rfl (fun d w' hd hG h => by have hb := BL.out w' (At2.or (undone hG.2 hd (by kernel_rfl : leansB _ 6 20 14 = true)) h); have f0 := (FA.out w' hb).1; have f1 := (FA.out w' hb).2.1; have f2 := (FA.out w' hb).2.2.1; have f3 := (FA.out w' hb).2.2.2; clear h hb hG hd; go_simp; all_goals (first | rfl | omega)) (fun d w' _ _ h => h.keep (by decide) (by decide)) ?_
          simp only [Act.put, List.setIfInBounds_toArray, List.set_cons_zero, List.set_cons_succ]
          refine invc_value (.pointer (some ⟨wr.heap.size, 0, none⟩)) (fun u hu => by cases hu) rfl (fun d w' hd hG h => by have hb := BL.out w' (At2.or (undone hG.2 hd (by kernel_rfl : leansB _ 7 20 14 = true)) h); have f0 := (FA.out w' hb).1; have f1 := (FA.out w' hb).2.1; have f2 := (FA.out w' hb).2.2.1; have f3 := (FA.out w' hb).2.2.2; clear h hb hG hd; go_simp; all_goals (first | rfl | omega)) (fun d w' _ _ h => h.keep (by decide) (by decide)) ?_
          simp only [Act.put, List.setIfInBounds_toArray, List.set_cons_zero, List.set_cons_succ]
          refine invc_value (.pointer (some ⟨wr.heap.size, 1, none⟩)) (fun u hu => by cases hu) rfl (fun d w' hd hG h => by have hb := BL.out w' (At2.or (undone hG.2 hd (by kernel_rfl : leansB _ 8 20 14 = true)) h); have f0 := (FA.out w' hb).1; have f1 := (FA.out w' hb).2.1; have f2 := (FA.out w' hb).2.2.1; have f3 := (FA.out w' hb).2.2.2; clear h hb hG hd; go_simp; all_goals (first | rfl | omega)) (fun d w' _ _ h => h.keep (by decide) (by decide)) ?_
          simp only [Act.put, List.setIfInBounds_toArray, List.set_cons_zero, List.set_cons_succ]
          refine invc_value (.int .i64 (P.2.1 : Int)) (fun u hu => by cases hu) rfl (fun d w' hd hG h => by have hb := BL.out w' (At2.or (undone hG.2 hd (by kernel_rfl : leansB _ 9 20 14 = true)) h); have f0 := (FA.out w' hb).1; have f1 := (FA.out w' hb).2.1; have f2 := (FA.out w' hb).2.2.1; have f3 := (FA.out w' hb).2.2.2; clear h hb hG hd; go_simp; all_goals (first | rfl | omega)) (fun d w' _ _ h => h.keep (by decide) (by decide)) ?_
          simp only [Act.put, List.setIfInBounds_toArray, List.set_cons_zero, List.set_cons_succ]
          refine invc_value (.pointer (some ⟨wr.heap.size, 2, none⟩)) (fun u hu => by cases hu) rfl (fun d w' hd hG h => by have hb := BL.out w' (At2.or (undone hG.2 hd (by kernel_rfl : leansB _ 10 20 14 = true)) h); have f0 := (FA.out w' hb).1; have f1 := (FA.out w' hb).2.1; have f2 := (FA.out w' hb).2.2.1; have f3 := (FA.out w' hb).2.2.2; clear h hb hG hd; go_simp; all_goals (first | rfl | omega)) (fun d w' _ _ h => h.keep (by decide) (by decide)) ?_
          simp only [Act.put, List.setIfInBounds_toArray, List.set_cons_zero, List.set_cons_succ]
          refine invc_value (.agg P.2.2.cells.toArray) (fun u hu => by cases hu) rfl (fun d w' hd hG h => exec_load_from (ad := ⟨wr.heap.size, 2, none⟩) (m := 17) rfl rfl (fun j u hu => by have hb := BL.out w' (At2.or (undone hG.2 hd (by kernel_rfl : leansB _ 11 20 14 = true)) h); rw [Addr.add_lit]; exact CC.out w' hb j u hu) Try.underlying92 rfl (by kernel_rfl) C17.out) (fun d w' _ _ h => h.keep (by decide) (by decide)) ?_
          simp only [Act.put, List.setIfInBounds_toArray, List.set_cons_zero, List.set_cons_succ]
          refine invc_world (.slice (some ⟨w4.heap.size, 0, none⟩) 1 1) (fun u hu => by cases hu) rfl (fun d w' hd hG h => by
            have hA := (h.at_p hd).1
            subst hA
            exact ⟨_, exec_build_one rfl rfl Try.underlying94 info_cell C17.out (by decide) (by decide), h.did_p (by decide) hd rfl⟩) ?_
          simp only [Act.put, List.setIfInBounds_toArray, List.set_cons_zero, List.set_cons_succ]
          refine invc_value (.int .u32 (ep : Int)) (fun u hu => by cases hu) rfl (fun d w' hd hG h => by clear h; go_simp) (fun d w' _ _ h => h.keep (by decide) (by decide)) ?_
          simp only [Act.put, List.setIfInBounds_toArray, List.set_cons_zero, List.set_cons_succ]
          refine invc_call (.tuple #[.int .i64 1, .int .i64 0]) (fun u hu => by cases hu) rfl 34 #[.pointer (some ⟨bd, 0, none⟩), .int .i64 (P.2.1 : Int), .slice (some ⟨w4.heap.size, 0, none⟩) 1 1, .int .u32 (ep : Int)] (fun d w' h => by go_simp) (fun d w' hd hG h => by
            have hp12 := hG.of (p := 12) (by kernel_rfl)
            have hB := h.at_q hd hp12
            subst hB
            exact WR.out.mono fun e w' he => ⟨he.1, At2.did_q (by decide) hd hp12 he.2⟩) ?_
          simp only [Act.put, List.setIfInBounds_toArray, List.set_cons_zero, List.set_cons_succ]
          refine invc_value (.tuple #[.int .i64 1, .int .i64 0]) (fun u hu => by cases hu) rfl (fun d w' hd hG h => by clear h; go_simp) (fun d w' _ _ h => h.keep (by decide) (by decide)) ?_
          simp only [Act.put, List.setIfInBounds_toArray, List.set_cons_zero, List.set_cons_succ]
          refine invc_value (.int .i64 1) (fun u hu => by cases hu) rfl (fun d w' hd hG h => by clear h; go_simp) (fun d w' _ _ h => h.keep (by decide) (by decide)) ?_
          simp only [Act.put, List.setIfInBounds_toArray, List.set_cons_zero, List.set_cons_succ]
          refine invc_value (.int .i64 0) (fun u hu => by cases hu) rfl (fun d w' hd hG h => by clear h; go_simp) (fun d w' _ _ h => h.keep (by decide) (by decide)) ?_
          simp only [Act.put, List.setIfInBounds_toArray, List.set_cons_zero, List.set_cons_succ]
          refine invc_value (.int .i64 1) (fun u hu => by cases hu) rfl (fun d w' hd hG h => by clear h; go_simp) (fun d w' _ _ h => h.keep (by decide) (by decide)) ?_
          simp only [Act.put, List.setIfInBounds_toArray, List.set_cons_zero, List.set_cons_succ]
          refine invc_nil fun w6 hI => ?_
          have hF : SetAt w6 gd bm n (putAll ds (puts.take (q' + 1))) ∧ PowAt w6 bm ⟨false, 0, p.steps + (q' + 1)⟩ ∧ Only (bm :: ds.map fun x => x.2.1) w5 w6 := by
            unfold At2 at hI
            rw [if_pos (by kernel_rfl)] at hI
            exact hI.2
          have FS := Lib.hid hF
          clear hI hF FA CC BL WR WB
          go_wp2_with fail
          go_roundw
          case rel => exact ⟨q' + 1, by omega, by go_num, FS.out.1, FS.out.2.1, FS.out.2.2⟩
          case measure => simp [intOf]; omega
        · obtain rfl : q' = q := by omega
          have hst2 := ST.out
          rw [List.take_of_length_le (by rw [HPL.out]; omega)] at hst2
          have ST := Lib.hid hst2
          clear hst2
          go_wp2_with fail
          go_ret
          exact ⟨rfl, ST.out, PW.out, (Only.of_below L3.out).trans HO.out⟩
end Go.Proofs.Ytgnnjinpcdemiaa.Str
