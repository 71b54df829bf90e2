/-
  What a scan reads: plain. Helper text; no statement is proved here.
-/
import Derived.Test.YtobblbplanimgaaRecs
set_option linter.unusedVariables false
set_option maxRecDepth 20000
set_option linter.unusedSimpArgs false
namespace Go.Proofs.Ytobblbplanimgaa.Codec
open Go.RowKit Go.Proofs.Ytobblbplanimgaa.Base Go.Proofs.Ytobblbplanimgaa.Laws
def recOf (l : List UInt8) : Rc := ⟨kindOf l, verOf l, lbaOf l, dataOf l⟩
def scan : Nat → List UInt8 → List Rc
  | 0, _ => []
  | n + 1, l => if IsRec l then recOf l :: scan n (l.drop 37) else []
def scanAll (l : List UInt8) : List Rc := scan l.length l
theorem scan_fuel : ∀ (n m : Nat) (l : List UInt8), l.length ≤ n → l.length ≤ m → scan n l = scan m l := by
  intro n
  induction n with
  | zero =>
    intro m l h1 h2
    obtain rfl : l = [] := List.eq_nil_of_length_eq_zero (by omega)
    cases m with
    | zero => rfl
    | succ m => rw [scan, scan, if_neg (fun h => by have := h.1; simp at this)]
  | succ n ih =>
    intro m l h1 h2
    cases m with
    | zero =>
      obtain rfl : l = [] := List.eq_nil_of_length_eq_zero (by omega)
      rw [scan, scan, if_neg (fun h => by have := h.1; simp at this)]
    | succ m =>
      rw [scan, scan]
      by_cases h : IsRec l
      · rw [if_pos h, if_pos h, ih m (l.drop 37) (by rw [List.length_drop]; have := h.1; omega) (by rw [List.length_drop]; have := h.1; omega)]
      · rw [if_neg h, if_neg h]
theorem scanAll_yes {l : List UInt8} (h : IsRec l) : scanAll l = recOf l :: scanAll (l.drop 37) := by
  unfold scanAll
  have hl := h.1
  rw [show l.length = (l.length - 1) + 1 from by omega, scan, if_pos h]
  rw [scan_fuel (l.length - 1) (l.drop 37).length _ (by rw [List.length_drop]; omega) (Nat.le_refl _)]
theorem scanAll_no {l : List UInt8} (h : ¬ IsRec l) : scanAll l = [] := by
  unfold scanAll
  cases hn : l.length with
  | zero => rfl
  | succ n => rw [scan, if_neg h]
theorem recOf_valid {l : List UInt8} (h : IsRec l) : (recOf l).Valid := by
  obtain ⟨h1, ⟨⟨h2, h3⟩, ⟨h4, h5⟩⟩, _⟩ := h
  refine ⟨?_, verOf_lt l, ?_, ?_⟩
  · show (dataOf l).length = 16
    unfold dataOf; rw [List.length_take, List.length_drop]; omega
  · show I64 (kindOf l)
    unfold I64; omega
  · show I64 (lbaOf l)
    unfold I64; omega
theorem scan_valid : ∀ (n : Nat) (l : List UInt8), ∀ r ∈ scan n l, r.Valid := by
  intro n
  induction n with
  | zero => intro l r h; simp [scan] at h
  | succ n ih =>
    intro l r h
    rw [scan] at h
    by_cases hi : IsRec l
    · rw [if_pos hi] at h
      rcases List.mem_cons.1 h with rfl | h
      · exact recOf_valid hi
      · exact ih _ r h
    · rw [if_neg hi] at h
      simp at h
theorem scanAll_valid (l : List UInt8) : ∀ r ∈ scanAll l, r.Valid := scan_valid _ _
theorem scan_len : ∀ (n : Nat) (l : List UInt8), (scan n l).length * 37 ≤ l.length := by
  intro n
  induction n with
  | zero => intro l; simp [scan]
  | succ n ih =>
    intro l
    rw [scan]
    by_cases hi : IsRec l
    · rw [if_pos hi, List.length_cons]
      have := ih (l.drop 37)
      rw [List.length_drop] at this
      have := hi.1
      omega
    · rw [if_neg hi]; simp
theorem scanAll_len (l : List UInt8) : (scanAll l).length * 37 ≤ l.length := scan_len _ _
/-- a record that can be packed -/
def Rc.Good (r : Rc) : Prop := Ok r.k r.a
instance (r : Rc) : Decidable r.Good := by unfold Rc.Good; infer_instance
/-- its bytes -/
def Rc.bytes (r : Rc) : List UInt8 := rec37 r.k r.v r.a.toNat r.l
theorem Rc.bytes_len {r : Rc} (h : r.Valid) : r.bytes.length = 37 := rec37_len _ _ _ _ h.1
theorem Rc.back {r : Rc} (h : r.Valid) (g : r.Good) (t : List UInt8) : IsRec (r.bytes ++ t) ∧ recOf (r.bytes ++ t) = r ∧ (r.bytes ++ t).drop 37 = t := by
  obtain ⟨k, v, a, l⟩ := r
  obtain ⟨hl, hv, hk, ha⟩ := h
  have ha0 : 0 ≤ a := g.2.1
  obtain ⟨n, rfl⟩ : ∃ n : Nat, a = n := ⟨a.toNat, by omega⟩
  have hb : Rc.bytes ⟨k, v, (n : Int), l⟩ = rec37 k v n l := by unfold Rc.bytes; simp
  rw [hb]
  obtain ⟨e1, e2, e3, e4, _, _⟩ := rec_parts (r := t) (k := k) (v := v) (a := n) (l := l) hl hv g
  refine ⟨(rec_back t hl hv g).1, ?_, ?_⟩
  · unfold recOf
    rw [e1, e2, e3, e4]
  · have := rec37_len k v n l hl
    rw [← this, List.drop_left]
/-- records' bytes, one behind the other -/
def laidAll : List Rc → List UInt8
  | [] => []
  | r :: rs => r.bytes ++ laidAll rs
theorem laidAll_append (rs qs : List Rc) : laidAll (rs ++ qs) = laidAll rs ++ laidAll qs := by
  induction rs with
  | nil => rfl
  | cons r rs ih => simp [laidAll, ih]
theorem laidAll_len : ∀ {rs : List Rc}, (∀ r ∈ rs, r.Valid) → (laidAll rs).length = 37 * rs.length
  | [], _ => rfl
  | r :: rs, h => by
    rw [laidAll, List.length_append, Rc.bytes_len (h r (by simp)), laidAll_len (fun q hq => h q (by simp [hq])), List.length_cons]
    omega
/-- of records that are cut short, the whole ones are read -/
theorem scan_cut : ∀ (rs : List Rc), (∀ r ∈ rs, r.Valid ∧ r.Good) → ∀ cut, cut ≤ (laidAll rs).length → scanAll ((laidAll rs).take cut) = rs.take (cut / 37)
  | [], _, cut, hc => by
    simp only [laidAll, List.length_nil] at hc
    obtain rfl : cut = 0 := by omega
    rw [scanAll_no (fun h => by have := h.1; simp [laidAll] at this)]
    simp
  | r :: rs, h, cut, hc => by
    have hr := h r (by simp)
    have hrl := Rc.bytes_len hr.1
    rw [laidAll]
    by_cases h37 : cut < 37
    · rw [scanAll_no (fun h => by have := h.1; rw [List.length_take] at this; omega), show cut / 37 = 0 from by omega]
      rfl
    · obtain ⟨c, rfl⟩ : ∃ c, cut = 37 + c := ⟨cut - 37, by omega⟩
      have e : (r.bytes ++ laidAll rs).take (37 + c) = r.bytes ++ (laidAll rs).take c := by
        rw [List.take_append, List.take_of_length_le (by omega), hrl, show 37 + c - 37 = c from by omega]
      obtain ⟨b1, b2, b3⟩ := Rc.back hr.1 hr.2 ((laidAll rs).take c)
      rw [laidAll, List.length_append, hrl] at hc
      rw [e, scanAll_yes b1, b2, b3, scan_cut rs (fun q hq => h q (by simp [hq])) c (by omega), show (37 + c) / 37 = c / 37 + 1 from by omega]
      rfl
theorem scan_laid (rs : List Rc) (h : ∀ r ∈ rs, r.Valid ∧ r.Good) : scanAll (laidAll rs) = rs := by
  have := scan_cut rs h (laidAll rs).length (Nat.le_refl _)
  rw [List.take_length, laidAll_len (fun r hr => (h r hr).1), show 37 * rs.length / 37 = rs.length from by omega, List.take_length] at this
  exact this
end Go.Proofs.Ytobblbplanimgaa.Codec
