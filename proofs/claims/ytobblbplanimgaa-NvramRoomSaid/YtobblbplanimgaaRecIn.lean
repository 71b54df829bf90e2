/-
  Records that came in, and '==' on records. Helper text; no statement is proved here.
-/
import Derived.Test.YtobblbplanimgaaRecBack
import Derived.Test.YtobblbplanimgaaEq
import Derived.Test.YtobblbplanimgaaOpens
set_option linter.unusedVariables false
set_option maxRecDepth 20000
set_option linter.unusedSimpArgs false
namespace Go.Proofs.Ytobblbplanimgaa.Codec
open Go.RowKit Go.Proofs.Ytobblbplanimgaa.Base Go.Proofs.Ytobblbplanimgaa.Laws
/-- a record's numbers, with their kinds -/
def recP (k : Int) (v : Nat) (a : Int) (l : List UInt8) : List (IntKind × Int) := [(.i64, k), (.u64, (v : Int)), (.i64, a)] ++ l.map fun b => (.u8, (b.toNat : Int))
theorem recP_val (k : Int) (v : Nat) (a : Int) (l : List UInt8) : (recP k v a l).map Eq.val = recV k v a l := by
  unfold recP recV bv
  simp [Eq.val, Base.u8]
theorem val_inj {p q : IntKind × Int} (h : Eq.val p = Eq.val q) : p = q := by
  unfold Eq.val at h
  simp only [Value.int.injEq] at h
  exact Prod.ext h.1 h.2
theorem map_val_inj : ∀ {l m : List (IntKind × Int)}, l.map Eq.val = m.map Eq.val → l = m
  | [], [], _ => rfl
  | p :: l, q :: m, h => by
    simp only [List.map_cons, List.cons.injEq] at h
    rw [val_inj h.1, map_val_inj h.2]
  | [], _ :: _, h => by simp at h
  | _ :: _, [], h => by simp at h
def I64 (k : Int) : Prop := -9223372036854775808 ≤ k ∧ k ≤ 9223372036854775807
theorem recP_wf {k : Int} {v : Nat} {a : Int} {l : List UInt8} (hk : I64 k) (hv : v < 18446744073709551616) (ha : I64 a) : ∀ p ∈ recP k v a l, (Eq.lit p).wf = true := by
  intro p hp
  unfold recP at hp
  rcases List.mem_append.1 hp with h | h
  · simp only [List.mem_cons, List.not_mem_nil, or_false] at h
    unfold I64 at *
    rcases h with rfl | rfl | rfl <;> simp only [Eq.lit, Lit.wf, IntKind.min, IntKind.max, IntKind.signed, IntKind.bits, Bool.and_eq_true, decide_eq_true_eq] <;> simp <;> omega
  · obtain ⟨x, _, rfl⟩ := List.mem_map.1 h
    have := x.toNat_lt
    simp only [Eq.lit, Lit.wf, IntKind.min, IntKind.max, IntKind.signed, IntKind.bits, Bool.and_eq_true, decide_eq_true_eq]
    simp
    omega
theorem recP_kinds {k : Int} {v : Nat} {a : Int} {l : List UInt8} (hl : l.length = 16) : (recP k v a l).map (·.1) = [.i64, .u64, .i64] ++ List.replicate 16 .u8 := by
  unfold recP
  obtain ⟨x0, x1, x2, x3, x4, x5, x6, x7, x8, x9, x10, x11, x12, x13, x14, x15, rfl⟩ := list16 l hl
  rfl
theorem rec_eq {k k' : Int} {v v' : Nat} {a a' : Int} {l l' : List UInt8} (hl : l.length = 16) (hl' : l'.length = 16) (hk : I64 k) (hv : v < 18446744073709551616) (ha : I64 a) (hk' : I64 k') (hv' : v' < 18446744073709551616) (ha' : I64 a') (w : World) :
    (Op.equalIn 10000 27 (.agg (recV k v a l).toArray) (.agg (recV k' v' a' l').toArray)).run Try.prog w = .ok (decide (recP k v a l = recP k' v' a' l')) w := by
  rw [← recP_val, ← recP_val]
  exact Eq.run_eq_flat (P := Try.prog) (t := 27) (ks := [.i64, .u64, .i64] ++ List.replicate 16 .u8) 6 (by kernel_rfl) (by kernel_rfl) (by kernel_rfl) (recP_kinds hl) (recP_kinds hl') (recP_wf hk hv ha) (recP_wf hk' hv' ha') w
section
variable {H : Type} {enc : TypeId × Value → H} {P : Program} {base : Nat} {spare : Nat → Bool} {held : Bool} {W : World}
/-- a record that came in, other cells behind it -/
theorem rec_next {c : List Value} {ks : List Opens.Lf} (h : Opens.Fits enc P W base spare held (.int .i64 :: .int .u64 :: .int .i64 :: (List.replicate 16 (.int .u8) ++ ks)) c) : ∃ k v a l c', l.length = 16 ∧ v < 18446744073709551616 ∧ I64 k ∧ I64 a ∧ c = recV k v a l ++ c' ∧ Opens.Fits enc P W base spare held ks c' := by
  obtain ⟨k, c1, rfl, hk, h1⟩ := h.int
  obtain ⟨v, c2, rfl, hv, h2⟩ := h1.int
  obtain ⟨a, c3, rfl, ha, h3⟩ := h2.int
  obtain ⟨l, c4, hl, rfl, h4⟩ := h3.bytes 16
  obtain ⟨n, hn, rfl⟩ := Opens.wf_u64 hv
  exact ⟨k, n, a, l, c4, hl, hn, Opens.wf_i64 hk, Opens.wf_i64 ha, by simp [recV, bv, Base.u8, Opens.u8], h4⟩
theorem rec_in {c : List Value} {ks : List Opens.Lf} (hl : c.length = 19) (hk : ks = [.int .i64, .int .u64, .int .i64] ++ List.replicate 16 (.int .u8)) (h : Opens.Fits enc P W base spare held ks c) : ∃ k v a l, l.length = 16 ∧ v < 18446744073709551616 ∧ I64 k ∧ I64 a ∧ c = recV k v a l := by
  subst hk
  have h' : Opens.Fits enc P W base spare held (.int .i64 :: .int .u64 :: .int .i64 :: (List.replicate 16 (.int .u8) ++ [])) c := by simpa using h
  obtain ⟨k, v, a, l, c', hl16, hv, hk, ha, rfl, _⟩ := rec_next h'
  obtain rfl : c' = [] := List.eq_nil_of_length_eq_zero (by rw [List.length_append, recV_len _ _ _ _ hl16] at hl; omega)
  exact ⟨k, v, a, l, hl16, hv, hk, ha, List.append_nil _⟩
end
end Go.Proofs.Ytobblbplanimgaa.Codec
