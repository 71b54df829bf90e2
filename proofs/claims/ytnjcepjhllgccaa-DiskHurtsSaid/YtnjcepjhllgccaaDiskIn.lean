/-
  Cells that came in, and '==' on cells. Helper text; no statement is proved here.
-/
import Derived.Test.YtnjcepjhllgccaaDiskD
import Derived.Test.YtnjcepjhllgccaaSlIn
import Derived.Test.YtnjcepjhllgccaaEq
set_option linter.unusedVariables false
set_option linter.unusedSimpArgs false
namespace Go.Proofs.Ytnjcepjhllgccaa.Disk
open Go.RowKit Go.Proofs.Ytnjcepjhllgccaa.Base Go.Proofs.Ytnjcepjhllgccaa.Laws Go.Proofs.Ytnjcepjhllgccaa.Flat
/-- a cell's numbers, with their kinds -/
def Cel.p (c : Cel) : List (IntKind × Int) := (c.d.map fun b => ((IntKind.u8, (b.toNat : Int)) : IntKind × Int)) ++ [(.u32, (c.s : Int))]
theorem Cel.p_val (c : Cel) : c.p.map Eq.val = c.cells := by
  unfold Cel.p Cel.cells bv
  simp [Eq.val, Base.u8]
theorem Cel.p_wf {c : Cel} (h : c.Ok) : ∀ p ∈ c.p, (Eq.lit p).wf = true := by
  intro p hp
  unfold Cel.p at hp
  have h2 := h.2
  rcases List.mem_append.1 hp with h | h
  · obtain ⟨x, _, rfl⟩ := List.mem_map.1 h
    have := x.toNat_lt
    simp only [Eq.lit, Lit.wf, IntKind.min, IntKind.max, IntKind.signed, IntKind.bits, Bool.and_eq_true, decide_eq_true_eq]
    simp
    omega
  · simp only [List.mem_cons, List.not_mem_nil, or_false] at h
    subst h
    simp only [Eq.lit, Lit.wf, IntKind.min, IntKind.max, IntKind.signed, IntKind.bits, Bool.and_eq_true, decide_eq_true_eq]
    simp
    omega
theorem Cel.p_kinds {c : Cel} (h : c.Ok) : c.p.map (·.1) = List.replicate 16 .u8 ++ [.u32] := by
  unfold Cel.p
  rw [List.map_append, List.map_map]
  congr 1
  rw [List.eq_replicate_iff]
  refine ⟨by simp [h.1], fun b hb => ?_⟩
  obtain ⟨x, _, rfl⟩ := List.mem_map.1 hb
  rfl
theorem map_u8_inj : ∀ {l m : List UInt8}, (l.map fun b => ((IntKind.u8, (b.toNat : Int)) : IntKind × Int)) = m.map (fun b => (.u8, (b.toNat : Int))) → l = m
  | [], [], _ => rfl
  | p :: l, q :: m, h => by
    simp only [List.map_cons, List.cons.injEq, Prod.mk.injEq, true_and] at h
    rw [UInt8.toNat_inj.1 (show p.toNat = q.toNat by omega), map_u8_inj h.2]
  | [], _ :: _, h => by simp at h
  | _ :: _, [], h => by simp at h
theorem Cel.p_inj {c e : Cel} (h : c.p = e.p) : c = e := by
  obtain ⟨d, s⟩ := c
  obtain ⟨d', s'⟩ := e
  unfold Cel.p at h
  have hl := congrArg List.length h
  simp only [List.length_append, List.length_map, List.length_cons, List.length_nil] at hl
  obtain ⟨h1, h2⟩ := List.append_inj h (by simp; omega)
  have := map_u8_inj h1
  subst this
  simp only [List.cons.injEq, Prod.mk.injEq, true_and, and_true] at h2
  obtain rfl : s = s' := by omega
  rfl
theorem Cel.eq {c e : Cel} (h : c.Ok) (g : e.Ok) (w : World) : (Op.equalIn 10000 37 (.agg c.cells.toArray) (.agg e.cells.toArray)).run Try.prog w = .ok (decide (c = e)) w := by
  have := Eq.run_eq_flat (P := Try.prog) (t := 37) (ks := List.replicate 16 .u8 ++ [.u32]) 6 (by kernel_rfl) (by kernel_rfl) (by kernel_rfl) (Cel.p_kinds h) (Cel.p_kinds g) (Cel.p_wf h) (Cel.p_wf g) w
  rw [Cel.p_val, Cel.p_val] at this
  rw [this]
  congr 1
  by_cases e2 : c = e
  · subst e2; simp
  · rw [decide_eq_false e2, decide_eq_false (fun h => e2 (Cel.p_inj h))]
section
variable {H : Type} {enc : TypeId × Value → H} {base : Nat} {spare : Nat → Bool} {held : Bool} {W : World}
theorem cel_in {c : List Value} {ks : List Opens.Lf} (hl : c.length = 17) (hk : ks = List.replicate 16 (.int .u8) ++ [.int .u32]) (h : Opens.Fits enc Try.prog W base spare held ks c) : ∃ x : Cel, c = x.cells ∧ x.Ok := by
  subst hk
  obtain ⟨l, c1, hl16, rfl, h1⟩ := h.bytes 16
  obtain ⟨k, c2, rfl, hk, h2⟩ := h1.int
  obtain ⟨n, hn, rfl⟩ := Opens.wf_u32 hk
  obtain rfl : c2 = [] := List.eq_nil_of_length_eq_zero (by simp [hl16] at hl; omega)
  exact ⟨⟨l, n⟩, rfl, hl16, hn⟩
theorem cels_in {a : Option Addr} {len cap : Nat} (h : Opens.LfOk enc Try.prog W base spare held (.slice 37) (.slice a len cap)) : ∃ l, Sl W Cel.cells 17 a len cap l ∧ (∀ x ∈ l, x.Ok) ∧ len * Try.prog.bytesOf 37 ≤ reachBytes :=
  sl_in (ks := List.replicate 16 (.int .u8) ++ [.int .u32]) (by decide) (by kernel_rfl) (by kernel_rfl) (fun cs hl hf => cel_in hl rfl hf) h
end
end Go.Proofs.Ytnjcepjhllgccaa.Disk
