/-
  Trim and Load of a memory by contract. Helper text; no statement is proved here.
-/
import Derived.Test.YtobblbplanimgaaNvApp
import Derived.Test.YtobblbplanimgaaSameRecs
set_option linter.unusedVariables false
set_option maxRecDepth 20000
set_option linter.unusedSimpArgs false
namespace Go.Proofs.Ytobblbplanimgaa.Nvram
open Go.RowKit Go.Proofs.Ytobblbplanimgaa.Base Go.Proofs.Ytobblbplanimgaa.Laws Go.Proofs.Ytobblbplanimgaa.Disk Go.Proofs.Ytobblbplanimgaa.Row Go.Proofs.Ytobblbplanimgaa.Codec Go.Proofs.Ytobblbplanimgaa.InvL Go.Proofs.Ytobblbplanimgaa.InvM
section
variable {w w' : World} {br bm size : Nat} {v : Value} {B : List UInt8} {p : Pow}
/-- what Append leaves: its answer, the power, the bytes -/
def appR (p : Pow) (size : Nat) (B : List UInt8) (x : Rc) : Nat × Pow × List UInt8 := open Classical in
  if ¬ x.Good then (2, p, B) else if p.off then (4, p, B) else if size - B.length < 37 then (9, p, B) else if p.step.1 then (0, p.step.2, B ++ x.bytes) else (4, p.step.2, B ++ x.bytes.take 18)
/-- the memory behind a call -/
def After (w : World) (br bm size : Nat) (v : Value) (r : Nat × Pow × List UInt8) (e : Ending) (w' : World) : Prop :=
  e = .returned (.int .i64 (r.1 : Int)) ∧ ∃ v', RamAt w' br bm size v' r.2.2 ∧ PowAt w' bm r.2.1 ∧ (∀ g, v'.ownBlock = some g → v.ownBlock = some g ∨ w.heap.size ≤ g) ∧ Only [br, bm, blkOf v br] w w'
theorem append_any (h : RamAt w br bm size v B) (hp : PowAt w bm p) (hpo : p.Ok) {x : Rc} (hx : x.Valid) : Calls Try.prog 12 #[.pointer (some ⟨br, 0, none⟩), .agg x.cells.toArray] w (After w br bm size v (appR p size B x)) := by
  have stay : ∀ k : Nat, (Calls Try.prog 12 #[.pointer (some ⟨br, 0, none⟩), .agg x.cells.toArray] w fun e w' => e = .returned (.int .i64 (k : Int)) ∧ Below w.heap.size w w') → Calls Try.prog 12 #[.pointer (some ⟨br, 0, none⟩), .agg x.cells.toArray] w (After w br bm size v (k, p, B)) :=
    fun k hk => hk.mono fun e w' ⟨h1, h2⟩ => ⟨h1, v, h.below h2, hp.only (Only.of_below (S := []) h2) (by simp), fun g hg => .inl hg, Only.of_below h2⟩
  unfold appR
  by_cases hg : x.Good
  · rw [if_neg (fun hh => hh hg)]
    cases ho : p.off with
    | true => exact stay 4 (append_off h hp hx hg ho)
    | false =>
      simp only [Bool.false_eq_true, if_false]
      by_cases hf : size - B.length < 37
      · rw [if_pos hf]
        exact stay 9 (append_full h hp hx hg ho hf)
      · rw [if_neg hf]
        cases hs : p.step.1 with
        | true => exact (append_yes h hp hpo hx hg ho (by omega) hs).mono fun e w' ⟨h1, v', h2, h3, h4, h5⟩ => ⟨h1, v', h2, h3, h4, h5⟩
        | false => exact (append_torn h hp hpo hx hg ho (by omega) hs).mono fun e w' ⟨h1, v', h2, h3, h4, h5⟩ => ⟨h1, v', h2, h3, h4, h5⟩
  · rw [if_pos hg]
    exact stay 2 (append_bad h hp hx hg)
theorem shifted_zero (g cap : Nat) : shifted (some ⟨g, 0, none⟩) 0 cap = some ⟨g, 0, none⟩ := by
  unfold shifted
  split <;> rfl
theorem trim_any (h : RamAt w br bm size v B) : Calls Try.prog 18 #[.pointer (some ⟨br, 0, none⟩)] w fun e w' => e = .returned (.tuple #[]) ∧ ∃ v', RamAt w' br bm size v' (B.take (37 * (scanAll B).length)) ∧ (∀ g, v'.ownBlock = some g → v.ownBlock = some g) ∧ Only [br] w w' := by
  obtain ⟨a, cap, rfl, hb⟩ := h.slice
  have c0 := h.c0
  have hl := h.len
  have hh := h.hi
  have hbr := h.head.lt
  have SC := Lib.hid (scan_any a B.length cap B w hb (by omega))
  obtain ⟨n, hn⟩ : ∃ n, n = B.length := ⟨_, rfl⟩
  obtain ⟨k, hk⟩ : ∃ k, k = 37 * (scanAll B).length := ⟨_, rfl⟩
  have hkn : k ≤ n := by have := scanAll_len B; omega
  rw [← hk] at SC ⊢
  rw [← hn] at SC
  have H := Lib.hid h
  have HN := Lib.hid hn
  have c2 : w.cell? ⟨br, 2, none⟩ = some (.slice a n cap) := by rw [hn]; exact h.c2
  have hnc : n ≤ cap := by rw [hn]; exact hb.2.1
  clear h hb hn hl hk
  go_enter Try.func18, Try.ntmps18
  go_wp2_with fail
  refine SC.out.mono ?_
  rintro e w1 ⟨r, rfl, ho, hbl⟩
  have H1 := Lib.hid (H.out.below hbl)
  have B1 := Lib.hid hbl
  have d2 : w1.cell? ⟨br, 2, none⟩ = some (.slice a n cap) := by rw [HN.out]; exact H1.out.c2
  have f2 := H1.out.head.frozen 2
  have O1 := Lib.hid (show w1.ownsRow (br + 1) 5 1 (.slice (shifted a 0 cap) k cap) k (bv (B.take k)) from by
    have h0 := H1.out.own
    rw [← HN.out] at h0
    have h1 := own_take h0 k hkn
    have e1 : (bv B).take (k * 1) = bv (B.take k) := by rw [Nat.mul_one]; unfold bv; rw [List.map_take]
    rw [e1] at h1
    rcases h1.2 with ⟨e2, e3⟩ | ⟨g, cp, cur, e2, hr⟩
    · cases e2
      exact ⟨h1.1, .inl ⟨rfl, rfl⟩⟩
    · cases e2
      rw [shifted_zero]
      exact h1)
  clear ho hbl SC c0 c2
  go_wp2_with (first | (refine wpList_value_g rfl _ (exec_slice rfl (slice_to _ a n cap k .i64 (by omega))) ?_))
  go_end0
  refine ⟨rfl, _, H1.out.put (v' := .slice (shifted a 0 cap) k cap) (by rw [List.length_take, ← HN.out, Nat.min_eq_left hkn]; exact O1.out) (by rw [List.length_take, ← HN.out]; have := H.out.len; rw [← HN.out] at this; omega), fun g hg => ?_, ((Only.of_below (S := [br]) B1.out).setCell (by simp) _ _)⟩
  unfold shifted at hg
  cases a with
  | none => split at hg <;> cases hg
  | some ad => split at hg <;> exact hg
end
end Go.Proofs.Ytobblbplanimgaa.Nvram
