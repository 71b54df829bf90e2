/-
  SameBytes of the reference and Equal of the library by contract. Helper text; no statement is proved here.
-/
import Derived.Test.YtobblbplanimgaaRefSumW
import Derived.Test.YtobblbplanimgaaOwnB
import Derived.Laws.BytesArg
import Derived.BigQuiet
import Derived.Deep.QuietTactic
set_option linter.unusedVariables false
set_option maxRecDepth 20000
set_option linter.unusedSimpArgs false
namespace Go.Proofs.Ytobblbplanimgaa.Same
open Go.RowKit Go.Proofs.Ytobblbplanimgaa.Base Go.Proofs.Ytobblbplanimgaa.Laws
theorem zero_len (w : World) (p : Option Addr) (c : Nat) : (convert 46 9 (.slice p 0 c)).run Try.prog w = .ok (.string ⟨#[]⟩) w := by
  rw [run_convert_bytes_string w 46 9 5 _ 0 c Try.underlying46 Try.underlying5 Try.underlying9]
  cases p <;> simp [Conv.bytesToString, loadCells]
  all_goals rfl
theorem str_any {w : World} {a : Option Addr} {n c : Nat} {l : List UInt8} (h : Bts w a n c l) : (convert 46 9 (.slice a n c)).run Try.prog w = .ok (.string ⟨l.toArray⟩) w := by
  obtain ⟨hl, _, _, h4⟩ := h
  rcases h4 with rfl | ⟨b, o, rfl, hc⟩
  · obtain rfl : l = [] := List.eq_nil_of_length_eq_zero hl
    exact zero_len w a c
  · have := run_convert_bytes_arg (P := Try.prog) w 46 5 Try.underlying46 Try.underlying5 b o n c (l.map fun x => (x.toNat : Int)) (by simpa using hl) (fun i hi => by
      have hg : l[i]? = some l[i] := List.getElem?_eq_getElem (by omega)
      rw [hc i _ hg, List.getD_eq_getElem?_getD, List.getElem?_map, hg]
      rfl) 9 Try.underlying9
    rw [this]
    congr 2
    unfold strOfNums
    congr 2
    rw [List.map_map]
    conv => rhs; rw [← List.map_id l]
    apply List.map_congr_left
    intro b _
    simp
set_option maxHeartbeats 1000000 in
theorem equal_any (a : Option Addr) (n c : Nat) (la : List UInt8) (b : Option Addr) (m d : Nat) (lb : List UInt8) (w : World) (ha : Bts w a n c la) (hb : Bts w b m d lb) :
    Calls Try.prog 57 #[.slice a n c, .slice b m d] w fun e w' => e = .returned (.bool (decide (la = lb))) ∧ w = w' := by
  have h1 := str_any ha
  have h2 := str_any hb
  clear ha hb
  go_enter Try.func57, Try.ntmps57
  go_wp2
  go_ret
  exact ⟨ret_bool (by by_cases e : la = lb <;> simp [e]), rfl⟩
theorem take_eq_of {α : Type} {la lb : List α} (h : la.length = lb.length) {k : Nat} (hk : k = la.length) (ht : la.take k = lb.take k) : la = lb := by
  subst hk
  rwa [List.take_of_length_le (Nat.le_refl _), List.take_of_length_le (by omega)] at ht
end Go.Proofs.Ytobblbplanimgaa.Same
