/-
  sameMsg by contract. Helper text; no statement is proved here.
-/
import Derived.Test.YtmmgejlfcehipaaRefPackMsg
set_option linter.unusedVariables false
set_option linter.unusedSimpArgs false
namespace Go.Proofs.Ytmmgejlfcehipaa.Codec
open Go.RowKit Go.Proofs.Ytmmgejlfcehipaa.Base Go.Proofs.Ytmmgejlfcehipaa.Laws
set_option maxHeartbeats 1000000 in
theorem samemsg_any (e s a : Nat) (b : Option Addr) (n cb : Nat) (l : List UInt8) (e' s' a' : Nat) (b' : Option Addr) (n' cb' : Nat) (l' : List UInt8) (w : World) (h : Bts w b n cb l) (h' : Bts w b' n' cb' l') :
    Calls Try.prog 22 #[.agg #[.int .u32 (e : Int), .int .u32 (s : Int), .int .u32 (a : Int), .slice b n cb], .agg #[.int .u32 (e' : Int), .int .u32 (s' : Int), .int .u32 (a' : Int), .slice b' n' cb']] w fun x w' => x = .returned (.bool (decide (e = e' ∧ s = s' ∧ a = a' ∧ l = l'))) ∧ Below w.heap.size w w' := by
  have L2 := Lib.hid (((Below.refl w.heap.size w).alloc (Nat.le_refl _) (.cells #[.int .u32 (e : Int), .int .u32 (s : Int), .int .u32 (a : Int), .slice b n cb] 43)).alloc (by simp only [size_alloc]; omega) (.cells #[.int .u32 (e' : Int), .int .u32 (s' : Int), .int .u32 (a' : Int), .slice b' n' cb'] 43))
  have HS := Lib.hid (fun w2 (hb : Below w.heap.size w w2) => Same.same_any b n cb l b' n' cb' l' w2 (h.below hb (Nat.le_refl _)) (h'.below hb (Nat.le_refl _)))
  clear h h'
  by_cases h1 : e = e'
  · subst h1
    by_cases h2 : s = s'
    · subst h2
      by_cases h3 : a = a'
      · subst h3
        go_enter Try.func22, Try.ntmps22
        go_wp2_with fail
        refine (HS.out _ L2.out).mono ?_
        rintro x w3 ⟨rfl, nd, rfl⟩
        go_wp2
        go_ret
        exact ⟨ret_bool (by by_cases e : l = l' <;> simp [e]), below_drewN L2.out nd⟩
      · have k3 : ¬ (a : Int) = a' := by omega
        have D := Lib.hid h3
        clear h3
        go_enter Try.func22, Try.ntmps22
        go_wp2
        go_ret
        exact ⟨ret_bool (by have := D.out; simp [this]), L2.out⟩
    · have k3 : ¬ (s : Int) = s' := by omega
      have D := Lib.hid h2
      clear h2
      go_enter Try.func22, Try.ntmps22
      go_wp2
      go_ret
      exact ⟨ret_bool (by have := D.out; simp [this]), L2.out⟩
  · have k3 : ¬ (e : Int) = e' := by omega
    have D := Lib.hid h1
    clear h1
    go_enter Try.func22, Try.ntmps22
    go_wp2
    go_ret
    exact ⟨ret_bool (by have := D.out; simp [this]), L2.out⟩
end Go.Proofs.Ytmmgejlfcehipaa.Codec
