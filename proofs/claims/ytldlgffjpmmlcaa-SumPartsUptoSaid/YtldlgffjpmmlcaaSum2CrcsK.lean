/-
  SumCrcs at arguments that came in. Helper text; no statement is proved here.
-/
import Derived.Test.YtldlgffjpmmlcaaSum2Crcs
import Derived.Test.YtldlgffjpmmlcaaOpens
set_option linter.unusedVariables false
namespace Go.Proofs.Ytldlgffjpmmlcaa.Sum2
open Go.RowKit Go.Proofs.Ytldlgffjpmmlcaa.Base
theorem cellsu8 : Try.prog.cellsOf 5 = 1 := by kernel_rfl
theorem bytesu8 : Try.prog.bytesOf 5 = 1 := by kernel_rfl
section
variable {H : Type} {enc : TypeId × Value → H} {base : Nat} {spare : Nat → Bool} {held : Bool} {W : World}
theorem bts_in {a : Option Addr} {len cap : Nat} (h : Opens.LfOk enc Try.prog W base spare held (.slice 5) (.slice a len cap)) : ∃ l, Bts W a len cap l ∧ len ≤ 140737488351232 := by
  obtain ⟨l, h1, h2, h3, h4, h5⟩ := Opens.bytes_of_lf Try.underlying5 cellsu8 bytesu8 h
  exact ⟨l, ⟨h1, h2, h3, h5⟩, h4⟩
theorem crcs_in (x : Int) (hx : (Lit.int .u32 x).wf = true) (a : Option Addr) (len cap : Nat) (h : Opens.LfOk enc Try.prog W base spare held (.slice 5) (.slice a len cap)) :
    Calls Try.prog 3 #[.int .u32 x, .slice a len cap] W fun e w' => e = .returned (.bool true) ∧ Below W.heap.size W w' := by
  obtain ⟨crc, hcr, rfl⟩ := Opens.wf_u32 hx
  obtain ⟨l, hb, hr⟩ := bts_in h
  exact crcs_walk crc hcr a len cap l W hb hr
end
end Go.Proofs.Ytldlgffjpmmlcaa.Sum2
