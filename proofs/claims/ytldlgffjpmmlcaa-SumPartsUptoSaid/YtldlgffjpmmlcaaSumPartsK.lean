/-
  SumParts out of its opened arguments. Helper text; no statement is proved here.
-/
import Derived.Test.YtldlgffjpmmlcaaSumParts
set_option linter.unusedVariables false
namespace Go.Proofs.Ytldlgffjpmmlcaa.Joins
open Go.RowKit Go.Proofs.Ytldlgffjpmmlcaa.Base Go.Proofs.Ytldlgffjpmmlcaa.Laws Go.Proofs.Ytldlgffjpmmlcaa.Sum2
section
variable {H : Type} {enc : TypeId × Value → H} {base : Nat} {spare : Nat → Bool} {held : Bool} {W : World}
theorem parts_in (a : Option Addr) (lena capa : Nat) (fa : Opens.LfOk enc Try.prog W base spare held (.slice 5) (.slice a lena capa)) (b : Option Addr) (lenb capb : Nat) (fb : Opens.LfOk enc Try.prog W base spare held (.slice 5) (.slice b lenb capb)) (c : Option Addr) (lenc capc : Nat) (fc : Opens.LfOk enc Try.prog W base spare held (.slice 5) (.slice c lenc capc)) 
    (da : DataW H) (za : ∀ m ∈ da.weights Try.prog 23, m ≤ reachBytes) {pa : List MemPlace} (ka : DataW.Trod enc Try.prog W base spare held 23 (.slice a lena capa) da pa) (db : DataW H) (zb : ∀ m ∈ db.weights Try.prog 23, m ≤ reachBytes) {pb : List MemPlace} (kb : DataW.Trod enc Try.prog W base spare held 23 (.slice b lenb capb) db pb) (dc : DataW H) (zc : ∀ m ∈ dc.weights Try.prog 23, m ≤ reachBytes) {pc : List MemPlace} (kc : DataW.Trod enc Try.prog W base spare held 23 (.slice c lenc capc) dc pc) 
    (hk : Rows.uptoBulkAll [da, db, dc] ≤ 1048576) :
    Calls Try.prog 8 #[.slice a lena capa, .slice b lenb capb, .slice c lenc capc] W fun e w' => e = .returned (.bool true) ∧ Below W.heap.size W w' := by
  obtain ⟨la, ha, _⟩ := bts_in fa
  obtain ⟨lb, hb, _⟩ := bts_in fb
  obtain ⟨lc, hc, _⟩ := bts_in fc
  obtain ⟨na, ka⟩ := ka
  have ka : lena + 1 ≤ Rows.uptoBulk da := Bulk.slice_len (y := (da, pa)) (a := a) (cap := capa) (fuel := na) Try.underlying23 (by simpa [Value.cells] using ka)
  obtain ⟨nb, kb⟩ := kb
  have kb : lenb + 1 ≤ Rows.uptoBulk db := Bulk.slice_len (y := (db, pb)) (a := b) (cap := capb) (fuel := nb) Try.underlying23 (by simpa [Value.cells] using kb)
  obtain ⟨nc, kc⟩ := kc
  have kc : lenc + 1 ≤ Rows.uptoBulk dc := Bulk.slice_len (y := (dc, pc)) (a := c) (cap := capc) (fuel := nc) Try.underlying23 (by simpa [Value.cells] using kc)
  simp only [Rows.uptoBulkAll] at hk
  exact parts_walk a b c lena lenb lenc capa capb capc la lb lc W ha hb hc (by omega)
end
end Go.Proofs.Ytldlgffjpmmlcaa.Joins
