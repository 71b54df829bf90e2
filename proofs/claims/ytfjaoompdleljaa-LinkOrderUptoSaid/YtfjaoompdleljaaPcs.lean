/-
  Slices of bytes in a slice that came in. Helper text; no statement is proved here.
-/
import Derived.Test.YtfjaoompdleljaaSlIn
set_option linter.unusedVariables false
set_option maxRecDepth 20000
set_option linter.unusedSimpArgs false
namespace Go.Proofs.Ytfjaoompdleljaa.Flat
open Go.RowKit Go.Proofs.Ytfjaoompdleljaa.Base Go.Proofs.Ytfjaoompdleljaa.Laws
/-- slices of bytes in a slice -/
def Pcs (w : World) (a : Option Addr) (n cap : Nat) (ps : List (List UInt8)) : Prop :=
  ps.length = n ∧ n ≤ cap ∧ cap ≤ maxLen ∧ n ≤ 11728124029612 ∧ (n = 0 ∨ ∃ b o, a = some ⟨b, o, none⟩ ∧ ∀ i p, ps[i]? = some p → ∃ a' len' cap', w.cell? ⟨b, o + i, none⟩ = some (.slice a' len' cap') ∧ Bts w a' len' cap' p ∧ len' ≤ 140737488351232)
section
variable {H : Type} {enc : TypeId × Value → H} {base : Nat} {spare : Nat → Bool} {held : Bool} {W : World}
def gp (p : List UInt8 × Value) : List Value := [p.2]
theorem pcs_in {a : Option Addr} {len cap : Nat} (h : Opens.LfOk enc Try.prog W base spare held (.slice 23) (.slice a len cap)) : ∃ ps, Pcs W a len cap ps := by
  obtain ⟨l, ⟨h1, h2, h3, h4, h5⟩, hok, hb⟩ := sl_in (f := gp) (m := 1) (Ok := fun p => ∃ a l c, p.2 = .slice a l c ∧ Bts W a l c p.1 ∧ l ≤ 140737488351232) (ks := [.slice 5]) (by decide) (by kernel_rfl) (by kernel_rfl) (fun cs hcs hf => by
    obtain ⟨c, cs', rfl, hc, _⟩ := hf.next
    obtain rfl : cs' = [] := List.eq_nil_of_length_eq_zero (by simpa using hcs)
    rcases hc with rfl | ⟨a', l', c', rfl, hr⟩
    · exact ⟨([], .slice none 0 0), rfl, none, 0, 0, rfl, ⟨rfl, Nat.le_refl _, by unfold maxLen; omega, .inl rfl⟩, by omega⟩
    · obtain ⟨u, hu, hl⟩ := bytes_in (a := some a') (len := l') (cap := c') (.inr ⟨a', l', c', rfl, hr⟩)
      exact ⟨(u, .slice (some a') l' c'), rfl, some a', l', c', rfl, hu, hl⟩) h
  have hbo : Try.prog.bytesOf 23 = 24 := by kernel_rfl
  rw [hbo] at hb
  refine ⟨l.map Prod.fst, by simp [h1], h2, h3, by unfold reachBytes at hb; omega, ?_⟩
  rcases h5 with h5 | ⟨b, o, rfl, hc⟩
  · exact .inl h5
  · refine .inr ⟨b, o, rfl, fun i p hp => ?_⟩
    rw [List.getElem?_map] at hp
    obtain ⟨q, hq, rfl⟩ := Option.map_eq_some_iff.1 hp
    obtain ⟨a', l', c', e, hb', hl'⟩ := hok q (List.mem_of_getElem? hq)
    refine ⟨a', l', c', ?_, hb', hl'⟩
    have := hc (i * 1 + 0) q.2 (flat_get (m := 1) (f := gp) (fun x _ => rfl) hq rfl)
    rw [e] at this
    simpa using this
end
end Go.Proofs.Ytfjaoompdleljaa.Flat
