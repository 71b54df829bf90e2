/-
  Slices that came in, read as lists. Helper text; no statement is proved here.
-/
import Derived.Test.YtfjaoompdleljaaFlat
import Derived.Test.YtfjaoompdleljaaOpens
set_option linter.unusedVariables false
set_option maxRecDepth 20000
set_option linter.unusedSimpArgs false
namespace Go.Proofs.Ytfjaoompdleljaa.Flat
open Go.RowKit Go.Proofs.Ytfjaoompdleljaa.Base Go.Proofs.Ytfjaoompdleljaa.Laws
section
variable {H : Type} {enc : TypeId × Value → H} {base : Nat} {spare : Nat → Bool} {held : Bool} {W : World}
theorem cellsu8 : Try.prog.cellsOf 5 = 1 := by kernel_rfl
theorem bytesu8 : Try.prog.bytesOf 5 = 1 := by kernel_rfl
/-- bytes that came in -/
theorem bytes_in {a : Option Addr} {len cap : Nat} (h : Opens.LfOk enc Try.prog W base spare held (.slice 5) (.slice a len cap)) : ∃ l, Bts W a len cap l ∧ len ≤ 140737488351232 := by
  obtain ⟨l, h1, h2, h3, h4, h5⟩ := Opens.bytes_of_lf Try.underlying5 cellsu8 bytesu8 h
  exact ⟨l, ⟨h1, h2, h3, h5⟩, h4⟩
/-- pieces that came in -/
theorem sl_in {α : Type} {f : α → List Value} {Ok : α → Prop} {e : TypeId} {m : Nat} {ks : List Opens.Lf} (hm0 : 0 < m) (hlv : Opens.leaves Try.prog 8 e = some ks) (hce : Try.prog.cellsOf e = m)
    (hin : ∀ cs : List Value, cs.length = m → Opens.Fits enc Try.prog W base spare held ks cs → ∃ x, cs = f x ∧ Ok x)
    {a : Option Addr} {len cap : Nat} (h : Opens.LfOk enc Try.prog W base spare held (.slice e) (.slice a len cap)) : ∃ l, Sl W f m a len cap l ∧ (∀ x ∈ l, Ok x) ∧ len * Try.prog.bytesOf e ≤ reachBytes := by
  rcases h with h | ⟨ad, len', cap', h, hb, hl, hm, hr, hq⟩
  · simp only [Value.slice.injEq] at h
    obtain ⟨rfl, rfl, rfl⟩ := h
    exact ⟨[], sl_nil _ _ (by unfold maxLen; omega), by simp, by simp⟩
  · simp only [Value.slice.injEq] at h
    obtain ⟨rfl, rfl, rfl⟩ := h
    rw [hce] at hq
    obtain ⟨xs, hxl, hxs⟩ := Opens.choose_list (q := fun i (x : α) => Ok x ∧ (f x).length = m ∧ ∀ j u, (f x)[j]? = some u → W.cell? ((ad.add (i * m)).add j) = some u) len fun i hi => by
      obtain ⟨cs, n, y, h1, h2, h3⟩ := hq i hi
      have hf := Opens.fits_of_trod 8 _ _ hlv n cs y h2 h3
      obtain ⟨_, hcl, hc⟩ := World.cells?_some h1
      obtain ⟨x, rfl, hok⟩ := hin cs hcl hf
      refine ⟨x, hok, hcl, fun j u hu => ?_⟩
      have hj := (List.getElem?_eq_some_iff.1 hu).1
      rw [hcl] at hj
      rw [hc j hj]
      exact hu
    have hlen : ∀ x ∈ xs, (f x).length = m := fun x hx => by
      obtain ⟨i, hi⟩ := List.mem_iff_getElem?.1 hx
      exact (hxs i x hi).2.1
    refine ⟨xs, ⟨hxl, hl, hm, hlen, ?_⟩, fun x hx => by
      obtain ⟨i, hi⟩ := List.mem_iff_getElem?.1 hx
      exact (hxs i x hi).1, hr⟩
    by_cases h0 : len = 0
    · exact .inl h0
    · obtain ⟨x0, hx0⟩ : ∃ u, xs[0]? = some u := ⟨_, List.getElem?_eq_getElem (by omega)⟩
      obtain ⟨_, hl0, hc0⟩ := hxs 0 x0 hx0
      obtain ⟨v0, hv0⟩ : ∃ v, (f x0)[0]? = some v := ⟨_, List.getElem?_eq_getElem (by omega)⟩
      have hs := World.cell?_spot (hc0 0 v0 hv0)
      obtain ⟨b, o, sp⟩ := ad
      have hsp : sp = none := by simpa [Addr.add] using hs
      subst hsp
      refine .inr ⟨b, o, rfl, fun j u hu => ?_⟩
      have hj := (List.getElem?_eq_some_iff.1 hu).1
      rw [flat_len hlen] at hj
      have hi : j / m < xs.length := Nat.div_lt_of_lt_mul (by rw [Nat.mul_comm]; exact hj)
      obtain ⟨x, hx⟩ : ∃ r, xs[j / m]? = some r := ⟨_, List.getElem?_eq_getElem hi⟩
      obtain ⟨_, hlx, hcells⟩ := hxs _ x hx
      have hmj : j % m < (f x).length := by rw [hlx]; exact Nat.mod_lt _ hm0
      have hg : (f x)[j % m]? = some ((f x)[j % m]'hmj) := List.getElem?_eq_getElem hmj
      have e := flat_get hlen hx hg
      have hd : j / m * m + j % m = j := by rw [Nat.mul_comm]; exact Nat.div_add_mod _ _
      rw [hd, hu] at e
      have := hcells _ _ hg
      rw [← Option.some.inj e] at this
      simp only [Addr.add_lit] at this
      rw [show o + j = o + j / m * m + j % m from by rw [Nat.add_assoc, hd]]
      exact this
end
end Go.Proofs.Ytfjaoompdleljaa.Flat
