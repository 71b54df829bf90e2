/-
  CodecUnlike at arguments that came in. Helper text; no statement is proved here.
-/
import Derived.Test.YtmmgejlfcehipaaCodecUnlike
set_option linter.unusedVariables false
namespace Go.Proofs.Ytmmgejlfcehipaa.Codec
open Go.RowKit Go.Proofs.Ytmmgejlfcehipaa.Base Go.Proofs.Ytmmgejlfcehipaa.Laws
section
variable {H : Type} {enc : TypeId × Value → H} {base : Nat} {spare : Nat → Bool} {held : Bool} {W : World}
theorem unlike_in (c1 : List Value) (hl1 : c1.length = 19) (h1 : Opens.Fits enc Try.prog W base spare held ([.int .i64, .int .u64, .int .i64] ++ List.replicate 16 (.int .u8)) c1)
    (c2 : List Value) (hl2 : c2.length = 19) (h2 : Opens.Fits enc Try.prog W base spare held ([.int .i64, .int .u64, .int .i64] ++ List.replicate 16 (.int .u8)) c2)
    (c3 : List Value) (hl3 : c3.length = 7) (h3 : Opens.Fits enc Try.prog W base spare held (List.replicate 4 (.int .i64) ++ [.int .u32, .int .u64, .int .i64]) c3)
    (c4 : List Value) (hl4 : c4.length = 7) (h4 : Opens.Fits enc Try.prog W base spare held (List.replicate 4 (.int .i64) ++ [.int .u32, .int .u64, .int .i64]) c4)
    (c5 : List Value) (hl5 : c5.length = 4) (h5 : Opens.Fits enc Try.prog W base spare held ([.int .u32, .int .u32, .int .u32] ++ [.slice 5]) c5)
    (c6 : List Value) (hl6 : c6.length = 4) (h6 : Opens.Fits enc Try.prog W base spare held ([.int .u32, .int .u32, .int .u32] ++ [.slice 5]) c6) :
    Calls Try.prog 8 #[.agg c1.toArray, .agg c2.toArray, .agg c3.toArray, .agg c4.toArray, .agg c5.toArray, .agg c6.toArray] W fun e w' => e = .returned (.bool true) ∧ Below W.heap.size W w' := by
  obtain ⟨k, v, a, l, hl16, hv, hk, ha, rfl⟩ := rec_in hl1 rfl h1
  obtain ⟨k', v', a', l', hl16', hv', hk', ha', rfl⟩ := rec_in hl2 rfl h2
  obtain ⟨x, hx, rfl⟩ := sup_in hl3 (show Opens.Fits enc Try.prog W base spare held [.int .i64, .int .i64, .int .i64, .int .i64, .int .u32, .int .u64, .int .i64] c3 from h3)
  obtain ⟨x', hx', rfl⟩ := sup_in hl4 (show Opens.Fits enc Try.prog W base spare held [.int .i64, .int .i64, .int .i64, .int .i64, .int .u32, .int .u64, .int .i64] c4 from h4)
  obtain ⟨e, s, q, b, n, cb, m, he, hs, hq, rfl, hb, _⟩ := msg_in hl5 h5
  obtain ⟨e', s', q', b', n', cb', m', he', hs', hq', rfl, hb', _⟩ := msg_in hl6 h6
  exact unlike_walk (r1 := ⟨k, v, a, l⟩) (r2 := ⟨k', v', a', l'⟩) ⟨hl16, hv, hk, ha⟩ ⟨hl16', hv', hk', ha'⟩ hx hx' he hs hq he' hs' hq' W hb hb'
end
end Go.Proofs.Ytmmgejlfcehipaa.Codec
