/-
  Bytes that are owned, bytes that are read. Helper text; no statement is proved here.
-/
import Derived.Test.YtfjaoompdleljaaBase
import Derived.Test.YtfjaoompdleljaaLaws
set_option linter.unusedVariables false
set_option maxRecDepth 20000
namespace Go.Proofs.Ytfjaoompdleljaa.OwnB
open Go.RowKit Go.Proofs.Ytfjaoompdleljaa.Base Go.Proofs.Ytfjaoompdleljaa.Laws
theorem infou8 : (Try.prog.info? 5).map (fun i => (i.zero, i.size, i.bytes)) = some (some (.int .u8 0), 1, 1) := by kernel_rfl
theorem src_bts {w : World} {a : Option Addr} {len cap : Nat} {l : List UInt8} (h : Bts w a len cap l) : SrcOf w a len 1 (bv l) := by
  obtain ⟨h1, _, _, h4⟩ := h
  refine ⟨by simp [h1, bv_len], fun u hu => by unfold bv at hu; obtain ⟨x, _, rfl⟩ := List.mem_map.1 hu; rfl, ?_⟩
  rcases h4 with h4 | ⟨b, o, e, hc⟩
  · exact .inl h4
  · refine .inr ⟨_, e, fun j u hu => ?_⟩
    rw [bv_get, Option.map_eq_some_iff] at hu
    obtain ⟨x, hx, rfl⟩ := hu
    have := hc j x hx
    simp only [Addr.add_lit]
    exact this
theorem bts_own {w : World} {base : Nat} {e : TypeId} {v : Value} {n : Nat} {l : List UInt8} (hl : l.length = n) (h : w.ownsRow base e 1 v n (bv l)) : ∃ a cap, v = .slice a n cap ∧ Bts w a n cap l := by
  obtain ⟨a, cap, rfl, h1, h2, h3⟩ := own_slice h (by decide)
  refine ⟨a, cap, rfl, hl, h1, h2, ?_⟩
  rcases h3 with h3 | ⟨g, rfl, _, hc⟩
  · exact .inl h3
  · exact .inr ⟨g, 0, rfl, fun i u hu => hc i _ (by simp [bv_get, hu])⟩
end Go.Proofs.Ytfjaoompdleljaa.OwnB
