/-
  Bytes with their sum behind them, and such bytes torn. Helper text; no statement is proved here.
-/
import Derived.Test.YtmmgejlfcehipaaTurn4
import Derived.Test.YtmmgejlfcehipaaSupIn
import Derived.Test.YtmmgejlfcehipaaUnpackMsg
import Derived.Test.YtmmgejlfcehipaaScan
set_option linter.unusedVariables false
set_option linter.unusedSimpArgs false
namespace Go.Proofs.Ytmmgejlfcehipaa.Codec
open Go.RowKit Go.Proofs.Ytmmgejlfcehipaa.Base Go.Proofs.Ytmmgejlfcehipaa.Laws
/-- the last four bytes are the sum of the others -/
def Sealed (N : Nat) (l : List UInt8) : Prop := l.length = N + 4 ∧ l.drop N = be 4 (Crc.crc (l.take N))
def Torn (N : Nat) (l : List UInt8) : Prop := l.length = N + 4 ∧ ¬ l.drop N = be 4 (Crc.crc (l.take N))
theorem sealed_of {q : List UInt8} {N : Nat} (h : q.length = N) : Sealed N (q ++ be 4 (Crc.crc q)) := by
  subst h
  refine ⟨by rw [List.length_append, be_len], ?_⟩
  rw [List.drop_left, List.take_left]
theorem be4_inj {a b : Nat} (ha : a < 4294967296) (hb : b < 4294967296) (h : be 4 a = be 4 b) : a = b := by
  have h1 := val_be 4 a (by simpa using ha)
  have h2 := val_be 4 b (by simpa using hb)
  rw [h] at h1
  omega
theorem torn_of {N row o : Nat} {l z : List UInt8} (hs : Sealed N l) (hz : z.length = N + 4) (hd : z.drop N = l.drop N) (hr : row < 4294967296) (h0 : row ≠ 0) (ho : o ≤ 8 * N) (hn : Crc.num (z.take N) = Crc.num (l.take N) ^^^ row * 2 ^ o) : Torn N z := by
  refine ⟨hz, fun e => ?_⟩
  have hl : (l.take N).length = N := by rw [List.length_take, hs.1]; omega
  have hzl : (z.take N).length = N := by rw [List.length_take, hz]; omega
  have := Turn4.crc_burst (l := l.take N) (z := z.take N) (row := row) (o := o) (by rw [hl, hzl]) hr h0 (by rw [hl]; exact ho) hn
  apply this
  rw [hd, hs.2] at e
  exact (be4_inj (Crc.crc_lt _) (Crc.crc_lt _) e).symm
theorem torn_rec {l : List UInt8} (h : Torn 33 l) : ¬ IsRec l := by
  intro hi
  apply h.2
  have := hi.2.2
  have hl : (l.drop 33).length = 4 := by rw [List.length_drop, h.1]
  rwa [List.take_of_length_le (by omega)] at this
theorem torn_sup {l : List UInt8} (h : Torn 41 l) : ¬ IsSup l := by
  intro hi
  apply h.2
  have hb := hi.2.2
  have hs := sealed_of (q := (supOf l).b41) (Su.b41_len _)
  rw [show (supOf l).b41 ++ be 4 (Crc.crc (supOf l).b41) = l from hb] at hs
  exact hs.2
theorem torn_msg {l : List UInt8} {N : Nat} (h : Torn N l) (h17 : 17 ≤ l.length) : ¬ IsMsg l := by
  intro hi
  apply h.2
  have hb := hi.2.2
  have hs := sealed_of (q := msgB (fieldOf l 0) (fieldOf l 4) (fieldOf l 8) (bodyOf l)) (N := N) (by rw [msgB_len, bodyOf_len h17]; have := h.1; omega)
  rw [show msgB (fieldOf l 0) (fieldOf l 4) (fieldOf l 8) (bodyOf l) ++ be 4 (Crc.crc (msgB (fieldOf l 0) (fieldOf l 4) (fieldOf l 8) (bodyOf l))) = l from hb] at hs
  exact hs.2
/-- what packing answered: bytes of which P holds, or a refusal -/
def Pk (w : World) (base : Nat) (v : Value) (er : Int) (N : Nat) (P : List UInt8 → Prop) : Prop :=
  (er = 0 ∧ ∃ g cap l, v = .slice (some ⟨g, 0, none⟩) (N + 4) cap ∧ base ≤ g ∧ w.ownsRow base 5 1 v (N + 4) (bv l) ∧ P l) ∨ (¬ er = 0 ∧ v = .slice none 0 0)
theorem Pk.kept {w w' : World} {base : Nat} {v : Value} {er : Int} {N : Nat} {P : List UInt8 → Prop} {row : Option Nat} (h : Pk w base v er N P) (hg : w.grownBy w' row) (hne : v.ownBlock = none ∨ v.ownBlock ≠ row) : Pk w' base v er N P := by
  rcases h with ⟨h1, g, cap, l, h2, h3, h4, h5⟩ | h
  · exact .inl ⟨h1, g, cap, l, h2, h3, h4.kept hg hne, h5⟩
  · exact .inr h
theorem Pk.below {w w' : World} {base : Nat} {v : Value} {er : Int} {N : Nat} {P : List UInt8 → Prop} (h : Pk w base v er N P) (hb : Below w.heap.size w w') : Pk w' base v er N P := by
  rcases h with ⟨h1, g, cap, l, h2, h3, h4, h5⟩ | h
  · exact .inl ⟨h1, g, cap, l, h2, h3, own_below h4 hb, h5⟩
  · exact .inr h
theorem Pk.lt {w : World} {base : Nat} {v : Value} {er : Int} {N : Nat} {P : List UInt8 → Prop} (h : Pk w base v er N P) : ∀ k, v.ownBlock = some k → base ≤ k ∧ k < w.heap.size := by
  rcases h with ⟨h1, g, cap, l, h2, h3, h4, h5⟩ | ⟨_, rfl⟩
  · exact h4.lt
  · intro k hk; simp [Value.ownBlock] at hk
theorem pk_of_own {w : World} {base : Nat} {v : Value} {N : Nat} {P : List UInt8 → Prop} {l : List UInt8} (h : w.ownsRow base 5 1 v (N + 4) (bv l)) (hp : P l) : Pk w base v 0 N P := by
  refine .inl ⟨rfl, ?_⟩
  rcases h.2 with ⟨rfl, h0⟩ | ⟨g, cap, cur, rfl, hb, _⟩
  · omega
  · exact ⟨g, cap, l, rfl, hb, h, hp⟩
theorem turn_pk {w : World} {base row fr N : Nat} {v : Value} {er : Int} (hr : row < 4294967296) (h0 : row ≠ 0) (hf : fr < 65536) (hN : 13 ≤ N) (hN2 : N ≤ 900) (h : Pk w base v er N (Sealed N)) :
    Calls Try.prog 29 #[v, .int .u32 (row : Int), .int .i64 (fr : Int)] w fun e w' => e = .returned (.tuple #[]) ∧ Pk w' base v er N (Torn N) ∧ w.grownBy w' v.ownBlock := by
  rcases h with ⟨h1, g, cap, l, rfl, h3, h4, h5⟩ | ⟨h1, rfl⟩
  · refine (Turn4.turn_any base g (N + 4) cap row fr l h5.1 (by omega) (by omega) hr hf w h4).mono ?_
    rintro e w' ⟨he, ⟨z, o, hz, ho, hd, hn, how⟩, hg⟩
    rw [show N + 4 - 4 = N from by omega] at hd hn ho
    exact ⟨he, .inl ⟨h1, g, cap, z, rfl, h3, how, torn_of h5 hz hd hr h0 (by omega) hn⟩, hg⟩
  · refine (Turn4.turn_short none 0 0 row fr (by decide) w).mono ?_
    rintro e w' ⟨he, rfl⟩
    exact ⟨he, .inr ⟨h1, rfl⟩, ⟨rfl, rfl, rfl, Nat.le_refl _, fun _ _ _ => rfl⟩⟩
end Go.Proofs.Ytmmgejlfcehipaa.Codec
