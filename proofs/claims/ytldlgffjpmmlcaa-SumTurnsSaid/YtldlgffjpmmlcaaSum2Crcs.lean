/-
  The walk of SumCrcs. Helper text; no statement is proved here.
-/
import Derived.Test.YtldlgffjpmmlcaaSum2Awake
import Derived.Test.YtldlgffjpmmlcaaLaws
import Derived.Deep.QuietTactic
import Derived.BigQuiet
set_option linter.unusedVariables false
namespace Go.Proofs.Ytldlgffjpmmlcaa.Sum2
open Go.RowKit Go.Proofs.Ytldlgffjpmmlcaa.Base Go.Proofs.Ytldlgffjpmmlcaa.Laws
theorem infou8 : (Try.prog.info? 5).map (fun i => (i.zero, i.size, i.bytes)) = some (some (.int .u8 0), 1, 1) := by kernel_rfl
theorem src_bts {w : World} {a : Option Addr} {len cap : Nat} {l : List UInt8} (h : Bts w a len cap l) : SrcOf w a len 1 (bv l) := by
  obtain ⟨h1, _, _, h4⟩ := h
  refine ⟨by simp [h1, bv_len], fun u hu => by unfold bv at hu; obtain ⟨x, _, rfl⟩ := List.mem_map.1 hu; rfl, ?_⟩
  rcases h4 with h4 | ⟨b, o, e, hc⟩
  · exact .inl h4
  · refine .inr ⟨_, e, fun j u hu => ?_⟩
    rw [bv_get, Option.map_eq_some_iff] at hu
    obtain ⟨x, hx, rfl⟩ := hu
    have := hc j x hx
    simp only [Addr.add_lit]
    exact this
theorem bts_own {w : World} {base : Nat} {e : TypeId} {v : Value} {n : Nat} {l : List UInt8} (hl : l.length = n) (h : w.ownsRow base e 1 v n (bv l)) : ∃ a cap, v = .slice a n cap ∧ Bts w a n cap l := by
  obtain ⟨a, cap, rfl, h1, h2, h3⟩ := own_slice h (by decide)
  refine ⟨a, cap, rfl, hl, h1, h2, ?_⟩
  rcases h3 with h3 | ⟨g, rfl, _, hc⟩
  · exact .inl h3
  · exact .inr ⟨g, 0, rfl, fun i u hu => hc i _ (by simp [bv_get, hu])⟩
set_option maxHeartbeats 1000000 in
theorem crcs_walk (crc : Nat) (hcr : crc < 4294967296) (a : Option Addr) (len cap : Nat) (l : List UInt8) (w : World) (h : Bts w a len cap l) (hr : len ≤ 140737488351232) :
    Calls Try.prog 3 #[.int .u32 (crc : Int), .slice a len cap] w fun e w' => e = .returned (.bool true) ∧ Below w.heap.size w w' := by
  have hl := h.1
  have hlc := h.2.1
  have H := Lib.hid h
  clear h
  have hs := (src_bts (H.out.below (B := w.heap.size) (w' := w.alloc (.cells #[] 5)) ((Below.refl _ _).alloc (Nat.le_refl _) _) (Nat.le_refl _)))
  have ho := World.ownsRow_made (e := 5) (size := 1) (base := w.heap.size) w #[] 0 (Nat.le_refl _) (Nat.zero_le _) rfl
  have HS := Lib.hid hs
  have HO := Lib.hid ho
  clear hs ho
  go_enter Try.func3, Try.ntmps3
  go_wp2_with (first | (at_builtin; refine wpList_append_any _ rfl _ _ 23 rfl w.heap.size 5 (.int .u8 0) 1 1 Try.underlying23 infou8 rfl (by decide) _ 0 [] rfl HO.out a len cap (bv l) rfl HS.out ?c1 ?c2 ?c3 ?_))
  case c1 => omega
  case c2 => unfold maxLen; omega
  case c3 => simp
  intro v' w1 hown hgrow
  have hb1 : Below w.heap.size w w1 := ((Below.refl _ _).alloc (Nat.le_refl _) _).grown hgrow (by simp) (fun k hk => by simp [Value.ownBlock] at hk; omega)
  obtain ⟨a', cap', rfl, hbt⟩ := bts_own hl hown
  clear hown hgrow
  have HB1 := Lib.hid hb1
  have HT := Lib.hid hbt
  have H1 := Lib.hid (H.out.below hb1 (Nat.le_refl _))
  clear hb1 hbt
  go_wp2_with fail
  refine (awake_any _).mono ?_
  rintro e w2 ⟨rfl, hb2⟩
  have H2 := Lib.hid (H1.out.below hb2 (Nat.le_refl _))
  have HT2 := Lib.hid (HT.out.below hb2 (Nat.le_refl _))
  have HB2 := Lib.hid (HB1.out.trans (hb2.mono HB1.out.size))
  clear hb2 HT H1 HB1
  go_wp2_with (first | (go_at_call 11; refine (SumW.crc_any _ _ _ _ _ HT2.out).mono ?_; rintro e w' ⟨rfl, rfl⟩) | (go_at_call 12; refine (RefSumW.crc_any _ _ _ _ _ H2.out).mono ?_; rintro e w' ⟨rfl, rfl⟩) | (go_at_call 13; refine (SumW.more_any _ hcr _ _ _ _ _ HT2.out).mono ?_; rintro e w' ⟨rfl, rfl⟩) | (go_at_call 14; refine (RefSumW.more_any _ hcr _ _ _ _ _ H2.out).mono ?_; rintro e w' ⟨rfl, rfl⟩))
  go_loopw [6] (fun i wr => ∃ k n : Nat, k ≤ len ∧ i = .int .i64 k ∧ wr = w2.drewN n) (fun i _ => len - (intOf i).toNat)
  case atStart => exact ⟨0, 0, by omega, rfl, rfl⟩
  case round =>
    obtain ⟨k, n, hk, rfl, rfl⟩ := hrel
    by_cases hkl : k < len
    · rcases H2.out.2.2.2 with h0 | ⟨b, o, rfl, hc⟩
      · omega
      rcases HT2.out.2.2.2 with h0 | ⟨b', o', rfl, hc'⟩
      · omega
      obtain ⟨u, hu⟩ : ∃ u, l[k]? = some u := ⟨l[k]'(by omega), List.getElem?_eq_getElem (by omega)⟩
      have g1 := hc k u hu
      have g2 := hc' k u hu
      unfold u8 at g1 g2
      have hlen := H2.out.2.2.1
      unfold maxLen at hlen
      clear hc hc' hu
      go_wp2
      go_quiet (fail)
      go_wp2
      go_roundw
      case rel => exact ⟨k + 1, _, by omega, by go_num, rfl⟩
      case measure => simp [intOf]; omega
    · go_wp2
      go_ret
      exact ⟨rfl, below_drewN HB2.out _⟩
end Go.Proofs.Ytldlgffjpmmlcaa.Sum2
