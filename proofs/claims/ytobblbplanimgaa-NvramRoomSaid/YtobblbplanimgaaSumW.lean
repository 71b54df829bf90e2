/-
  The sums' functions by contract: step, Crc, More of the program. Helper text; no statement is proved here.
-/
import Derived.Test.YtobblbplanimgaaBase
set_option linter.unusedVariables false
set_option maxRecDepth 20000
namespace Go.Proofs.Ytobblbplanimgaa.SumW
open Go.RowKit Go.Proofs.Ytobblbplanimgaa.Base
set_option maxHeartbeats 400000 in
theorem step_any (c : Nat) (hc : c < 4294967296) (w : World) : Calls Try.prog 62 #[.int .u32 (c : Int)] w fun e w' => e = .returned (.int .u32 (Crc.fN 8 c : Nat)) ∧ w = w' := by
  go_enter Try.func62, Try.ntmps62
  go_wp2
  go_loop [0, 3] (fun v i => ∃ k : Nat, k ≤ 8 ∧ i = .int .i64 k ∧ v = .int .u32 (Crc.fN k c : Nat)) (fun _ i => 8 - (intOf i).toNat)
  case atStart => exact ⟨0, by omega, rfl, rfl⟩
  case round =>
    obtain ⟨k, hk, rfl, rfl⟩ := hrel
    have hlt := Crc.fN_lt k c hc
    by_cases hk8 : k < 8
    · go_wp2
      all_goals
        go_round
        case rel => exact ⟨k + 1, by omega, by go_num, by rw [Crc.fN_succ']; first | rw [f_odd _ hlt (by assumption)] | rw [f_even _ hlt (by assumption)]⟩
        case measure => simp [intOf]; omega
    · go_wp2
      go_ret
      obtain rfl : k = 8 := by omega
      exact ⟨rfl, rfl⟩
set_option maxHeartbeats 400000 in
theorem more_any (c : Nat) (hc : c < 4294967296) (a : Option Addr) (len cap : Nat) (l : List UInt8) (w : World) (h : Bts w a len cap l) :
    Calls Try.prog 60 #[.int .u32 (c : Int), .slice a len cap] w fun e w' => e = .returned (.int .u32 (Crc.more c l : Nat)) ∧ w = w' := by
  obtain ⟨hl, hlc, hm, ha⟩ := h
  unfold maxLen at hm
  have hnot := not32 c hc
  have hs : ¬ IntKind.u32.signed = true := by decide
  have hr0 := Crc.xor_lt Crc.ones c (by decide) hc
  rcases ha with h0 | ⟨b, o, rfl, hcell⟩
  · subst h0
    obtain rfl : l = [] := List.eq_nil_of_length_eq_zero hl
    have hnot2 := not32 (Crc.ones ^^^ c) hr0
    go_enter Try.func60, Try.ntmps60
    go_wp2
    refine wp_loop_rounds 1 ?_
    rw [rounds_succ]
    go_wp2
    go_ret
    exact ⟨rfl, rfl⟩
  · go_enter Try.func60, Try.ntmps60
    go_wp2
    go_loop [5, 12] (fun v i => ∃ k : Nat, k ≤ len ∧ i = .int .i64 k ∧ v = .int .u32 (Crc.reg (Crc.ones ^^^ c) (l.take k) : Nat)) (fun _ i => len - (intOf i).toNat)
    case atStart => exact ⟨0, by omega, rfl, rfl⟩
    case round =>
      obtain ⟨k, hk, rfl, rfl⟩ := hrel
      have hlt := Crc.reg_lt (l.take k) _ hr0
      by_cases hkl : k < len
      · obtain ⟨u, hu⟩ : ∃ u, l[k]? = some u := ⟨l[k]'(by omega), List.getElem?_eq_getElem (by omega)⟩
        have hc1 := hcell k u hu
        unfold u8 at hc1
        have hub := u.toNat_lt
        have hx := xor32 _ u.toNat hlt (Crc.byte_lt u)
        have hstep := fun w => step_any _ (Crc.xor_lt _ _ hlt (Crc.byte_lt u)) w
        have HS := Lib.hid hstep
        have HT := Lib.hid (take_snoc l k u hu)
        clear hstep hu hcell
        go_wp2_with (go_at_call 62; refine (HS.out _).mono ?_; rintro e w' ⟨rfl, rfl⟩)
        go_round
        case rel => exact ⟨k + 1, by omega, by go_num, by rw [HT.out, Crc.reg_append]; rfl⟩
        case measure => simp [intOf]; omega
      · have hnot2 := not32 _ hlt
        go_wp2
        go_ret
        obtain rfl : k = len := by omega
        exact ⟨by rw [List.take_of_length_le (by omega)] ; rfl, rfl⟩
theorem crc_any (a : Option Addr) (len cap : Nat) (l : List UInt8) (w : World) (h : Bts w a len cap l) :
    Calls Try.prog 54 #[.slice a len cap] w fun e w' => e = .returned (.int .u32 (Crc.crc l : Nat)) ∧ w = w' := by
  have H := Lib.hid (more_any 0 (by decide) a len cap l w h)
  clear h
  go_enter Try.func54, Try.ntmps54
  go_wp2_with (go_at_call 60; refine H.out.mono ?_; rintro e w' ⟨rfl, rfl⟩)
  go_ret
  exact ⟨rfl, rfl⟩
end Go.Proofs.Ytobblbplanimgaa.SumW
