/-
  The reference's sums by contract: bit, More, Crc. Helper text; no statement is proved here.
-/
import Derived.Test.YtobblbplanimgaaBase
set_option linter.unusedVariables false
set_option maxRecDepth 20000
namespace Go.Proofs.Ytobblbplanimgaa.RefSumW
open Go.RowKit Go.Proofs.Ytobblbplanimgaa.Base
set_option maxHeartbeats 400000 in
theorem bit_any (c b : Nat) (hc : c < 4294967296) (hb : b < 4294967296) (w : World) : Calls Try.prog 61 #[.int .u32 (c : Int), .int .u32 (b : Int)] w fun e w' => e = .returned (.int .u32 (Crc.bit c b : Nat)) ∧ w = w' := by
  go_enter Try.func61, Try.ntmps61
  go_wp2
  all_goals go_ret
  · exact ⟨ret_int (bit_odd c b hc hb (by assumption)), rfl⟩
  · exact ⟨ret_int (bit_even c b hc hb (by assumption)), rfl⟩
set_option maxHeartbeats 400000 in
theorem more_any (c : Nat) (hc : c < 4294967296) (a : Option Addr) (len cap : Nat) (l : List UInt8) (w : World) (h : Bts w a len cap l) :
    Calls Try.prog 58 #[.int .u32 (c : Int), .slice a len cap] w fun e w' => e = .returned (.int .u32 (Crc.more c l : Nat)) ∧ w = w' := by
  obtain ⟨hl, hlc, hm, ha⟩ := h
  unfold maxLen at hm
  have hnot := not32 c hc
  have hs : ¬ IntKind.u32.signed = true := by decide
  have hr0 := Crc.xor_lt Crc.ones c (by decide) hc
  rcases ha with h0 | ⟨b, o, rfl, hcell⟩
  · subst h0
    obtain rfl : l = [] := List.eq_nil_of_length_eq_zero hl
    have hnot2 := not32 (Crc.ones ^^^ c) hr0
    go_enter Try.func58, Try.ntmps58
    go_wp2
    refine wp_loop_rounds 1 ?_
    rw [rounds_succ]
    go_wp2
    go_ret
    exact ⟨rfl, rfl⟩
  · go_enter Try.func58, Try.ntmps58
    go_wp2
    go_loop [5, 6] (fun v i => ∃ k : Nat, k ≤ len ∧ i = .int .i64 k ∧ v = .int .u32 (Crc.reg (Crc.ones ^^^ c) (l.take k) : Nat)) (fun _ i => len - (intOf i).toNat)
    case atStart => exact ⟨0, by omega, rfl, rfl⟩
    case round =>
      obtain ⟨k, hk, rfl, rfl⟩ := hrel
      have hlt := Crc.reg_lt (l.take k) _ hr0
      by_cases hkl : k < len
      · obtain ⟨u, hu⟩ : ∃ u, l[k]? = some u := ⟨l[k]'(by omega), List.getElem?_eq_getElem (by omega)⟩
        have hc1 := hcell k u hu
        unfold u8 at hc1
        have hub := u.toNat_lt
        have HT := Lib.hid (take_snoc l k u hu)
        clear hu hcell
        go_wp2
        go_loop [5, 7] (fun v j => ∃ m : Nat, m ≤ 8 ∧ j = .int .i64 m ∧ v = .int .u32 (Crc.bits m (Crc.reg (Crc.ones ^^^ c) (l.take k)) u.toNat : Nat)) (fun _ i => 8 - (intOf i).toNat)
        case atStart => exact ⟨0, by omega, rfl, rfl⟩
        case round =>
          obtain ⟨m, hm8, rfl, rfl⟩ := hrel
          have hbl := Crc.bits_lt m (Crc.reg (Crc.ones ^^^ c) (l.take k)) u.toNat hlt
          by_cases hm1 : m < 8
          · have HB := Lib.hid (Crc.bits_succ m (Crc.reg (Crc.ones ^^^ c) (l.take k)) u.toNat)
            go_wp2_with (go_at_call 61; rw [bitarg]; refine (bit_any _ _ hbl (by omega) _).mono ?_; rintro e w' ⟨rfl, rfl⟩)
            go_round
            case rel => exact ⟨m + 1, by omega, by go_num, by rw [HB.out]⟩
            case measure => simp [intOf]; omega
          · have HM := Lib.hid (show m = 8 by omega)
            go_wp2
            go_round
            case rel => exact ⟨k + 1, by omega, by go_num, by rw [HT.out, Crc.reg_append, HM.out, Crc.bits8]; rfl⟩
            case measure => simp [intOf]; omega
      · have hnot2 := not32 _ hlt
        go_wp2
        go_ret
        obtain rfl : k = len := by omega
        exact ⟨by rw [List.take_of_length_le (by omega)] ; rfl, rfl⟩
theorem crc_any (a : Option Addr) (len cap : Nat) (l : List UInt8) (w : World) (h : Bts w a len cap l) :
    Calls Try.prog 51 #[.slice a len cap] w fun e w' => e = .returned (.int .u32 (Crc.crc l : Nat)) ∧ w = w' := by
  have H := Lib.hid (more_any 0 (by decide) a len cap l w h)
  clear h
  go_enter Try.func51, Try.ntmps51
  go_wp2_with (go_at_call 58; refine H.out.mono ?_; rintro e w' ⟨rfl, rfl⟩)
  go_ret
  exact ⟨rfl, rfl⟩
end Go.Proofs.Ytobblbplanimgaa.RefSumW
