/-
  Get and Unpack of the reference by contract. Helper text; no statement is proved here.
-/
import Derived.Test.YtmmgejlfcehipaaSlices
import Derived.Test.YtmmgejlfcehipaaRefPack
set_option linter.unusedVariables false
set_option linter.unusedSimpArgs false
namespace Go.Proofs.Ytmmgejlfcehipaa.Codec
open Go.RowKit Go.Proofs.Ytmmgejlfcehipaa.Base Go.Proofs.Ytmmgejlfcehipaa.Laws Go.Proofs.Ytmmgejlfcehipaa.Inv Go.Proofs.Ytmmgejlfcehipaa.InvL Go.Proofs.Ytmmgejlfcehipaa.InvM
theorem get_any (a : Option Addr) (len cap : Nat) (l : List UInt8) (i n : Nat) (hi : i + n ≤ len) (hn : n ≤ 8) (w : World) (h : Bts w a len cap l) :
    Calls Try.prog 41 #[.slice a len cap, .int .i64 (i : Int), .int .i64 (n : Int)] w fun e w' => e = .returned (.int .u64 (val ((l.drop i).take n) : Nat)) ∧ w = w' := by
  obtain ⟨hl, hlc, hm, ha⟩ := h
  unfold maxLen at hm
  obtain ⟨q, hq⟩ : ∃ q, q = (l.drop i).take n := ⟨_, rfl⟩
  have hql : q.length = n := by rw [hq, List.length_take, List.length_drop]; omega
  have HC := Lib.hid (show ∀ k x, q[k]? = some x → ∃ b o, a = some ⟨b, o, none⟩ ∧ w.cell? ⟨b, o + (i + k), none⟩ = some (Base.u8 x) from fun k x hx => by
    rcases ha with h0 | ⟨b, o, rfl, hc⟩
    · have := (List.getElem?_eq_some_iff.1 hx).1; omega
    · rw [hq, List.getElem?_take] at hx
      split at hx
      · rw [List.getElem?_drop] at hx
        exact ⟨b, o, rfl, hc _ x hx⟩
      · cases hx)
  rw [← hq]
  clear ha hq
  go_enter Try.func41, Try.ntmps41
  go_wp2
  go_loop [7, 8] (fun v j => ∃ k : Nat, k ≤ n ∧ j = .int .i64 k ∧ v = .int .u64 (val (q.take k) : Nat)) (fun _ j => n - (intOf j).toNat)
  case atStart => exact ⟨0, by omega, rfl, rfl⟩
  case round =>
    obtain ⟨k, hk, rfl, rfl⟩ := hrel
    by_cases hkn : k < n
    · obtain ⟨x, hx⟩ : ∃ x, q[k]? = some x := ⟨_, List.getElem?_eq_getElem (by omega)⟩
      obtain ⟨b, o, rfl, hc⟩ := HC.out k x hx
      have HT := Lib.hid (take_snoc q k x hx)
      have hv := val_lt (q.take k)
      rw [List.length_take, show min k q.length = k from by omega] at hv
      have hv2 : val (q.take k) < 72057594037927936 := by
        have : (2 : Nat) ^ (8 * k) ≤ 2 ^ 56 := Nat.pow_le_pow_right (by decide) (by omega)
        have e : (2 : Nat) ^ 56 = 72057594037927936 := by decide
        omega
      have hx8 := x.toNat_lt
      unfold Base.u8 at hc
      have hmul : IntKind.u64.wrap ((val (q.take k) : Int) * 256) = (val (q.take k) : Int) * 256 := by rw [IntKind.wrap_u64]; omega
      have hcv : IntKind.u64.wrap (x.toNat : Int) = (x.toNat : Int) := by rw [IntKind.wrap_u64]; omega
      have hadd : IntKind.u64.wrap ((val (q.take k) : Int) * 256 + (x.toNat : Int)) = (val (q.take k) : Int) * 256 + (x.toNat : Int) := by rw [IntKind.wrap_u64]; omega
      have hi1 : IntKind.i64.wrap ((i : Int) + k) = (i : Int) + k := by rw [IntKind.wrap_i64]; omega
      have hlt : (i : Int) + k < len := by omega
      have hlt2 : i + k < len := by omega
      have hnn : ¬ ((i : Int) + k < 0) := by omega
      clear hx hv
      go_wp2
      go_round
      case rel => exact ⟨k + 1, by omega, by go_num, by rw [HT.out, val_snoc]; congr 1⟩
      case measure => simp [intOf]; omega
    · go_wp2
      go_ret
      obtain rfl : k = n := by omega
      exact ⟨by rw [List.take_of_length_le (by omega)]; rfl, rfl⟩
end Go.Proofs.Ytmmgejlfcehipaa.Codec
