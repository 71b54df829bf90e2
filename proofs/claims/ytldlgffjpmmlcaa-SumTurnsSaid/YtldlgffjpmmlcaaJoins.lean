/-
  Joining sums by contract: times, Join of the reference; of, Join of the program. Helper text; no statement is proved here.
-/
import Derived.Test.YtldlgffjpmmlcaaRefSumW
import Derived.Test.YtldlgffjpmmlcaaSumW
import Derived.Test.YtldlgffjpmmlcaaLaws
set_option linter.unusedVariables false
namespace Go.Proofs.Ytldlgffjpmmlcaa.Joins
open Go.RowKit Go.Proofs.Ytldlgffjpmmlcaa.Base Go.Proofs.Ytldlgffjpmmlcaa.Laws
theorem sh1 (a n : Nat) (ha : a < 4294967296) : bits BinOp.and IntKind.u32 ((a : Int) / 2 ^ n) 1 = ((a / 2 ^ n % 2 : Nat) : Int) := by
  have e : ((a : Int) / 2 ^ n) = ((a / 2 ^ n : Nat) : Int) := by rw [Int.natCast_ediv]; simp
  rw [e]
  exact and1 _ (Nat.lt_of_le_of_lt (Nat.div_le_self _ _) ha)
theorem times_yes {a n b : Nat} {P R : Nat} (ha : a < 4294967296) (h : (bits BinOp.and IntKind.u32 ((a : Int) / 2 ^ n) 1 == 1) = true) (hp : P ^^^ Crc.times (n + 1) a b = R) : (P ^^^ b) ^^^ Crc.times n a (Crc.f b) = R := by
  rw [sh1 a n ha] at h
  have hm : a / 2 ^ n % 2 = 1 := by have := eq_of_beq h; omega
  have ht : a.testBit n = true := by rw [Nat.testBit_eq_decide_div_mod_eq, hm]; rfl
  rw [← hp, Nat.xor_assoc]
  simp only [Crc.times, ht, if_true]
theorem times_no {a n b : Nat} {P R : Nat} (ha : a < 4294967296) (h : (bits BinOp.and IntKind.u32 ((a : Int) / 2 ^ n) 1 == 1) = false) (hp : P ^^^ Crc.times (n + 1) a b = R) : P ^^^ Crc.times n a (Crc.f b) = R := by
  rw [sh1 a n ha] at h
  have hm : ¬ a / 2 ^ n % 2 = 1 := by intro e; rw [e] at h; simp at h
  have ht : a.testBit n = false := by rw [Nat.testBit_eq_decide_div_mod_eq]; simp [hm]
  rw [← hp]
  simp [Crc.times, ht]
set_option maxHeartbeats 400000 in
theorem times_any (a b : Nat) (ha : a < 4294967296) (hb : b < 4294967296) (w : World) : Calls Try.prog 24 #[.int .u32 (a : Int), .int .u32 (b : Int)] w fun e w' => e = .returned (.int .u32 (Crc.times 32 a b : Nat)) ∧ w = w' := by
  go_enter Try.func24, Try.ntmps24
  go_wp2
  go_loop [1, 5, 6] (fun x p i => ∃ m P : Nat, m ≤ 32 ∧ P < 4294967296 ∧ i = .int .i64 ((m : Int) - 1) ∧ x = .int .u32 (Crc.fN (32 - m) b : Nat) ∧ p = .int .u32 (P : Int) ∧ P ^^^ Crc.times m a (Crc.fN (32 - m) b) = Crc.times 32 a b) (fun _ _ i => (intOf i + 1).toNat)
  case atStart => exact ⟨32, 0, by omega, by decide, rfl, rfl, rfl, by rw [Nat.zero_xor]; rfl⟩
  case round =>
    obtain ⟨m, P, hm, hP, rfl, rfl, rfl, hR⟩ := hrel
    have HR := Lib.hid hR
    clear hR
    rcases m with _ | n
    · have HR0 := Lib.hid (show P = Crc.times 32 a b from by rw [← HR.out]; simp [Crc.times])
      go_wp2
      go_ret
      exact ⟨ret_int (by rw [HR0.out]), rfl⟩
    · have hlt := Crc.fN_lt (32 - (n + 1)) b hb
      have HX := Lib.hid (xor32 P _ hP hlt)
      have HXL := Lib.hid (Crc.xor_lt P _ hP hlt)
      have e : 32 - n = 32 - (n + 1) + 1 := by omega
      have HF := Lib.hid (show Crc.fN (32 - n) b = Crc.f (Crc.fN (32 - (n + 1)) b) from by rw [e, Crc.fN_succ'])
      clear e
      obtain ⟨c, hc⟩ : ∃ c, c = Crc.fN (32 - (n + 1)) b := ⟨_, rfl⟩
      rw [← hc] at HX HXL HF HR hlt ⊢
      have HB := Lib.hid (fun w => (RefSumW.bit_any c 0 hlt (by decide) w).mono (R' := fun e w' => e = .returned (.int .u32 (Crc.f c : Nat)) ∧ w = w') fun e w' h => by rw [Crc.bit_zero] at h; exact h)
      clear hc
      rw [show (((n + 1 : Nat) : Int) - 1) = (n : Int) from by omega]
      go_wp2_with (go_at_call 22; refine (HB.out _).mono ?_; rintro e w' ⟨rfl, rfl⟩)
      · go_round
        case rel => exact ⟨n, P ^^^ c, by omega, HXL.out, rfl, by rw [HF.out], by rw [HX.out], by rw [HF.out]; exact times_yes ha (by assumption) HR.out⟩
        case measure => simp [intOf]
      · go_round
        case rel => exact ⟨n, P, by omega, hP, rfl, by rw [HF.out], rfl, by rw [HF.out]; exact times_no ha (by assumption) HR.out⟩
        case measure => simp [intOf]
theorem refjoin_neg (a b : Nat) (n : Int) (hn : n < 0) (w : World) :
    Calls Try.prog 20 #[.int .u32 (a : Int), .int .u32 (b : Int), .int .i64 n] w fun e w' => e = .returned (.tuple #[.int .u32 0, .int .i64 2]) ∧ w = w' := by
  go_enter Try.func20, Try.ntmps20
  go_wp2
  go_ret2
  exact ⟨rfl, rfl⟩
set_option maxHeartbeats 400000 in
theorem refjoin_any (a b n : Nat) (ha : a < 4294967296) (hb : b < 4294967296) (hn : n ≤ 9223372036854775807) (w : World) :
    Calls Try.prog 20 #[.int .u32 (a : Int), .int .u32 (b : Int), .int .i64 n] w fun e w' => e = .returned (.tuple #[.int .u32 (Crc.join a b n : Nat), .int .i64 0]) ∧ w = w' := by
  go_enter Try.func20, Try.ntmps20
  go_wp2
  go_loop [0, 2, 8] (fun y i x => ∃ A m X s : Nat, m ≤ n ∧ A < 4294967296 ∧ Crc.Stands X s ∧ i = .int .i64 (m : Int) ∧ y = .int .u32 (A : Int) ∧ x = .int .u32 (X : Int) ∧ Crc.fN (8 * (s * m)) A = Crc.fN (8 * n) a) (fun _ i _ => (intOf i).toNat)
  case atStart => exact ⟨a, n, _, 1, by omega, ha, Crc.stands_one, rfl, rfl, rfl, by rw [Nat.one_mul]⟩
  case round =>
    obtain ⟨A, m, X, s, hm, hA, hX, rfl, rfl, rfl, hR⟩ := hrel
    have HR := Lib.hid hR
    have HX := Lib.hid hX
    have hX1 := hX.1
    have HT := Lib.hid (fun w => times_any X A hX1 hA w)
    have HU := Lib.hid (fun w => times_any X X hX1 hX1 w)
    clear hX hR
    by_cases hm0 : 0 < m
    · by_cases ho : m % 2 = 1
      · have hr : Int.tmod (m : Int) 2 = 1 := by rw [Int.tmod_eq_emod_of_nonneg (by omega)]; omega
        go_wp2_with fail
        refine (HT.out _).mono ?_
        rintro e w' ⟨rfl, rfl⟩
        go_wp2_with fail
        refine (HU.out _).mono ?_
        rintro e w' ⟨rfl, rfl⟩
        go_wp2
        go_round
        case rel => exact ⟨Crc.times 32 X A, m / 2, Crc.times 32 X X, 2 * s, by omega, Crc.times_lt _ _ _ hA, Crc.stands_twice HX.out, by go_num, rfl, rfl, by rw [Crc.ref_join_odd HX.out hA ho]; exact HR.out⟩
        case measure => simp [intOf]; omega
      · have hr : Int.tmod (m : Int) 2 = 0 := by rw [Int.tmod_eq_emod_of_nonneg (by omega)]; omega
        go_wp2_with (go_at_call 24; (refine (HU.out _).mono ?_; rintro e w' ⟨rfl, rfl⟩))
        go_round
        case rel => exact ⟨A, m / 2, Crc.times 32 X X, 2 * s, by omega, hA, Crc.stands_twice HX.out, by go_num, rfl, rfl, by rw [Crc.ref_join_even (by omega)]; exact HR.out⟩
        case measure => simp [intOf]; omega
    · obtain rfl : m = 0 := by omega
      have HF := Lib.hid (show A = Crc.fN (8 * n) a from by have := HR.out; rwa [Nat.mul_zero, Nat.mul_zero] at this)
      have HZ := Lib.hid (xor32 A b hA hb)
      go_wp2
      go_ret2
      exact ⟨by rw [HZ.out, HF.out]; rfl, rfl⟩
end Go.Proofs.Ytldlgffjpmmlcaa.Joins
