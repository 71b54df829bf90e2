/-
  The walk of SumJoins. Helper text; no statement is proved here.
-/
import Derived.Test.YtldlgffjpmmlcaaJoinW
import Derived.Test.YtldlgffjpmmlcaaSum2Awake
import Derived.Test.YtldlgffjpmmlcaaOpens
set_option linter.unusedVariables false
set_option linter.unusedSimpArgs false
namespace Go.Proofs.Ytldlgffjpmmlcaa.Joins
open Go.RowKit Go.Proofs.Ytldlgffjpmmlcaa.Base Go.Proofs.Ytldlgffjpmmlcaa.Laws
set_option maxHeartbeats 400000 in
theorem joins_walk (a b : Nat) (n : Int) (ha : a < 4294967296) (hb : b < 4294967296) (hn : n ≤ 9223372036854775807) (w : World) :
    Calls Try.prog 7 #[.int .u32 (a : Int), .int .u32 (b : Int), .int .i64 n] w fun e w' => e = .returned (.bool true) ∧ Below w.heap.size w w' := by
  by_cases h0 : n < 0
  · go_enter Try.func7, Try.ntmps7
    go_wp2_with fail
    refine (join_neg a b n h0 _).mono ?_
    rintro e w' ⟨rfl, rfl⟩
    go_wp2_with fail
    refine (refjoin_neg a b n h0 _).mono ?_
    rintro e w' ⟨rfl, rfl⟩
    go_wp2_with fail
    refine (Sum2.awake_any _).mono ?_
    rintro e w' ⟨rfl, hb'⟩
    have HB := Lib.hid hb'
    clear hb'
    go_wp2
    go_ret
    exact ⟨rfl, HB.out⟩
  · obtain ⟨m, rfl⟩ := Int.eq_ofNat_of_zero_le (Int.not_lt.1 h0)
    have hm : m ≤ 9223372036854775807 := by omega
    have hj : Crc.join a b m < 4294967296 := Crc.xor_lt _ _ (Crc.fN_lt _ _ ha) hb
    obtain ⟨j, hje⟩ : ∃ j, j = Crc.join a b m := ⟨_, rfl⟩
    have HJ := Lib.hid (fun w => hje ▸ join_any a b m ha hb hm w : ∀ w, Calls Try.prog 19 #[.int .u32 (a : Int), .int .u32 (b : Int), .int .i64 m] w fun e w' => e = .returned (.tuple #[.int .u32 (j : Nat), .int .i64 0]) ∧ Below w.heap.size w w')
    have HR := Lib.hid (fun w => hje ▸ refjoin_any a b m ha hb hm w : ∀ w, Calls Try.prog 20 #[.int .u32 (a : Int), .int .u32 (b : Int), .int .i64 m] w fun e w' => e = .returned (.tuple #[.int .u32 (j : Nat), .int .i64 0]) ∧ w = w')
    rw [← hje] at hj
    clear hje
    go_enter Try.func7, Try.ntmps7
    go_wp2_with fail
    refine (HJ.out _).mono ?_
    rintro e w1 ⟨rfl, hb1⟩
    have HB1 := Lib.hid hb1
    clear hb1
    go_wp2_with fail
    refine (HR.out _).mono ?_
    rintro e w' ⟨rfl, rfl⟩
    go_wp2_with fail
    refine (Sum2.awake_any _).mono ?_
    rintro e w2 ⟨rfl, hb2⟩
    have HB2 := Lib.hid (HB1.out.trans (hb2.mono HB1.out.size))
    clear hb2
    go_wp2
    go_ret
    exact ⟨by simp, HB2.out⟩
theorem joins_in (a : Int) (ha : (Lit.int .u32 a).wf = true) (b : Int) (hb : (Lit.int .u32 b).wf = true) (n : Int) (hn : (Lit.int .i64 n).wf = true) {W : World} :
    Calls Try.prog 7 #[.int .u32 a, .int .u32 b, .int .i64 n] W fun e w' => e = .returned (.bool true) ∧ Below W.heap.size W w' := by
  obtain ⟨a, ha', rfl⟩ := Opens.wf_u32 ha
  obtain ⟨b, hb', rfl⟩ := Opens.wf_u32 hb
  exact joins_walk a b n ha' hb' (Opens.wf_i64 hn).2 W
end Go.Proofs.Ytldlgffjpmmlcaa.Joins
