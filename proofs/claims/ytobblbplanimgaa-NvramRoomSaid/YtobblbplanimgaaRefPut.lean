/-
  Put of the reference by contract. Helper text; no statement is proved here.
-/
import Derived.Test.YtobblbplanimgaaCodecPack
import Derived.Test.YtobblbplanimgaaRefSumW
set_option linter.unusedVariables false
set_option maxRecDepth 20000
set_option linter.unusedSimpArgs false
namespace Go.Proofs.Ytobblbplanimgaa.Codec
open Go.RowKit Go.Proofs.Ytobblbplanimgaa.Base Go.Proofs.Ytobblbplanimgaa.Laws Go.Proofs.Ytobblbplanimgaa.Inv
theorem bv_snoc (l : List UInt8) (u : UInt8) : bv l ++ [Base.u8 u] = bv (l ++ [u]) := by simp [bv]
set_option maxHeartbeats 1000000 in
theorem put_any (base : Nat) (v : Value) (n size num : Nat) (l : List UInt8) (hn : n ≤ 1000000) (hs : size ≤ 8) (hm : num < 18446744073709551616) (w : World) (hb : base ≤ w.heap.size) (h : w.ownsRow base 5 1 v n (bv l)) :
    Calls Try.prog 50 #[v, .int .u64 (num : Int), .int .i64 (size : Int)] w fun e w' => ∃ v', e = .returned v' ∧ w'.ownsRow base 5 1 v' (n + size) (bv (l ++ be size num)) ∧ Below base w w' := by
  have H0 := Lib.hid h
  have hn63 : IntKind.i64.wrap ((size : Int) - 1) = (size : Int) - 1 := by rw [IntKind.wrap_i64]; omega
  clear h
  go_enter Try.func50, Try.ntmps50
  go_wp2
  go_loopw [0, 7] (fun x i wr => ∃ (j : Nat) (y : Int), y = (size : Int) - 1 - j ∧ j ≤ size ∧ i = .int .i64 y ∧ wr.ownsRow base 5 1 x (n + j) (bv (l ++ (be size num).take j)) ∧ Below base w wr) (fun _ i _ => (intOf i + 1).toNat)
  case atStart => exact ⟨0, _, rfl, by omega, by go_num, by simpa using H0.out, Below.refl _ _⟩
  case round =>
    obtain ⟨j, y, hy, hj, rfl, ho, hbl⟩ := hrel
    have HO := Lib.hid ho
    have HB := Lib.hid hbl
    have hsz : base ≤ wr.heap.size := Nat.le_trans hb hbl.size
    clear ho hbl
    by_cases hjs : j < size
    · obtain ⟨k, rfl⟩ : ∃ k : Nat, y = k := ⟨y.toNat, by omega⟩
      have hk : size - 1 - j = k := by omega
      have hg := be_get size num j hjs
      rw [hk] at hg
      have HT := Lib.hid (take_snoc (be size num) j _ hg)
      have HV := Lib.hid (byteOf_val num k)
      clear hg
      go_wp2_with (first | (at_builtin; refine wpList_append_any _ rfl _ _ 46 rfl base 5 (.int .u8 0) 1 1 Try.underlying46 OwnB.infou8 rfl (by decide) _ _ _ rfl (HO.out.alloc _) _ 1 1 _ rfl (src_one rfl) ?c1 ?c2 ?c3 ?_))
      case c1 => omega
      case c2 => unfold maxLen; omega
      case c3 => simp only [size_alloc]; omega
      intro v' w2 hown2 hgrow
      rw [← HV.out, bv_snoc, List.append_assoc, ← HT.out] at hown2
      have HB' := Lib.hid ((HB.out.alloc hsz _).grown hgrow (by simp only [size_alloc]; omega) (fun k hk => by have := (HO.out.lt k hk).1; omega))
      have HO' := Lib.hid hown2
      clear hown2 hgrow
      go_wp2
      go_roundw
      case rel => exact ⟨j + 1, (size : Int) - 1 - (j + 1 : Nat), rfl, by omega, by congr 1; omega, HO'.out, HB'.out⟩
      case measure => simp [intOf]; omega
    · obtain rfl : j = size := by omega
      rw [List.take_of_length_le (by rw [be_len]; omega)] at HO
      obtain rfl : y = -1 := by omega
      go_wp2
      go_ret
      exact ⟨_, rfl, HO.out, HB.out⟩
end Go.Proofs.Ytobblbplanimgaa.Codec
