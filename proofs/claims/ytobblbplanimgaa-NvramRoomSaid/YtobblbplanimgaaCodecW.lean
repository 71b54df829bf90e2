/-
  number, read of the codec by contract. Helper text; no statement is proved here.
-/
import Derived.Test.YtobblbplanimgaaCodecPlain
import Derived.Test.YtobblbplanimgaaSumW
import Derived.Test.YtobblbplanimgaaInvL
set_option linter.unusedVariables false
set_option maxRecDepth 20000
set_option linter.unusedSimpArgs false
namespace Go.Proofs.Ytobblbplanimgaa.Codec
open Go.RowKit Go.Proofs.Ytobblbplanimgaa.Base Go.Proofs.Ytobblbplanimgaa.Laws Go.Proofs.Ytobblbplanimgaa.Inv
theorem bv_set (l : List UInt8) (i : Nat) (b : UInt8) : (bv l).set i (u8 b) = bv (l.set i b) := by unfold bv; rw [List.map_set]
theorem grown_setCell (w : World) (g i : Nat) (v : Value) : w.grownBy (w.setCell ⟨g, i, none⟩ v) (some g) :=
  ⟨rfl, rfl, rfl, by simp, fun k hk hne => heap_setCell_other w ⟨g, i, none⟩ k v (fun e => hne (by rw [e]))⟩
set_option maxHeartbeats 1000000 in
theorem number_any (g off len cap n : Nat) (cs : List UInt8) (t : TypeId) (hn : n < 18446744073709551616) (hl : off + len ≤ cs.length) (hm : cs.length ≤ 1000000) (hl8 : len ≤ 8) (hcap : len ≤ cap) (hcm : cap ≤ 1000000) (w : World) (h : Blk w g (bv cs) t) :
    Calls Try.prog 44 #[.slice (some ⟨g, off, none⟩) len cap, .int .u64 (n : Int)] w fun e w' => e = .returned (.tuple #[]) ∧ Blk w' g (bv (put cs off (be len n))) t ∧ w.grownBy w' (some g) := by
  have H := Lib.hid h
  clear h
  go_enter Try.func44, Try.ntmps44
  go_wp2
  go_loopw [4, 7] (fun x i wr => ∃ k : Nat, k ≤ len ∧ i = .int .i64 k ∧ Blk wr g (bv (laid cs off len n k)) t ∧ w.grownBy wr (some g)) (fun _ i _ => len - (intOf i).toNat)
  case atStart => exact ⟨0, by omega, rfl, by rw [laid_zero]; exact H.out, ⟨rfl, rfl, rfl, Nat.le_refl _, fun _ _ _ => rfl⟩⟩
  case round =>
    obtain ⟨k, hk, rfl, b, hg⟩ := hrel
    have B := Lib.hid b
    have G := Lib.hid hg
    clear b hg
    by_cases hkl : k < len
    · have hidx : (laid cs off len n k).length = cs.length := laid_len cs off len n k hl (by omega)
      obtain ⟨u, hu⟩ : ∃ u, (laid cs off len n k)[off + (len - 1 - k)]? = some u := ⟨_, List.getElem?_eq_getElem (by omega)⟩
      have hc : wr.cell? ⟨g, off + (len - 1 - k), none⟩ = some (Base.u8 u) := by rw [B.out.cell, bv_get, hu]; rfl
      have hf := B.out.frozen (off + (len - 1 - k))
      have HV := Lib.hid (byteOf_val n k)
      have HS := Lib.hid (laid_set cs off len n k hl hkl)
      unfold Base.u8 at hc
      clear hu
      go_wp2
      go_roundw
      case rel =>
        rw [← HV.out]
        refine ⟨k + 1, by omega, by go_num, ?_, grown_trans G.out (grown_setCell wr g _ _)⟩
        have := B.out.setCell (off + (len - 1 - k)) (Base.u8 (byteOf n k))
        rw [bv_set, HS.out] at this
        exact this
      case measure => simp [intOf]; omega
    · obtain rfl : k = len := by omega
      rw [laid_all] at B
      go_wp2
      go_end0
      exact ⟨rfl, B.out, G.out⟩
theorem or256 (a : Nat) (x : UInt8) (ha : a < 72057594037927936) : bits BinOp.or IntKind.u64 ((a : Int) * 256) (IntKind.u64.wrap (x.toNat : Int)) = ((a * 256 + x.toNat : Nat) : Int) := by
  have hx := x.toNat_lt
  have e1 : ((a : Int) * 256) = ((a * 256 : Nat) : Int) := by omega
  have e2 : IntKind.u64.wrap (x.toNat : Int) = ((x.toNat : Nat) : Int) := by rw [IntKind.wrap_u64]; omega
  rw [e1, e2, u64_or_nat _ _ (by omega) (by omega)]
  have := Nat.two_pow_add_eq_or_of_lt (i := 8) hx a
  rw [show (2 : Nat) ^ 8 = 256 from by decide, Nat.mul_comm] at this
  rw [this]
set_option maxHeartbeats 1000000 in
theorem read_any (a : Option Addr) (len cap : Nat) (l : List UInt8) (hl8 : len ≤ 8) (w : World) (h : Bts w a len cap l) :
    Calls Try.prog 56 #[.slice a len cap] w fun e w' => e = .returned (.int .u64 (val l : Nat)) ∧ w = w' := by
  obtain ⟨hl, hlc, hm, ha⟩ := h
  unfold maxLen at hm
  rcases ha with h0 | ⟨b, o, rfl, hcell⟩
  · subst h0
    obtain rfl : l = [] := List.eq_nil_of_length_eq_zero hl
    go_enter Try.func56, Try.ntmps56
    go_wp2
    refine wp_loop_rounds 1 ?_
    rw [rounds_succ]
    go_wp2
    go_ret
    exact ⟨rfl, rfl⟩
  · have HC := Lib.hid hcell
    clear hcell
    go_enter Try.func56, Try.ntmps56
    go_wp2
    go_loop [3, 8] (fun v i => ∃ k : Nat, k ≤ len ∧ i = .int .i64 k ∧ v = .int .u64 (val (l.take k) : Nat)) (fun _ i => len - (intOf i).toNat)
    case atStart => exact ⟨0, by omega, rfl, rfl⟩
    case round =>
      obtain ⟨k, hk, rfl, rfl⟩ := hrel
      by_cases hkl : k < len
      · obtain ⟨x, hx⟩ : ∃ u, l[k]? = some u := ⟨l[k]'(by omega), List.getElem?_eq_getElem (by omega)⟩
        have hc1 := HC.out k x hx
        unfold Base.u8 at hc1
        have HT := Lib.hid (take_snoc l k x hx)
        have hv := val_lt (l.take k)
        rw [List.length_take, show min k l.length = k from by omega] at hv
        have hv2 : val (l.take k) < 72057594037927936 := by
          have : (2 : Nat) ^ (8 * k) ≤ 2 ^ 56 := Nat.pow_le_pow_right (by decide) (by omega)
          have e : (2 : Nat) ^ 56 = 72057594037927936 := by decide
          omega
        have HO := Lib.hid (or256 (val (l.take k)) x hv2)
        clear hx hv
        go_wp2
        go_round
        case rel => exact ⟨k + 1, by omega, by go_num, by rw [HO.out, HT.out, val_snoc]⟩
        case measure => simp [intOf]; omega
      · go_wp2
        go_ret
        obtain rfl : k = len := by omega
        exact ⟨by rw [List.take_of_length_le (by omega)]; rfl, rfl⟩
end Go.Proofs.Ytobblbplanimgaa.Codec
