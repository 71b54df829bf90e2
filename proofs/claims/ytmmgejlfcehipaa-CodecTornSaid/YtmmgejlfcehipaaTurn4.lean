/-
  Bits in a row that are turned: plain, and the statements' turn by contract. Helper text; no statement is proved here.
-/
import Derived.Test.YtmmgejlfcehipaaSlices
import Derived.Test.YtmmgejlfcehipaaRefPack
import Derived.Deep.QuietTactic
import Derived.StillTailTactics
set_option linter.unusedVariables false
set_option linter.unusedSimpArgs false
namespace Go.Proofs.Ytmmgejlfcehipaa.Turn4
open Go.RowKit Go.Proofs.Ytmmgejlfcehipaa.Base Go.Proofs.Ytmmgejlfcehipaa.Laws Go.Proofs.Ytmmgejlfcehipaa.Inv
/-- the byte with just bit p set -/
def mask (p : Nat) : UInt8 := UInt8.ofNat (2 ^ (p % 8))
theorem mask_val (p : Nat) : (mask p).toNat = 2 ^ (p % 8) := by
  unfold mask
  rw [UInt8.toNat_ofNat']
  have h : (2 : Nat) ^ (p % 8) ≤ 2 ^ 7 := Nat.pow_le_pow_right (by decide) (by omega)
  have h2 : (2 : Nat) ^ 7 = 128 := by decide
  exact Nat.mod_eq_of_lt (by omega)
/-- bytes with bit p turned -/
def turn (l : List UInt8) (p : Nat) : List UInt8 := l.set (p / 8) (l.getD (p / 8) 0 ^^^ mask p)
theorem turn_len (l : List UInt8) (p : Nat) : (turn l p).length = l.length := by simp [turn]
theorem turn_num (l : List UInt8) (p : Nat) (hp : p / 8 < l.length) : Crc.num (turn l p) = Crc.num l ^^^ 2 ^ p := by
  unfold turn
  have hg : l[p / 8]? = some (l.getD (p / 8) 0) := by simp [List.getElem?_eq_getElem hp]
  rw [Crc.num_set l (p / 8) _ hg, mask_val, ← Nat.pow_add]
  congr 2
  omega
theorem xor8 (x y : UInt8) : bits BinOp.xor IntKind.u8 (x.toNat : Int) (y.toNat : Int) = ((x ^^^ y).toNat : Int) := by
  have := u8_xor_nat x.toNat y.toNat x.toNat_lt y.toNat_lt
  rw [this, UInt8.toNat_xor]
theorem xor_both (a b c : Nat) (h : a ^^^ c = b ^^^ c) : a = b := by
  have := Crc.xor_self_mid a b c
  rw [h, Nat.xor_self] at this
  exact (Crc.xor_eq_zero this.symm)
theorem xor_shift (a b o : Nat) : (a ^^^ b) * 2 ^ o = a * 2 ^ o ^^^ b * 2 ^ o := by
  rw [← Nat.shiftLeft_eq, ← Nat.shiftLeft_eq, ← Nat.shiftLeft_eq]
  exact Nat.shiftLeft_xor_distrib
/-- the first n bits of the row are turned -/
def rowTo (row o n : Nat) : Nat := (row % 2 ^ n) * 2 ^ o
theorem row_zero (row o : Nat) : rowTo row o 0 = 0 := by unfold rowTo; rw [Nat.pow_zero, Nat.mod_one, Nat.zero_mul]
theorem row_all (row o : Nat) (h : row < 4294967296) : rowTo row o 32 = row * 2 ^ o := by
  unfold rowTo
  rw [show (2 : Nat) ^ 32 = 4294967296 from by decide, Nat.mod_eq_of_lt h]
theorem row_yes (row o n : Nat) (h : row / 2 ^ n % 2 = 1) : rowTo row o n ^^^ 2 ^ (o + n) = rowTo row o (n + 1) := by
  unfold rowTo
  have ht : row.testBit n = true := by rw [Nat.testBit_eq_decide_div_mod_eq, h]; rfl
  have := Crc.mod_testBit row n
  rw [if_pos ht] at this
  rw [← this, xor_shift, Nat.xor_comm, Nat.pow_add, Nat.mul_comm (2 ^ n)]
theorem row_no (row o n : Nat) (h : ¬ row / 2 ^ n % 2 = 1) : rowTo row o n = rowTo row o (n + 1) := by
  unfold rowTo
  have ht : row.testBit n = false := by rw [Nat.testBit_eq_decide_div_mod_eq]; simp [h]
  have := Crc.mod_testBit row n
  rw [if_neg (by rw [ht]; simp), Nat.zero_xor] at this
  rw [this]
theorem sh1 (a n : Nat) (ha : a < 4294967296) : bits BinOp.and IntKind.u32 ((a : Int) / 2 ^ n) 1 = ((a / 2 ^ n % 2 : Nat) : Int) := by
  have e : ((a : Int) / 2 ^ n) = ((a / 2 ^ n : Nat) : Int) := by rw [Int.natCast_ediv]; simp
  rw [e]
  exact and1 _ (Nat.lt_of_le_of_lt (Nat.div_le_self _ _) ha)
theorem mask_i (i : Nat) : (2 : Int) ^ (i % 8) % 256 = ((mask (i % 128)).toNat : Int) := by
  rw [mask_val, show i % 128 % 8 = i % 8 from by omega]
  have h : (2 : Nat) ^ (i % 8) ≤ 2 ^ 7 := Nat.pow_le_pow_right (by decide) (by omega)
  have h2 : (2 : Nat) ^ 7 = 128 := by decide
  have e : ((2 ^ (i % 8) : Nat) : Int) = (2 : Int) ^ (i % 8) := by simp
  rw [← e]
  generalize 2 ^ (i % 8) = q at *
  omega
theorem mask_j (p : Nat) : (2 : Int) ^ (p % 8) % 256 = ((mask p).toNat : Int) := by
  rw [mask_i]
  unfold mask
  rw [show p % 128 % 8 = p % 8 from by omega]
theorem bit_yes {row m : Nat} (hr : row < 4294967296) (h : (bits BinOp.and IntKind.u32 ((row : Int) / 2 ^ m) 1 == 1) = true) : row / 2 ^ m % 2 = 1 := by
  rw [sh1 row m hr] at h
  have := eq_of_beq h
  omega
theorem bit_no {row m : Nat} (hr : row < 4294967296) (h : (bits BinOp.and IntKind.u32 ((row : Int) / 2 ^ m) 1 == 1) = false) : ¬ row / 2 ^ m % 2 = 1 := by
  rw [sh1 row m hr] at h
  intro e
  rw [e] at h
  simp at h
/-- the sum of bytes of which up to 32 bits in a row are turned is another -/
theorem crc_burst {l z : List UInt8} {row o : Nat} (hz : z.length = l.length) (hr : row < 4294967296) (h0 : row ≠ 0) (ho : o ≤ 8 * l.length) (hn : Crc.num z = Crc.num l ^^^ row * 2 ^ o) : Crc.crc z ≠ Crc.crc l := by
  intro he
  have hd : Crc.num z ^^^ Crc.num l = row * 2 ^ o := by rw [hn, Nat.xor_comm, ← Nat.xor_assoc, Nat.xor_self, Nat.zero_xor]
  have h1 : Crc.reg (Crc.ones ^^^ 0) z = Crc.reg (Crc.ones ^^^ 0) l := by
    unfold Crc.crc Crc.more at he
    rw [Nat.xor_comm Crc.ones, Nat.xor_comm Crc.ones (Crc.reg _ l)] at he
    exact xor_both _ _ _ he
  have h2 := (Crc.reg_diff hz).1 h1
  rw [hd] at h2
  have h3 := (Crc.burst (n := 8 * l.length) ho hr).1 (by first | exact h2 | (rw [hz] at h2; exact h2))
  exact h0 h3
theorem take_turn {z : List UInt8} {p N : Nat} (hp : p / 8 < N) : (turn z p).take N = turn (z.take N) p := by
  unfold turn
  rw [List.take_set]
  congr 2
  rw [List.getD_eq_getElem?_getD, List.getD_eq_getElem?_getD, List.getElem?_take, if_pos hp]
theorem drop_turn {z : List UInt8} {p N : Nat} (hp : p / 8 < N) : (turn z p).drop N = z.drop N := by
  unfold turn
  rw [List.drop_set_of_lt hp]
theorem grown_cell_drew (w : World) (g i : Nat) (v : Value) : w.grownBy (w.setCell ⟨g, i, none⟩ v).drew (some g) :=
  ⟨rfl, rfl, rfl, by simp, fun k hk hne => heap_setCell_other w ⟨g, i, none⟩ k v (fun e => hne (by rw [e]))⟩
set_option maxHeartbeats 1000000 in
theorem turn_short (a : Option Addr) (n cap row fr : Nat) (hn : n < 17) (w : World) : Calls Try.prog 29 #[.slice a n cap, .int .u32 (row : Int), .int .i64 (fr : Int)] w fun e w' => e = .returned (.tuple #[]) ∧ w' = w := by
  have hn' : (n : Int) < 17 := by omega
  go_enter Try.func29, Try.ntmps29
  go_wp2
  exact bodyPost_ret (v := .tuple #[]) (by simp [results, Try.f29, go_sem]) rfl ⟨rfl, rfl⟩
set_option maxRecDepth 4000 in
set_option maxHeartbeats 2000000 in
theorem turn_any (base g n cap row fr : Nat) (l : List UInt8) (hl : l.length = n) (hn : 17 ≤ n) (hn2 : n ≤ 1000) (hr : row < 4294967296) (hf : fr < 65536) (w : World) (h : w.ownsRow base 5 1 (.slice (some ⟨g, 0, none⟩) n cap) n (bv l)) :
    Calls Try.prog 29 #[.slice (some ⟨g, 0, none⟩) n cap, .int .u32 (row : Int), .int .i64 (fr : Int)] w fun e w' => e = .returned (.tuple #[]) ∧ (∃ z o, z.length = n ∧ o + 32 ≤ 8 * (n - 4) ∧ z.drop (n - 4) = l.drop (n - 4) ∧ Crc.num (z.take (n - 4)) = Crc.num (l.take (n - 4)) ^^^ row * 2 ^ o ∧ w'.ownsRow base 5 1 (.slice (some ⟨g, 0, none⟩) n cap) n (bv z)) ∧ w.grownBy w' (some g) := by
  have H0 := Lib.hid h
  obtain ⟨N, hN⟩ : ∃ N, N = n - 4 := ⟨_, rfl⟩
  obtain ⟨M, hM⟩ : ∃ M, M = 8 * N - 31 := ⟨_, rfl⟩
  obtain ⟨o, ho⟩ : ∃ o, o = fr % M := ⟨_, rfl⟩
  have hM0 : 0 < M := by omega
  have hoM : o < M := by rw [ho]; exact Nat.mod_lt _ hM0
  have hnc : n ≤ cap := by
    rcases h.2 with ⟨e, _⟩ | ⟨g', c', cur, e, _, _, h1, _⟩
    · simp at e
    · simp at e; omega
  have w1 : IntKind.i64.wrap ((n : Int) - 4) = (N : Int) := by rw [IntKind.wrap_i64]; omega
  have w1' : ((n : Int) - 4) = (N : Int) := by omega
  have w2 : IntKind.i64.wrap (8 * (N : Int)) = 8 * (N : Int) := by rw [IntKind.wrap_i64]; omega
  have w3 : IntKind.i64.wrap (8 * (N : Int) - 31) = (M : Int) := by rw [IntKind.wrap_i64]; omega
  have w3' : (8 * (N : Int) - 31) = (M : Int) := by omega
  have w4 : Int.tmod (fr : Int) (M : Int) = (o : Int) := by rw [Int.tmod_eq_emod_of_nonneg (by omega), ho]; simp
  have w5 : IntKind.i64.wrap (o : Int) = (o : Int) := by rw [IntKind.wrap_i64]; omega
  have w6 : ¬ M = 0 := by omega
  have HB := Lib.hid (show o + 32 ≤ 8 * (n - 4) by omega)
  rw [← hN] at HB ⊢
  have hNn : N + 4 = n := by omega
  have hob : o + 32 ≤ 8 * N := by omega
  have hn17 : ¬ ((n : Int) < 17) := by omega
  clear h hN hM ho hM0
  go_enter Try.func29, Try.ntmps29
  go_wp2
  go_loopw [6] (fun i wr => ∃ (m : Nat) (z : List UInt8), m ≤ 32 ∧ i = .int .i64 m ∧ z.length = n ∧ z.drop N = l.drop N ∧ Crc.num (z.take N) = Crc.num (l.take N) ^^^ rowTo row o m ∧ wr.ownsRow base 5 1 (.slice (some ⟨g, 0, none⟩) n cap) n (bv z) ∧ w.grownBy wr (some g)) (fun i _ => 32 - (intOf i).toNat)
  case atStart => exact ⟨0, l, by omega, rfl, hl, rfl, by rw [row_zero, Nat.xor_zero], H0.out, ⟨rfl, rfl, rfl, Nat.le_refl _, fun _ _ _ => rfl⟩⟩
  case round =>
    obtain ⟨m, z, hm, rfl, hz, hdr, hnum, hown, hgr⟩ := hrel
    have HO := Lib.hid hown
    have HG := Lib.hid hgr
    have HD := Lib.hid hdr
    have HNZ := Lib.hid hnum
    clear hown hgr hdr hnum
    by_cases hm32 : m < 32
    · have hp : (o + m) / 8 < N := by omega
      have hpz : (o + m) / 8 < z.length := by omega
      have hc : wr.cell? ⟨g, (o + m) / 8, none⟩ = some (.int .u8 ((z.getD ((o + m) / 8) 0).toNat : Int)) := by
        rw [HO.out.cellAt ((o + m) / 8) (by omega), bv_get, List.getElem?_eq_getElem hpz]
        simp [Base.u8, List.getElem?_eq_getElem hpz]
      have hf := HO.out.frozenAt ((o + m) / 8)
      have HX := Lib.hid (xor8 (z.getD ((o + m) / 8) 0) (mask (o + m)))
      have HTN := Lib.hid (turn_num (z.take N) (o + m) (by rw [List.length_take]; omega))
      have HTT := Lib.hid (take_turn (z := z) (p := o + m) hp)
      have HTD := Lib.hid (drop_turn (z := z) (p := o + m) hp)
      have HTS := Lib.hid (show (bv z).set ((o + m) / 8) (Base.u8 (z.getD ((o + m) / 8) 0 ^^^ mask (o + m))) = bv (turn z (o + m)) from by unfold turn bv; rw [List.map_set])
      have HMJ := Lib.hid (mask_j (o + m))
      have hq1 : IntKind.i64.wrap (((o : Int) + m).tdiv 8) = (((o + m) / 8 : Nat) : Int) := by rw [Int.tdiv_eq_ediv_of_nonneg (by omega), IntKind.wrap_i64]; omega
      have hr1 : IntKind.i64.wrap (((o : Int) + m).tmod 8) = (((o + m) % 8 : Nat) : Int) := by rw [Int.tmod_eq_emod_of_nonneg (by omega), IntKind.wrap_i64]; omega
      have hr2 : ((o : Int) + m).tmod 8 = (((o + m) % 8 : Nat) : Int) := by rw [Int.tmod_eq_emod_of_nonneg (by omega)]; omega
      have hr8 : (o + m) % 8 < 8 := by omega
      have hqn : (o + m) / 8 < n := by omega
      obtain ⟨x, hx⟩ : ∃ x, x = z.getD ((o + m) / 8) 0 := ⟨_, rfl⟩
      rw [← hx] at hc HTS HX
      obtain ⟨q, hq⟩ : ∃ q, q = (o + m) / 8 := ⟨_, rfl⟩
      obtain ⟨r, hr0⟩ : ∃ r, r = (o + m) % 8 := ⟨_, rfl⟩
      rw [← hq] at hc HTS hf hq1 hqn
      rw [← hr0] at hr1 hr2 hr8 HMJ
      clear hx hq hr0 hp hpz
      have hqi : (q : Int) < n := by omega
      have hom : IntKind.i64.wrap ((o : Int) + m) = (o : Int) + m := by rw [IntKind.wrap_i64]; omega
      go_wp2
      · go_still_tail 14, (by kernel_rfl)
        go_wp2
        go_roundw
        case rel =>
          rw [HMJ.out, HX.out]
          refine ⟨m + 1, turn z (o + m), by omega, by go_num, by rw [turn_len]; exact hz, by rw [HTD.out, HD.out], by rw [HTT.out, HTN.out, HNZ.out, Nat.xor_assoc, row_yes row o m (bit_yes hr (by assumption))], ?_, ?_⟩
          · have := HO.out.stored q (Base.u8 (x ^^^ mask (o + m)))
            rw [HTS.out] at this
            exact this.1.drew
          · exact grown_trans HG.out (grown_cell_drew wr g q _)
        case measure => simp [intOf]; omega
      · go_roundw
        case rel => exact ⟨m + 1, z, by omega, by go_num, hz, HD.out, by rw [HNZ.out, row_no row o m (bit_no hr (by assumption))], HO.out, HG.out⟩
        case measure => simp [intOf]; omega
    · obtain rfl : m = 32 := by omega
      go_wp2
      go_end0
      exact ⟨rfl, ⟨z, o, hz, HB.out, HD.out, by rw [HNZ.out, row_all row o hr], HO.out⟩, HG.out⟩
end Go.Proofs.Ytmmgejlfcehipaa.Turn4
