/-
  (*table).of and Join of the program by contract. Helper text; no statement is proved here.
-/
import Derived.Test.YtldlgffjpmmlcaaJoins
import Derived.Deep.QuietTactic
import Derived.BigQuiet
import Derived.Lib.RabinKarpLaws
set_option linter.unusedVariables false
set_option linter.unusedSimpArgs false
namespace Go.Proofs.Ytldlgffjpmmlcaa.Joins
open Go.RowKit Go.Proofs.Ytldlgffjpmmlcaa.Base Go.Proofs.Ytldlgffjpmmlcaa.Laws
/-- the k-th word of the table of s bytes of noughts -/
def tv (s k : Nat) : Nat := Crc.fN (8 * s) (2 ^ k)
def tval (s k : Nat) : Value := .int .u32 (tv s k : Int)
/-- the first j words laid, noughts behind -/
def tabTo (s j : Nat) : List Value := (List.range 32).map fun k => if k < j then tval s k else .int .u32 0
theorem tv_lt (s k : Nat) (hk : k < 32) : tv s k < 4294967296 := Crc.fN_lt _ _ (by
  have : (2 : Nat) ^ k ≤ 2 ^ 31 := Nat.pow_le_pow_right (by decide) (by omega)
  exact Nat.lt_of_le_of_lt this (by decide))
theorem tab_len (s j : Nat) : (tabTo s j).length = 32 := by simp [tabTo]
theorem tab_get (s k : Nat) (hk : k < 32) : (tabTo s 32)[k]? = some (tval s k) := by simp [tabTo, hk]
theorem tab_has (s j k : Nat) (hk : k < 32) : ∃ v, (tabTo s j)[k]? = some v := ⟨_, List.getElem?_eq_getElem (by rw [tab_len]; exact hk)⟩
theorem tab_none (s j k : Nat) (hk : k < 32) (hj : j ≤ k) : (tabTo s j)[k]? = some (.int .u32 0) := by simp [tabTo, hk]; omega
theorem tab_set (s j : Nat) (hj : j < 32) : (tabTo s j).set j (tval s j) = tabTo s (j + 1) := by
  refine List.ext_getElem? fun k => ?_
  rw [List.getElem?_set]
  by_cases h : j = k
  · subst h
    simp [tab_len, hj, tabTo]
  · rw [if_neg h]
    by_cases hk : k < 32
    · simp only [tabTo, List.getElem?_map, List.getElem?_range hk, Option.map_some]
      by_cases h2 : k < j
      · rw [if_pos h2, if_pos (by omega)]
      · rw [if_neg h2, if_neg (by omega)]
    · rw [List.getElem?_eq_none (by rw [tab_len]; omega), List.getElem?_eq_none (by rw [tab_len]; omega)]
theorem tab_zero (s : Nat) : tabTo s 0 = List.replicate 32 (.int .u32 0) := by
  unfold tabTo
  simp [List.map_const']
theorem tab_one (s j : Nat) : ∀ v ∈ tabTo s j, v.oneCell' = true := fun v hv => by
  unfold tabTo at hv
  obtain ⟨k, _, rfl⟩ := List.mem_map.1 hv
  split <;> rfl
theorem tv_step (k : Nat) : Crc.fN 8 (2 ^ k) = tv 1 k := rfl
theorem tv_twice (s k : Nat) : Crc.fN (8 * s) (tv s k) = tv (2 * s) k := by
  unfold tv
  rw [← Crc.fN_add]
  congr 1
  omega
theorem table_tv (s : Nat) : Crc.Table (tv s) s := fun k _ => rfl
theorem of_yes {s x k y R : Nat} (hx : 0 < x) (hxl : x < 4294967296) (hk : x * 2 ^ k < 4294967296) (h : (bits BinOp.and IntKind.u32 (x : Int) 1 == 1) = true) (hr : y ^^^ Crc.fN (8 * s) (x * 2 ^ k) = R) : (y ^^^ tv s k) ^^^ Crc.fN (8 * s) ((x / 2) * 2 ^ (k + 1)) = R := by
  rw [and1 x hxl] at h
  have hm : x % 2 = 1 := by have := eq_of_beq h; omega
  have := (Crc.of_step (table_tv s) x k y hx hk).2
  rw [if_pos hm] at this
  rw [this]; exact hr
theorem of_no {s x k y R : Nat} (hx : 0 < x) (hxl : x < 4294967296) (hk : x * 2 ^ k < 4294967296) (h : (bits BinOp.and IntKind.u32 (x : Int) 1 == 1) = false) (hr : y ^^^ Crc.fN (8 * s) (x * 2 ^ k) = R) : y ^^^ Crc.fN (8 * s) ((x / 2) * 2 ^ (k + 1)) = R := by
  rw [and1 x hxl] at h
  have hm : ¬ x % 2 = 1 := by intro e; rw [e] at h; simp at h
  have := (Crc.of_step (table_tv s) x k y hx hk).2
  rw [if_neg hm] at this
  rw [this]; exact hr
theorem half_lt {x k : Nat} (hk : x * 2 ^ k < 4294967296) : (x / 2) * 2 ^ (k + 1) < 4294967296 := by
  have h1 : (x / 2) * 2 ^ (k + 1) = (x / 2 * 2) * 2 ^ k := by rw [Nat.pow_succ, Nat.mul_assoc, Nat.mul_comm (2 ^ k) 2]
  rw [h1]
  exact Nat.lt_of_le_of_lt (Nat.mul_le_mul_right _ (Nat.div_mul_le_self x 2)) hk
set_option maxHeartbeats 400000 in
theorem of_any (g s x0 : Nat) (hx0 : x0 < 4294967296) (w : World) (hg : Blk w g (tabTo s 32) 49) : Calls Try.prog 23 #[.pointer (some ⟨g, 0, none⟩), .int .u32 (x0 : Int)] w fun e w' => e = .returned (.int .u32 (Crc.fN (8 * s) x0 : Nat)) ∧ w = w' := by
  have HG := Lib.hid hg
  clear hg
  go_enter Try.func23, Try.ntmps23
  go_wp2
  go_loop [1, 5, 6] (fun x y i => ∃ X Y k : Nat, k ≤ 32 ∧ X ≤ x0 ∧ X * 2 ^ k < 4294967296 ∧ Y < 4294967296 ∧ i = .int .i64 (k : Int) ∧ x = .int .u32 (X : Int) ∧ y = .int .u32 (Y : Int) ∧ Y ^^^ Crc.fN (8 * s) (X * 2 ^ k) = Crc.fN (8 * s) x0) (fun x _ _ => (intOf x).toNat)
  case atStart => exact ⟨x0, 0, 0, by omega, by omega, by omega, by decide, rfl, rfl, rfl, by rw [Nat.zero_xor, Nat.pow_zero, Nat.mul_one]⟩
  case round =>
    obtain ⟨X, Y, k, hk, hX, hXk, hY, rfl, rfl, rfl, hR⟩ := hrel
    have HR := Lib.hid hR
    have HXK := Lib.hid hXk
    clear hR hXk
    by_cases hx : 0 < X
    · have hk32 := (Crc.of_step (table_tv s) X k Y hx HXK.out).1
      have hc : w.cell? ⟨g, k, none⟩ = some (.int .u32 (tv s k : Int)) := by rw [HG.out.cell, tab_get s k hk32]; rfl
      have hlt := tv_lt s k hk32
      have HZ := Lib.hid (xor32 Y (tv s k) hY hlt)
      have HZL := Lib.hid (Crc.xor_lt Y (tv s k) hY hlt)
      go_wp2
      · go_round
        case rel => exact ⟨X / 2, Y ^^^ tv s k, k + 1, by omega, by omega, half_lt HXK.out, HZL.out, by go_num, by go_num, by rw [HZ.out], of_yes hx (by omega) HXK.out (by assumption) HR.out⟩
        case measure => simp [intOf]; omega
      · go_round
        case rel => exact ⟨X / 2, Y, k + 1, by omega, by omega, half_lt HXK.out, hY, by go_num, by go_num, rfl, of_no hx (by omega) HXK.out (by assumption) HR.out⟩
        case measure => simp [intOf]; omega
    · obtain rfl : X = 0 := by omega
      have HF := Lib.hid (show Y = Crc.fN (8 * s) x0 from by have := HR.out; rw [Nat.zero_mul, Crc.fN_zero, Nat.xor_zero] at this; exact this)
      go_wp2
      go_ret
      exact ⟨ret_int (by rw [HF.out]), rfl⟩
theorem pow_mod (k : Nat) (hp : 2 ^ k < 4294967296) : (2 : Int) ^ k % 4294967296 = ((2 ^ k : Nat) : Int) := by
  have e : ((2 ^ k : Nat) : Int) = (2 : Int) ^ k := by simp
  rw [← e]
  generalize 2 ^ k = q at *
  omega
theorem odd_q (s m A : Nat) (hm : m % 2 = 1) : Crc.fN (8 * (2 * s * (m / 2))) (Crc.fN (8 * s) A) = Crc.fN (8 * (s * m)) A := by
  rw [← Crc.fN_add]
  congr 1
  have e : m = 2 * (m / 2) + 1 := by omega
  generalize m / 2 = q at *
  subst e
  rw [Nat.mul_add, Nat.mul_one, Nat.mul_comm 2 s, Nat.mul_assoc]
  omega
theorem join_neg (a b : Nat) (n : Int) (hn : n < 0) (w : World) :
    Calls Try.prog 19 #[.int .u32 (a : Int), .int .u32 (b : Int), .int .i64 n] w fun e w' => e = .returned (.tuple #[.int .u32 0, .int .i64 2]) ∧ w = w' := by
  go_enter Try.func19, Try.ntmps19
  go_wp2
  go_ret2
  exact ⟨rfl, rfl⟩
set_option maxHeartbeats 1000000 in
theorem join_any (a b n : Nat) (ha : a < 4294967296) (hb : b < 4294967296) (hn : n ≤ 9223372036854775807) (w : World) :
    Calls Try.prog 19 #[.int .u32 (a : Int), .int .u32 (b : Int), .int .i64 n] w fun e w' => e = .returned (.tuple #[.int .u32 (Crc.join a b n : Nat), .int .i64 0]) ∧ Below w.heap.size w w' := by
  go_enter Try.func19, Try.ntmps19
  go_wp2
  go_loopw [14] (fun i wr => ∃ k : Nat, k ≤ 32 ∧ i = .int .i64 k ∧ Blk wr w.heap.size (tabTo 1 k) 49 ∧ Below w.heap.size w wr) (fun i _ => 32 - (intOf i).toNat)
  case atStart => exact ⟨0, by omega, rfl, by rw [tab_zero]; exact blk_at rfl rfl, (Below.refl _ _).alloc (Nat.le_refl _) _⟩
  case round =>
    obtain ⟨k, hk, rfl, B, hb⟩ := hrel
    have HB := Lib.hid B
    have HBL := Lib.hid hb
    clear B hb
    by_cases hk32 : k < 32
    · have hc : wr.cell? ⟨w.heap.size, k, none⟩ = some (.int .u32 0) := by rw [HB.out.cell, tab_none 1 k k hk32 (Nat.le_refl _)]
      have hf := HB.out.frozen k
      have hp : (2 : Nat) ^ k < 4294967296 := by
        have : (2 : Nat) ^ k ≤ 2 ^ 31 := Nat.pow_le_pow_right (by decide) (by omega)
        exact Nat.lt_of_le_of_lt this (by decide)
      have HS := Lib.hid (fun w => by have := SumW.step_any (2 ^ k) hp w; rw [tv_step] at this; exact this : ∀ w, Calls Try.prog 21 #[.int .u32 ((2 ^ k : Nat) : Int)] w fun e w' => e = .returned (.int .u32 (tv 1 k : Nat)) ∧ w = w')
      have HP := Lib.hid (show (2 : Int) ^ k % 4294967296 = ((2 ^ k : Nat) : Int) from pow_mod k hp)
      clear hp
      go_wp2_with (go_at_call 21; rw [HP.out]; refine (HS.out _).mono ?_; rintro e w' ⟨rfl, rfl⟩)
      go_roundw
      case rel => exact ⟨k + 1, by omega, by go_num, by rw [← tab_set 1 k hk32]; exact HB.out.setCell k _, HBL.out.setCell (Nat.le_refl _) _⟩
      case measure => simp [intOf]; omega
    · obtain rfl : k = 32 := by omega
      go_wp2
      obtain ⟨wo, rfl⟩ : ∃ wo : World, wo = wr := ⟨_, rfl⟩
      go_loopw [0, 2] (fun y i wr => ∃ A m s : Nat, m ≤ n ∧ A < 4294967296 ∧ i = .int .i64 (m : Int) ∧ y = .int .u32 (A : Int) ∧ Crc.fN (8 * (s * m)) A = Crc.fN (8 * n) a ∧ Blk wr w.heap.size (tabTo s 32) 49 ∧ Below w.heap.size w wr) (fun _ i _ => (intOf i).toNat)
      case atStart => exact ⟨a, n, 1, by omega, ha, rfl, rfl, by rw [Nat.one_mul], HB.out, HBL.out⟩
      case round =>
        obtain ⟨A, m, s, hm, hA, rfl, rfl, hR, B, hb⟩ := hrel
        have HR := Lib.hid hR
        have HB := Lib.hid B
        have HBL := Lib.hid hb
        have HO := Lib.hid (fun x hx => of_any w.heap.size s x hx wr B)
        clear hR B hb
        by_cases hm0 : 0 < m
        · have HA := Lib.hid (Go.Proofs.and_one m (by omega))
          have hsz : w.heap.size ≤ wr.heap.size := Nat.le_of_lt HB.out.lt
          have hsz2 := HB.out.lt
          go_wp2_with fail
          · have hm1 : m % 2 = 1 := by
              have h : (bits BinOp.and IntKind.i64 (m : Int) 1 == 1) = true := by assumption
              rw [HA.out] at h
              have := eq_of_beq h
              omega
            have hQ : Crc.fN (8 * (2 * s * (m / 2))) (Crc.fN (8 * s) A) = Crc.fN (8 * n) a := (odd_q s m A hm1).trans HR.out
            have hA' := Crc.fN_lt (8 * s) A hA
            have HC := Lib.hid (HO.out _ hA)
            obtain ⟨A', hAe⟩ : ∃ x, x = Crc.fN (8 * s) A := ⟨_, rfl⟩
            rw [← hAe] at hQ hA' HC
            have HQ := Lib.hid hQ
            clear hQ hAe
            refine HC.out.mono ?_
            rintro e w' ⟨rfl, rfl⟩
            go_wp2
            obtain ⟨wo2, rfl⟩ : ∃ wo : World, wo = wr := ⟨_, rfl⟩
            go_loopw [32] (fun i w2 => ∃ k : Nat, k ≤ 32 ∧ i = .int .i64 k ∧ Blk w2 w.heap.size (tabTo s 32) 49 ∧ Blk w2 wo2.heap.size (tabTo (2 * s) k) 49 ∧ Below w.heap.size w w2) (fun i _ => 32 - (intOf i).toNat)
            case atStart => exact ⟨0, by omega, rfl, HB.out.alloc _, by rw [tab_zero]; exact blk_at rfl rfl, HBL.out.alloc hsz _⟩
            case round =>
              obtain ⟨k, hk, rfl, B1, B2, hb⟩ := hrel
              have H1 := Lib.hid B1
              have H2 := Lib.hid B2
              have H3 := Lib.hid hb
              clear B1 B2 hb
              by_cases hk32 : k < 32
              · have hc1 : wr.cell? ⟨w.heap.size, k, none⟩ = some (.int .u32 (tv s k : Int)) := by rw [H1.out.cell, tab_get s k hk32]; rfl
                have hc2 : wr.cell? ⟨wo2.heap.size, k, none⟩ = some (.int .u32 0) := by rw [H2.out.cell, tab_none (2 * s) k k hk32 (Nat.le_refl _)]
                have hf := H2.out.frozen k
                have HS := Lib.hid (fun w2 (h : Blk w2 w.heap.size (tabTo s 32) 49) => by have := of_any w.heap.size s (tv s k) (tv_lt s k hk32) w2 h; rw [tv_twice] at this; exact this : ∀ w2, Blk w2 w.heap.size (tabTo s 32) 49 → Calls Try.prog 23 #[.pointer (some ⟨w.heap.size, 0, none⟩), .int .u32 (tv s k : Nat)] w2 fun e w' => e = .returned (.int .u32 (tv (2 * s) k : Nat)) ∧ w2 = w')
                go_wp2_with (go_at_call 23; refine (HS.out _ H1.out).mono ?_; rintro e w' ⟨rfl, rfl⟩)
                go_roundw
                case rel => first | exact ⟨k + 1, by omega, by go_num, H1.out.setCell_far (by omega) _ _, by rw [← tab_set (2 * s) k hk32]; exact H2.out.setCell k _, H3.out.setCell hsz _⟩ | ((repeat apply Exists.intro); exact ⟨⟨k + 1, by omega, by go_num, H1.out.setCell_far (by omega) _ _, by rw [← tab_set (2 * s) k hk32]; exact H2.out.setCell k _, H3.out.setCell hsz _⟩, rfl⟩)
                case measure => simp [intOf]; omega
              · obtain rfl : k = 32 := by omega
                go_wp2_with (first | (refine wpList_load_blk rfl 49 _ rfl wo2.heap.size 0 32 rfl 49 (tabTo (2 * s) 32) _ H2.out Try.underlying49 rfl (by kernel_rfl) (by rw [tab_len]; omega) (tabTo (2 * s) 32) (by rw [List.drop_zero, List.take_of_length_le (by rw [tab_len]; omega)]) ?_) | (refine wpList_store_blk rfl 49 _ _ rfl w.heap.size 0 32 (by rfl) 49 (tabTo s 32) (tabTo (2 * s) 32) (by rfl) H1.out (by kernel_rfl) (tab_len _ _) (by rw [tab_len]; omega) (tab_one _ _) ?_))
                intro w3 b3 hg3
                rw [put_all _ _ (by rw [tab_len, tab_len])] at b3
                have HB3 := Lib.hid b3
                have hs3 := H1.out.lt
                have HBL3 := Lib.hid (below_grown H3.out hg3 (by omega) (Nat.le_refl _))
                clear b3 hg3
                go_wp2
                refine ⟨?_, by simp [intOf]; omega⟩
                repeat apply Exists.intro
                exact ⟨⟨A', m / 2, 2 * s, by omega, hA', by go_num, rfl, HQ.out, HB3.out, HBL3.out⟩, rfl⟩
          · have hm1 : m % 2 = 0 := by
              have h : (bits BinOp.and IntKind.i64 (m : Int) 1 == 1) = false := by assumption
              rw [HA.out] at h
              have h2 : ¬ m % 2 = 1 := by intro e; rw [e] at h; simp at h
              omega
            rw [show (bits BinOp.and IntKind.i64 (m : Int) 1 == 1) = false from by assumption]
            have hQ : Crc.fN (8 * (2 * s * (m / 2))) A = Crc.fN (8 * n) a := by rw [← HR.out]; exact Crc.ref_join_even hm1
            obtain ⟨A', hAe⟩ : ∃ x, x = A := ⟨_, rfl⟩
            rw [← hAe] at hQ hA
            have hA' := hA
            have HQ := Lib.hid hQ
            clear hQ
            subst hAe
            obtain ⟨wo2, rfl⟩ : ∃ wo : World, wo = wr := ⟨_, rfl⟩
            go_loopw [32] (fun i w2 => ∃ k : Nat, k ≤ 32 ∧ i = .int .i64 k ∧ Blk w2 w.heap.size (tabTo s 32) 49 ∧ Blk w2 wo2.heap.size (tabTo (2 * s) k) 49 ∧ Below w.heap.size w w2) (fun i _ => 32 - (intOf i).toNat)
            case atStart => exact ⟨0, by omega, rfl, HB.out.alloc _, by rw [tab_zero]; exact blk_at rfl rfl, HBL.out.alloc hsz _⟩
            case round =>
              obtain ⟨k, hk, rfl, B1, B2, hb⟩ := hrel
              have H1 := Lib.hid B1
              have H2 := Lib.hid B2
              have H3 := Lib.hid hb
              clear B1 B2 hb
              by_cases hk32 : k < 32
              · have hc1 : wr.cell? ⟨w.heap.size, k, none⟩ = some (.int .u32 (tv s k : Int)) := by rw [H1.out.cell, tab_get s k hk32]; rfl
                have hc2 : wr.cell? ⟨wo2.heap.size, k, none⟩ = some (.int .u32 0) := by rw [H2.out.cell, tab_none (2 * s) k k hk32 (Nat.le_refl _)]
                have hf := H2.out.frozen k
                have HS := Lib.hid (fun w2 (h : Blk w2 w.heap.size (tabTo s 32) 49) => by have := of_any w.heap.size s (tv s k) (tv_lt s k hk32) w2 h; rw [tv_twice] at this; exact this : ∀ w2, Blk w2 w.heap.size (tabTo s 32) 49 → Calls Try.prog 23 #[.pointer (some ⟨w.heap.size, 0, none⟩), .int .u32 (tv s k : Nat)] w2 fun e w' => e = .returned (.int .u32 (tv (2 * s) k : Nat)) ∧ w2 = w')
                go_wp2_with (go_at_call 23; refine (HS.out _ H1.out).mono ?_; rintro e w' ⟨rfl, rfl⟩)
                go_roundw
                case rel => first | exact ⟨k + 1, by omega, by go_num, H1.out.setCell_far (by omega) _ _, by rw [← tab_set (2 * s) k hk32]; exact H2.out.setCell k _, H3.out.setCell hsz _⟩ | ((repeat apply Exists.intro); exact ⟨⟨k + 1, by omega, by go_num, H1.out.setCell_far (by omega) _ _, by rw [← tab_set (2 * s) k hk32]; exact H2.out.setCell k _, H3.out.setCell hsz _⟩, rfl⟩)
                case measure => simp [intOf]; omega
              · obtain rfl : k = 32 := by omega
                go_wp2_with (first | (refine wpList_load_blk rfl 49 _ rfl wo2.heap.size 0 32 rfl 49 (tabTo (2 * s) 32) _ H2.out Try.underlying49 rfl (by kernel_rfl) (by rw [tab_len]; omega) (tabTo (2 * s) 32) (by rw [List.drop_zero, List.take_of_length_le (by rw [tab_len]; omega)]) ?_) | (refine wpList_store_blk rfl 49 _ _ rfl w.heap.size 0 32 (by rfl) 49 (tabTo s 32) (tabTo (2 * s) 32) (by rfl) H1.out (by kernel_rfl) (tab_len _ _) (by rw [tab_len]; omega) (tab_one _ _) ?_))
                intro w3 b3 hg3
                rw [put_all _ _ (by rw [tab_len, tab_len])] at b3
                have HB3 := Lib.hid b3
                have hs3 := H1.out.lt
                have HBL3 := Lib.hid (below_grown H3.out hg3 (by omega) (Nat.le_refl _))
                clear b3 hg3
                go_wp2
                refine ⟨?_, by simp [intOf]; omega⟩
                repeat apply Exists.intro
                exact ⟨⟨A', m / 2, 2 * s, by omega, hA', by go_num, rfl, HQ.out, HB3.out, HBL3.out⟩, rfl⟩
        · obtain rfl : m = 0 := by omega
          have HF := Lib.hid (show A = Crc.fN (8 * n) a from by have := HR.out; rwa [Nat.mul_zero, Nat.mul_zero] at this)
          have HZ := Lib.hid (xor32 A b hA hb)
          go_wp2
          go_ret2
          exact ⟨by rw [HZ.out, HF.out]; rfl, HBL.out⟩
end Go.Proofs.Ytldlgffjpmmlcaa.Joins
