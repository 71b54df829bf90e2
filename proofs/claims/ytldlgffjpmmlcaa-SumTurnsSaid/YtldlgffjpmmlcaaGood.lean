/-
  Good by contract. Helper text; no statement is proved here.
-/
import Derived.Test.YtldlgffjpmmlcaaSeal
import Derived.Test.YtldlgffjpmmlcaaInv
import Derived.Test.YtldlgffjpmmlcaaEq
set_option linter.unusedVariables false
set_option linter.unusedSimpArgs false
namespace Go.Proofs.Ytldlgffjpmmlcaa.Good
open Go.RowKit Go.Proofs.Ytldlgffjpmmlcaa.Base Go.Proofs.Ytldlgffjpmmlcaa.Laws Go.Proofs.Ytldlgffjpmmlcaa.Seal Go.Proofs.Ytldlgffjpmmlcaa.Inv
/-- a cell's numbers -/
def cellP (l : List UInt8) (n : Nat) : List (IntKind × Int) := l.map (fun b => (IntKind.u8, (b.toNat : Int))) ++ [(IntKind.u32, (n : Int))]
theorem cellP_val (l : List UInt8) (n : Nat) : (cellP l n).map Eq.val = cellV l n := by
  simp [cellP, cellV, bv, u8, Eq.val, Function.comp_def]
def cellK : List IntKind := List.replicate 16 .u8 ++ [.u32]
theorem cellK_is : Eq.kinds Try.prog 6 33 = some cellK := by kernel_rfl
theorem cellP_k (l : List UInt8) (hl : l.length = 16) (n : Nat) : (cellP l n).map (·.1) = cellK := by
  unfold cellP cellK
  rw [List.map_append, List.map_map, ← hl]
  simp [Function.comp_def, List.map_const']
theorem wf_byte (b : UInt8) : (Lit.int .u8 (b.toNat : Int)).wf = true := by
  have := b.toNat_lt
  simp only [Lit.wf, IntKind.min, IntKind.max, IntKind.signed, IntKind.bits, Bool.and_eq_true, decide_eq_true_eq]
  simp
  omega
theorem wf_u32 (n : Nat) (h : n < 4294967296) : (Lit.int .u32 (n : Int)).wf = true := by
  simp only [Lit.wf, IntKind.min, IntKind.max, IntKind.signed, IntKind.bits, Bool.and_eq_true, decide_eq_true_eq]
  simp
  omega
theorem cellP_wf (l : List UInt8) (n : Nat) (hn : n < 4294967296) : ∀ p ∈ cellP l n, (Eq.lit p).wf = true := by
  intro p hp
  unfold cellP at hp
  rcases List.mem_append.1 hp with h | h
  · obtain ⟨b, _, rfl⟩ := List.mem_map.1 h
    exact wf_byte b
  · simp at h; subst h; exact wf_u32 n hn
theorem cellP_inj {l l' : List UInt8} {n n' : Nat} (hl : l.length = l'.length) : cellP l n = cellP l' n' ↔ l = l' ∧ n = n' := by
  constructor
  · intro h
    unfold cellP at h
    obtain ⟨h1, h2⟩ := List.append_inj h (by simp [hl])
    refine ⟨?_, by simp at h2; omega⟩
    exact (List.map_inj_right (fun a b hab => by simp at hab; exact UInt8.toNat_inj.1 (by omega))).1 h1
  · rintro ⟨rfl, rfl⟩; rfl
theorem cell_eq (l l' : List UInt8) (n n' : Nat) (hl : l.length = 16) (hl' : l'.length = 16) (hn : n < 4294967296) (hn' : n' < 4294967296) (w : World) :
    (Op.equalIn 10000 33 (.agg (cellV l n).toArray) (.agg (cellV l' n').toArray)).run Try.prog w = .ok (decide (l = l' ∧ n = n')) w := by
  have h := Eq.run_eq_flat (P := Try.prog) (t := 33) 6 (by kernel_rfl) cellK_is (by kernel_rfl) (cellP_k l hl n) (cellP_k l' hl' n') (cellP_wf l n hn) (cellP_wf l' n' hn') w
  rw [cellP_val, cellP_val] at h
  rw [h]
  congr 1
  rw [Bool.eq_iff_iff, decide_eq_true_eq, decide_eq_true_eq]
  exact cellP_inj (hl.trans hl'.symm)
theorem cellV_data (l : List UInt8) (hl : l.length = 16) (n : Nat) : ((cellV l n).drop 0).take 16 = bv l := by
  unfold cellV
  rw [List.drop_zero, List.take_append, List.take_of_length_le (by rw [bv_len, hl]; omega), bv_len, hl]
  simp
theorem cellV_whole (l : List UInt8) (hl : l.length = 16) (n : Nat) : ((cellV l n).drop 0).take 17 = cellV l n := by
  rw [List.drop_zero, List.take_of_length_le (by rw [cellV_len l hl]; omega)]
set_option maxHeartbeats 1000000 in
theorem good_any (at_ : Int) (h0 : -9223372036854775808 ≤ at_) (h1 : at_ ≤ 9223372036854775807) (l : List UInt8) (hl : l.length = 16) (n : Nat) (hn : n < 4294967296) (w : World) :
    Calls Try.prog 17 #[.int .i64 at_, .agg (cellV l n).toArray] w fun e w' => e = .returned (.bool (decide (Crc.crc (place at_ ++ l) = n))) ∧ Below w.heap.size w w' := by
  have hlen := cellV_len l hl n
  have HL := Lib.hid hlen
  have heq := cell_eq l l (Crc.crc (place at_ ++ l)) n hl hl (Crc.crc_lt _) hn
  have hb0 : Blk (w.alloc (.cells (cellV l n).toArray 33)).drew w.heap.size (cellV l n) 33 := blk_at rfl rfl
  have HB0 := Lib.hid hb0
  clear hlen hb0
  have HE := Lib.hid heq
  clear heq
  go_enter Try.func17, Try.ntmps17
  go_wp2
  refine wp_region_inv_tail (fun w' => Blk w' w.heap.size (cellV l n) 33 ∧ Below w.heap.size w w') 6 (by kernel_rfl) (by kernel_rfl) ⟨HB0.out, ((Below.refl _ _).alloc (Nat.le_refl _) _).drew⟩ ?_
  simp only [List.take_succ_cons, List.take_zero, List.drop_succ_cons, List.drop_zero]
  refine inv_move _ rfl rfl ?_
  refine inv_value (.pointer (some ⟨w.heap.size, 0, none⟩)) rfl (fun w' _ => by go_simp) ?_
  refine inv_load_blk rfl 31 _ rfl w.heap.size 0 16 rfl 33 (cellV l n) _ (fun w' h => h.1) Try.underlying31 rfl (by kernel_rfl) (by rw [HL.out]; omega) (bv l) (cellV_data l hl n) ?_
  refine inv_call (.agg (cellV l (Crc.crc (place at_ ++ l))).toArray) rfl 15 #[.int .i64 at_, .agg (bv l).toArray] (fun w' _ => by go_simp) (fun w' h => (seal_any at_ h0 h1 l hl w').mono fun e w'' ⟨he, hb⟩ => ⟨he, h.1.below hb h.1.lt, h.2.trans (hb.mono h.2.size)⟩) ?_
  refine inv_load_blk rfl 33 _ rfl w.heap.size 0 17 rfl 33 (cellV l n) _ (fun w' h => h.1) Try.underlying33 rfl (by kernel_rfl) (by rw [HL.out]; omega) (cellV l n) (cellV_whole l hl n) ?_
  refine Eq.inv_eql rfl rfl rfl rfl (by kernel_rfl) (fun w' _ => HE.out w') ?_
  refine inv_nil fun w' hI => ?_
  go_wp2
  go_ret
  exact ⟨ret_bool (by simp), hI.2⟩
end Go.Proofs.Ytldlgffjpmmlcaa.Good
