/-
  Seal and Good by contract. Helper text; no statement is proved here.
-/
import Derived.Test.YtldlgffjpmmlcaaSumW
import Derived.Test.YtldlgffjpmmlcaaLaws
import Derived.Deep.QuietTactic
import Derived.BigQuiet
import Derived.Laws.CopyOwn
import Derived.Deep.RegionWith
import Derived.StillTailTactics
set_option linter.unusedVariables false
namespace Go.Proofs.Ytldlgffjpmmlcaa.Seal
open Go.RowKit Go.Proofs.Ytldlgffjpmmlcaa.Base Go.Proofs.Ytldlgffjpmmlcaa.Laws
/-- the k-th byte of a place, the highest first -/
def placeB (at_ : Int) (k : Nat) : UInt8 := UInt8.ofNat ((at_ / 2 ^ (56 - 8 * k)) % 256).toNat
def place (at_ : Int) : List UInt8 := (List.range 8).map (placeB at_)
theorem placeB_val (a : Int) (k : Nat) : u8 (placeB a k) = .int .u8 (a / 2 ^ (56 - 8 * k) % 256) := by
  unfold u8 placeB
  rw [UInt8.toNat_ofNat']
  congr 1
  omega
theorem place_len (a : Int) : (place a).length = 8 := by simp [place]
theorem place_get (a : Int) (k : Nat) (hk : k < 8) : (place a)[k]? = some (placeB a k) := by simp [place, hk]
/-- the first k bytes laid, noughts behind -/
def laidTo (a : Int) (k : Nat) : List Value := bv ((place a).take k) ++ List.replicate (24 - k) (.int .u8 0)
theorem laid_set (a : Int) (k : Nat) (hk : k < 8) : (laidTo a k).set k (u8 (placeB a k)) = laidTo a (k + 1) := by
  unfold laidTo
  rw [take_snoc _ _ _ (place_get a k hk), bv_append, show 24 - k = (24 - (k + 1)) + 1 from by omega, List.replicate_succ,
    set_mid _ _ _ _ _ (by rw [bv_len, List.length_take, place_len]; omega)]
  simp [bv]
theorem laid_get (a : Int) (k : Nat) (hk : k < 8) : (laidTo a k)[k]? = some (.int .u8 0) := by
  unfold laidTo
  rw [List.getElem?_append_right (by rw [bv_len, List.length_take, place_len]; omega), bv_len, List.length_take, place_len, show k - min k 8 = 0 from by omega, show 24 - k = (24 - (k + 1)) + 1 from by omega]
  rfl
def zeros (n : Nat) : List Value := List.replicate n (.int .u8 0)
theorem laid_copy (a : Int) (l : List UInt8) (hl : l.length = 16) : put (laidTo a 8) 8 (bv l) = bv (place a ++ l) := by
  have h8 : (place a).take 8 = place a := List.take_of_length_le (by rw [place_len]; omega)
  unfold put laidTo
  rw [h8, bv_append, bv_len, hl, List.take_append, List.drop_append]
  simp [bv_len, place_len]
  rw [List.take_of_length_le (by rw [bv_len, place_len]; omega), List.drop_of_length_le (by rw [bv_len, place_len]; omega), List.append_nil]
theorem laid_len (a : Int) : (laidTo a 8).length = 24 := by
  unfold laidTo
  rw [List.length_append, bv_len, List.length_take, place_len, List.length_replicate]
  omega
theorem bv_one (l : List UInt8) : ∀ v ∈ bv l, v.oneCell' = true := fun v hv => by
  unfold bv at hv
  obtain ⟨x, _, rfl⟩ := List.mem_map.1 hv
  rfl
/-- a cell's cells -/
def cellV (l : List UInt8) (n : Nat) : List Value := bv l ++ [Value.int .u32 (n : Int)]
theorem cellV_len (l : List UInt8) (hl : l.length = 16) (n : Nat) : (cellV l n).length = 17 := by simp [cellV, bv_len, hl]
theorem cellV_one (l : List UInt8) (n : Nat) : ∀ v ∈ cellV l n, v.oneCell' = true := fun v hv => by
  unfold cellV at hv
  rcases List.mem_append.1 hv with h | h
  · exact bv_one l v h
  · simp at h; subst h; rfl
theorem zeros_cell : (Try.prog.info? 33).map (·.zero) = some (some (.agg (zeros 16 ++ [Value.int .u32 0]).toArray)) := by kernel_rfl
theorem built_cell (l : List UInt8) (hl : l.length = 16) (n : Int) : Try.prog.built 33 [(0, .agg (bv l).toArray), (1, .int .u32 n)] = some (bv l ++ [Value.int .u32 n]).toArray := by
  have hz : ∃ it, Try.prog.info? 33 = some it ∧ it.zero = some (.agg (zeros 16 ++ [Value.int .u32 0]).toArray) := by
    obtain ⟨it, h1, h2⟩ := Option.map_eq_some_iff.1 zeros_cell
    exact ⟨it, h1, h2⟩
  obtain ⟨it, h1, h2⟩ := hz
  unfold Program.built
  rw [h1, Try.underlying33]
  simp only [h2]
  have hp : ((#[{ name := "Data", type := 31, offset := 0, embedded := false, tag := "", pkgPath := "", byteOffset := 0 }, { name := "Sum", type := 22, offset := 16, embedded := false, tag := "", pkgPath := "", byteOffset := 16 }] : Array Field).toList.mapM (fun f => (Try.prog.info? f.type).map fun i => (f.offset, i.size))) = some [(0, 16), (16, 1)] := by kernel_rfl
  rw [hp]
  simp only [Value.cells]
  rw [fill_cons _ (zeros 16 ++ [Value.int .u32 0]) (bv l) 0 0 (.agg (bv l).toArray) _ (by rw [bv_len, hl]; rfl) rfl (by rw [bv_len, hl]; decide)]
  have e1 : put (zeros 16 ++ [Value.int .u32 0]) 0 (bv l) = bv l ++ [Value.int .u32 0] := by
    unfold put
    rw [bv_len, hl]
    rfl
  rw [e1, fill_cons _ _ [Value.int .u32 n] 1 16 (.int .u32 n) [] rfl rfl (by simp [bv_len, hl])]
  have e2 : put (bv l ++ [Value.int .u32 0]) 16 [Value.int .u32 n] = bv l ++ [Value.int .u32 n] := by
    unfold put
    rw [List.take_append, List.take_of_length_le (by rw [bv_len]; omega), List.drop_append, List.drop_of_length_le (by rw [bv_len]; simp; omega)]
    simp [bv_len, hl]
  rw [e2]
  rfl
set_option maxHeartbeats 1000000 in
theorem seal_any (at_ : Int) (h0 : -9223372036854775808 ≤ at_) (h1 : at_ ≤ 9223372036854775807) (l : List UInt8) (hl : l.length = 16) (w : World) :
    Calls Try.prog 15 #[.int .i64 at_, .agg (bv l).toArray] w fun e w' => e = .returned (.agg (cellV l (Crc.crc (place at_ ++ l))).toArray) ∧ Below w.heap.size w w' := by
  go_enter Try.func15, Try.ntmps15
  go_wp2
  go_loopw [7] (fun i wr => ∃ k : Nat, k ≤ 8 ∧ i = .int .i64 k ∧ Blk wr w.heap.size (bv l) 31 ∧ Blk wr (w.heap.size + 1) (zeros 16 ++ [Value.int .u32 0]) 33 ∧ Blk wr (w.heap.size + 1 + 1) (laidTo at_ k) 46 ∧ Below w.heap.size w wr) (fun i _ => 8 - (intOf i).toNat)
  case atStart =>
    exact ⟨0, by omega, rfl, ((blk_at rfl rfl).alloc _).alloc _, (blk_at (by simp only [size_alloc]) rfl).alloc _, blk_at (by simp only [size_alloc]) rfl,
      (((Below.refl _ _).alloc (Nat.le_refl _) _).alloc (by simp only [size_alloc]; omega) _).alloc (by simp only [size_alloc]; omega) _⟩
  case round =>
    obtain ⟨k, hk, rfl, B1, B2, B3, hb⟩ := hrel
    have HB1 := Lib.hid B1
    have HB2 := Lib.hid B2
    have HB3 := Lib.hid B3
    have HB := Lib.hid hb
    clear B1 B2 B3 hb
    by_cases hk8 : k < 8
    · have hc : wr.cell? ⟨w.heap.size + 1 + 1, k, none⟩ = some (.int .u8 0) := by rw [HB3.out.cell, laid_get at_ k hk8]
      have hf := HB3.out.frozen k
      have HP := Lib.hid (placeB_val at_ k)
      go_wp2
      go_roundw
      case rel =>
        rw [← HP.out]
        exact ⟨k + 1, by omega, by go_num, HB1.out.setCell_far (by omega) _ _, HB2.out.setCell_far (by omega) _ _, by rw [← laid_set at_ k hk8]; exact HB3.out.setCell k _, HB.out.setCell (by simp; omega) _⟩
      case measure => simp [intOf]; omega
    · obtain rfl : k = 8 := by omega
      go_wp2
      go_still_tail 2, (by kernel_rfl)
      refine wpList_copy_blk rfl _ _ 23 23 rfl 5 Try.underlying23 (by kernel_rfl) (w.heap.size + 1 + 1) 8 16 16 ⟨w.heap.size, 0, none⟩ 16 16 rfl rfl (laidTo at_ 8) 46 HB3.out.drew (bv l) ?n ?src ?fit ?one ?_
      case n => rw [bv_len, hl]; rfl
      case src =>
        intro j v hv
        rw [Addr.add_lit, Nat.zero_add]
        exact (HB1.out.drew.cell j).trans hv
      case fit => rw [bv_len, hl, laid_len]; omega
      case one => exact bv_one l
      intro w2 b3 hg2
      rw [laid_copy at_ l hl] at b3
      have hsz : w.heap.size + 1 + 1 < wr.drew.heap.size := HB3.out.lt
      have HB1' := Lib.hid (HB1.out.drew.grown hg2 (by omega))
      have HB2' := Lib.hid (HB2.out.drew.grown hg2 (by omega))
      have HB' := Lib.hid (below_grown HB.out.drew hg2 (by omega) (by omega))
      have HC := Lib.hid (SumW.crc_any _ 24 24 _ _ (b3.drew.bts (by rw [List.length_append, place_len, hl]) (by omega) (by decide)))
      clear b3 hg2 hsz
      go_wp2
      refine wp_region_still_tail 3 (by kernel_rfl) (by kernel_rfl) ?_
      simp only [List.take_succ_cons, List.take_zero, List.drop_succ_cons, List.drop_zero]
      refine wpStill_load_blk rfl 31 _ rfl w.heap.size 0 16 rfl 31 (bv l) _ HB1'.out.drew Try.underlying31 rfl (by kernel_rfl) (by rw [bv_len, hl]; omega) (bv l) (by rw [List.drop_zero, List.take_of_length_le (by rw [bv_len, hl]; omega)]) ?_
      still_step
      still_call (HC.out.mono fun e w' ⟨a, b⟩ => ⟨a, b.symm⟩)
      refine wpStill_nil ?_
      refine wpList_builds rfl 33 _ rfl [(0, .agg (bv l).toArray), (1, .int .u32 (Crc.crc (place at_ ++ l) : Nat))] rfl _ (built_cell l hl _) ?_
      refine wpList_store_blk rfl 33 _ _ rfl (w.heap.size + 1) 0 17 rfl 33 _ (cellV l (Crc.crc (place at_ ++ l))) rfl HB2'.out.drew (by kernel_rfl) (cellV_len l hl _) (by decide) (cellV_one l _) ?_
      intro w3 b4 hg3
      rw [put_all _ _ (by rw [cellV_len l hl]; rfl)] at b4
      have hsz : w.heap.size + 1 < w2.drew.heap.size := HB2'.out.lt
      have HB4 := Lib.hid b4
      have HB5 := Lib.hid (below_grown HB'.out.drew hg3 (by omega) (by omega))
      clear b4 hg3
      go_wp2
      exact bodyPost_ret (v := .agg (cellV l (Crc.crc (place at_ ++ l))).toArray) (results_cell_row rfl _ _ (w.heap.size + 1) 33 _ (0, 0) _ rfl HB4.out Try.underlying33 rfl (by rw [List.size_toArray, cellV_len l hl]; kernel_rfl)) rfl ⟨rfl, HB5.out⟩
end Go.Proofs.Ytldlgffjpmmlcaa.Seal
