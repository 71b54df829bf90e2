/-
  UnpackSuper of the codec by contract. Helper text; no statement is proved here.
-/
import Derived.Test.YtmmgejlfcehipaaPackSuper
import Derived.Test.YtmmgejlfcehipaaPackSuperY
import Derived.Test.YtmmgejlfcehipaaSame
set_option linter.unusedVariables false
set_option linter.unusedSimpArgs false
namespace Go.Proofs.Ytmmgejlfcehipaa.Codec
open Go.RowKit Go.Proofs.Ytmmgejlfcehipaa.Base Go.Proofs.Ytmmgejlfcehipaa.Laws Go.Proofs.Ytmmgejlfcehipaa.Lay Go.Proofs.Ytmmgejlfcehipaa.Inv Go.Proofs.Ytmmgejlfcehipaa.InvL Go.Proofs.Ytmmgejlfcehipaa.InvM
/-- the superblock that bytes are -/
def supOf (l : List UInt8) : Su := ⟨(val ((l.drop 4).take 2) : Nat), (val ((l.drop 6).take 2) : Nat), (val ((l.drop 8).take 2) : Nat), (val ((l.drop 10).take 2) : Nat), val ((l.drop 12).take 4), val ((l.drop 16).take 8), IntKind.i64.wrap (val ((l.drop 24).take 8) : Nat)⟩
def IsSup (l : List UInt8) : Prop := l.length = 45 ∧ (supOf l).Good ∧ (supOf l).bytes = l
instance instIsSup (l : List UInt8) : Decidable (IsSup l) := by unfold IsSup; infer_instance
def zSu : Su := ⟨0, 0, 0, 0, 0, 0, 0⟩
def sOut (l : List UInt8) : Su := if IsSup l then supOf l else zSu
def sErr (l : List UInt8) : Int := if l.length ≠ 45 then 1 else if IsSup l then 0 else 7
theorem sOut_short {l : List UInt8} (h : l.length ≠ 45) : sOut l = zSu ∧ sErr l = 1 := by
  unfold sOut sErr
  rw [if_neg (fun e => h e.1), if_pos h]
  exact ⟨rfl, rfl⟩
theorem sOut_no {l : List UInt8} (h : l.length = 45) (hn : ¬ IsSup l) : sOut l = zSu ∧ sErr l = 7 := by
  unfold sOut sErr
  rw [if_neg hn, if_neg (by omega), if_neg hn]
  exact ⟨rfl, rfl⟩
theorem sOut_yes {l : List UInt8} (h : IsSup l) : sOut l = supOf l ∧ sErr l = 0 := by
  unfold sOut sErr
  rw [if_pos h, if_neg (by have := h.1; omega), if_pos h]
  exact ⟨rfl, rfl⟩
theorem val_bd (l : List UInt8) (n b : Nat) (hb : 2 ^ (8 * n) = b) : val (l.take n) < b := by
  have h := val_lt (l.take n)
  have h2 : (2 : Nat) ^ (8 * (l.take n).length) ≤ 2 ^ (8 * n) := Nat.pow_le_pow_right (by decide) (by rw [List.length_take]; omega)
  omega
theorem built_geo (d c s : Int) : Try.prog.built 50 [(0, .int .i64 d), (1, .int .i64 c), (2, .int .i64 s)] = some (geo d c s).toArray := by kernel_rfl
theorem built_sup (d c s k : Int) (arr seq : Nat) (m : Int) : Try.prog.built 52 [(0, .agg (geo d c s).toArray), (1, .int .i64 k), (2, .int .u32 (arr : Int)), (3, .int .u64 (seq : Int)), (4, .int .i64 m)] = some (Su.cells ⟨d, c, s, k, arr, seq, m⟩).toArray := by kernel_rfl
def zsup : List Value := zSu.cells
set_option maxHeartbeats 1000000 in
theorem at_any (k b o cap : Nat) (l : List UInt8) (w : World) (B : Nat) (hk : k + 2 ≤ 45) (h : Bts w (some ⟨b, o, none⟩) 45 cap l) (hB : Blk w B [.slice (some ⟨b, o, none⟩) 45 cap] 27) :
    Calls Try.prog 40 #[.int .i64 (k : Int), .pointer (some ⟨B, 0, none⟩)] w fun e w' => e = .returned (.int .i64 (val ((l.drop k).take 2) : Nat)) ∧ w = w' := by
  have hl := h.1
  have hlc := h.2.1
  have hm := h.2.2.1
  have c0 := hB.cell 0
  simp only [List.getElem?_cons_zero] at c0
  have SM := Lib.hid (slice_mid w b o 45 cap k (k + 2) (k : Int) ((k : Int) + 2) rfl (by omega) (by omega) (by omega) (by omega))
  rw [show k + 2 - k = 2 from by omega] at SM
  have HR := Lib.hid (read_any (some ⟨b, o + k, none⟩) 2 (cap - k) ((l.drop k).take 2) (by decide) w (bts_sub h k 2 (cap - k) (by omega) (by omega) (by omega)))
  have hv := val_bd (l.drop k) 2 65536 (by decide)
  have hw2 : IntKind.i64.wrap ((k : Int) + 2) = (k : Int) + 2 := by rw [IntKind.wrap_i64]; omega
  have hw3 : IntKind.i64.wrap ((val ((l.drop k).take 2) : Nat) : Int) = ((val ((l.drop k).take 2) : Nat) : Int) := by rw [IntKind.wrap_i64]; omega
  unfold maxLen at hm
  clear h hB
  go_enter Try.func40, Try.ntmps40
  go_wp2_with (first | (refine wpList_value_g rfl (.slice (some ⟨b, o + k, none⟩) 2 (cap - k)) (exec_slice rfl SM.out) ?_))
  refine HR.out.mono ?_
  rintro e w' ⟨rfl, rfl⟩
  go_wp2
  go_ret
  exact ⟨rfl, rfl⟩
set_option maxRecDepth 4000 in
set_option maxHeartbeats 2000000 in
theorem unpacksuper_long (a : Option Addr) (cap : Nat) (l : List UInt8) (w : World) (h : Bts w a 45 cap l) :
    Calls Try.prog 25 #[.slice a 45 cap] w fun e w' => e = .returned (.tuple #[.agg (sOut l).cells.toArray, .int .i64 (sErr l)]) ∧ Below w.heap.size w w' := by
  have h0 := h
  obtain ⟨hl, hlc, hm, ha⟩ := h
  rcases ha with ha | ⟨b, o, rfl, hc⟩
  · omega
  have hb : b < w.heap.size := by
    obtain ⟨x, hx⟩ : ∃ x, l[0]? = some x := ⟨_, List.getElem?_eq_getElem (by omega)⟩
    exact block_lt_of_cell (hc 0 x hx)
  have T0 := Lib.hid h0
  clear h0 hc
  unfold maxLen at hm
  have BR := Lib.hid (built_sup (supOf l).d (supOf l).c (supOf l).s (supOf l).k (supOf l).arr (supOf l).seq (supOf l).m)
  obtain ⟨rc, hrc⟩ : ∃ rc, rc = (supOf l).cells := ⟨_, rfl⟩
  have hr7 : rc.length = 7 := by rw [hrc]; rfl
  have hr1 : ∀ u ∈ rc, u.oneCell' = true := by rw [hrc]; intro u hu; simp [Su.cells] at hu; rcases hu with rfl | rfl | rfl | rfl | rfl | rfl | rfl <;> rfl
  rw [show Su.cells ⟨(supOf l).d, (supOf l).c, (supOf l).s, (supOf l).k, (supOf l).arr, (supOf l).seq, (supOf l).m⟩ = rc from hrc.symm] at BR
  have RC := Lib.hid hrc
  clear hrc
  have WA := Lib.hid (show IntKind.u32.wrap ((val ((l.drop 12).take 4) : Nat) : Int) = ((val ((l.drop 12).take 4) : Nat) : Int) by have := val_bd (l.drop 12) 4 4294967296 (by decide); rw [IntKind.wrap_u32]; omega)
  obtain ⟨w1, hw1⟩ : ∃ w1, w1 = (w.alloc (.cells #[.slice (some ⟨b, o, none⟩) 45 cap] 27)).alloc (.cells #[.int .i64 0, .int .i64 0, .int .i64 0, .int .i64 0, .int .u32 0, .int .u64 0, .int .i64 0] 52) := ⟨_, rfl⟩
  have X := Lib.hid (show Blk w1 w.heap.size [.slice (some ⟨b, o, none⟩) 45 cap] 27 from hw1 ▸ ((blk_at (w := w) (g := w.heap.size) (cs := [.slice (some ⟨b, o, none⟩) 45 cap]) (t := 27) rfl rfl).alloc _))
  have Z := Lib.hid (show Blk w1 (w.heap.size + 1) zsup 52 from hw1 ▸ (blk_at (cs := zsup) (t := 52) (arr := #[.int .i64 0, .int .i64 0, .int .i64 0, .int .i64 0, .int .u32 0, .int .u64 0, .int .i64 0]) (by simp only [size_alloc]) rfl))
  have L1 := Lib.hid (show Below w.heap.size w w1 from hw1 ▸ (((Below.refl w.heap.size w).alloc (Nat.le_refl _) _).alloc (by simp only [size_alloc]; omega) _))
  have TT := Lib.hid (show Bts w1 (some ⟨b, o, none⟩) 45 cap l from hw1 ▸ bts_alloc (bts_alloc T0.out _) _)
  have hN1 : w1.heap.size = w.heap.size + 1 + 1 := by rw [hw1]; simp only [size_alloc]
  have n0 : ¬ cap = 0 := by omega
  have n12 : ¬ cap = 12 := by omega
  have n16 : ¬ cap = 16 := by omega
  have n24 : ¬ cap = 24 := by omega
  have i16 : (16 : Int) ≤ cap := by omega
  have i24 : (24 : Int) ≤ cap := by omega
  have i32 : (32 : Int) ≤ cap := by omega
  go_enter Try.func25, Try.ntmps25
  go_upto_region 1 with (fail)
  rw [← hw1]
  clear hw1 T0
  have c0 := X.out.cell 0
  simp only [List.getElem?_cons_zero] at c0
  go_wp2
  clear c0
  obtain ⟨N, hN⟩ : ∃ N, N = w1.heap.size := ⟨_, rfl⟩
  have KV := Lib.hid (fun (i : Nat) (d : Array Bool) (w' : World) (hi : i ≠ 21) (h : (Bts w' (some ⟨b, o, none⟩) 45 cap l ∧ Blk w' w.heap.size [.slice (some ⟨b, o, none⟩) 45 cap] 27 ∧ Blk w' (w.heap.size + 1) zsup 52 ∧ Below w.heap.size w w') ∧ At 21 (fun w' => w'.heap.size = N) (fun w' => Blk w' N zsup 52) d w') => (⟨h.1, At.keep hi id id h.2⟩ : (Bts w' (some ⟨b, o, none⟩) 45 cap l ∧ Blk w' w.heap.size [.slice (some ⟨b, o, none⟩) 45 cap] 27 ∧ Blk w' (w.heap.size + 1) zsup 52 ∧ Below w.heap.size w w') ∧ At 21 (fun w' => w'.heap.size = N) (fun w' => Blk w' N zsup 52) (d.setIfInBounds i true) w'))
  refine InvL.wp_region_inv_tail (fun d w' => (Bts w' (some ⟨b, o, none⟩) 45 cap l ∧ Blk w' w.heap.size [.slice (some ⟨b, o, none⟩) 45 cap] 27 ∧ Blk w' (w.heap.size + 1) zsup 52 ∧ Below w.heap.size w w') ∧ At 21 (fun w' => w'.heap.size = N) (fun w' => Blk w' N zsup 52) d w') 22 (by kernel_rfl) (by kernel_rfl) ⟨⟨TT.out, X.out.drew, Z.out.drew, L1.out.drew⟩, At.start (by rfl) hN.symm⟩ ?_
  simp only [List.take_succ_cons, List.take_zero, List.drop_succ_cons, List.drop_zero]
  refine invl_value (.func (.func 40) #[] #[.pointer (some ⟨w.heap.size, 0, none⟩)]) rfl (fun d w' h => by go_simp) (fun d w' _ h => KV.out _ d w' (by decide) h) ?_
  simp only [Act.put, List.setIfInBounds_toArray, List.set_cons_zero, List.set_cons_succ]
  refine invl_call (.int .i64 (val ((l.drop 4).take 2) : Nat)) rfl 40 #[.int .i64 4, .pointer (some ⟨w.heap.size, 0, none⟩)] (fun d w' _ => by go_simp) (fun d w' _ h => (at_any 4 b o cap l w' w.heap.size (by omega) h.1.1 h.1.2.1).mono fun e w'' ⟨he, hw⟩ => ⟨he, hw ▸ KV.out _ d w' (by decide) h⟩) ?_
  simp only [Act.put, List.setIfInBounds_toArray, List.set_cons_zero, List.set_cons_succ]
  refine invl_value (.func (.func 40) #[] #[.pointer (some ⟨w.heap.size, 0, none⟩)]) rfl (fun d w' h => by go_simp) (fun d w' _ h => KV.out _ d w' (by decide) h) ?_
  simp only [Act.put, List.setIfInBounds_toArray, List.set_cons_zero, List.set_cons_succ]
  refine invl_call (.int .i64 (val ((l.drop 6).take 2) : Nat)) rfl 40 #[.int .i64 6, .pointer (some ⟨w.heap.size, 0, none⟩)] (fun d w' _ => by go_simp) (fun d w' _ h => (at_any 6 b o cap l w' w.heap.size (by omega) h.1.1 h.1.2.1).mono fun e w'' ⟨he, hw⟩ => ⟨he, hw ▸ KV.out _ d w' (by decide) h⟩) ?_
  simp only [Act.put, List.setIfInBounds_toArray, List.set_cons_zero, List.set_cons_succ]
  refine invl_value (.func (.func 40) #[] #[.pointer (some ⟨w.heap.size, 0, none⟩)]) rfl (fun d w' h => by go_simp) (fun d w' _ h => KV.out _ d w' (by decide) h) ?_
  simp only [Act.put, List.setIfInBounds_toArray, List.set_cons_zero, List.set_cons_succ]
  refine invl_call (.int .i64 (val ((l.drop 8).take 2) : Nat)) rfl 40 #[.int .i64 8, .pointer (some ⟨w.heap.size, 0, none⟩)] (fun d w' _ => by go_simp) (fun d w' _ h => (at_any 8 b o cap l w' w.heap.size (by omega) h.1.1 h.1.2.1).mono fun e w'' ⟨he, hw⟩ => ⟨he, hw ▸ KV.out _ d w' (by decide) h⟩) ?_
  simp only [Act.put, List.setIfInBounds_toArray, List.set_cons_zero, List.set_cons_succ]
  refine invl_value (.agg (geo (supOf l).d (supOf l).c (supOf l).s).toArray) rfl (fun d w' h => by exact exec_build (vs := [(0, .int .i64 (supOf l).d), (1, .int .i64 (supOf l).c), (2, .int .i64 (supOf l).s)]) rfl rfl (built_geo _ _ _)) (fun d w' _ h => KV.out _ d w' (by decide) h) ?_
  simp only [Act.put, List.setIfInBounds_toArray, List.set_cons_zero, List.set_cons_succ]
  refine invl_value (.func (.func 40) #[] #[.pointer (some ⟨w.heap.size, 0, none⟩)]) rfl (fun d w' h => by go_simp) (fun d w' _ h => KV.out _ d w' (by decide) h) ?_
  simp only [Act.put, List.setIfInBounds_toArray, List.set_cons_zero, List.set_cons_succ]
  refine invl_call (.int .i64 (val ((l.drop 10).take 2) : Nat)) rfl 40 #[.int .i64 10, .pointer (some ⟨w.heap.size, 0, none⟩)] (fun d w' _ => by go_simp) (fun d w' _ h => (at_any 10 b o cap l w' w.heap.size (by omega) h.1.1 h.1.2.1).mono fun e w'' ⟨he, hw⟩ => ⟨he, hw ▸ KV.out _ d w' (by decide) h⟩) ?_
  simp only [Act.put, List.setIfInBounds_toArray, List.set_cons_zero, List.set_cons_succ]
  refine invl_value (.slice (some ⟨b, o, none⟩) 45 cap) rfl (fun d w' h => by have c0 := h.1.2.1.cell 0; simp only [List.getElem?_cons_zero] at c0; clear h; go_simp) (fun d w' _ h => KV.out _ d w' (by decide) h) ?_
  simp only [Act.put, List.setIfInBounds_toArray, List.set_cons_zero, List.set_cons_succ]
  refine invl_value (.slice (some ⟨b, o + 12, none⟩) 4 (cap - 12)) rfl (fun d w' h => by go_simp) (fun d w' _ h => KV.out _ d w' (by decide) h) ?_
  simp only [Act.put, List.setIfInBounds_toArray, List.set_cons_zero, List.set_cons_succ]
  refine invl_call (.int .u64 (val ((l.drop 12).take 4) : Nat)) rfl 35 #[.slice (some ⟨b, o + 12, none⟩) 4 (cap - 12)] (fun d w' _ => by go_simp) (fun d w' _ h => (read_any _ _ _ ((l.drop 12).take 4) (by decide) w' (bts_sub h.1.1 12 4 (cap - 12) (by omega) (by omega) (by unfold maxLen; omega))).mono fun e w'' ⟨he, hw⟩ => ⟨he, hw ▸ KV.out _ d w' (by decide) h⟩) ?_
  simp only [Act.put, List.setIfInBounds_toArray, List.set_cons_zero, List.set_cons_succ]
  refine invl_value (.int .u32 ((supOf l).arr : Nat)) rfl (fun d w' h => by go_simp; all_goals exact WA.out) (fun d w' _ h => KV.out _ d w' (by decide) h) ?_
  simp only [Act.put, List.setIfInBounds_toArray, List.set_cons_zero, List.set_cons_succ]
  refine invl_value (.slice (some ⟨b, o, none⟩) 45 cap) rfl (fun d w' h => by have c0 := h.1.2.1.cell 0; simp only [List.getElem?_cons_zero] at c0; clear h; go_simp) (fun d w' _ h => KV.out _ d w' (by decide) h) ?_
  simp only [Act.put, List.setIfInBounds_toArray, List.set_cons_zero, List.set_cons_succ]
  refine invl_value (.slice (some ⟨b, o + 16, none⟩) 8 (cap - 16)) rfl (fun d w' h => by go_simp) (fun d w' _ h => KV.out _ d w' (by decide) h) ?_
  simp only [Act.put, List.setIfInBounds_toArray, List.set_cons_zero, List.set_cons_succ]
  refine invl_call (.int .u64 (val ((l.drop 16).take 8) : Nat)) rfl 35 #[.slice (some ⟨b, o + 16, none⟩) 8 (cap - 16)] (fun d w' _ => by go_simp) (fun d w' _ h => (read_any _ _ _ ((l.drop 16).take 8) (by decide) w' (bts_sub h.1.1 16 8 (cap - 16) (by omega) (by omega) (by unfold maxLen; omega))).mono fun e w'' ⟨he, hw⟩ => ⟨he, hw ▸ KV.out _ d w' (by decide) h⟩) ?_
  simp only [Act.put, List.setIfInBounds_toArray, List.set_cons_zero, List.set_cons_succ]
  refine invl_value (.slice (some ⟨b, o, none⟩) 45 cap) rfl (fun d w' h => by have c0 := h.1.2.1.cell 0; simp only [List.getElem?_cons_zero] at c0; clear h; go_simp) (fun d w' _ h => KV.out _ d w' (by decide) h) ?_
  simp only [Act.put, List.setIfInBounds_toArray, List.set_cons_zero, List.set_cons_succ]
  refine invl_value (.slice (some ⟨b, o + 24, none⟩) 8 (cap - 24)) rfl (fun d w' h => by go_simp) (fun d w' _ h => KV.out _ d w' (by decide) h) ?_
  simp only [Act.put, List.setIfInBounds_toArray, List.set_cons_zero, List.set_cons_succ]
  refine invl_call (.int .u64 (val ((l.drop 24).take 8) : Nat)) rfl 35 #[.slice (some ⟨b, o + 24, none⟩) 8 (cap - 24)] (fun d w' _ => by go_simp) (fun d w' _ h => (read_any _ _ _ ((l.drop 24).take 8) (by decide) w' (bts_sub h.1.1 24 8 (cap - 24) (by omega) (by omega) (by unfold maxLen; omega))).mono fun e w'' ⟨he, hw⟩ => ⟨he, hw ▸ KV.out _ d w' (by decide) h⟩) ?_
  simp only [Act.put, List.setIfInBounds_toArray, List.set_cons_zero, List.set_cons_succ]
  refine invl_value (.int .i64 (supOf l).m) rfl (fun d w' h => by go_simp; all_goals rfl) (fun d w' _ h => KV.out _ d w' (by decide) h) ?_
  simp only [Act.put, List.setIfInBounds_toArray, List.set_cons_zero, List.set_cons_succ]
  refine invl_value (.agg rc.toArray) rfl (fun d w' h => by exact exec_build (vs := [(0, .agg (geo (supOf l).d (supOf l).c (supOf l).s).toArray), (1, .int .i64 (supOf l).k), (2, .int .u32 ((supOf l).arr : Nat)), (3, .int .u64 ((supOf l).seq : Nat)), (4, .int .i64 (supOf l).m)]) rfl rfl BR.out) (fun d w' _ h => KV.out _ d w' (by decide) h) ?_
  simp only [Act.put, List.setIfInBounds_toArray, List.set_cons_zero, List.set_cons_succ]
  refine invl_world (.pointer (some ⟨N, 0, none⟩)) rfl (fun d w' hd h => ⟨w'.alloc (.cells #[.int .i64 0, .int .i64 0, .int .i64 0, .int .i64 0, .int .u32 0, .int .u64 0, .int .i64 0] 52), by have hh := h.2.before hd; go_simp, ⟨bts_alloc h.1.1 _, h.1.2.1.alloc _, h.1.2.2.1.alloc _, h.1.2.2.2.alloc h.1.2.2.2.size _⟩, At.now hd (blk_at (h.2.before hd) rfl)⟩) ?_
  simp only [Act.put, List.setIfInBounds_toArray, List.set_cons_zero, List.set_cons_succ]
  refine invl_nil fun w2 hI => ?_
  obtain ⟨⟨bt, bx, bz, bl⟩, hn⟩ := hI
  have hn := hn.done (by rfl)
  have hN2 := hn.lt
  have hs2 := bl.size
  refine wpList_store_blk rfl 52 _ _ rfl N 0 7 rfl 52 zsup rc rfl hn (by kernel_rfl) hr7 (by decide) hr1 ?_
  intro w3 n3 g3
  rw [put_all _ _ (by rw [hr7]; rfl)] at n3
  have hNw : w.heap.size + 1 < N := by omega
  have T3 := Lib.hid (bts_under bt (below_grown (Below.refl w.heap.size w2) g3 hs2 (by omega)) hb)
  have X3 := Lib.hid (bx.grown g3 (by omega))
  have Z3 := Lib.hid (bz.grown g3 (by omega))
  have R3 := Lib.hid n3
  have L3 := Lib.hid (below_grown bl g3 hs2 (by omega))
  have hs3 := n3.lt
  have hs3' := L3.out.size
  have hz3 := Z3.out.lt
  clear bt bx bz bl hn g3 n3 X Z L1 TT KV BR hN hN1 hN2 WA
  have harr : (supOf l).arr < 4294967296 := val_bd (l.drop 12) 4 4294967296 (by decide)
  have hseq : (supOf l).seq < 18446744073709551616 := val_bd (l.drop 16) 8 18446744073709551616 (by decide)
  have hbl := Su.bytes_len (supOf l)
  by_cases hg : (supOf l).Good
  · have P := Lib.hid (fun w' => packsuper_yes hg harr hseq w')
    rw [← RC.out] at P
    have hrecI : IsSup l ↔ (supOf l).bytes = l := ⟨fun h => h.2.2, fun h => ⟨hl, hg, h⟩⟩
    obtain ⟨bs, hbs⟩ : ∃ bs, bs = (supOf l).bytes := ⟨_, rfl⟩
    rw [← hbs] at P hbl hrecI
    have RI := Lib.hid hrecI
    clear hbs hg hrecI
    go_wp2_with (first | (refine wpList_load_g rfl 52 _ rfl N 7 rfl 52 rc _ R3.out Try.underlying52 rfl (by kernel_rfl) hr7 ?_))
    refine (P.out _).mono ?_
    rintro e w4 ⟨p, rfl, ho, hb4⟩
    obtain ⟨pa, pcap, rfl, hbt⟩ := OwnB.bts_own hbl ho
    have T4 := Lib.hid (T3.out.below hb4 (Nat.le_refl _))
    have X4 := Lib.hid (X3.out.below hb4 X3.out.lt)
    have Z4 := Lib.hid (Z3.out.below hb4 hz3)
    have R4 := Lib.hid (R3.out.below hb4 hs3)
    have L4 := Lib.hid (L3.out.trans (hb4.mono hs3'))
    have E := Lib.hid (Same.equal_any pa 45 pcap bs (some ⟨b, o, none⟩) 45 cap l w4 hbt T4.out)
    have hs4' := L4.out.size
    have c0 := X4.out.cell 0
    simp only [List.getElem?_cons_zero] at c0
    clear ho hbt T4 T3 X3 Z3 R3 L3 hb4 P
    by_cases heq : bs = l
    · have HQ := Lib.hid (RI.out.2 heq)
      rw [decide_eq_true heq] at E
      clear heq
      go_wp2_with fail
      refine E.out.mono ?_
      rintro e w5 ⟨rfl, rfl⟩
      clear c0
      go_wp2_with (first | (refine wpList_load_g rfl 52 _ rfl N 7 rfl 52 rc _ R4.out Try.underlying52 rfl (by kernel_rfl) hr7 ?_) | (refine wpList_store_blk rfl 52 _ _ rfl (w.heap.size + 1) 0 7 rfl 52 zsup rc rfl Z4.out (by kernel_rfl) hr7 (by decide) hr1 ?_; intro w6 z6 g6; rw [put_all _ _ (by rw [hr7]; rfl)] at z6; have Z6 := Lib.hid z6; have L6 := Lib.hid (below_grown L4.out g6 hs4' (by omega)); clear z6 g6))
      exact bodyPost_ret (v := .tuple #[.agg rc.toArray, .int .i64 0]) (results_cell_two rfl _ _ (w.heap.size + 1) 52 _ (0, 0) _ _ rfl rfl Z6.out Try.underlying52 rfl (by rw [List.size_toArray, hr7]; kernel_rfl)) rfl ⟨by rw [(sOut_yes HQ.out).1, (sOut_yes HQ.out).2, RC.out], L6.out⟩
    · have HQ := Lib.hid (show ¬ IsSup l from fun h => heq (RI.out.1 h))
      rw [decide_eq_false heq] at E
      clear heq
      go_wp2_with fail
      refine E.out.mono ?_
      rintro e w5 ⟨rfl, rfl⟩
      clear c0
      go_wp2_with (first | (refine wpList_store_blk rfl 52 _ _ rfl (w.heap.size + 1) 0 7 rfl 52 zsup zsup rfl Z4.out (by kernel_rfl) rfl (by decide) (by decide) ?_; intro w6 z6 g6; have Z6 := Lib.hid (show Blk w6 (w.heap.size + 1) zsup 52 from z6); have L6 := Lib.hid (below_grown L4.out g6 hs4' (by omega)); clear z6 g6))
      exact bodyPost_ret (v := .tuple #[.agg zsup.toArray, .int .i64 7]) (results_cell_two rfl _ _ (w.heap.size + 1) 52 _ (0, 0) _ _ rfl rfl Z6.out Try.underlying52 rfl (by kernel_rfl)) rfl ⟨by rw [(sOut_no hl HQ.out).1, (sOut_no hl HQ.out).2]; rfl, L6.out⟩
  · have HQ := Lib.hid (show ¬ IsSup l from fun h => hg h.2.1)
    have P : ∃ en : Int, ¬ en = 0 ∧ ∀ w', Calls Try.prog 23 #[.agg rc.toArray] w' fun e w'' => e = .returned (.tuple #[.slice none 0 0, .int .i64 en]) ∧ Below w'.heap.size w' w'' := by
      rw [RC.out]
      by_cases hso : Sound (supOf l).d (supOf l).c (supOf l).s
      · exact ⟨2, by decide, fun w' => packsuper_arg hso (fun h => hg ⟨hso, h⟩) w'⟩
      · exact ⟨1, by decide, fun w' => packsuper_form hso w'⟩
    obtain ⟨en, hen, hP⟩ := P
    have P2 := Lib.hid hP
    clear hP hg
    go_wp2_with (first | (refine wpList_load_g rfl 52 _ rfl N 7 rfl 52 rc _ R3.out Try.underlying52 rfl (by kernel_rfl) hr7 ?_))
    refine (P2.out _).mono ?_
    rintro e w4 ⟨rfl, hb4⟩
    have Z4 := Lib.hid (Z3.out.below hb4 hz3)
    have L4 := Lib.hid (L3.out.trans (hb4.mono hs3'))
    have hs4' := L4.out.size
    clear T3 X3 Z3 R3 L3 hb4 P2
    go_wp2_with (first | (refine wpList_store_blk rfl 52 _ _ rfl (w.heap.size + 1) 0 7 rfl 52 zsup zsup rfl Z4.out (by kernel_rfl) rfl (by decide) (by decide) ?_; intro w6 z6 g6; have Z6 := Lib.hid (show Blk w6 (w.heap.size + 1) zsup 52 from z6); have L6 := Lib.hid (below_grown L4.out g6 hs4' (by omega)); clear z6 g6))
    exact bodyPost_ret (v := .tuple #[.agg zsup.toArray, .int .i64 7]) (results_cell_two rfl _ _ (w.heap.size + 1) 52 _ (0, 0) _ _ rfl rfl Z6.out Try.underlying52 rfl (by kernel_rfl)) rfl ⟨by rw [(sOut_no hl HQ.out).1, (sOut_no hl HQ.out).2]; rfl, L6.out⟩
set_option maxHeartbeats 1000000 in
theorem unpacksuper_short (a : Option Addr) (len cap : Nat) (l : List UInt8) (w : World) (h : Bts w a len cap l) (hs : len ≠ 45) :
    Calls Try.prog 25 #[.slice a len cap] w fun e w' => e = .returned (.tuple #[.agg zsup.toArray, .int .i64 1]) ∧ Below w.heap.size w w' := by
  obtain ⟨hl, hlc, hm, ha⟩ := h
  unfold maxLen at hm
  have hne : ¬ ((len : Int) = 45) := by omega
  clear ha hs
  obtain ⟨w1, hw1⟩ : ∃ w1, w1 = (w.alloc (.cells #[.slice a len cap] 27)).alloc (.cells #[.int .i64 0, .int .i64 0, .int .i64 0, .int .i64 0, .int .u32 0, .int .u64 0, .int .i64 0] 52) := ⟨_, rfl⟩
  have X := Lib.hid (show Blk w1 w.heap.size [.slice a len cap] 27 from hw1 ▸ ((blk_at (w := w) (g := w.heap.size) (cs := [.slice a len cap]) (t := 27) rfl rfl).alloc _))
  have Z := Lib.hid (show Blk w1 (w.heap.size + 1) zsup 52 from hw1 ▸ (blk_at (cs := zsup) (t := 52) (arr := #[.int .i64 0, .int .i64 0, .int .i64 0, .int .i64 0, .int .u32 0, .int .u64 0, .int .i64 0]) (by simp only [size_alloc]) rfl))
  have L1 := Lib.hid (show Below w.heap.size w w1 from hw1 ▸ (((Below.refl w.heap.size w).alloc (Nat.le_refl _) _).alloc (by simp only [size_alloc]; omega) _))
  go_enter Try.func25, Try.ntmps25
  go_upto_region 1 with (fail)
  rw [← hw1]
  clear hw1
  have c0 := X.out.cell 0
  simp only [List.getElem?_cons_zero] at c0
  have hs1 := L1.out.size
  go_upto_region 2 with (fail)
  clear c0
  go_wp2_with (first | (refine wpList_store_blk rfl 52 _ _ rfl (w.heap.size + 1) 0 7 rfl 52 zsup zsup rfl Z.out (by kernel_rfl) rfl (by decide) (by decide) ?_; intro w6 z6 g6; have Z6 := Lib.hid (show Blk w6 (w.heap.size + 1) zsup 52 from z6); have L6 := Lib.hid (below_grown L1.out g6 hs1 (by omega)); clear z6 g6))
  exact bodyPost_ret (v := .tuple #[.agg zsup.toArray, .int .i64 1]) (results_cell_two rfl _ _ (w.heap.size + 1) 52 _ (0, 0) _ _ rfl rfl Z6.out Try.underlying52 rfl (by kernel_rfl)) rfl ⟨rfl, L6.out⟩
theorem unpacksuper_any (a : Option Addr) (len cap : Nat) (l : List UInt8) (w : World) (h : Bts w a len cap l) :
    Calls Try.prog 25 #[.slice a len cap] w fun e w' => e = .returned (.tuple #[.agg (sOut l).cells.toArray, .int .i64 (sErr l)]) ∧ Below w.heap.size w w' := by
  by_cases hs : len = 45
  · subst hs
    exact unpacksuper_long a cap l w h
  · rw [(sOut_short (h.1 ▸ hs)).1, (sOut_short (h.1 ▸ hs)).2]
    exact unpacksuper_short a len cap l w h hs
end Go.Proofs.Ytmmgejlfcehipaa.Codec
