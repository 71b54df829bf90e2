/-
  Unpack of the codec by contract. Helper text; no statement is proved here.
-/
import Derived.Test.YtobblbplanimgaaRecBuilt
import Derived.Test.YtobblbplanimgaaSame
import Derived.Deep.Cut
set_option linter.unusedVariables false
set_option maxRecDepth 20000
set_option linter.unusedSimpArgs false
namespace Go.Proofs.Ytobblbplanimgaa.Codec
open Go.RowKit Go.Proofs.Ytobblbplanimgaa.Base Go.Proofs.Ytobblbplanimgaa.Laws Go.Proofs.Ytobblbplanimgaa.Inv Go.Proofs.Ytobblbplanimgaa.InvL Go.Proofs.Ytobblbplanimgaa.InvM
theorem bts_sub {w : World} {b o len cap : Nat} {l : List UInt8} (h : Bts w (some ⟨b, o, none⟩) len cap l) (i n c : Nat) (hi : i + n ≤ len) (hc : n ≤ c) (hm : c ≤ maxLen) : Bts w (some ⟨b, o + i, none⟩) n c ((l.drop i).take n) := by
  obtain ⟨h1, h2, h3, h4⟩ := h
  refine ⟨by rw [List.length_take, List.length_drop]; omega, hc, hm, ?_⟩
  rcases h4 with h4 | ⟨b', o', e, hc⟩
  · exact .inl (by omega)
  · simp only [Option.some.injEq, Addr.mk.injEq, and_true] at e
    obtain ⟨rfl, rfl⟩ := e
    refine .inr ⟨_, _, rfl, fun j u hu => ?_⟩
    rw [List.getElem?_take] at hu
    split at hu
    · rw [List.getElem?_drop] at hu
      rw [Nat.add_assoc]
      exact hc _ u hu
    · cases hu
theorem bts_alloc {w : World} {a : Option Addr} {len cap : Nat} {l : List UInt8} (h : Bts w a len cap l) (o : Obj) : Bts (w.alloc o) a len cap l :=
  h.below (B := w.heap.size) ((Below.refl _ _).alloc (Nat.le_refl _) _) (Nat.le_refl _)
theorem bts_row {w : World} {g : Nat} {a : Option Addr} {len cap : Nat} {l : List UInt8} (h : Bts w a len cap l) (hb : Below w.heap.size w w) : True := trivial
theorem exec_build {P : Program} {ρ : Operand → Value} {w : World} {o : Oper} {t : TypeId} {parts : Array (Nat × Operand)} {vs : List (Nat × Value)} {cells : Array Value} (ho : o.op = .build t parts) (hx : parts.toList.map (fun (i, x) => (i, ρ x)) = vs) (hb : P.built t vs = some cells) : (execOp ρ o).run P w = .ok (.value (.agg cells)) w := by
  unfold execOp
  simp only [ho]
  have hx' : parts.map (fun (i, x) => (i, ρ x)) = vs.toArray := by rw [← hx]; apply Array.ext'; simp
  rw [hx']
  simp only [Sem.run_bind, run_build w t vs.toArray cells hb, Result.andThen_ok, Sem.run_pure]
instance (k a : Int) : Decidable (Ok k a) := by unfold Ok; infer_instance
instance (l : List UInt8) : Decidable (IsRec l) := by unfold IsRec; infer_instance
/-- what Unpack answers -/
def recOut (l : List UInt8) : List Value := if IsRec l then recV (kindOf l) (verOf l) (lbaOf l) (dataOf l) else zrec
def recErr (l : List UInt8) : Int := if l.length < 37 then 1 else if IsRec l then 0 else 7
theorem out_short {l : List UInt8} (h : l.length < 37) : recOut l = zrec ∧ recErr l = 1 := by
  unfold recOut recErr
  rw [if_neg (fun e => by have := e.1; omega), if_pos h]
  exact ⟨rfl, rfl⟩
theorem out_no {l : List UInt8} (h : 37 ≤ l.length) (hn : ¬ IsRec l) : recOut l = zrec ∧ recErr l = 7 := by
  unfold recOut recErr
  rw [if_neg hn, if_neg (by omega), if_neg hn]
  exact ⟨rfl, rfl⟩
theorem out_yes {l : List UInt8} (h : IsRec l) : recOut l = recV (kindOf l) (verOf l) (lbaOf l) (dataOf l) ∧ recErr l = 0 := by
  unfold recOut recErr
  rw [if_pos h, if_neg (by have := h.1; omega), if_pos h]
  exact ⟨rfl, rfl⟩
theorem bts_under {w w' : World} {b o len cap B : Nat} {l : List UInt8} (h : Bts w (some ⟨b, o, none⟩) len cap l) (hb : Below B w w') (hB : b < B) : Bts w' (some ⟨b, o, none⟩) len cap l := by
  obtain ⟨h1, h2, h3, h4⟩ := h
  refine ⟨h1, h2, h3, ?_⟩
  rcases h4 with h4 | ⟨b', o', e, hc⟩
  · exact .inl h4
  · simp only [Option.some.injEq, Addr.mk.injEq, and_true] at e
    obtain ⟨rfl, rfl⟩ := e
    exact .inr ⟨_, _, rfl, fun i u hu => (hb.cell (p := ⟨b, o + i, none⟩) hB).trans (hc i u hu)⟩
set_option maxHeartbeats 1000000 in
theorem unpack_short (a : Option Addr) (len cap : Nat) (l : List UInt8) (w : World) (h : Bts w a len cap l) (hs : len < 37) :
    Calls Try.prog 49 #[.slice a len cap] w fun e w' => e = .returned (.tuple #[.agg zrec.toArray, .int .i64 1]) ∧ Below w.heap.size w w' := by
  obtain ⟨hl, hlc, hm, ha⟩ := h
  unfold maxLen at hm
  clear ha
  have Z := Lib.hid (blk_at (w := w) (g := w.heap.size) (cs := zrec) (t := 27) (arr := #[.int .i64 0, .int .u64 0, .int .i64 0, .int .u8 0, .int .u8 0, .int .u8 0, .int .u8 0, .int .u8 0, .int .u8 0, .int .u8 0, .int .u8 0, .int .u8 0, .int .u8 0, .int .u8 0, .int .u8 0, .int .u8 0, .int .u8 0, .int .u8 0, .int .u8 0]) rfl rfl)
  go_enter Try.func49, Try.ntmps49
  go_upto_region 2 with (fail)
  obtain ⟨w1, hw1⟩ : ∃ w1, w1 = w.alloc (.cells #[.int .i64 0, .int .u64 0, .int .i64 0, .int .u8 0, .int .u8 0, .int .u8 0, .int .u8 0, .int .u8 0, .int .u8 0, .int .u8 0, .int .u8 0, .int .u8 0, .int .u8 0, .int .u8 0, .int .u8 0, .int .u8 0, .int .u8 0, .int .u8 0, .int .u8 0] 27) := ⟨_, rfl⟩
  have L1 := Lib.hid (show Below w.heap.size w w1 from hw1 ▸ ((Below.refl w.heap.size w).alloc (Nat.le_refl _) _))
  rw [← hw1] at Z ⊢
  clear hw1
  go_wp2_with (first | (refine wpList_store_blk rfl 27 _ _ rfl w.heap.size 0 19 rfl 27 zrec zrec rfl Z.out (by kernel_rfl) rfl (by decide) (recV_one _ _ _ _) ?_; intro w2 z2 g2; have Z2 := Lib.hid (show Blk w2 w.heap.size zrec 27 from z2); have L2 := Lib.hid (below_grown L1.out g2 L1.out.size (Nat.le_refl _)); clear z2 g2))
  exact bodyPost_ret (v := .tuple #[.agg zrec.toArray, .int .i64 1]) (results_cell_two rfl _ _ w.heap.size 27 _ (0, 0) _ _ rfl rfl Z2.out Try.underlying27 rfl (by kernel_rfl)) rfl ⟨rfl, L2.out⟩
set_option maxRecDepth 4000 in
set_option maxHeartbeats 4000000 in
theorem unpack_long (a : Option Addr) (len cap : Nat) (l : List UInt8) (w : World) (h : Bts w a len cap l) (hs : 37 ≤ len) :
    Calls Try.prog 49 #[.slice a len cap] w fun e w' => e = .returned (.tuple #[.agg (recOut l).toArray, .int .i64 (recErr l)]) ∧ Below w.heap.size w w' := by
  have h0 := h
  obtain ⟨hl, hlc, hm, ha⟩ := h
  rcases ha with ha | ⟨b, o, rfl, hc⟩
  · omega
  have hb : b < w.heap.size := by
    obtain ⟨x, hx⟩ : ∃ x, l[0]? = some x := ⟨_, List.getElem?_eq_getElem (by omega)⟩
    exact block_lt_of_cell (hc 0 x hx)
  have T0 := Lib.hid h0
  clear h0 hc
  obtain ⟨x0, hx0⟩ : ∃ x, l[0]? = some x := ⟨_, List.getElem?_eq_getElem (by omega)⟩
  have hk : kindOf l = (x0.toNat : Int) := by
    unfold kindOf
    cases l with
    | nil => simp at hx0
    | cons y l => simp at hx0; subst hx0; rfl
  have C0 := Lib.hid (show ∀ w', Bts w' (some ⟨b, o, none⟩) len cap l → w'.cell? ⟨b, o, none⟩ = some (.int .u8 (x0.toNat : Int)) from fun w' h => by
    obtain ⟨_, _, _, h4⟩ := h
    rcases h4 with h4 | ⟨b', o', e, hc⟩
    · omega
    · simp only [Option.some.injEq, Addr.mk.injEq, and_true] at e
      obtain ⟨rfl, rfl⟩ := e
      exact hc 0 x0 hx0)
  have T1 := Lib.hid (fun w' (h : Bts w' (some ⟨b, o, none⟩) len cap l) => bts_sub h 1 8 (cap - 1) (by omega) (by omega) (by omega))
  have T9 := Lib.hid (fun w' (h : Bts w' (some ⟨b, o, none⟩) len cap l) => bts_sub h 9 8 (cap - 9) (by omega) (by omega) (by omega))
  have TD := Lib.hid (fun w' (h : Bts w' (some ⟨b, o, none⟩) len cap l) (j : Nat) (v : Value) (hv : (bv (dataOf l))[j]? = some v) => (show w'.cell? (({ block := b, off := o + 17 } : Addr).add j) = some v from by
    rw [Addr.add_lit]
    have := bts_sub h 17 16 (cap - 17) (by omega) (by omega) (by omega)
    obtain ⟨_, _, _, h4⟩ := this
    rcases h4 with h4 | ⟨b', o', e, hc⟩
    · omega
    · simp only [Option.some.injEq, Addr.mk.injEq, and_true] at e
      obtain ⟨rfl, rfl⟩ := e
      rw [bv_get, Option.map_eq_some_iff] at hv
      obtain ⟨u, hu, rfl⟩ := hv
      exact hc j u hu))
  have hd16 : (dataOf l).length = 16 := by unfold dataOf; rw [List.length_take, List.length_drop]; omega
  have BR := Lib.hid (built_rec (kindOf l) (verOf l) (lbaOf l) (dataOf l) hd16)
  rw [hk] at BR
  obtain ⟨rc, hrc⟩ : ∃ rc, rc = recV (x0.toNat : Int) (verOf l) (lbaOf l) (dataOf l) := ⟨_, rfl⟩
  have hr19 : rc.length = 19 := by rw [hrc]; exact recV_len _ _ _ _ hd16
  have hr1 : ∀ u ∈ rc, u.oneCell' = true := by rw [hrc]; exact recV_one _ _ _ _
  rw [← hrc] at BR
  have RC := Lib.hid hrc
  clear hrc
  unfold maxLen at hm
  have hw0 : IntKind.i64.wrap (x0.toNat : Int) = (x0.toNat : Int) := by have := x0.toNat_lt; rw [IntKind.wrap_i64]; omega
  obtain ⟨w1, hw1⟩ : ∃ w1, w1 = w.alloc (.cells #[.int .i64 0, .int .u64 0, .int .i64 0, .int .u8 0, .int .u8 0, .int .u8 0, .int .u8 0, .int .u8 0, .int .u8 0, .int .u8 0, .int .u8 0, .int .u8 0, .int .u8 0, .int .u8 0, .int .u8 0, .int .u8 0, .int .u8 0, .int .u8 0, .int .u8 0] 27) := ⟨_, rfl⟩
  have Z := Lib.hid (show Blk w1 w.heap.size zrec 27 from hw1 ▸ (blk_at (w := w) (g := w.heap.size) (cs := zrec) (t := 27) (arr := #[.int .i64 0, .int .u64 0, .int .i64 0, .int .u8 0, .int .u8 0, .int .u8 0, .int .u8 0, .int .u8 0, .int .u8 0, .int .u8 0, .int .u8 0, .int .u8 0, .int .u8 0, .int .u8 0, .int .u8 0, .int .u8 0, .int .u8 0, .int .u8 0, .int .u8 0]) rfl rfl))
  have L1 := Lib.hid (show Below w.heap.size w w1 from hw1 ▸ ((Below.refl w.heap.size w).alloc (Nat.le_refl _) _))
  have TT := Lib.hid (show Bts w1 (some ⟨b, o, none⟩) len cap l from hw1 ▸ bts_alloc T0.out _)
  have hN1 : w1.heap.size = w.heap.size + 1 := by rw [hw1]; simp only [size_alloc]
  have hne : ¬ len = 0 := by omega
  have n1 : ¬ cap = 1 := by omega
  have n9 : ¬ cap = 9 := by omega
  have n17 : ¬ cap = 17 := by omega
  have h9 : (9 : Int) ≤ cap := by omega
  have h17 : (17 : Int) ≤ cap := by omega
  have h33 : (33 : Int) ≤ cap := by omega
  clear hx0
  go_enter Try.func49, Try.ntmps49
  go_wp2
  rw [← hw1]
  clear hw1 T0
  obtain ⟨N, hN⟩ : ∃ N, N = w1.heap.size := ⟨_, rfl⟩
  have KV := Lib.hid (fun (i : Nat) (d : Array Bool) (w' : World) (hi : i ≠ 16) (h : (Bts w' (some ⟨b, o, none⟩) len cap l ∧ Blk w' w.heap.size zrec 27 ∧ Below w.heap.size w w') ∧ At 16 (fun w' => w'.heap.size = N) (fun w' => Blk w' N zrec 27) d w') => (⟨h.1, At.keep hi id id h.2⟩ : (Bts w' (some ⟨b, o, none⟩) len cap l ∧ Blk w' w.heap.size zrec 27 ∧ Below w.heap.size w w') ∧ At 16 (fun w' => w'.heap.size = N) (fun w' => Blk w' N zrec 27) (d.setIfInBounds i true) w'))
  refine InvL.wp_region_inv_tail (fun d w' => (Bts w' (some ⟨b, o, none⟩) len cap l ∧ Blk w' w.heap.size zrec 27 ∧ Below w.heap.size w w') ∧ At 16 (fun w' => w'.heap.size = N) (fun w' => Blk w' N zrec 27) d w') 17 (by kernel_rfl) (by kernel_rfl) ⟨⟨TT.out, Z.out.drew, L1.out.drew⟩, At.start (by rfl) hN.symm⟩ ?_
  simp only [List.take_succ_cons, List.take_zero, List.drop_succ_cons, List.drop_zero]
  refine invl_value (.slice (some ⟨b, o, none⟩) len cap) rfl (fun d w' h => by go_simp) (fun d w' _ h => KV.out _ d w' (by decide) h) ?_
  simp only [Act.put, List.setIfInBounds_toArray, List.set_cons_zero, List.set_cons_succ]
  refine invl_value (.pointer (some ⟨b, o, none⟩)) rfl (fun d w' h => by go_simp) (fun d w' _ h => KV.out _ d w' (by decide) h) ?_
  simp only [Act.put, List.setIfInBounds_toArray, List.set_cons_zero, List.set_cons_succ]
  refine invl_value (.int .u8 (x0.toNat : Int)) rfl (fun d w' h => by have c0 := C0.out w' h.1.1; go_simp) (fun d w' _ h => KV.out _ d w' (by decide) h) ?_
  simp only [Act.put, List.setIfInBounds_toArray, List.set_cons_zero, List.set_cons_succ]
  refine invl_value (.int .i64 (x0.toNat : Int)) rfl (fun d w' h => by go_simp) (fun d w' _ h => KV.out _ d w' (by decide) h) ?_
  simp only [Act.put, List.setIfInBounds_toArray, List.set_cons_zero, List.set_cons_succ]
  refine invl_value (.slice (some ⟨b, o, none⟩) len cap) rfl (fun d w' h => by go_simp) (fun d w' _ h => KV.out _ d w' (by decide) h) ?_
  simp only [Act.put, List.setIfInBounds_toArray, List.set_cons_zero, List.set_cons_succ]
  refine invl_value (.slice (some ⟨b, o + 1, none⟩) 8 (cap - 1)) rfl (fun d w' h => by go_simp) (fun d w' _ h => KV.out _ d w' (by decide) h) ?_
  simp only [Act.put, List.setIfInBounds_toArray, List.set_cons_zero, List.set_cons_succ]
  refine invl_call (.int .u64 (verOf l : Int)) rfl 56 #[.slice (some ⟨b, o + 1, none⟩) 8 (cap - 1)] (fun d w' _ => by go_simp) (fun d w' _ h => (read_any _ _ _ ((l.drop 1).take 8) (by decide) w' (T1.out w' h.1.1)).mono fun e w'' ⟨he, hw⟩ => ⟨he, hw ▸ KV.out _ d w' (by decide) h⟩) ?_
  simp only [Act.put, List.setIfInBounds_toArray, List.set_cons_zero, List.set_cons_succ]
  refine invl_value (.slice (some ⟨b, o, none⟩) len cap) rfl (fun d w' h => by go_simp) (fun d w' _ h => KV.out _ d w' (by decide) h) ?_
  simp only [Act.put, List.setIfInBounds_toArray, List.set_cons_zero, List.set_cons_succ]
  refine invl_value (.slice (some ⟨b, o + 9, none⟩) 8 (cap - 9)) rfl (fun d w' h => by go_simp) (fun d w' _ h => KV.out _ d w' (by decide) h) ?_
  simp only [Act.put, List.setIfInBounds_toArray, List.set_cons_zero, List.set_cons_succ]
  refine invl_call (.int .u64 (val ((l.drop 9).take 8) : Nat)) rfl 56 #[.slice (some ⟨b, o + 9, none⟩) 8 (cap - 9)] (fun d w' _ => by go_simp) (fun d w' _ h => (read_any _ _ _ ((l.drop 9).take 8) (by decide) w' (T9.out w' h.1.1)).mono fun e w'' ⟨he, hw⟩ => ⟨he, hw ▸ KV.out _ d w' (by decide) h⟩) ?_
  simp only [Act.put, List.setIfInBounds_toArray, List.set_cons_zero, List.set_cons_succ]
  refine invl_value (.int .i64 (lbaOf l)) rfl (fun d w' h => by go_simp; all_goals rfl) (fun d w' _ h => KV.out _ d w' (by decide) h) ?_
  simp only [Act.put, List.setIfInBounds_toArray, List.set_cons_zero, List.set_cons_succ]
  refine invl_value (.slice (some ⟨b, o, none⟩) len cap) rfl (fun d w' h => by go_simp) (fun d w' _ h => KV.out _ d w' (by decide) h) ?_
  simp only [Act.put, List.setIfInBounds_toArray, List.set_cons_zero, List.set_cons_succ]
  refine invl_value (.slice (some ⟨b, o + 17, none⟩) 16 (cap - 17)) rfl (fun d w' h => by go_simp) (fun d w' _ h => KV.out _ d w' (by decide) h) ?_
  simp only [Act.put, List.setIfInBounds_toArray, List.set_cons_zero, List.set_cons_succ]
  refine invl_value (.pointer (some ⟨b, o + 17, none⟩)) rfl (fun d w' h => by exact exec_array_at rfl rfl Try.underlying25 (Nat.le_refl _)) (fun d w' _ h => KV.out _ d w' (by decide) h) ?_
  simp only [Act.put, List.setIfInBounds_toArray, List.set_cons_zero, List.set_cons_succ]
  refine invl_value (.agg (bv (dataOf l)).toArray) rfl (fun d w' h => by exact exec_load_from (m := 16) rfl rfl (TD.out w' h.1.1) Try.underlying25 rfl (by kernel_rfl) (by rw [bv_len]; exact hd16)) (fun d w' _ h => KV.out _ d w' (by decide) h) ?_
  simp only [Act.put, List.setIfInBounds_toArray, List.set_cons_zero, List.set_cons_succ]
  refine invl_value (.agg rc.toArray) rfl (fun d w' h => by exact exec_build (vs := [(0, .int .i64 (x0.toNat : Int)), (1, .int .u64 (verOf l : Int)), (2, .int .i64 (lbaOf l)), (3, .agg (bv (dataOf l)).toArray)]) rfl rfl BR.out) (fun d w' _ h => KV.out _ d w' (by decide) h) ?_
  simp only [Act.put, List.setIfInBounds_toArray, List.set_cons_zero, List.set_cons_succ]
  refine invl_world (.pointer (some ⟨N, 0, none⟩)) rfl (fun d w' hd h => ⟨w'.alloc (.cells #[.int .i64 0, .int .u64 0, .int .i64 0, .int .u8 0, .int .u8 0, .int .u8 0, .int .u8 0, .int .u8 0, .int .u8 0, .int .u8 0, .int .u8 0, .int .u8 0, .int .u8 0, .int .u8 0, .int .u8 0, .int .u8 0, .int .u8 0, .int .u8 0, .int .u8 0] 27), by have hh := h.2.before hd; go_simp, ⟨bts_alloc h.1.1 _, h.1.2.1.alloc _, h.1.2.2.alloc h.1.2.2.size _⟩, At.now hd (blk_at (h.2.before hd) rfl)⟩) ?_
  simp only [Act.put, List.setIfInBounds_toArray, List.set_cons_zero, List.set_cons_succ]
  refine invl_nil fun w2 hI => ?_
  obtain ⟨⟨bt, bz, bl⟩, hn⟩ := hI
  have hn := hn.done (by rfl)
  have hN2 := hn.lt
  refine wpList_store_blk rfl 27 _ _ rfl N 0 19 rfl 27 zrec rc rfl hn (by kernel_rfl) hr19 (by decide) hr1 ?_
  intro w3 n3 g3
  rw [put_all _ _ (by rw [hr19]; rfl)] at n3
  have T3 := Lib.hid (bts_under bt (below_grown (Below.refl w.heap.size w2) g3 (by omega) (by have := bl.size; omega)) hb)
  have Z3 := Lib.hid (bz.grown g3 (by omega))
  have R3 := Lib.hid n3
  have L3 := Lib.hid (below_grown bl g3 (by omega) (by omega))
  have hs3 := n3.lt
  have hs3' := L3.out.size
  have hz3 := bz.lt
  have hwN : w.heap.size < w3.heap.size := by omega
  clear bt bz bl hn g3 n3 Z L1 TT KV T1 T9 TD BR C0 hN hN1 hN2
  by_cases hok : Ok (kindOf l) (lbaOf l)
  · obtain ⟨an, han⟩ : ∃ an : Nat, lbaOf l = an := ⟨(lbaOf l).toNat, by have := hok.2.1; omega⟩
    have P := Lib.hid (fun w' => pack_yes (k := kindOf l) (v := verOf l) (a := an) (l := dataOf l) hd16 (verOf_lt l) (han ▸ hok) w'.heap.size w' (Nat.le_refl _))
    have h33 := take33 (l := l) (by omega) han
    rw [← h33, ← han, hk, ← RC.out] at P
    go_wp2_with (first | (refine wpList_load_blk rfl 27 _ rfl N 0 19 rfl 27 rc _ R3.out Try.underlying27 rfl (by kernel_rfl) (by rw [hr19]; omega) rc (by rw [List.drop_zero, List.take_of_length_le (by rw [hr19]; omega)]) ?_))
    refine (P.out _).mono ?_
    rintro e w4 ⟨p, rfl, ho, hb4⟩
    obtain ⟨pa, pcap, rfl, hbt⟩ := OwnB.bts_own (by simp [be_len]; omega) ho
    have T4 := bts_under T3.out hb4 (by omega)
    have Z4 := Lib.hid (Z3.out.below hb4 (by omega))
    have R4 := Lib.hid (R3.out.below hb4 hs3)
    have L4 := Lib.hid (L3.out.trans (hb4.mono hs3'))
    have E := Lib.hid (Same.equal_any pa 37 pcap _ (some ⟨b, o, none⟩) 37 cap (l.take 37) w4 hbt (T4.take hs))
    have hs4 := R4.out.lt
    have hs4' := L4.out.size
    clear ho hbt T4 T3 Z3 R3 L3 hb4 P
    have hc37 : (37 : Int) ≤ cap := by omega
    by_cases heq : (l.drop 33).take 4 = be 4 (Crc.crc (l.take 33))
    · have hrec : IsRec l := ⟨by omega, hok, heq⟩
      rw [decide_eq_true (by rw [take37 (by omega), heq])] at E
      go_wp2_with fail
      refine E.out.mono ?_
      rintro e w5 ⟨rfl, rfl⟩
      go_wp2_with (first | (refine wpList_load_blk rfl 27 _ rfl N 0 19 rfl 27 rc _ R4.out Try.underlying27 rfl (by kernel_rfl) (by rw [hr19]; omega) rc (by rw [List.drop_zero, List.take_of_length_le (by rw [hr19]; omega)]) ?_) | (refine wpList_store_blk rfl 27 _ _ rfl w.heap.size 0 19 rfl 27 zrec rc rfl Z4.out (by kernel_rfl) hr19 (by decide) hr1 ?_; intro w6 z6 g6; rw [put_all _ _ (by rw [hr19]; rfl)] at z6; have Z6 := Lib.hid z6; have L6 := Lib.hid (below_grown L4.out g6 (by omega) (Nat.le_refl _)); clear z6 g6))
      exact bodyPost_ret (v := .tuple #[.agg rc.toArray, .int .i64 0]) (results_cell_two rfl _ _ w.heap.size 27 _ (0, 0) _ _ rfl rfl Z6.out Try.underlying27 rfl (by rw [List.size_toArray, hr19]; kernel_rfl)) rfl ⟨by rw [(out_yes hrec).1, (out_yes hrec).2, RC.out, hk], L6.out⟩
    · have hrec : ¬ IsRec l := fun h => heq h.2.2
      rw [decide_eq_false (by rw [take37 (by omega)]; intro e; exact heq (List.append_cancel_left e).symm)] at E
      go_wp2_with fail
      refine E.out.mono ?_
      rintro e w5 ⟨rfl, rfl⟩
      go_wp2_with (first | (refine wpList_store_blk rfl 27 _ _ rfl w.heap.size 0 19 rfl 27 zrec zrec rfl Z4.out (by kernel_rfl) rfl (by decide) (recV_one _ _ _ _) ?_; intro w6 z6 g6; have Z6 := Lib.hid (show Blk w6 w.heap.size zrec 27 from z6); have L6 := Lib.hid (below_grown L4.out g6 (by omega) (Nat.le_refl _)); clear z6 g6))
      exact bodyPost_ret (v := .tuple #[.agg zrec.toArray, .int .i64 7]) (results_cell_two rfl _ _ w.heap.size 27 _ (0, 0) _ _ rfl rfl Z6.out Try.underlying27 rfl (by kernel_rfl)) rfl ⟨by rw [(out_no (by omega) hrec).1, (out_no (by omega) hrec).2], L6.out⟩
  · have hrec : ¬ IsRec l := fun h => hok h.2.1
    have P := Lib.hid (fun w' => pack_no (k := kindOf l) (v := verOf l) (a := lbaOf l) (l := dataOf l) hd16 hok w')
    rw [hk, ← RC.out] at P
    go_wp2_with (first | (refine wpList_load_blk rfl 27 _ rfl N 0 19 rfl 27 rc _ R3.out Try.underlying27 rfl (by kernel_rfl) (by rw [hr19]; omega) rc (by rw [List.drop_zero, List.take_of_length_le (by rw [hr19]; omega)]) ?_))
    refine (P.out _).mono ?_
    rintro e w4 ⟨rfl, hb4⟩
    have Z4 := Lib.hid (Z3.out.below hb4 (by omega))
    have L4 := Lib.hid (L3.out.trans (hb4.mono hs3'))
    have hs4 := Z4.out.lt
    clear T3 Z3 R3 L3 hb4 P
    go_wp2_with (first | (refine wpList_store_blk rfl 27 _ _ rfl w.heap.size 0 19 rfl 27 zrec zrec rfl Z4.out (by kernel_rfl) rfl (by decide) (recV_one _ _ _ _) ?_; intro w6 z6 g6; have Z6 := Lib.hid (show Blk w6 w.heap.size zrec 27 from z6); have L6 := Lib.hid (below_grown L4.out g6 (by omega) (Nat.le_refl _)); clear z6 g6))
    exact bodyPost_ret (v := .tuple #[.agg zrec.toArray, .int .i64 7]) (results_cell_two rfl _ _ w.heap.size 27 _ (0, 0) _ _ rfl rfl Z6.out Try.underlying27 rfl (by kernel_rfl)) rfl ⟨by rw [(out_no (by omega) hrec).1, (out_no (by omega) hrec).2], L6.out⟩
theorem unpack_any (a : Option Addr) (len cap : Nat) (l : List UInt8) (w : World) (h : Bts w a len cap l) :
    Calls Try.prog 49 #[.slice a len cap] w fun e w' => e = .returned (.tuple #[.agg (recOut l).toArray, .int .i64 (recErr l)]) ∧ Below w.heap.size w w' := by
  by_cases hs : len < 37
  · rw [(out_short (h.1 ▸ hs)).1, (out_short (h.1 ▸ hs)).2]
    exact unpack_short a len cap l w h hs
  · exact unpack_long a len cap l w h (by omega)
end Go.Proofs.Ytobblbplanimgaa.Codec
