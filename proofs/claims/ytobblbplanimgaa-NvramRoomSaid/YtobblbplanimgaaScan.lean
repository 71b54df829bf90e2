/-
  Scan of the codec by contract. Helper text; no statement is proved here.
-/
import Derived.Test.YtobblbplanimgaaSlices
set_option linter.unusedVariables false
set_option maxRecDepth 20000
set_option linter.unusedSimpArgs false
namespace Go.Proofs.Ytobblbplanimgaa.Codec
open Go.RowKit Go.Proofs.Ytobblbplanimgaa.Base Go.Proofs.Ytobblbplanimgaa.Laws Go.Proofs.Ytobblbplanimgaa.InvM
theorem out_not {l : List UInt8} (h : ¬ IsRec l) : recOut l = zrec ∧ ∃ e, recErr l = e ∧ ¬ e = 0 := by
  by_cases h37 : l.length < 37
  · exact ⟨(out_short h37).1, 1, (out_short h37).2, by decide⟩
  · exact ⟨(out_no (by omega) h).1, 7, (out_no (by omega) h).2, by decide⟩
theorem own_below {w w' : World} {base : Nat} {e : TypeId} {size : Nat} {v : Value} {n : Nat} {xs : List Value} (h : w.ownsRow base e size v n xs) (hb : Below w.heap.size w w') : w'.ownsRow base e size v n xs := by
  obtain ⟨h1, h2⟩ := h
  refine ⟨h1, ?_⟩
  rcases h2 with h2 | ⟨g, cap, cur, e1, hbg, hg, h3⟩
  · exact .inl h2
  · exact .inr ⟨g, cap, cur, e1, hbg, (hb.block g (Array.getElem?_eq_some_iff.1 hg).1).trans hg, h3⟩
theorem bytes_bound {n : Nat} (h : n * 37 ≤ 1048576) : (n + 1) * 40 ≤ 140737488355328 := by omega
set_option maxRecDepth 4000 in
set_option maxHeartbeats 4000000 in
theorem scan_any (a : Option Addr) (len cap : Nat) (l : List UInt8) (w : World) (h : Bts w a len cap l) (hlen : len ≤ 1048576 * 64) :
    Calls Try.prog 37 #[.slice a len cap] w fun e w' => ∃ v, e = .returned (.tuple #[v, .int .i64 (37 * (scanAll l).length : Nat)]) ∧ w'.ownsRow w.heap.size 27 19 v (scanAll l).length (rv (scanAll l)) ∧ Below w.heap.size w w' := by
  have hl := h.1
  have hlc := h.2.1
  have hm := h.2.2.1
  unfold maxLen at hm
  have HT := Lib.hid h
  have HV := Lib.hid (scanAll_valid l)
  have HN := Lib.hid (scanAll_len l)
  clear h
  go_enter Try.func37, Try.ntmps37
  go_wp2
  go_loopw [4, 5] (fun v i wr => ∃ (k : Nat) (rs : List Rc), rs.length = k ∧ 37 * k ≤ len ∧ i = .int .i64 (37 * k : Nat) ∧ scanAll l = rs ++ scanAll (l.drop (37 * k)) ∧ wr.ownsRow w.heap.size 27 19 v k (rv rs) ∧ Below w.heap.size w wr) (fun _ i _ => len + 1 - (intOf i).toNat)
  case atStart => exact ⟨0, [], rfl, by omega, rfl, rfl, World.ownsRow_nil _ _ _ _, Below.refl _ _⟩
  case round =>
    obtain ⟨k, rs, hrk, hk, rfl, hsc, ho, hb⟩ := hrel
    have HO := Lib.hid ho
    have HB := Lib.hid hb
    have HS := Lib.hid hsc
    have hs0 := hb.size
    have hbt := HT.out.below hb (Nat.le_refl _)
    have hbf := bts_from (i := 37 * k) hbt (by omega)
    have HU := Lib.hid (unpack_any _ _ _ _ wr hbf)
    have SF := Lib.hid (slice_from wr a len cap (37 * k) .i64 (by omega) (by omega))
    clear ho hb hsc hbt hbf
    have hs0' : wr.heap.size = wr.heap.size := rfl
    by_cases hrec : IsRec (l.drop (37 * k))
    · rw [(out_yes hrec).1, (out_yes hrec).2] at HU
      have hs2 := scanAll_yes hrec
      have hrv := recOf_valid hrec
      have h37 := hrec.1
      rw [List.length_drop, hl] at h37
      obtain ⟨r, hr⟩ : ∃ r, r = recOf (l.drop (37 * k)) := ⟨_, rfl⟩
      rw [← hr] at hs2 hrv
      rw [show recV (kindOf (l.drop (37 * k))) (verOf (l.drop (37 * k))) (lbaOf (l.drop (37 * k))) (dataOf (l.drop (37 * k))) = r.cells from by rw [hr]; rfl] at HU
      rw [List.drop_drop, show 37 * k + 37 = 37 * (k + 1) from by omega] at hs2
      have HR := Lib.hid (HS.out.trans (by rw [hs2]) : scanAll l = rs ++ (r :: scanAll (l.drop (37 * (k + 1)))))
      have h19 := Rc.len hrv
      have hr1 := Rc.one r
      have HVr := Lib.hid hrv
      clear hs2 hr hrec hrv HS
      go_wp2_with (first | (refine wpList_value_g rfl (.slice (shifted a (37 * k) cap) (len - 37 * k) (cap - 37 * k)) (exec_slice rfl SF.out) ?_))
      refine HU.out.mono ?_
      rintro e w2 ⟨rfl, hb2⟩
      have L2 := Lib.hid (HB.out.trans (hb2.mono hs0))
      have O2 := Lib.hid (own_below HO.out hb2)
      have hs2 := L2.out.size
      have Z2 := Lib.hid (blk_at (w := w2) (g := w2.heap.size) (cs := zrec) (t := 27) (arr := #[.int .i64 0, .int .u64 0, .int .i64 0, .int .u8 0, .int .u8 0, .int .u8 0, .int .u8 0, .int .u8 0, .int .u8 0, .int .u8 0, .int .u8 0, .int .u8 0, .int .u8 0, .int .u8 0, .int .u8 0, .int .u8 0, .int .u8 0, .int .u8 0, .int .u8 0]) rfl rfl)
      clear hb2 HU SF HB HO
      go_wp2_with (first | (refine wpList_store_blk rfl 27 _ _ rfl w2.heap.size 0 19 rfl 27 zrec r.cells rfl Z2.out (by kernel_rfl) h19 (by decide) hr1 ?_; intro w3 z3 g3; rw [put_all _ _ (by rw [h19]; rfl)] at z3; have L3 := Lib.hid (below_grown (L2.out.alloc hs2 _) g3 (by simp only [size_alloc]; omega) hs2); have Z3 := Lib.hid z3; have O3 := Lib.hid ((O2.out.alloc _).kept g3 (.inr fun e => by have := (O2.out.lt _ e).2; omega)); have hs3 := L3.out.size; clear z3 g3) | (refine wpList_load_g rfl 27 _ rfl w2.heap.size 19 rfl 27 r.cells _ Z3.out Try.underlying27 rfl (by kernel_rfl) h19 ?_) | (refine wpList_world_g rfl (.slice (some ⟨w3.heap.size, 0, none⟩) 1 1) (exec_build_one rfl rfl Try.underlying22 info_rec h19 (by decide) (by decide)) ?_) | (at_builtin; refine wpList_append_any _ rfl _ _ 22 rfl w.heap.size 27 (.agg zrec.toArray) 19 40 Try.underlying22 info_rec rfl (by decide) _ k _ rfl (O3.out.alloc _) _ 1 1 r.cells rfl (src_rec HVr.out (blk_at rfl rfl)) ?c1 ?c2 ?c3 ?_))
      case c1 => omega
      case c2 => unfold maxLen; omega
      case c3 => simp only [size_alloc]; omega
      intro v' w4 ho4 hg4
      have L4 := Lib.hid ((L3.out.alloc hs3 _).grown hg4 (by simp only [size_alloc]; omega) (fun q hq => (O3.out.lt q hq).1))
      have O4 := Lib.hid ho4
      clear ho4 hg4 O2 O3 L2 L3 Z2 Z3
      go_wp2
      go_roundw
      case rel => exact ⟨k + 1, rs ++ [r], by simp [hrk], by omega, by congr 1, by rw [HR.out]; simp, by rw [rv_append, rv_one]; exact O4.out, L4.out⟩
      case measure => simp [intOf]; omega
    · obtain ⟨e1, er, e2, e3⟩ := out_not hrec
      rw [e1, e2] at HU
      have hs2 := scanAll_no hrec
      rw [hs2, List.append_nil] at HS
      clear hs2 hrec e1 e2
      go_wp2_with (first | (refine wpList_value_g rfl (.slice (shifted a (37 * k) cap) (len - 37 * k) (cap - 37 * k)) (exec_slice rfl SF.out) ?_))
      refine HU.out.mono ?_
      rintro e w2 ⟨rfl, hb2⟩
      have L2 := Lib.hid (HB.out.trans (hb2.mono hs0))
      have O2 := Lib.hid (own_below HO.out hb2)
      have hs2 := L2.out.size
      have Z2 := Lib.hid (blk_at (w := w2) (g := w2.heap.size) (cs := zrec) (t := 27) (arr := #[.int .i64 0, .int .u64 0, .int .i64 0, .int .u8 0, .int .u8 0, .int .u8 0, .int .u8 0, .int .u8 0, .int .u8 0, .int .u8 0, .int .u8 0, .int .u8 0, .int .u8 0, .int .u8 0, .int .u8 0, .int .u8 0, .int .u8 0, .int .u8 0, .int .u8 0]) rfl rfl)
      clear hb2 HU SF HB HO
      go_wp2_with (first | (refine wpList_store_blk rfl 27 _ _ rfl w2.heap.size 0 19 rfl 27 zrec zrec rfl Z2.out (by kernel_rfl) rfl (by decide) (recV_one _ _ _ _) ?_; intro w3 z3 g3; have L3 := Lib.hid (below_grown (L2.out.alloc hs2 _) g3 (by simp only [size_alloc]; omega) hs2); have O3 := Lib.hid ((O2.out.alloc _).kept g3 (.inr fun e => by have := (O2.out.lt _ e).2; omega)); clear z3 g3))
      go_ret2
      exact ⟨u4, by rw [HS.out, hrk, Int.natCast_mul]; rfl, by rw [HS.out, hrk]; exact O3.out, L3.out⟩
end Go.Proofs.Ytobblbplanimgaa.Codec
