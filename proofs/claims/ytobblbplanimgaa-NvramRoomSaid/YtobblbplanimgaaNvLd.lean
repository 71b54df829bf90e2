/-
  Load of a memory by contract. Helper text; no statement is proved here.
-/
import Derived.Test.YtobblbplanimgaaNvK
set_option linter.unusedVariables false
set_option maxRecDepth 20000
set_option linter.unusedSimpArgs false
namespace Go.Proofs.Ytobblbplanimgaa.Nvram
open Go.RowKit Go.Proofs.Ytobblbplanimgaa.Base Go.Proofs.Ytobblbplanimgaa.Laws Go.Proofs.Ytobblbplanimgaa.Disk Go.Proofs.Ytobblbplanimgaa.Row Go.Proofs.Ytobblbplanimgaa.Codec Go.Proofs.Ytobblbplanimgaa.InvL Go.Proofs.Ytobblbplanimgaa.InvM
/-- what Load leaves: its answer, the power, the bytes -/
def loadR (p : Pow) (size : Nat) (B : List UInt8) (rs : List Rc) : Nat × Pow × List UInt8 := open Classical in
  if ∃ r ∈ rs, ¬ r.Good then (2, p, B) else if p.off then (4, p, B) else if size / 37 < rs.length then (9, p, B) else if p.step.1 then (0, p.step.2, laidAll rs) else (4, p.step.2, B)
theorem load_two {p : Pow} {size : Nat} {B : List UInt8} {rs : List Rc} (h : ∃ r ∈ rs, ¬ r.Good) : loadR p size B rs = (2, p, B) := by unfold loadR; rw [if_pos h]
theorem load_four {p : Pow} {size : Nat} {B : List UInt8} {rs : List Rc} (h : ¬ ∃ r ∈ rs, ¬ r.Good) (ho : p.off = true) : loadR p size B rs = (4, p, B) := by unfold loadR; rw [if_neg h, if_pos ho]
theorem load_nine {p : Pow} {size : Nat} {B : List UInt8} {rs : List Rc} (h : ¬ ∃ r ∈ rs, ¬ r.Good) (ho : p.off = false) (hf : size / 37 < rs.length) : loadR p size B rs = (9, p, B) := by unfold loadR; rw [if_neg h, if_neg (by rw [ho]; decide), if_pos hf]
theorem load_ok {p : Pow} {size : Nat} {B : List UInt8} {rs : List Rc} (h : ¬ ∃ r ∈ rs, ¬ r.Good) (ho : p.off = false) (hf : ¬ size / 37 < rs.length) (hs : p.step.1 = true) : loadR p size B rs = (0, p.step.2, laidAll rs) := by unfold loadR; rw [if_neg h, if_neg (by rw [ho]; decide), if_neg hf, if_pos hs]
theorem load_torn {p : Pow} {size : Nat} {B : List UInt8} {rs : List Rc} (h : ¬ ∃ r ∈ rs, ¬ r.Good) (ho : p.off = false) (hf : ¬ size / 37 < rs.length) (hs : p.step.1 = false) : loadR p size B rs = (4, p.step.2, B) := by unfold loadR; rw [if_neg h, if_neg (by rw [ho]; decide), if_neg hf, if_neg (by rw [hs]; decide)]
section
variable {w w' : World} {br bm size : Nat} {v : Value} {B : List UInt8} {p : Pow}
theorem zrblk (w : World) : Blk (w.alloc (.cells #[.int .i64 0, .int .u64 0, .int .i64 0, .int .u8 0, .int .u8 0, .int .u8 0, .int .u8 0, .int .u8 0, .int .u8 0, .int .u8 0, .int .u8 0, .int .u8 0, .int .u8 0, .int .u8 0, .int .u8 0, .int .u8 0, .int .u8 0, .int .u8 0, .int .u8 0] 27)) w.heap.size zrec 27 := blk_at rfl rfl
/-- a new variable that a record is stored in -/
theorem store_rec {ops : Array Oper} {rest : List Oper} {o : Oper} {a : Act} {Q : Exit → Act → World → Prop} (hgd : o.guard = none) (x y : Operand) (ho : o.op = .store 27 x y) (c : Rc) (hc : c.Valid)
    (hx : a.eval x = .pointer (some ⟨w.heap.size, 0, none⟩)) (hy : a.eval y = .agg c.cells.toArray)
    (h : ∀ w', Blk w' w.heap.size c.cells 27 → Below w.heap.size w w' → wpList Try.prog ops Q rest (a.put o.dst undef) w') : wpList Try.prog ops Q (o :: rest) a (w.alloc (.cells #[.int .i64 0, .int .u64 0, .int .i64 0, .int .u8 0, .int .u8 0, .int .u8 0, .int .u8 0, .int .u8 0, .int .u8 0, .int .u8 0, .int .u8 0, .int .u8 0, .int .u8 0, .int .u8 0, .int .u8 0, .int .u8 0, .int .u8 0, .int .u8 0, .int .u8 0] 27)) := by
  refine wpList_store_blk hgd 27 x y ho w.heap.size 0 19 hx 27 zrec c.cells hy (zrblk w) (by kernel_rfl) (Rc.len hc) (by decide) (Rc.one c) ?_
  intro w2 z2 g2
  rw [put_all _ c.cells (by rw [Rc.len hc]; rfl)] at z2
  exact h w2 z2 (below_grown ((Below.refl w.heap.size w).alloc (Nat.le_refl _) _) g2 (by simp only [size_alloc]; omega) (Nat.le_refl _))
theorem pack_good {x : Rc} (hx : x.Valid) (hg : x.Good) (w : World) : Calls Try.prog 34 #[.agg x.cells.toArray] w fun e w' => ∃ pa pc, e = .returned (.tuple #[.slice pa 37 pc, .int .i64 0]) ∧ Bts w' pa 37 pc x.bytes ∧ Below w.heap.size w w' := by
  obtain ⟨hg2, hcells⟩ := good_nat hg
  have := pack_yes (k := x.k) (v := x.v) (a := x.a.toNat) hx.1 hx.2.1 hg2 w.heap.size w (Nat.le_refl _)
  rw [← hcells] at this
  refine this.mono fun e w' ⟨pv, h1, h2, h3⟩ => ?_
  obtain ⟨pa, pc, rfl, hb⟩ := OwnB.bts_own (by rw [List.length_append, rec33_len _ _ _ _ hx.1, be_len]) h2
  exact ⟨pa, pc, h1, hb, h3⟩
theorem pack_bad {x : Rc} (hx : x.Valid) (hg : ¬ x.Good) (w : World) : Calls Try.prog 34 #[.agg x.cells.toArray] w fun e w' => e = .returned (.tuple #[.slice none 0 0, .int .i64 2]) ∧ Below w.heap.size w w' := pack_no (v := x.v) hx.1 hg w
set_option maxHeartbeats 4000000 in
theorem load_any (h : RamAt w br bm size v B) (hp : PowAt w bm p) (hpo : p.Ok) (a : Option Addr) (n cap : Nat) (rs : List Rc) (hr : Recs w a n cap rs) : Calls Try.prog 21 #[.pointer (some ⟨br, 0, none⟩), .slice a n cap] w (After w br bm size v (loadR p size B rs)) := by
  have hn := hr.1
  have hm := hr.2.1
  have hm2 := hr.2.2.1
  unfold maxLen at hm2
  have H := Lib.hid h
  have P := Lib.hid hp
  have R := Lib.hid hr
  have HV := Lib.hid hr.2.2.2.1
  have HN := Lib.hid hn
  have hbr := h.head.lt
  have hsz := h.hi
  have hsl := h.lo
  have hbm := h.lt
  have HPO := Lib.hid hpo
  clear h hp hr hn hpo
  obtain ⟨M, hM⟩ : ∃ M, M = size / 37 + 1 := ⟨_, rfl⟩
  have hM1 : 37 * (M - 1) ≤ size ∧ size < 37 * M ∧ 1 ≤ M ∧ M ≤ 1800 := by omega
  obtain ⟨hM2, hM3, hM4, hM5⟩ := hM1
  have HM := Lib.hid hM
  clear hM
  go_enter Try.func21, Try.ntmps21
  go_wp2_with fail
  go_loopw [5, 14] (fun av j wr => ∃ k c : Nat, k ≤ n ∧ j = .int .i64 k ∧ c = min k M ∧ wr.ownsRow w.heap.size 5 1 av (37 * c) (bv (laidAll (rs.take c))) ∧ (∀ i x, i < k → rs[i]? = some x → x.Good) ∧ Below w.heap.size w wr) (fun _ j _ => n - (intOf j).toNat)
  case atStart => exact ⟨0, 0, Nat.zero_le _, rfl, by omega, ⟨rfl, .inl ⟨rfl, rfl⟩⟩, fun i x hi => by omega, Below.refl _ _⟩
  case round =>
    obtain ⟨k, c, hk, rfl, hc, ho, hgood, hb⟩ := hrel
    obtain ⟨wo, rfl⟩ : ∃ wo : World, wo = wr := ⟨_, rfl⟩
    have HB := Lib.hid hb
    have HO := Lib.hid ho
    have HG := Lib.hid hgood
    have hso := hb.size
    have HC := Lib.hid hc
    have hck : c ≤ k := by omega
    have hcM : c ≤ M := by omega
    obtain ⟨aa, acap, rfl, _, _, _⟩ := own_slice ho (by decide)
    have HR := Lib.hid (H.out.below hb)
    have HP := Lib.hid (P.out.only (Only.of_below (S := []) hb) (by simp))
    clear ho hb hgood hc
    by_cases hkn : k < n
    · obtain ⟨x, hx⟩ : ∃ x, rs[k]? = some x := ⟨_, List.getElem?_eq_getElem (by rw [HN.out]; exact hkn)⟩
      have hxv := HV.out x (List.mem_of_getElem? hx)
      obtain ⟨ab, ao, rfl, hcl⟩ := (R.out.2.2.2.2).resolve_left (by omega)
      have HAT := Lib.hid (show ∀ j v, x.cells[j]? = some v → wo.cell? ((⟨ab, ao + k * 19, none⟩ : Addr).add j) = some v from rec_at HV.out (fun j u hu => (HB.out.cell (p := ⟨ab, ao + j, none⟩) (block_lt_of_cell (hcl j u hu))).trans (hcl j u hu)) hx)
      have x19 := Lib.hid (Rc.len hxv)
      have HXV := Lib.hid hxv
      have HX := Lib.hid hx
      have k0 : (0 : Int) ≤ (k : Int) := by omega
      have k1 : (k : Int) < (n : Int) := by omega
      clear hcl hx hxv
      by_cases hg : x.Good
      · go_wp2_with (first | (refine wpList_value_g rfl (.agg x.cells.toArray) (exec_load_from rfl rfl (HAT.out) Try.underlying27 rfl (by kernel_rfl) x19.out) ?_) | (refine store_rec rfl _ _ rfl x HXV.out rfl rfl ?_; intro w1 z1 b1; have Z1 := Lib.hid z1; have B1 := Lib.hid b1; have hs1 := b1.size; clear z1 b1) | (refine wpList_load_blk rfl 27 _ rfl wo.heap.size 0 19 rfl 27 x.cells _ Z1.out Try.underlying27 rfl (by kernel_rfl) (by rw [x19.out]; omega) x.cells (by rw [List.drop_zero, List.take_of_length_le (by rw [x19.out]; omega)]) ?_))
        refine (pack_good HXV.out hg w1).mono ?_
        rintro e w2 ⟨pa, pc, rfl, hbt, b2⟩
        have BT := Lib.hid hbt
        have B2 := Lib.hid ((HB.out.trans (B1.out.mono hso)).trans (b2.mono (by omega)))
        have O2 := Lib.hid (own_only HO.out (Only.of_below (S := []) (B1.out.trans (b2.mono hs1))) (by simp))
        have hs2 := b2.size
        have c1 := (H.out.below B2.out).c1
        clear hbt b2 HO HB HR HP Z1 B1 HAT
        by_cases hkM : k < M
        · have hck2 : c = k := by have := HC.out; omega
          have f1 : decide ((37 : Int) * (c : Int) ≤ (size : Int)) = true := by simp; omega
          have f2 : decide (37 * c ≤ size) = true := by simp; omega
          have f3 : 37 * c ≤ size := by omega
          obtain ⟨av', w3, hr3, ho3, hg3, hv3⟩ := run_append_any_at (P := Try.prog) w2 w.heap.size 46 46 5 (.int .u8 0) 1 1 Try.underlying46 OwnB.infou8 rfl (by decide) _ (37 * c) _ O2.out pa 37 pc (bv x.bytes) (OwnB.src_bts BT.out) (by omega) (by unfold maxLen; omega) (by omega)
          have O3 := Lib.hid (show w3.ownsRow w.heap.size 5 1 av' (37 * (c + 1)) (bv (laidAll (rs.take (c + 1)))) from by
            have e : rs.take (c + 1) = rs.take c ++ [x] := take_snoc rs c x (by rw [hck2]; exact HX.out)
            rw [e, laid_one, bv_append, Nat.mul_succ]
            exact ho3)
          have B3 := Lib.hid (B2.out.trans ((only_list hg3).below (by omega) (fun y hy => by simp at hy; exact (own_lt O2.out hy).1)))
          have R3 := Lib.hid hr3
          have HCK := Lib.hid hck2
          clear hr3 ho3 hg3 hv3 O2 B2 hck2
          go_wp2_with (first | (refine wpList_world_gg rfl _ (exec_append _ _ rfl rfl rfl R3.out) ?_))
          go_roundw
          case rel => exact ⟨k + 1, c + 1, by omega, by go_num, by have := HCK.out; omega, O3.out, fun i y hi hy => by
              by_cases hik : i < k
              · exact HG.out i y hik hy
              · obtain rfl : i = k := by omega
                rw [HX.out] at hy; cases hy; exact hg, B3.out⟩
          case measure => simp [intOf]; omega
        · have f1 : decide ((37 : Int) * (c : Int) ≤ (size : Int)) = false := by have := HC.out; simp; omega
          have f2 : decide (37 * c ≤ size) = false := by have := HC.out; simp; omega
          have f3 : ¬ 37 * c ≤ size := by have := HC.out; omega
          go_wp2_with fail
          go_roundw
          case rel => exact ⟨k + 1, c, by omega, by go_num, by have := HC.out; omega, O2.out, fun i y hi hy => by
              by_cases hik : i < k
              · exact HG.out i y hik hy
              · obtain rfl : i = k := by omega
                rw [HX.out] at hy; cases hy; exact hg, B2.out⟩
          case measure => simp [intOf]; omega
      · have HRES := Lib.hid (load_two (p := p) (size := size) (B := B) ⟨x, List.mem_of_getElem? HX.out, hg⟩)
        go_wp2_with (first | (refine wpList_value_g rfl (.agg x.cells.toArray) (exec_load_from rfl rfl (HAT.out) Try.underlying27 rfl (by kernel_rfl) x19.out) ?_) | (refine store_rec rfl _ _ rfl x HXV.out rfl rfl ?_; intro w1 z1 b1; have Z1 := Lib.hid z1; have B1 := Lib.hid b1; have hs1 := b1.size; clear z1 b1) | (refine wpList_load_blk rfl 27 _ rfl wo.heap.size 0 19 rfl 27 x.cells _ Z1.out Try.underlying27 rfl (by kernel_rfl) (by rw [x19.out]; omega) x.cells (by rw [List.drop_zero, List.take_of_length_le (by rw [x19.out]; omega)]) ?_))
        refine (pack_bad HXV.out hg w1).mono ?_
        rintro e w2 ⟨rfl, b2⟩
        have B2 := Lib.hid ((HB.out.trans (B1.out.mono hso)).trans (b2.mono (by omega)))
        clear b2
        go_wp2_with fail
        go_ret
        rw [HRES.out]
        exact ⟨rfl, v, H.out.below B2.out, P.out.only (Only.of_below (S := []) B2.out) (by simp), fun g hg => .inl hg, Only.of_below B2.out⟩
    · obtain rfl : k = n := by omega
      have hall : ¬ ∃ r ∈ rs, ¬ r.Good := fun ⟨r, hr, hng⟩ => by
        obtain ⟨i, hi⟩ := List.mem_iff_getElem?.1 hr
        exact hng (HG.out i r (by rw [← HN.out]; exact (List.getElem?_eq_some_iff.1 hi).1) hi)
      have HALL := Lib.hid hall
      have c0 := HR.out.c0
      have c1 := HR.out.c1
      have c2 := HR.out.c2
      have fr2 := HR.out.head.frozen 2
      clear hall
      cases hoff : p.off with
      | true =>
        have HRES := Lib.hid (load_four (size := size) (B := B) HALL.out hoff)
        have ON := Lib.hid (on_at HP.out false (by rw [hoff]; rfl))
        clear hoff
        go_wp2_with (first | (go_at_call 14; refine ON.out.mono ?_; rintro e w' ⟨rfl, rfl⟩))
        go_ret
        rw [HRES.out]
        exact ⟨rfl, v, HR.out, HP.out, fun g hg => .inl hg, Only.of_below HB.out⟩
      | false =>
        have ON := Lib.hid (on_at HP.out true (by rw [hoff]; rfl))
        by_cases hfull : size / 37 < rs.length
        · have HRES := Lib.hid (load_nine (B := B) HALL.out hoff hfull)
          have f1 : decide ((size : Int) < (37 : Int) * (c : Int)) = true := by have := HC.out; have := HM.out; have := HN.out; simp; omega
          have f2 : decide (size < 37 * c) = true := by have := HC.out; have := HM.out; have := HN.out; simp; omega
          have f3 : size < 37 * c := by have := HC.out; have := HM.out; have := HN.out; omega
          clear hoff hfull
          go_wp2_with (first | (go_at_call 14; refine ON.out.mono ?_; rintro e w' ⟨rfl, rfl⟩))
          go_ret
          rw [HRES.out]
          exact ⟨rfl, v, HR.out, HP.out, fun g hg => .inl hg, Only.of_below HB.out⟩
        · have f1 : decide ((size : Int) < (37 : Int) * (c : Int)) = false := by have := HC.out; have := HM.out; have := HN.out; simp; omega
          have f2 : decide (size < 37 * c) = false := by have := HC.out; have := HM.out; have := HN.out; simp; omega
          have f3 : ¬ size < 37 * c := by have := HC.out; have := HM.out; have := HN.out; omega
          have SP := Lib.hid (step_any bm p wo HP.out HPO.out)
          rcases hst : p.step.1 with _ | _
          · have HRES := Lib.hid (load_torn (B := B) HALL.out hoff hfull hst)
            rw [hst] at SP
            clear hoff hfull hst
            go_wp2_with (first | (go_at_call 14; refine ON.out.mono ?_; rintro e w' ⟨rfl, rfl⟩))
            refine SP.out.mono ?_
            rintro e w3 ⟨rfl, p3, o3⟩
            have P3 := Lib.hid p3
            have R3 := Lib.hid (HR.out.only o3 (by simp; omega) (fun g hg => by have := (own_lt HR.out.own hg).1; simp; omega))
            have O3 := Lib.hid ((Only.of_below (S := [br, bm, blkOf v br]) HB.out).trans (o3.mono (by simp)))
            clear p3 o3
            go_wp2_with fail
            go_ret
            rw [HRES.out]
            exact ⟨rfl, v, R3.out, P3.out, fun g hg => .inl hg, O3.out⟩
          · have HRES := Lib.hid (load_ok (B := B) HALL.out hoff hfull hst)
            have hcn : c = k ∧ rs.take c = rs := by
              have h1 := HC.out
              have h2 := HM.out
              have h3 := HN.out
              exact ⟨by omega, List.take_of_length_le (by omega)⟩
            have HCN := Lib.hid hcn
            rw [hst] at SP
            clear hoff hfull hst hcn
            go_wp2_with (first | (go_at_call 14; refine ON.out.mono ?_; rintro e w' ⟨rfl, rfl⟩))
            refine SP.out.mono ?_
            rintro e w3 ⟨rfl, p3, o3⟩
            have P3 := Lib.hid p3
            have R3 := Lib.hid (HR.out.only o3 (by simp; omega) (fun g hg => by have := (own_lt HR.out.own hg).1; simp; omega))
            have A3 := own_only HO.out o3 (fun g hg => by have := (own_lt HO.out hg).1; simp; omega)
            have A4 := own_base (b' := br + 1) A3 (fun g hg => by have := (own_lt HO.out hg).1; omega)
            have LL : (laidAll (rs.take c)).length = 37 * c := by
              rw [laidAll_len (fun r hr => HV.out r (List.mem_of_mem_take hr)), List.length_take, HN.out]
              have := HCN.out.1
              omega
            have A5 := R3.out.put (v' := .slice aa (37 * c) acap) (B' := laidAll (rs.take c)) (by rw [LL]; exact A4) (by rw [LL]; omega)
            rw [HCN.out.2] at A5
            have R5 := Lib.hid A5
            have O3 := Lib.hid (((Only.of_below (S := [br, bm, blkOf v br]) HB.out).trans (o3.mono (by simp))).setCell (g := br) (by simp) 2 (.slice aa (37 * c) acap))
            have HOG := Lib.hid (fun g hg => (own_lt HO.out (g := g) hg).1)
            have c2' := R3.out.c2
            have fr3 := R3.out.head.frozen 2
            clear p3 o3 A3 A4 A5 LL c2 fr2 c0 c1
            go_wp2_with fail
            go_ret
            rw [HRES.out]
            exact ⟨rfl, _, R5.out, P3.out.setCell_far (by omega) _ _, fun g hg => .inr (HOG.out g hg), O3.out⟩
end
end Go.Proofs.Ytobblbplanimgaa.Nvram
