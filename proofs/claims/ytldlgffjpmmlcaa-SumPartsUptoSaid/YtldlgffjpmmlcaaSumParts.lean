/-
  The walk of SumParts. Helper text; no statement is proved here.
-/
import Derived.Test.YtldlgffjpmmlcaaJoinW
import Derived.Test.YtldlgffjpmmlcaaSum2Pieces
import Derived.Test.YtldlgffjpmmlcaaInv1
import Derived.Deep.QuietTactic
import Derived.BigQuiet
import Derived.Deep.RegionWith
import Derived.StillTailTactics
set_option linter.unusedVariables false
set_option linter.unusedSimpArgs false
namespace Go.Proofs.Ytldlgffjpmmlcaa.Joins
open Go.RowKit Go.Proofs.Ytldlgffjpmmlcaa.Base Go.Proofs.Ytldlgffjpmmlcaa.Laws Go.Proofs.Ytldlgffjpmmlcaa.Sum2
/-- the bytes of three texts, one with the other -/
def mix (a b c : List UInt8) (k : Nat) : List UInt8 := List.zipWith (· ^^^ ·) (List.zipWith (· ^^^ ·) (a.take k) (b.take k)) (c.take k)
theorem mix_snoc {a b c : List UInt8} {k : Nat} {x y z : UInt8} (hx : a[k]? = some x) (hy : b[k]? = some y) (hz : c[k]? = some z) : mix a b c (k + 1) = mix a b c k ++ [x ^^^ y ^^^ z] := by
  unfold mix
  obtain ⟨h1, _⟩ := List.getElem?_eq_some_iff.1 hx
  obtain ⟨h2, _⟩ := List.getElem?_eq_some_iff.1 hy
  obtain ⟨h3, _⟩ := List.getElem?_eq_some_iff.1 hz
  rw [take_snoc a k x hx, take_snoc b k y hy, take_snoc c k z hz, List.zipWith_append (by simp; omega), List.zipWith_append (by simp; omega)]
  rfl
theorem mix_len {a b c : List UInt8} {k : Nat} (h1 : k ≤ a.length) (h2 : k ≤ b.length) (h3 : k ≤ c.length) : (mix a b c k).length = k := by
  unfold mix
  simp
  omega
theorem crc_mix {a b c : List UInt8} {k : Nat} (h1 : k ≤ a.length) (h2 : k ≤ b.length) (h3 : k ≤ c.length) : Crc.crc (mix a b c k) = (Crc.crc (a.take k) ^^^ Crc.crc (b.take k)) ^^^ Crc.crc (c.take k) := by
  have e1 := Crc.reg_zip (a.take k) (b.take k) Crc.ones Crc.ones (by simp; omega)
  have e2 := Crc.reg_zip (List.zipWith (· ^^^ ·) (a.take k) (b.take k)) (c.take k) (Crc.ones ^^^ Crc.ones) Crc.ones (by simp; omega)
  rw [Nat.xor_self, Nat.zero_xor] at e2
  rw [Nat.xor_self] at e1
  unfold Crc.crc Crc.more mix
  rw [Nat.xor_zero, e2, e1]
  have : ∀ x y z o : Nat, o ^^^ (x ^^^ y ^^^ z) = (o ^^^ x) ^^^ (o ^^^ y) ^^^ (o ^^^ z) := fun x y z o => by
    have h : (o ^^^ x) ^^^ (o ^^^ y) ^^^ (o ^^^ z) = (o ^^^ o) ^^^ (o ^^^ (x ^^^ y ^^^ z)) := by ac_rfl
    rw [h, Nat.xor_self, Nat.zero_xor]
  exact this _ _ _ _
theorem xor8 (x y : UInt8) : bits BinOp.xor IntKind.u8 (x.toNat : Int) (y.toNat : Int) = ((x ^^^ y).toNat : Int) := by
  have := u8_xor_nat x.toNat y.toNat x.toNat_lt y.toNat_lt
  rw [this, UInt8.toNat_xor]
set_option maxHeartbeats 2000000 in
theorem parts_walk (a b c : Option Addr) (lena lenb lenc capa capb capc : Nat) (la lb lc : List UInt8) (w : World) (h1 : Bts w a lena capa la) (h2 : Bts w b lenb capb lb) (h3 : Bts w c lenc capc lc) (hs : lena + lenb + lenc ≤ 1048576) :
    Calls Try.prog 8 #[.slice a lena capa, .slice b lenb capb, .slice c lenc capc] w fun e w' => e = .returned (.bool true) ∧ Below w.heap.size w w' := by
  have ea := h1.1
  have eb := h2.1
  have ec := h3.1
  have ca := h1.2.1
  have cb := h2.2.1
  have cc := h3.2.1
  have A0 := Lib.hid h1
  have B0 := Lib.hid h2
  have C0 := Lib.hid h3
  clear h1 h2 h3
  have ra := Crc.crc_lt la
  have rb := Crc.crc_lt lb
  have MO := Lib.hid (show Crc.more (Crc.crc la) lb = Crc.crc (la ++ lb) from (Crc.more_append 0 la lb).symm)
  have JO := Lib.hid (show Crc.join (Crc.crc la) (Crc.crc lb) lenb = Crc.crc (la ++ lb) from eb ▸ Crc.crc_join la lb)
  go_enter Try.func8, Try.ntmps8
  go_wp2_with fail
  refine (awake_any _).mono ?_
  rintro e w1 ⟨rfl, hb1⟩
  have HB1 := Lib.hid hb1
  have HO := Lib.hid (World.ownsRow_made (e := 5) (size := 1) (base := w.heap.size) w1 #[] 0 hb1.size (Nat.zero_le _) rfl)
  have A1 := Lib.hid (src_bts (A0.out.below (hb1.alloc (o := .cells #[] 5) hb1.size) (Nat.le_refl _)))
  have HS1 := hb1.size
  clear hb1
  go_wp2_with (first | (at_builtin; refine wpList_append_any _ rfl _ _ 23 rfl w.heap.size 5 (.int .u8 0) 1 1 Try.underlying23 infou8 rfl (by decide) _ 0 [] rfl HO.out a lena capa (bv la) rfl A1.out ?c1 ?c2 ?c3 ?_))
  case c1 => omega
  case c2 => unfold maxLen; omega
  case c3 => simp only [size_alloc]; omega
  intro v2 w2 hown hgrow
  have hb2 : Below w.heap.size w w2 := (HB1.out.alloc HB1.out.size _).grown hgrow (by simp only [size_alloc]; omega) (fun k hk => (HO.out.lt k hk).1)
  have HB2 := Lib.hid hb2
  have B2 := Lib.hid (src_bts (B0.out.below hb2 (Nat.le_refl _)))
  have HO2 := Lib.hid hown
  have HS2 := hb2.size
  clear hb2 hown hgrow
  go_wp2_with (first | (at_builtin; refine wpList_append_any _ rfl _ _ 23 rfl w.heap.size 5 (.int .u8 0) 1 1 Try.underlying23 infou8 rfl (by decide) _ _ _ rfl HO2.out b lenb capb (bv lb) rfl B2.out ?d1 ?d2 ?d3 ?_))
  case d1 => omega
  case d2 => unfold maxLen; omega
  case d3 => exact HS2
  intro v3 w3 hown hgrow
  have hb3 : Below w.heap.size w w3 := HB2.out.grown hgrow HS2 (fun k hk => (HO2.out.lt k hk).1)
  have hown' : w3.ownsRow w.heap.size 5 1 v3 (lena + lenb) (bv (la ++ lb)) := by
    rw [bv_append]
    simpa using hown
  obtain ⟨a3, cap3, rfl, hbt⟩ := bts_own (by rw [List.length_append]; omega) hown'
  have HB3 := Lib.hid hb3
  have T3 := Lib.hid hbt
  have A3 := Lib.hid (A0.out.below hb3 (Nat.le_refl _))
  have B3 := Lib.hid (B0.out.below hb3 (Nat.le_refl _))
  have C3 := Lib.hid (C0.out.below hb3 (Nat.le_refl _))
  clear hb3 hown hown' hbt hgrow HO2 B2 HO A1
  go_wp2_with fail
  refine (SumW.crc_any _ _ _ _ _ A3.out).mono ?_
  rintro e w' ⟨rfl, rfl⟩
  go_wp2_with fail
  refine (SumW.crc_any _ _ _ _ _ B3.out).mono ?_
  rintro e w' ⟨rfl, rfl⟩
  go_wp2_with fail
  refine (join_any _ _ lenb ra rb (by omega) _).mono ?_
  rintro e w4 ⟨rfl, hb4⟩
  rw [JO.out]
  have HB4 := Lib.hid (HB3.out.trans (hb4.mono HB3.out.size))
  have T4 := Lib.hid (T3.out.below hb4 (Nat.le_refl _))
  have A4 := Lib.hid (A3.out.below hb4 (Nat.le_refl _))
  have B4 := Lib.hid (B3.out.below hb4 (Nat.le_refl _))
  have C4 := Lib.hid (C3.out.below hb4 (Nat.le_refl _))
  clear hb4 T3 A3 B3 C3
  go_wp2_with fail
  refine (SumW.crc_any _ _ _ _ _ T4.out).mono ?_
  rintro e w' ⟨rfl, rfl⟩
  go_wp2_with fail
  refine (SumW.crc_any _ _ _ _ _ A4.out).mono ?_
  rintro e w' ⟨rfl, rfl⟩
  go_wp2_with fail
  refine (SumW.more_any _ ra _ _ _ _ _ B4.out).mono ?_
  rintro e w' ⟨rfl, rfl⟩
  rw [MO.out]
  go_wp2_with fail
  refine (SumW.crc_any _ _ _ _ _ T4.out).mono ?_
  rintro e w' ⟨rfl, rfl⟩
  go_wp2
  simp only [decide_eq_true (show lenb < lena from by omega), decide_eq_true (show lenc < lenb from by omega)]
  obtain ⟨n, hn, n1, n2, n3⟩ : ∃ n, n = lenc ∧ n ≤ la.length ∧ n ≤ lb.length ∧ n ≤ lc.length := ⟨lenc, rfl, by omega, by omega, by omega⟩
  subst hn
  rotate_left
  simp only [decide_eq_true (show lenb < lena from by omega), decide_eq_false (show ¬ lenc < lenb from by omega)]
  obtain ⟨n, hn, n1, n2, n3⟩ : ∃ n, n = lenb ∧ n ≤ la.length ∧ n ≤ lb.length ∧ n ≤ lc.length := ⟨lenb, rfl, by omega, by omega, by omega⟩
  subst hn
  rotate_left
  simp only [decide_eq_false (show ¬ lenb < lena from by omega), decide_eq_true (show lenc < lena from by omega)]
  obtain ⟨n, hn, n1, n2, n3⟩ : ∃ n, n = lenc ∧ n ≤ la.length ∧ n ≤ lb.length ∧ n ≤ lc.length := ⟨lenc, rfl, by omega, by omega, by omega⟩
  subst hn
  rotate_left
  simp only [decide_eq_false (show ¬ lenb < lena from by omega), decide_eq_false (show ¬ lenc < lena from by omega)]
  obtain ⟨n, hn, n1, n2, n3⟩ : ∃ n, n = lena ∧ n ≤ la.length ∧ n ≤ lb.length ∧ n ≤ lc.length := ⟨lena, rfl, by omega, by omega, by omega⟩
  subst hn
  rotate_left
  all_goals
    go_loopw [11, 12] (fun v i wr => ∃ k : Nat, k ≤ n ∧ i = .int .i64 k ∧ wr.ownsRow w.heap.size 5 1 v k (bv (mix la lb lc k)) ∧ Below w.heap.size w wr) (fun _ i _ => n - (intOf i).toNat)
    case atStart =>
      have ho := World.ownsRow_made (e := 5) (size := 1) (base := w.heap.size) w4 #[] 0 HB4.out.size (Nat.zero_le _) rfl
      exact ⟨0, by omega, rfl, ho, HB4.out.alloc HB4.out.size _⟩
    case round =>
      obtain ⟨k, hk, rfl, hown, hb⟩ := hrel
      have HO := Lib.hid hown
      have HB := Lib.hid hb
      clear hown hb
      by_cases hkn : k < n
      · rcases A0.out.2.2.2 with h0 | ⟨ba, oa, rfl, hca⟩
        · omega
        rcases B0.out.2.2.2 with h0 | ⟨bb, ob, rfl, hcb⟩
        · omega
        rcases C0.out.2.2.2 with h0 | ⟨bc, oc, rfl, hcc⟩
        · omega
        obtain ⟨x, hx⟩ : ∃ u, la[k]? = some u := ⟨la[k]'(by omega), List.getElem?_eq_getElem (by omega)⟩
        obtain ⟨y, hy⟩ : ∃ u, lb[k]? = some u := ⟨lb[k]'(by omega), List.getElem?_eq_getElem (by omega)⟩
        obtain ⟨z, hz⟩ : ∃ u, lc[k]? = some u := ⟨lc[k]'(by omega), List.getElem?_eq_getElem (by omega)⟩
        have g1 : wr.cell? ⟨ba, oa + k, none⟩ = some (.int .u8 (x.toNat : Int)) := by rw [HB.out.cell (block_lt_of_cell (hca k x hx))]; exact hca k x hx
        have g2 : wr.cell? ⟨bb, ob + k, none⟩ = some (.int .u8 (y.toNat : Int)) := by rw [HB.out.cell (block_lt_of_cell (hcb k y hy))]; exact hcb k y hy
        have g3 : wr.cell? ⟨bc, oc + k, none⟩ = some (.int .u8 (z.toNat : Int)) := by rw [HB.out.cell (block_lt_of_cell (hcc k z hz))]; exact hcc k z hz
        have MX := Lib.hid (mix_snoc hx hy hz)
        have X1 := xor8 x y
        have X2 := xor8 (x ^^^ y) z
        have ka : k < la.length := by omega
        have kb : k < lb.length := by omega
        have kc : k < lc.length := by omega
        rw [ea] at ka
        rw [eb] at kb
        rw [ec] at kc
        clear hx hy hz hca hcb hcc
        go_wp2
        refine Inv.wp_region_still_one 14 _ (by kernel_rfl) (by kernel_rfl) rfl rfl (fun _ _ _ _ h => h) ?_
        simp only [List.take_succ_cons, List.take_zero, List.drop_succ_cons, List.drop_zero]
        simp only [Act.put, Act.eval, List.setIfInBounds_toArray, List.set_cons_zero, List.set_cons_succ]
        repeat still_step
        refine wpStill_nil ?_
        obtain ⟨wd, hwd⟩ : ∃ wd, wd = wr.drew := ⟨_, rfl⟩
        have HOd := Lib.hid (show wd.ownsRow w.heap.size 5 1 u11 k (bv (mix la lb lc k)) from hwd ▸ HO.out)
        have HBd := Lib.hid (show Below w.heap.size w wd from hwd ▸ HB.out.drew)
        rw [← hwd]
        clear hwd
        go_wp2_with (first | (at_builtin; refine wpList_append_any _ rfl _ _ 23 rfl w.heap.size 5 (.int .u8 0) 1 1 Try.underlying23 infou8 rfl (by decide) _ _ _ rfl (HOd.out.alloc _) _ 1 1 _ rfl (src_one rfl) ?e1 ?e2 ?e3 ?_))
        case e1 => omega
        case e2 => unfold maxLen; omega
        case e3 => simp only [size_alloc]; have := HBd.out.size; omega
        intro v' w5 hown2 hgrow2
        have e5 : bv (mix la lb lc k) ++ [Value.int .u8 (bits BinOp.xor IntKind.u8 ((x.toNat ^^^ y.toNat : Nat) : Int) (z.toNat : Int))] = bv (mix la lb lc (k + 1)) := by rw [MX.out, bv_append, ← UInt8.toNat_xor, xor8]; rfl
        rw [e5] at hown2
        have hs5 := HBd.out.size
        have hb5 : Below w.heap.size w w5 := (HBd.out.alloc hs5 _).grown hgrow2 (by simp only [size_alloc]; omega) (fun k hk => by have := (HOd.out.lt k hk).1; omega)
        have HB5 := Lib.hid hb5
        have HO5 := Lib.hid hown2
        clear hb5 hown2 hgrow2
        go_wp2
        go_roundw
        case rel => exact ⟨k + 1, by omega, by go_num, HO5.out, HB5.out⟩
        case measure => simp [intOf]; omega
      · obtain rfl : k = n := by omega
        obtain ⟨a5, cap5, rfl, hbt⟩ := bts_own (mix_len n1 n2 n3) HO.out
        have q1l := Crc.crc_lt (la.take k)
        have q2l := Crc.crc_lt (lb.take k)
        have q3l := Crc.crc_lt (lc.take k)
        have hmx := crc_mix n1 n2 n3
        obtain ⟨q1, hq1⟩ : ∃ q, q = Crc.crc (la.take k) := ⟨_, rfl⟩
        obtain ⟨q2, hq2⟩ : ∃ q, q = Crc.crc (lb.take k) := ⟨_, rfl⟩
        obtain ⟨q3, hq3⟩ : ∃ q, q = Crc.crc (lc.take k) := ⟨_, rfl⟩
        have K0 := SumW.crc_any _ _ _ _ _ (show Bts wr.drew _ _ _ _ from hbt)
        have K1 := SumW.crc_any _ _ _ _ _ (show Bts wr.drew _ _ _ _ from (A0.out.below HB.out (Nat.le_refl _)).take (ea ▸ n1))
        have K2 := SumW.crc_any _ _ _ _ _ (show Bts wr.drew _ _ _ _ from (B0.out.below HB.out (Nat.le_refl _)).take (eb ▸ n2))
        have K3 := SumW.crc_any _ _ _ _ _ (show Bts wr.drew _ _ _ _ from (C0.out.below HB.out (Nat.le_refl _)).take (ec ▸ n3))
        rw [hmx] at K0
        rw [← hq1] at K0 K1 q1l
        rw [← hq2] at K0 K2 q2l
        rw [← hq3] at K0 K3 q3l
        have X1 := xor32 q1 q2 q1l q2l
        have X2 := xor32 (q1 ^^^ q2) q3 (Crc.xor_lt _ _ q1l q2l) q3l
        have L0 := Lib.hid K0
        have L1 := Lib.hid K1
        have L2 := Lib.hid K2
        have L3 := Lib.hid K3
        clear K0 K1 K2 K3 hmx hq1 hq2 hq3 hbt
        have ka := n1
        have kb := n2
        have kc := n3
        rw [ea] at ka
        rw [eb] at kb
        rw [ec] at kc
        have qa := Nat.le_trans ka ca
        have qb := Nat.le_trans kb cb
        have qc := Nat.le_trans kc cc
        go_wp2
        refine wp_region_still_tail 17 (by kernel_rfl) (by kernel_rfl) ?_
        simp only [List.take_succ_cons, List.take_zero, List.drop_succ_cons, List.drop_zero]
        still_step
        still_call (L0.out.mono fun e w' ⟨a, b⟩ => ⟨a, b.symm⟩)
        repeat still_step
        still_call (L1.out.mono fun e w' ⟨a, b⟩ => ⟨a, b.symm⟩)
        repeat still_step
        still_call (L2.out.mono fun e w' ⟨a, b⟩ => ⟨a, b.symm⟩)
        repeat still_step
        still_call (L3.out.mono fun e w' ⟨a, b⟩ => ⟨a, b.symm⟩)
        repeat still_step
        refine wpStill_nil ?_
        go_wp2
        go_ret
        exact ⟨ret_bool (by simp), HB.out.drew⟩
end Go.Proofs.Ytldlgffjpmmlcaa.Joins
