/-
  PackSuper of the codec where it packs, by contract. Helper text; no statement is proved here.
-/
import Derived.Test.YtmmgejlfcehipaaSupPlain
import Derived.Test.YtmmgejlfcehipaaSlices
import Derived.Deep.Cut
set_option linter.unusedVariables false
set_option linter.unusedSimpArgs false
namespace Go.Proofs.Ytmmgejlfcehipaa.Codec
open Go.RowKit Go.Proofs.Ytmmgejlfcehipaa.Base Go.Proofs.Ytmmgejlfcehipaa.Laws Go.Proofs.Ytmmgejlfcehipaa.Lay Go.Proofs.Ytmmgejlfcehipaa.InvM Go.Proofs.Ytmmgejlfcehipaa.Inv
theorem slice_mid (w : World) (g o len cap i j : Nat) (i' j' : Int) (hi' : i' = (i : Int)) (hj' : j' = (j : Int)) (hi : i ≤ j) (hj : j ≤ cap) (hc : i < cap) : (Instr.sliceAt 27 (.slice (some ⟨g, o, none⟩) len cap) (some (.int .i64 i')) (some (.int .i64 j')) none).run Try.prog w = .ok (.slice (some ⟨g, o + i, none⟩) (j - i) (cap - i)) w := by
  subst hi' hj'
  have hu := run_underlying (P := Try.prog) (w := w) Try.underlying27
  have h1 := run_sliceBound (P := Try.prog) (w := w) .i64 j cap .sliceAcap (by omega) (by omega)
  have h2 := run_sliceBound (P := Try.prog) (w := w) .i64 i j .sliceB (by omega) (by omega)
  have hne : ¬ cap = i := by omega
  simp only [Instr.sliceAt, Sem.run_bind, hu, Result.andThen_ok, Instr.slice, Instr.sliceBounds, Option.isSome_none, Sem.run_pure, sizeu8 w]
  simp [h1, h2, sizeu8 w, hne, Addr.add]
/-- the first numbers laid down -/
def lay (ns : List Nat) (j : Nat) : List UInt8 := (rave ++ ((ns.take j).map (be 2)).flatten) ++ OwnB.zs (41 - 2 * j)
theorem flat_be_len (ns : List Nat) : ((ns.map (be 2)).flatten).length = 2 * ns.length := by
  induction ns with
  | nil => rfl
  | cons n ns ih => simp [be_len, ih]; omega
theorem lay_len {ns : List Nat} {j : Nat} (h : j ≤ 4) (hn : ns.length = 4) : (lay ns j).length = 45 := by
  unfold lay
  rw [List.length_append, List.length_append, flat_be_len, zs_len, List.length_take]
  simp [rave]
  omega
theorem lay_next {ns : List Nat} {j n : Nat} (h : j < 4) (hn : ns.length = 4) (hj : ns[j]? = some n) : put (lay ns j) (4 + 2 * j) (be 2 n) = lay ns (j + 1) := by
  unfold lay
  rw [show 41 - 2 * j = 2 + (41 - 2 * (j + 1)) from by omega, zs_add]
  have := put_next (rave ++ ((ns.take j).map (be 2)).flatten) (OwnB.zs 2) (OwnB.zs (41 - 2 * (j + 1))) (be 2 n) (by rw [zs_len, be_len])
  rw [show (rave ++ ((ns.take j).map (be 2)).flatten).length = 4 + 2 * j from by rw [List.length_append, flat_be_len, List.length_take]; simp [rave]; omega] at this
  rw [this, take_snoc ns j n hj]
  simp [List.append_assoc]
theorem sup_laid (p A B C : List UInt8) (hp : p.length = 12) (hA : A.length = 4) (hB : B.length = 8) (hC : C.length = 8) : put (put (put (p ++ OwnB.zs 33) 12 A) 16 B) 24 C = (p ++ A ++ B ++ C ++ OwnB.zs 9) ++ OwnB.zs 4 := by
  rw [show (33 : Nat) = 4 + 29 from rfl, zs_add]
  have h1 := put_next p (OwnB.zs 4) (OwnB.zs 29) A (by rw [zs_len, hA])
  rw [hp] at h1
  rw [h1, show (29 : Nat) = 8 + 21 from rfl, zs_add]
  have h2 := put_next (p ++ A) (OwnB.zs 8) (OwnB.zs 21) B (by rw [zs_len, hB])
  rw [show (p ++ A).length = 16 from by simp [hp, hA]] at h2
  rw [h2, show (21 : Nat) = 8 + 13 from rfl, zs_add]
  have h3 := put_next (p ++ A ++ B) (OwnB.zs 8) (OwnB.zs 13) C (by rw [zs_len, hC])
  rw [show (p ++ A ++ B).length = 24 from by simp [hp, hA, hB]] at h3
  rw [h3, show (13 : Nat) = 9 + 4 from rfl, zs_add]
  simp [List.append_assoc]
set_option maxRecDepth 8000 in
set_option maxHeartbeats 1500000 in
theorem packsuper_yes {x : Su} (h : x.Good) (harr : x.arr < 4294967296) (hseq : x.seq < 18446744073709551616) (w : World) : Calls Try.prog 23 #[.agg x.cells.toArray] w fun e w' => ∃ p, e = .returned (.tuple #[p, .int .i64 0]) ∧ w'.ownsRow w.heap.size 5 1 p 45 (bv x.bytes) ∧ Below w.heap.size w w' := by
  have HB0 := Lib.hid (blk_at (w := w) (cs := x.cells) (t := 52) rfl rfl)
  obtain ⟨hso, hkk, hmm⟩ := h
  have HS := Lib.hid (fun w' => size_yes hso w')
  have hg3 : (x.cells.drop 0).take 3 = geo x.d x.c x.s := rfl
  have hx7 : x.cells.length = 7 := rfl
  have d0 : x.cells[0]? = some (.int .i64 x.d) := rfl
  have d1 : x.cells[1]? = some (.int .i64 x.c) := rfl
  have d2 : x.cells[2]? = some (.int .i64 x.s) := rfl
  have d3 : x.cells[3]? = some (.int .i64 x.k) := rfl
  have d4 : x.cells[4]? = some (.int .u32 (x.arr : Int)) := rfl
  have d5 : x.cells[5]? = some (.int .u64 (x.seq : Int)) := rfl
  have d6 : x.cells[6]? = some (.int .i64 x.m) := rfl
  obtain ⟨cs, hcs⟩ : ∃ cs, cs = x.cells := ⟨_, rfl⟩
  rw [← hcs] at HB0 hg3 hx7 d0 d1 d2 d3 d4 d5 d6 ⊢
  have D0 := Lib.hid d0
  have D1 := Lib.hid d1
  have D2 := Lib.hid d2
  have D3 := Lib.hid d3
  have D4 := Lib.hid d4
  have D5 := Lib.hid d5
  have D6 := Lib.hid d6
  clear hcs d0 d1 d2 d3 d4 d5 d6
  obtain ⟨l3, hl3⟩ : ∃ l, l = geo x.d x.c x.s := ⟨_, rfl⟩
  rw [← hl3] at HS hg3
  clear hl3
  obtain ⟨q1, hq1⟩ : ∃ q, q = x.b41 := ⟨_, rfl⟩
  have hq1l : q1.length = 41 := by rw [hq1]; exact Su.b41_len x
  have HQ1 := Lib.hid hq1
  have HBY := Lib.hid (show x.bytes = q1 ++ be 4 (Crc.crc q1) from by rw [hq1]; rfl)
  obtain ⟨by45, hby⟩ : ∃ b, b = x.bytes := ⟨_, rfl⟩
  rw [← hby] at HBY ⊢
  clear hby hq1
  obtain ⟨cap, hcap⟩ : ∃ cap, cap = x.c * x.s := ⟨_, rfl⟩
  rw [← hcap] at HS hmm
  have hc1 : cap ≤ 512 := by
    obtain ⟨_, ⟨a1, a2⟩, ⟨a3, a4⟩⟩ := hso
    rw [hcap]
    exact Int.mul_le_mul (show x.c ≤ 8 by omega) (show x.s ≤ 64 by omega) (by omega) (by omega)
  clear hcap
  obtain ⟨⟨g1, g2⟩, ⟨g3, g4⟩, ⟨g5, g6⟩⟩ := hso
  obtain ⟨d, c, s, k, arr, seq, m⟩ := x
  simp only at *
  obtain ⟨⟨k1, k2⟩, ⟨m1, m2⟩⟩ := (⟨hkk, hmm⟩ : _ ∧ _)
  obtain ⟨dn, rfl⟩ : ∃ n : Nat, d = n := ⟨d.toNat, by omega⟩
  obtain ⟨cn, rfl⟩ : ∃ n : Nat, c = n := ⟨c.toNat, by omega⟩
  obtain ⟨sn, rfl⟩ : ∃ n : Nat, s = n := ⟨s.toNat, by omega⟩
  obtain ⟨kn, rfl⟩ : ∃ n : Nat, k = n := ⟨k.toNat, by omega⟩
  obtain ⟨mn, rfl⟩ : ∃ n : Nat, m = n := ⟨m.toNat, by omega⟩
  clear hkk hmm
  go_enter Try.func23, Try.ntmps23
  go_wp2_with (first | (refine wpList_load_blk rfl 50 _ rfl w.heap.size 0 3 rfl 52 cs _ HB0.out Try.underlying50 rfl (by kernel_rfl) (by rw [hx7]; omega) l3 hg3 ?_))
  refine (HS.out _).mono ?_
  rintro e w1 ⟨rfl, hb⟩
  have L1 := Lib.hid (((Below.refl _ _).alloc (Nat.le_refl _) _).trans (hb.mono (by simp only [size_alloc]; omega)) : Below w.heap.size w w1)
  have B1 := Lib.hid (HB0.out.below hb (by simp only [size_alloc]; omega))
  have c0 := (B1.out.cell 0).trans D0.out
  have c3 := (B1.out.cell 3).trans D3.out
  have c6 := (B1.out.cell 6).trans D6.out
  have hs1 := L1.out.size
  have hlt1 := B1.out.lt
  clear hb
  go_upto_region 7 with (at_make; refine OwnB.wpList_make_bytes rfl _ _ rfl .i64 .i64 _ _ 41 45 rfl rfl rfl rfl (by decide) (by decide) ?_)
  have ZM := Lib.hid (blk_at (w := w1) (g := w1.heap.size) (cs := bv (OwnB.zs 45)) (t := 5) rfl rfl)
  go_wp2_with (refine wpList_copy_str rfl _ _ 27 9 rfl 5 Try.underlying27 (by kernel_rfl) w1.heap.size 41 45 rave rfl rfl (bv (OwnB.zs 45)) 5 ZM.out (by decide) (by rw [bv_len, zs_len]; decide) ?_)
  intro w2 z2 g2
  obtain ⟨ns, hns⟩ : ∃ ns, ns = [dn, cn, sn, kn] := ⟨_, rfl⟩
  have hn4 : ns.length = 4 := by rw [hns]; rfl
  rw [put_bv, show put (OwnB.zs 45) 0 rave = lay ns 0 from by rw [hns]; rfl] at z2
  obtain ⟨g, hgd⟩ : ∃ g, g = w1.heap.size := ⟨_, rfl⟩
  have L2 := Lib.hid (below_grown (L1.out.alloc hs1 (.cells (bv (OwnB.zs 45)).toArray 5)) g2 (by simp only [size_alloc]; omega) hs1)
  have B2 := Lib.hid ((B1.out.alloc (.cells (bv (OwnB.zs 45)).toArray 5)).grown g2 (by omega))
  rw [← hgd] at z2 g2 ⊢
  have hgw : w.heap.size < g := by omega
  have Z2 := Lib.hid z2
  have hg2 := z2.lt
  have HNS := Lib.hid hns
  clear z2 g2 hgd c0 c3 c6 L1 B1 hns HB0 HS hg3 hs1 hlt1
  have c0 := (B2.out.cell 0).trans D0.out
  have c1 := (B2.out.cell 1).trans D1.out
  have c2 := (B2.out.cell 2).trans D2.out
  have c3 := (B2.out.cell 3).trans D3.out
  have hs2 := L2.out.size
  go_wp2
  obtain ⟨ni, hni⟩ : ∃ ni, ni = [Value.int .i64 (dn : Int), .int .i64 (cn : Int), .int .i64 (sn : Int), .int .i64 (kn : Int)] := ⟨_, rfl⟩
  have NI := Lib.hid (show ∀ (j n : Nat), ns[j]? = some n → ni[j]? = some (Value.int .i64 (n : Int)) from fun j n hj => by
    have e : ni = ns.map (fun (n : Nat) => Value.int .i64 (n : Int)) := by rw [hni, HNS.out]; rfl
    rw [e, List.getElem?_map, hj]
    rfl)
  have A2 := Lib.hid (show Blk (w2.alloc (.cells #[.int .i64 (dn : Int), .int .i64 (cn : Int), .int .i64 (sn : Int), .int .i64 (kn : Int)] 3)) w2.heap.size ni 3 from blk_at rfl (by rw [hni]))
  have NB := Lib.hid (show ∀ (j n : Nat), ns[j]? = some n → n < 18446744073709551616 from fun j n hj => by
    rw [HNS.out] at hj
    have := List.mem_of_getElem? hj
    simp at this
    omega)
  clear hni c0 c1 c2 c3
  go_loopw [56] (fun i wr => ∃ j : Nat, j ≤ 4 ∧ i = .int .i64 (j : Int) ∧ Blk wr w.heap.size cs 52 ∧ Blk wr g (bv (lay ns j)) 5 ∧ Blk wr w2.heap.size ni 3 ∧ Below w.heap.size w wr) (fun i _ => 4 - (intOf i).toNat)
  case atStart => exact ⟨0, by omega, rfl, B2.out.alloc _, Z2.out.alloc _, A2.out, L2.out.alloc hs2 _⟩
  case round =>
    obtain ⟨j, hj, rfl, rb, rz, ra, rl⟩ := hrel
    have RB := Lib.hid rb
    have RZ := Lib.hid rz
    have RA := Lib.hid ra
    have RL := Lib.hid rl
    have hrl := rl.size
    have hrg := rz.lt
    clear rb rz ra rl B2 Z2 A2 L2
    by_cases hj4 : j < 4
    · obtain ⟨n, hn⟩ : ∃ n, ns[j]? = some n := ⟨_, List.getElem?_eq_getElem (by omega)⟩
      have hc := (RA.out.cell j).trans (NI.out j n hn)
      have hnb := NB.out j n hn
      have LN := Lib.hid (lay_next hj4 hn4 hn)
      have LL := Lib.hid (lay_len (ns := ns) (j := j) (by omega) hn4)
      have hw0 : IntKind.u64.wrap (n : Int) = (n : Int) := by rw [IntKind.wrap_u64]; omega
      have hw1 : IntKind.i64.wrap (2 * (j : Int)) = 2 * (j : Int) := by rw [IntKind.wrap_i64]; omega
      have hw2 : IntKind.i64.wrap (4 + 2 * (j : Int)) = 4 + 2 * (j : Int) := by rw [IntKind.wrap_i64]; omega
      have hw3 : IntKind.i64.wrap (6 + 2 * (j : Int)) = 6 + 2 * (j : Int) := by rw [IntKind.wrap_i64]; omega
      obtain ⟨of, hof⟩ : ∃ of, of = 4 + 2 * j := ⟨_, rfl⟩
      obtain ⟨cpn, hcpn⟩ : ∃ cpn, cpn = 45 - of := ⟨_, rfl⟩
      have SM := Lib.hid (fun w' => (show (Instr.sliceAt 27 (.slice (some ⟨g, 0, none⟩) 41 45) (some (.int .i64 (4 + 2 * (j : Int)))) (some (.int .i64 (6 + 2 * (j : Int)))) none).run Try.prog w' = .ok (.slice (some ⟨g, of, none⟩) 2 cpn) w' from by
        have := slice_mid w' g 0 41 45 of (of + 2) (4 + 2 * (j : Int)) (6 + 2 * (j : Int)) (by omega) (by omega) (by omega) (by omega) (by omega)
        rw [Nat.zero_add, show of + 2 - of = 2 from by omega, ← hcpn] at this
        exact this))
      have NA := Lib.hid (fun w' (h : Blk w' g (bv (lay ns j)) 5) => number_any g of 2 cpn n (lay ns j) 5 (by omega) (by rw [LL.out]; omega) (by rw [LL.out]; omega) (by omega) (by omega) (by omega) w' h)
      rw [hof, LN.out, ← hof] at NA
      clear hn hof hcpn
      go_wp2_with (first | (refine wpList_value_g rfl (.slice (some ⟨g, of, none⟩) 2 cpn) (exec_slice rfl (SM.out _)) ?_))
      refine (NA.out _ RZ.out).mono ?_
      rintro e w5 ⟨rfl, z5, g5⟩
      have B5 := Lib.hid (RB.out.grown g5 (by omega))
      have A5 := Lib.hid (RA.out.grown g5 (by omega))
      have L5 := Lib.hid (below_grown RL.out g5 (by omega) (by omega))
      have Z5 := Lib.hid z5
      clear z5 g5
      go_wp2
      go_roundw
      case rel => exact ⟨j + 1, by omega, by go_num, B5.out, Z5.out, A5.out, L5.out⟩
      case measure => simp [intOf]; omega
    · obtain rfl : j = 4 := by omega
      have LEN2 := Lib.hid (lay_len (ns := ns) (j := 4) (by omega) hn4)
      obtain ⟨w2', hw2'⟩ : ∃ w2' : World, w2' = wr := ⟨_, rfl⟩
      rw [← hw2'] at RB RZ RL hrl hrg ⊢
      clear hw2' RA NI NB hs2
      go_wp2
      have d3 := (RB.out.cell 4).trans D4.out
      refine wp_region_still_tail 5 (by kernel_rfl) (by kernel_rfl) ?_
      simp only [List.take_succ_cons, List.take_zero, List.drop_succ_cons, List.drop_zero]
      repeat still_step
      refine wpStill_nil ?_
      change wpList _ _ _ _ _ w2'.drew
      go_wp2_with fail
      refine (number_any g 12 4 33 arr _ 5 (by omega) (by rw [LEN2.out]; omega) (by rw [LEN2.out]; omega) (by decide) (by decide) (by decide) w2'.drew RZ.out.drew).mono ?_
      rintro e w3 ⟨rfl, z3, g3⟩
      have B3 := Lib.hid (RB.out.drew.grown g3 (by omega))
      have LEN3 := Lib.hid ((put_len _ 12 (be 4 arr) (by rw [be_len, LEN2.out]; omega)).trans LEN2.out)
      have Z3 := Lib.hid z3
      have L3 := Lib.hid (below_grown RL.out.drew g3 (by have := RL.out.size; have := RB.out.lt; simp; omega) (by omega))
      clear z3 g3 d3
      go_wp2
      have d4 := (B3.out.cell 5).trans D5.out
      refine wp_region_still_tail 4 (by kernel_rfl) (by kernel_rfl) ?_
      simp only [List.take_succ_cons, List.take_zero, List.drop_succ_cons, List.drop_zero]
      repeat still_step
      refine wpStill_nil ?_
      change wpList _ _ _ _ _ w3.drew
      go_wp2_with fail
      refine (number_any g 16 8 29 seq _ 5 (by omega) (by rw [LEN3.out]; omega) (by rw [LEN3.out]; omega) (by decide) (by decide) (by decide) w3.drew Z3.out.drew).mono ?_
      rintro e w4 ⟨rfl, z4, g4⟩
      have B4 := Lib.hid (B3.out.drew.grown g4 (by omega))
      have LEN4 := Lib.hid ((put_len _ 16 (be 8 seq) (by rw [be_len, LEN3.out]; omega)).trans LEN3.out)
      have Z4 := Lib.hid z4
      have L4 := Lib.hid (below_grown L3.out.drew g4 (by have := L3.out.size; have := B3.out.lt; simp; omega) (by omega))
      clear z4 g4 d4
      go_wp2
      have d5 := (B4.out.cell 6).trans D6.out
      refine wp_region_still_tail 5 (by kernel_rfl) (by kernel_rfl) ?_
      simp only [List.take_succ_cons, List.take_zero, List.drop_succ_cons, List.drop_zero]
      repeat still_step
      refine wpStill_nil ?_
      change wpList _ _ _ _ _ w4.drew
      go_wp2_with fail
      refine (number_any g 24 8 21 mn _ 5 (by omega) (by rw [LEN4.out]; omega) (by rw [LEN4.out]; omega) (by decide) (by decide) (by decide) w4.drew Z4.out.drew).mono ?_
      rintro e w5 ⟨rfl, z5, g5⟩
      have B5 := Lib.hid (B4.out.drew.grown g5 (by omega))
      have LEN5 := Lib.hid ((put_len _ 24 (be 8 mn) (by rw [be_len, LEN4.out]; omega)).trans LEN4.out)
      have Z5 := Lib.hid z5
      have L5 := Lib.hid (below_grown L4.out.drew g5 (by have := L4.out.size; have := B4.out.lt; simp; omega) (by omega))
      clear z5 g5 d5
      have e45 : put (put (put (lay ns 4) 12 (be 4 arr)) 16 (be 8 seq)) 24 (be 8 mn) = q1 ++ OwnB.zs 4 := by
        have hfl := flat_be_len (ns.take 4)
        unfold lay
        rw [show 41 - 2 * 4 = 33 from rfl, sup_laid _ _ _ _ (by rw [List.length_append, hfl, List.length_take, hn4]; rfl) (be_len _ _) (be_len _ _) (be_len _ _), HQ1.out, HNS.out]
        unfold Su.b41
        simp [List.append_assoc]
      have z5 := Z5.out
      rw [e45] at z5
      have HO := Lib.hid (own_blk (n := 41) (cap := 45) (l := q1) (r := OwnB.zs 4) z5 (by omega : w.heap.size ≤ g) hq1l (by rw [zs_len]) (by decide))
      have hs5 := L5.out.size
      have HSL := Lib.hid (seal_any w.heap.size _ 41 q1 hq1l (by decide) w5 hs5 HO.out)
      clear z5 Z5 e45 B5
      go_wp2_with (go_at_call 31; refine HSL.out.mono ?_; rintro e w6 ⟨p, rfl, ho, hb⟩)
      go_ret2
      exact ⟨p, rfl, by rw [HBY.out]; exact ho, L5.out.trans hb⟩
end Go.Proofs.Ytmmgejlfcehipaa.Codec
