/-
  The walk of the statement on a memory's room. Helper text; no statement is proved here.
-/
import Derived.Test.YtobblbplanimgaaNv7Loads
set_option linter.unusedVariables false
set_option maxRecDepth 20000
set_option linter.unusedSimpArgs false
namespace Go.Proofs.Ytobblbplanimgaa.Nvram
open Go.RowKit Go.Proofs.Ytobblbplanimgaa.Base Go.Proofs.Ytobblbplanimgaa.Laws Go.Proofs.Ytobblbplanimgaa.Disk Go.Proofs.Ytobblbplanimgaa.Row Go.Proofs.Ytobblbplanimgaa.Codec Go.Proofs.Ytobblbplanimgaa.InvL Go.Proofs.Ytobblbplanimgaa.InvM
/-- append, the elder row reading as it did -/
theorem run_append_keep {P : Program} {w : World} (base : Nat) (t ty e : TypeId) (z : Value) (size bytes : Nat) (ht : P.underlying t = some (.slice e)) (hi : (P.info? e).map (fun i => (i.zero, i.size, i.bytes)) = some (some z, size, bytes))
    (hzs : z.cells.size = size) (hsz : 0 < size)
    (v : Value) (n : Nat) (xs : List Value) (hown : w.ownsRow base e size v n xs)
    (ad : Addr) (m c : Nat) (hm : 0 < m) (news : List Value) (hy : SrcOf w (some ad) m size news)
    (hbytes : (n + m) * bytes ≤ 140737488355328) (h63 : n + m ≤ maxLen) (hbase : base ≤ w.heap.size) :
    ∃ v' w', (Builtin.append_ #[t, t] ty #[v, .slice (some ad) m c]).run P w = .ok v' w' ∧ w'.ownsRow base e size v' (n + m) (xs ++ news) ∧ w'.ownsRow base e size v n xs ∧ w.grownBy w' v.ownBlock := by
  obtain ⟨v', w', hr, h1, h2, h3⟩ := run_append_any_at (P := P) w base t ty e z size bytes ht hi hzs hsz v n xs hown (some ad) m c news hy hbytes h63 hbase
  refine ⟨v', w', hr, h1, ?_, h2⟩
  obtain ⟨i, hi', hz, hsize, hby⟩ := info_parts hi
  obtain ⟨hl, hone, hsrc⟩ := hy
  have hc : ∀ j u, news[j]? = some u → w.cell? (ad.add j) = some u := by
    rcases hsrc with h | ⟨ad', e', hc⟩
    · omega
    · cases e'; exact hc
  rcases hown.2 with ⟨e1, e2⟩ | ⟨g, cap, cur, rfl, hbg, hg, hnc, hcm, hcs, htake⟩
  · subst e1
    exact ⟨hown.1, .inl ⟨rfl, e2⟩⟩
  · by_cases hroom : n + m ≤ cap
    · obtain ⟨w2, hr2, h4, h5⟩ := run_append_fits (P := P) w base t ty e i size ht hi' hsize g n cap xs hown ad m c news hl hc hone hroom
      rw [hr] at hr2
      cases hr2
      have := own_take h4 n (by omega)
      have e2 : (xs ++ news).take (n * size) = xs := by rw [← hown.1, List.take_left]
      rw [e2] at this
      exact this
    · have holds : ∀ j u, xs[j]? = some u → w.cell? ((⟨g, 0, none⟩ : Addr).add j) = some u := hown.cells (g := g) rfl
      subst hsize
      subst hby
      have hr2 := run_append_grow (P := P) w t ty e i z ht hi' hz ⟨g, 0, none⟩ n cap xs hown.1 holds ad m c news hl hc (by omega) (by unfold maxLen at h63; omega) (growslice_fits (by omega) hbytes)
      rw [hr] at hr2
      cases hr2
      exact ⟨hown.1, .inr ⟨g, cap, cur, rfl, hbg, (Below.heap_alloc w.drew _ g (Array.getElem?_eq_some_iff.1 hg).1).trans hg, hnc, hcm, hcs, htake⟩⟩
/-- k records alike -/
def alike (k : Nat) (y : Rc) : List Rc := List.replicate k y
theorem alike_len (k : Nat) (y : Rc) : (alike k y).length = k := by simp [alike]
theorem alike_succ (k : Nat) (y : Rc) : alike (k + 1) y = alike k y ++ [y] := by simp [alike, List.replicate_succ']
theorem alike_ok {k : Nat} {y : Rc} (hv : y.Valid) (hg : y.Good) : ∀ r ∈ alike k y, r.Valid ∧ r.Good := fun r hr => by rw [List.eq_of_mem_replicate hr]; exact ⟨hv, hg⟩
theorem alike_laid {k : Nat} {y : Rc} (hv : y.Valid) (hg : y.Good) : (laidAll (alike k y)).length = 37 * k := by rw [laidAll_len (fun r hr => (alike_ok hv hg r hr).1), alike_len]
/-- what holds at the head of a round -/
def RI (W : World) (br bm gx n m : Nat) (y : Rc) (vk : Value) (k : Nat) (wr : World) : Prop :=
  ∃ v c, c = min k m ∧ RamAt wr br bm n v (laidAll (alike c y)) ∧ PowAt wr bm ⟨false, 0, c⟩ ∧ wr.ownsRow (br + 1) 27 19 vk c (rv (alike c y)) ∧ Apart v vk ∧ Blk wr gx y.cells 27 ∧ Below W.heap.size W wr
set_option maxHeartbeats 4000000 in
theorem room_walk (s : Nat) (hs : s < 256) (x : Rc) (hx : x.Valid) (w : World) : Calls Try.prog 4 #[.int .u8 (s : Int), .agg x.cells.toArray] w fun e w' => e = .returned (.bool true) ∧ Below w.heap.size w w' := by
  obtain ⟨y, hy⟩ : ∃ y : Rc, y = ⟨1, x.v, 5, x.l⟩ := ⟨_, rfl⟩
  have hyc : y.cells = (x.cells.set 0 (.int .i64 1)).set 2 (.int .i64 5) := by rw [hy]; rfl
  have hyv : y.Valid := by rw [hy]; exact ⟨hx.1, hx.2.1, ⟨by show (-9223372036854775808 : Int) ≤ 1; decide, by show (1 : Int) ≤ 9223372036854775807; decide⟩, ⟨by show (-9223372036854775808 : Int) ≤ 5; decide, by show (5 : Int) ≤ 9223372036854775807; decide⟩⟩
  have hyg : y.Good := by rw [hy]; exact ⟨⟨by show (1 : Int) ≤ 1; decide, by show (1 : Int) ≤ 6; decide⟩, ⟨by show (0 : Int) ≤ 5; decide, by show (5 : Int) ≤ 2147483647; decide⟩⟩
  have YV := Lib.hid hyv
  have YG := Lib.hid hyg
  have YC := Lib.hid hyc
  have y19 := Lib.hid (Rc.len hyv)
  clear hy hyc hyv hyg
  have Z0 := Lib.hid (blk_at (w := w) (g := w.heap.size) (cs := x.cells) (t := 27) (arr := x.cells.toArray) rfl rfl)
  have s0 : (0 : Int) ≤ (s : Int) := by omega
  have s1 : (s : Int) < 256 := by omega
  obtain ⟨n, hn⟩ : ∃ n, n = s + 37 := ⟨_, rfl⟩
  have en : (s : Int) + 37 = (n : Int) := by omega
  have n0 : (37 : Int) ≤ (n : Int) := by omega
  have n1 : (n : Int) ≤ 300 := by omega
  have hn37 : 37 ≤ n := by omega
  have hn300 : n ≤ 300 := by omega
  clear hn
  obtain ⟨m, hm⟩ : ∃ m, m = n / 37 := ⟨_, rfl⟩
  have em : (n : Int) / 37 = (m : Int) := by omega
  have hmn : 37 * m ≤ n ∧ n < 37 * (m + 1) ∧ 1 ≤ m ∧ m ≤ 8 := by omega
  obtain ⟨hm1, hm2, hm3, hm4⟩ := hmn
  have HMM := Lib.hid hm
  clear hm
  go_enter Try.func4, Try.ntmps4
  go_upto_region 1 with (fail)
  obtain ⟨w0, hw0⟩ : ∃ w0, w0 = w.alloc (.cells x.cells.toArray 27) := ⟨_, rfl⟩
  have B0 := Lib.hid (show Below w.heap.size w w0 from hw0 ▸ (Below.refl _ _).alloc (Nat.le_refl _) _)
  have hs0 : w.heap.size < w0.heap.size := by rw [hw0]; simp
  rw [← hw0] at Z0 ⊢
  clear hw0
  obtain ⟨gx, hgx⟩ : ∃ g, g = w.heap.size := ⟨_, rfl⟩
  rw [← hgx] at Z0
  have hgx0 : gx < w0.heap.size := by omega
  have hgxw : w.heap.size ≤ gx := by omega
  rw [← hgx]
  clear hgx
  go_wp2_with fail
  refine (newmains w0).mono ?_
  rintro e w2 ⟨rfl, p2, b2, z2⟩
  have NW := Lib.hid (new_at p2 n hn37 (by omega) (n : Int) rfl)
  have P2 := Lib.hid p2
  have B2 := Lib.hid (B0.out.trans (b2.mono (by omega)))
  have Z2 := Lib.hid (Z0.out.below b2 (by omega))
  have hs2 : w0.heap.size < w2.heap.size := by omega
  clear p2 b2 z2 Z0 B0
  go_wp2_with fail
  refine NW.out.mono ?_
  rintro e w3 ⟨rfl, r3, b3, z3⟩
  have P3 := Lib.hid (P2.out.only (Only.of_below (S := []) b3) (by simp))
  have R3 := Lib.hid r3
  have B3 := Lib.hid (B2.out.trans (b3.mono (by omega)))
  have Z3 := Lib.hid (Z2.out.below b3 (by omega))
  have hs3 : w2.heap.size < w3.heap.size := by omega
  clear r3 b3 z3 NW P2 B2 Z2
  obtain ⟨bm, hbm⟩ : ∃ g, g = w0.heap.size := ⟨_, rfl⟩
  obtain ⟨br, hbr⟩ : ∃ g, g = w2.heap.size := ⟨_, rfl⟩
  rw [← hbm] at P3 R3 hs2 hgx0
  rw [← hbr] at R3 hs2 hs3 ⊢
  have hbb : bm < br := by omega
  clear hbm hbr
  go_wp2_with fail
  refine (awake_any w3).mono ?_
  rintro e w4 ⟨rfl, b4⟩
  have R4 := R3.out.below b4
  have P4 := P3.out.only (Only.of_below (S := []) b4) (by simp)
  have Z4 := Z3.out.below b4 (by omega)
  have B4 := B3.out.trans (b4.mono (by omega))
  have hs4 := b4.size
  have c0 := Z4.cell 0
  have f0 := Z4.frozen 0
  have c2 := Z4.cell 2
  have f2 := Z4.frozen 2
  change _ = some (Value.int .i64 x.k) at c0
  change _ = some (Value.int .i64 x.a) at c2
  have o5 : Only [gx] w4 ((w4.setCell ⟨gx, 0, none⟩ (.int .i64 1)).setCell ⟨gx, 2, none⟩ (.int .i64 5)) := ((Only.refl [gx] w4).setCell (by simp) _ _).setCell (by simp) _ _
  have Z5 := Lib.hid (show Blk ((w4.setCell ⟨gx, 0, none⟩ (.int .i64 1)).setCell ⟨gx, 2, none⟩ (.int .i64 5)) gx y.cells 27 from by rw [YC.out]; exact (Z4.setCell 0 _).setCell 2 _)
  have R5 := Lib.hid (R4.only o5 (by simp; omega) (fun g hg => by cases hg))
  have P5 := Lib.hid (P4.only o5 (by simp; omega))
  have B5 := Lib.hid (B4.trans (o5.below (by have := B3.out.size; omega) (by simp; omega)))
  have hs5 := o5.size
  clear b4 R4 P4 Z4 B4 o5 R3 P3 Z3 B3 YC
  go_upto_region 6 with (fail)
  obtain ⟨w5, hw5⟩ : ∃ w5, w5 = (w4.setCell ⟨gx, 0, none⟩ (.int .i64 1)).setCell ⟨gx, 2, none⟩ (.int .i64 5) := ⟨_, rfl⟩
  rw [← hw5] at Z5 R5 P5 B5 hs5 ⊢
  clear hw5 c0 f0 c2 f2
  have b6 : Below w5.heap.size w5 (w5.alloc (.cells #[] 27)) := (Below.refl _ _).alloc (Nat.le_refl _) _
  have M6 := Lib.hid (World.ownsRow_made (e := 27) (size := 19) (base := br + 1) w5 #[] 0 (by have := R5.out.head.lt; omega) (Nat.zero_le _) rfl)
  have RI0 := Lib.hid (show RI w br bm gx n m y (.slice (some ⟨w5.heap.size, 0, none⟩) 0 0) 0 (w5.alloc (.cells #[] 27)) from ⟨_, 0, by omega, R5.out.below b6, P5.out.only (Only.of_below (S := []) b6) (by simp), M6.out, (fun g hg => by cases hg), Z5.out.below b6 (by omega), B5.out.trans (b6.mono (by have := B5.out.size; omega))⟩)
  clear b6 M6 R5 P5 Z5 B5
  go_wp2_with fail
  go_loopw [8, 9] (fun vk j wr => ∃ k : Nat, k ≤ m + 1 ∧ j = .int .i64 k ∧ RI w br bm gx n m y vk k wr) (fun _ j _ => m + 2 - (intOf j).toNat)
  case atStart => exact ⟨0, by omega, rfl, RI0.out⟩
  case round =>
    obtain ⟨k, hk, rfl, v, c, hc, hr, hp, hko, hap, hz, hb⟩ := hrel
    obtain ⟨wo, rfl⟩ : ∃ wo : World, wo = wr := ⟨_, rfl⟩
    obtain ⟨vk, rfl⟩ : ∃ vk : Value, vk = u8 := ⟨_, rfl⟩
    have HR := Lib.hid hr
    have HP := Lib.hid hp
    have HKO := Lib.hid hko
    have HAP := Lib.hid hap
    have HZ := Lib.hid hz
    have HB := Lib.hid hb
    have hso := hb.size
    have hbrl := hr.head.lt
    have hzl := hz.lt
    have LL := Lib.hid (fun k => alike_laid (k := k) YV.out YG.out)
    clear hr hp hko hap hz hb
    by_cases hkm : k ≤ m
    · obtain rfl : k = c := by omega
      have RM := Lib.hid (room_at HR.out (m - k) (by rw [LL.out]; omega) ((m : Int) - (k : Int)) (by omega))
      have US := Lib.hid (used_at (w := wo) HR.out (37 * k) (LL.out k) (37 * (k : Int)) (by omega))
      have k0 : (0 : Int) ≤ (k : Int) := by omega
      have k1 : (k : Int) ≤ (m : Int) := by omega
      have m8 : (m : Int) ≤ 8 := by omega
      clear hc
      go_wp2_with fail
      refine RM.out.mono ?_
      rintro e w5 ⟨rfl, nd, rfl⟩
      have US2 := Lib.hid (used_at (w := wo.drewN nd) (HR.out.drewN nd) (37 * k) (LL.out k) (37 * (k : Int)) (by omega))
      go_wp2_with (first | (go_at_call 19; refine US2.out.mono ?_; rintro e w' ⟨rfl, rfl⟩) | (refine wpList_load_blk rfl 27 _ rfl gx 0 19 rfl 27 y.cells _ (Blk.drewN HZ.out nd) Try.underlying27 rfl (by kernel_rfl) (by rw [y19.out]; omega) y.cells (by rw [List.drop_zero, List.take_of_length_le (by rw [y19.out]; omega)]) ?_))
      by_cases hlt : k < m
      · have AP := Lib.hid (append_yes (w := wo.drewN nd) (HR.out.drewN nd) (show PowAt (wo.drewN nd) bm _ from HP.out) (kok (by decide) (by omega)) YV.out YG.out rfl (by rw [LL.out]; omega) rfl)
        refine AP.out.mono ?_
        rintro e w6 ⟨rfl, v6, r6, p6, ow6, o6⟩
        have K6 := Lib.hid (own_only (w := wo.drewN nd) HKO.out o6 (row_set (w := wo.drewN nd) (HR.out.drewN nd) HKO.out HAP.out))
        have AP6 := Lib.hid (apart_after (w := wo.drewN nd) HKO.out HAP.out ow6)
        have Z6 := Lib.hid (Blk.only (w := wo.drewN nd) HZ.out o6 (ram_set (w := wo.drewN nd) (HR.out.drewN nd) (by omega)))
        have B6 := Lib.hid ((below_drewN HB.out nd).trans (o6.below hso (ram_ge (w := wo.drewN nd) (HR.out.drewN nd) (by omega))))
        have R6 := Lib.hid r6
        have P6 := Lib.hid p6
        have hs6 := o6.size
        clear r6 p6 o6 ow6 AP HKO HAP HZ HR HP
        have b7 : Below w6.heap.size w6 (w6.alloc (.cells y.cells.toArray 27)) := (Below.refl _ _).alloc (Nat.le_refl _) _
        have K7 := own_only K6.out (Only.of_below (S := []) b7) (by simp)
        have R7 := R6.out.below b7
        obtain ⟨vk', w8, hr8, ho8, hg8, hv8⟩ := run_append_rec (cap := 1) (by omega) YV.out K7 (blk_new w6 y.cells 27) (by have := R6.out.head.lt; simp; omega)
        have R8 := Lib.hid (ram_row R7 K7 AP6.out hg8)
        have P8 := Lib.hid (show PowAt w8 bm _ from low_row (P6.out.only (Only.of_below (S := []) b7) (by simp) : PowAt _ _ _) K7 (by omega) hg8)
        have Z8 := Lib.hid (low_row (Z6.out.below b7 (Z6.out.lt)) K7 (by omega) hg8)
        have B8 := Lib.hid ((B6.out.trans (b7.mono B6.out.size)).trans ((only_list hg8).below (by have := B6.out.size; simp; omega) (row_ge K7 (by omega))))
        have AP8 := Lib.hid (apart_row R7 AP6.out hv8)
        have HR8 := Lib.hid hr8
        have K8 := Lib.hid ho8
        have f1 : decide ((k : Int) < (m : Int)) = true := by simp; omega
        have f2 : decide (k < m) = true := by simp; omega
        clear hr8 ho8 hg8 hv8 K7 R7 b7 R6 P6 K6 AP6
        go_wp2_with (first | (refine wpList_load_blk rfl 27 _ rfl gx 0 19 rfl 27 y.cells _ Z6.out Try.underlying27 rfl (by kernel_rfl) (by rw [y19.out]; omega) y.cells (by rw [List.drop_zero, List.take_of_length_le (by rw [y19.out]; omega)]) ?_) | (refine wpList_world_gg rfl _ (exec_build_one rfl rfl Try.underlying22 info_rec y19.out (by decide) (by decide)) ?_) | (refine wpList_world_gg rfl _ (exec_append _ _ rfl rfl rfl HR8.out) ?_))
        go_roundw
        case rel => exact ⟨k + 1, by omega, by go_num, v6, k + 1, by omega, by rw [alike_succ, laid_one]; exact R8.out, P8.out, by rw [alike_succ]; exact K8.out, AP8.out, Z8.out, B8.out⟩
        case measure => first | (simp [intOf]; done) | (simp [intOf]; omega)
      · obtain rfl : k = m := by omega
        have AP := Lib.hid (append_full (w := wo.drewN nd) (HR.out.drewN nd) (show PowAt (wo.drewN nd) bm _ from HP.out) YV.out YG.out rfl (by rw [LL.out]; omega))
        refine AP.out.mono ?_
        rintro e w6 ⟨rfl, b6⟩
        have K6 := Lib.hid (own_only (w := wo.drewN nd) HKO.out (Only.of_below (S := []) b6) (by simp))
        have Z6 := Lib.hid (Blk.below (w := wo.drewN nd) HZ.out b6 hzl)
        have B6 := Lib.hid ((below_drewN HB.out nd).trans (b6.mono hso))
        have R6 := Lib.hid ((HR.out.drewN nd).below b6)
        have P6 := Lib.hid (PowAt.only (w := wo.drewN nd) HP.out (Only.of_below (S := []) b6) (by simp))
        clear b6 AP HKO HZ HR HP
        have f1 : decide ((k : Int) < (k : Int)) = false := by simp
        have f2 : decide (k < k) = false := by simp
        go_wp2_with fail
        go_roundw
        case rel => exact ⟨k + 1, by omega, by go_num, v, k, by omega, R6.out, P6.out, K6.out, HAP.out, Z6.out, B6.out⟩
        case measure => first | (simp [intOf]; done) | (simp [intOf]; omega)
    · obtain rfl : c = m := by omega
      obtain rfl : k = c + 1 := by omega
      have RC := Lib.hid (records_any HR.out)
      have f1 : ¬ ((c : Int) + 1 ≤ (c : Int)) := by omega
      have HALL := Lib.hid (alike_ok (k := c) YV.out YG.out)
      have HAL := Lib.hid (alike_len c y)
      clear hc hkm
      go_wp2_with fail
      refine RC.out.mono ?_
      rintro e w6 ⟨rr, rfl, ho6, b6⟩
      rw [scan_laid _ HALL.out, HAL.out] at ho6
      obtain ⟨ra, rc, rfl, rrec⟩ := own_recs HAL.out (fun r hr => (HALL.out r hr).1) ho6
      have K6 := own_only HKO.out (Only.of_below (S := []) b6) (by simp)
      obtain ⟨ka, kc, ek, krec⟩ := own_recs HAL.out (fun r hr => (HALL.out r hr).1) K6
      subst ek
      have SR := Lib.hid (same_recs _ _ _ _ _ _ _ _ w6 rrec krec)
      rw [decide_eq_true rfl] at SR
      have R6 := Lib.hid (HR.out.below b6)
      have P6 := Lib.hid (HP.out.only (Only.of_below (S := []) b6) (by simp))
      have Z6 := Lib.hid (HZ.out.below b6 hzl)
      have B6 := Lib.hid (HB.out.trans (b6.mono hso))
      have HK6 := Lib.hid K6
      clear ho6 b6 rrec krec K6 RC HR HP HZ HB HKO
      go_wp2_with fail
      refine SR.out.mono ?_
      rintro e w' ⟨rfl, nd, rfl⟩
      have b7 : Below (w6.drewN nd).heap.size (w6.drewN nd) ((w6.drewN nd).alloc (.cells y.cells.toArray 27)) := (Below.refl _ _).alloc (Nat.le_refl _) _
      have K7 := own_only (w := w6.drewN nd) HK6.out (Only.of_below (S := []) b7) (by simp)
      have R7 := (R6.out.drewN nd).below b7
      have hb7 : br + 1 ≤ ((w6.drewN nd).alloc (.cells y.cells.toArray 27)).heap.size := by have := R6.out.head.lt; simp; omega
      obtain ⟨vk', w8, hr8, ho8, hold8, hg8⟩ := run_append_keep (P := Try.prog) (br + 1) 22 22 27 (.agg zrec.toArray) 19 40 Try.underlying22 info_rec rfl (by decide) _ c _ K7 ⟨(w6.drewN nd).heap.size, 0, none⟩ 1 1 (by decide) y.cells (src_rec YV.out (blk_new (w6.drewN nd) y.cells 27)) (by omega) (by unfold maxLen; omega) hb7
      have R8 := Lib.hid (ram_row R7 K7 HAP.out hg8)
      have P8 := Lib.hid (show PowAt w8 bm _ from low_row (PowAt.only (w := w6.drewN nd) P6.out (Only.of_below (S := []) b7) (by simp) : PowAt _ _ _) K7 (by omega) hg8)
      have B8 := Lib.hid (((below_drewN B6.out nd).trans (b7.mono B6.out.size)).trans ((only_list hg8).below (by have := B6.out.size; simp; omega) (row_ge K7 (by omega))))
      have HR8 := Lib.hid hr8
      have HA2 := Lib.hid (alike_ok (k := c + 1) YV.out YG.out)
      have ho8' : w8.ownsRow (br + 1) 27 19 vk' (c + 1) (rv (alike (c + 1) y)) := by rw [alike_succ, rv_append, rv_one]; exact ho8
      obtain ⟨la, lc, rfl, lrec⟩ := own_recs (alike_len (c + 1) y) (fun r hr => (HA2.out r hr).1) ho8'
      obtain ⟨ka', kc', ek', krec'⟩ := own_recs HAL.out (fun r hr => (HALL.out r hr).1) hold8
      cases ek'
      have L9 := Lib.hid (load_any R8.out P8.out (kok (by decide) (by omega)) la (c + 1) lc (alike (c + 1) y) lrec)
      rw [load_nine (fun ⟨r, hr, hn⟩ => hn (HA2.out r hr).2) rfl (by rw [alike_len, ← HMM.out]; omega)] at L9
      have HOLD := Lib.hid hold8
      clear krec' hr8 ho8 ho8' hold8 hg8 K7 R7 b7 lrec hb7
      go_wp2_with (first | (refine wpList_load_g rfl 27 _ rfl gx 19 rfl 27 y.cells _ (Blk.drewN Z6.out nd) Try.underlying27 rfl (by kernel_rfl) y19.out ?_) | (refine wpList_world_gg rfl _ (exec_build_one rfl rfl Try.underlying22 info_rec y19.out (by decide) (by decide)) ?_) | (refine wpList_world_gg rfl _ (exec_append _ _ rfl rfl rfl HR8.out) ?_))
      refine L9.out.mono ?_
      rintro e w9 ⟨rfl, v9, r9, p9, ow9, o9⟩
      have K9 := own_only HOLD.out o9 (row_set R8.out HOLD.out HAP.out)
      have R9 := Lib.hid (show RamAt w9 br bm n v9 (laidAll (alike c y)) from r9)
      have P9 := Lib.hid (show PowAt w9 bm ⟨false, 0, c⟩ from p9)
      have B9 := Lib.hid (B8.out.trans (o9.below B8.out.size (ram_ge R8.out (by omega))))
      obtain ⟨ka9, kc9, ek9, rec9⟩ := own_recs HAL.out (fun r hr => (HALL.out r hr).1) K9
      cases ek9
      have L10 := Lib.hid (load_any R9.out P9.out (kok (by decide) (by omega)) ka c kc (alike c y) rec9)
      rw [load_ok (fun ⟨r, hr, hn⟩ => hn (HALL.out r hr).2) rfl (by rw [HAL.out, ← HMM.out]; omega) rfl] at L10
      clear r9 p9 ow9 o9 K9 rec9 L9 R8 P8 B8 HOLD
      go_wp2_with fail
      refine L10.out.mono ?_
      rintro e w10 ⟨rfl, v10, r10, p10, ow10, o10⟩
      have WP := Lib.hid (wipe_any (show RamAt w10 br bm n v10 (laidAll (alike c y)) from r10))
      have B10 := Lib.hid (B9.out.trans (o10.below B9.out.size (ram_ge R9.out (by omega))))
      clear r10 p10 ow10 o10 L10 R9 P9 B9
      go_wp2_with fail
      refine WP.out.mono ?_
      rintro e w11 ⟨rfl, r11, o11⟩
      have RM := Lib.hid (room_at r11 c (by rw [List.length_nil]; have := HMM.out; omega) (c : Int) rfl)
      have R11 := Lib.hid r11
      have B11 := Lib.hid (B10.out.trans (o11.below B10.out.size (by simp; omega)))
      clear r11 o11 WP B10
      go_wp2_with fail
      refine RM.out.mono ?_
      rintro e w12 ⟨rfl, nd2, rfl⟩
      have RC2 := Lib.hid (records_any (w := w11.drewN nd2) (R11.out.drewN nd2))
      go_wp2_with fail
      refine RC2.out.mono ?_
      rintro e w13 ⟨rr2, rfl, ho13, b13⟩
      have e0 : (scanAll []).length = 0 := rfl
      rw [e0] at ho13
      obtain ⟨za, zc, rfl, _, _, _⟩ := own_slice ho13 (by decide)
      have B13 := Lib.hid ((below_drewN B11.out nd2).trans (b13.mono (by have := B11.out.size; exact this)))
      clear ho13 b13 e0
      go_wp2_with fail
      go_ret
      exact ⟨rfl, B13.out⟩
section
variable {H : Type} {enc : TypeId × Value → H} {base : Nat} {spare : Nat → Bool} {held : Bool} {W : World}
theorem room_in (q : Int) (hq : (Lit.int .u8 q).wf = true) (c : List Value) (hl : c.length = 19) (h : Opens.Fits enc Try.prog W base spare held ([.int .i64, .int .u64, .int .i64] ++ List.replicate 16 (.int .u8)) c) :
    Calls Try.prog 4 #[.int .u8 q, .agg c.toArray] W fun e w' => e = .returned (.bool true) ∧ Below W.heap.size W w' := by
  obtain ⟨k, v, b, l, hl16, hv, hk, hb, rfl⟩ := rec_in hl rfl h
  obtain ⟨u, rfl⟩ := Opens.wf_u8 hq
  exact room_walk u.toNat u.toNat_lt ⟨k, v, b, l⟩ ⟨hl16, hv, hk, hb⟩ W
end
end Go.Proofs.Ytobblbplanimgaa.Nvram
