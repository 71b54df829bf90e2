/-
  The walk of the statement on torn writes. Helper text; no statement is proved here.
-/
import Derived.Test.YtnjcepjhllgccaaDisk6A
import Derived.Test.YtnjcepjhllgccaaDiskIn
import Derived.Test.YtnjcepjhllgccaaDiskP
import Derived.Test.YtnjcepjhllgccaaDisk6Steps
import Derived.Deep.DeepCutAuto
set_option linter.unusedVariables false
set_option linter.unusedSimpArgs false
namespace Go.Proofs.Ytnjcepjhllgccaa.Disk
open Go.RowKit Go.Proofs.Ytnjcepjhllgccaa.Base Go.Proofs.Ytnjcepjhllgccaa.Laws Go.Proofs.Ytnjcepjhllgccaa.Flat Go.Proofs.Ytnjcepjhllgccaa.InvM
theorem zcel : (Try.prog.info? 37).map (fun i => (i.zero, i.size, i.bytes)) = some (some (.agg (Cel.cells Cel.zero).toArray), 17, 20) := by kernel_rfl
/-- sixty-four cells of noughts -/
def zrep : List Cel := List.replicate 64 Cel.zero
theorem rep_get {α : Type} {x : α} {n i : Nat} (h : i < n) : (List.replicate n x)[i]? = some x := by simp [h]
theorem zrep_get {i : Nat} (h : i < 64) : zrep[i]? = some Cel.zero := rep_get h
theorem wpStill_value_g {P : Program} {w : World} {ops : Array Oper} {rest : List Oper} {o : Oper} {a : Act} {Q : Act → Prop} (hw : Region.wanted o (yielded ops a.tmps) = true) (v : Value) (hr : (execOp a.eval o).run P w = .ok (.value v) w)
    (h : wpStill P ops w Q rest (a.put o.dst v)) : wpStill P ops w Q (o :: rest) a := by
  refine wpStill_step fun K hK => ?_
  rw [if_pos hw]
  unfold Oper.still
  rw [hr]
  exact ⟨rfl, hK _ h⟩
theorem wpStill_skip_g {P : Program} {w : World} {ops : Array Oper} {rest : List Oper} {o : Oper} {a : Act} {Q : Act → Prop} (hw : Region.wanted o (yielded ops a.tmps) = false)
    (h : wpStill P ops w Q rest (a.put o.dst undef)) : wpStill P ops w Q (o :: rest) a := by
  refine wpStill_step fun K hK => ?_
  rw [if_neg (by rw [hw]; decide)]
  exact hK _ h
/-- what the second write leaves, read -/
theorem tears_read {l : List Cel} {k i : Nat} (hk : k ≤ l.length) (hl : l.length ≤ 64) (hi : i < 64) : (over 0 (l.take k) (over 0 zrep (List.replicate 64 Sec.zero)))[i]? = some ⟨if i < k then l.getD i Cel.zero else Cel.zero, true⟩ := by
  have hz : zrep.length = 64 := by simp [zrep]
  have h1 : (over 0 zrep (List.replicate 64 Sec.zero))[i]? = some ⟨Cel.zero, true⟩ := by
    have := over_in zrep 0 i (List.replicate 64 Sec.zero) Cel.zero (by rw [hz, List.length_replicate]; omega) (zrep_get hi)
    rwa [Nat.zero_add] at this
  by_cases h : i < k
  · rw [if_pos h]
    have hg : (l.take k)[i]? = some (l.getD i Cel.zero) := by
      rw [List.getElem?_take, if_pos h, List.getD_eq_getElem?_getD, List.getElem?_eq_getElem (by omega)]
      rfl
    have := over_in (l.take k) 0 i (over 0 zrep (List.replicate 64 Sec.zero)) _ (by rw [over_len, List.length_replicate, List.length_take]; omega) hg
    rwa [Nat.zero_add] at this
  · rw [if_neg h, over_out _ _ _ _ (.inr (by rw [List.length_take]; omega)), h1]
set_option maxRecDepth 100000 in
set_option maxHeartbeats 2000000 in
theorem tears_walk (a : Option Addr) (len cap : Nat) (l : List Cel) (q : Nat) (hq : q < 256) (w : World) (h : Sl w Cel.cells 17 a len cap l) (hok : ∀ x ∈ l, x.Ok) (hbig : len ≤ 140737488351232) :
    Calls Try.prog 3 #[.slice a len cap, .int .u8 (q : Int)] w fun e w' => e = .returned (.bool true) ∧ Below w.heap.size w w' := by
  have hm := h.2.1
  have hm2 := h.2.2.1
  unfold maxLen at hm2
  have H0 := Lib.hid h
  have HOK := Lib.hid hok
  have q0 : (0 : Int) ≤ (q : Int) := by omega
  have q1 : (q : Int) < 256 := by omega
  clear h hok
  go_enter Try.func3, Try.ntmps3
  go_wp2_with fail
  refine (awake_any w).mono ?_
  rintro e w1 ⟨rfl, b1⟩
  have B1 := Lib.hid b1
  have hs1 := b1.size
  clear b1
  go_upto_region 3 with (fail)
  go_upto_if 18 with (fail)
  go_cut [0] (fun v wx => ∃ (a2 : Option Addr) (m c2 : Nat) (l2 : List Cel), v = .slice a2 m c2 ∧ m ≤ 64 ∧ Sl w Cel.cells 17 a2 m c2 l2 ∧ (∀ x ∈ l2, x.Ok) ∧ wx = w1)
  case first =>
    by_cases h64 : 64 < len
    · obtain ⟨b, o, rfl, hc⟩ := (H0.out.2.2.2.2).resolve_left (by omega)
      have HC := Lib.hid hc
      have h1 : (64 : Int) < (len : Int) := by omega
      have h2 : (64 : Int) ≤ (cap : Int) := by omega
      have h3 : ¬ cap = 0 := by omega
      clear hc
      go_wp2
      go_meet
      exact ⟨_, 64, _, l.take 64, rfl, Nat.le_refl _, H0.out.take (by omega), fun x hx => HOK.out x (List.mem_of_mem_take hx), rfl⟩
    · have h1 : ¬ (64 : Int) < (len : Int) := by omega
      go_wp2
      go_meet
      exact ⟨_, len, _, l, rfl, by omega, H0.out, HOK.out, rfl⟩
  case rest =>
    obtain ⟨a2, m, c2, l2, rfl, hm64, hsl, hok2, rfl⟩ := hcut
    clear H0 HOK hm hm2 hbig
    have S0 := Lib.hid hsl
    have OK2 := Lib.hid hok2
    have hmc := hsl.2.1
    have ML := Lib.hid hsl.1
    clear hsl hok2
    go_wp2_with fail
    refine (newmains wc).mono ?_
    rintro e w2 ⟨rfl, p2, b2, z2⟩
    have NW := Lib.hid (new_any 64 wc.heap.size _ (by decide) (by decide) w2 p2)
    have P2 := Lib.hid p2
    have B2 := Lib.hid (B1.out.trans (b2.mono hs1))
    have hs2 := b2.size
    have hp2 := p2.lt
    clear p2 b2 z2
    go_wp2_with fail
    refine NW.out.mono ?_
    rintro e w3 ⟨rfl, d3, b3⟩
    have P3 := Lib.hid (P2.out.only (Only.of_below (S := []) b3) (by simp))
    have D3 := Lib.hid d3
    have B3 := Lib.hid (B2.out.trans (b3.mono (by omega)))
    have hd3 := d3.head.lt
    have hb3 := d3.body.lt
    have hs3 := b3.size
    clear d3 b3 NW P2 B2
    obtain ⟨bm, hbm⟩ : ∃ g, g = wc.heap.size := ⟨_, rfl⟩
    obtain ⟨bs, hbs⟩ : ∃ g, g = w2.heap.size := ⟨_, rfl⟩
    obtain ⟨bd, hbd⟩ : ∃ g, g = bs + 1 := ⟨_, rfl⟩
    rw [← hbm] at P3 D3 hp2 hs2 hs1 ⊢
    rw [← hbs] at D3 hd3 hb3 hp2 hs2 hs3 ⊢
    rw [← hbd] at D3 hd3 ⊢
    have hbsd : bs < bd := by omega
    clear hbs hbd hbm
    go_wp2_with (first | (refine wpList_make_flat (f := Cel.cells) (x := Cel.zero) rfl 22 37 _ _ rfl _ 17 20 Try.underlying22 zcel rfl rfl (by decide) .i64 .i64 64 rfl rfl (by decide) (by decide) ?_; rw [show List.replicate 64 Cel.zero = zrep from rfl]))
    obtain ⟨w4, hw4⟩ : ∃ w4, w4 = w3.alloc (.cells (flat Cel.cells zrep).toArray 37) := ⟨_, rfl⟩
    have b4 : Below w3.heap.size w3 w4 := hw4 ▸ (Below.refl _ _).alloc (Nat.le_refl _) _
    have A4 := Lib.hid (show Sl w4 Cel.cells 17 (some ⟨w3.heap.size, 0, none⟩) 64 64 zrep from sl_blk (hw4 ▸ blk_new w3 _ _ : Blk w4 w3.heap.size (flat Cel.cells zrep) 37) (fun x hx => by rw [List.eq_of_mem_replicate hx]; rfl) rfl (Nat.le_refl _) (by decide))
    have P4 := Lib.hid (P3.out.only (Only.of_below (S := []) b4) (by simp))
    have D4 := Lib.hid (D3.out.only (Only.of_below (S := []) b4) (by simp) (by simp))
    have B4 := Lib.hid (B3.out.trans (b4.mono (by omega)))
    have hs4 : w3.heap.size < w4.heap.size := by rw [hw4]; simp
    have hg : ∃ go, go = w3.heap.size := ⟨_, rfl⟩
    obtain ⟨go, hgo⟩ := hg
    rw [← hw4]
    rw [← hgo] at A4 hd3 hb3 hs3 hs4 ⊢
    clear hw4 b4 P3 D3 B3 hgo
    have W5 := Lib.hid (write_at D4.out P4.out (pok (by decide) (by decide)) 0 0 rfl _ 64 64 0 0 rfl zrep A4.out (fun x hx => by rw [List.eq_of_mem_replicate hx]; exact Cel.zero_ok) (by decide) (by decide) (fun b o e _ => by cases e; simp; omega) rfl _ _ _ (wrs_free zrep 0 0 _) 64 0 rfl rfl)
    refine W5.out.mono ?_
    rintro e w5 ⟨rfl, p5, d5, o5⟩
    have P5 := Lib.hid p5
    have D5 := Lib.hid d5
    have A5 := Lib.hid (A4.out.only o5 (fun b o e _ => by cases e; simp; omega))
    have B5 := Lib.hid (B4.out.trans (o5.below (by omega) (by simp; omega)))
    have hs5 := o5.size
    clear p5 d5 o5 W5 A4 P4 D4 B4
    have C6 := Lib.hid (cut_on P5.out q (q : Int) rfl (by omega))
    go_wp2_with fail
    refine C6.out.mono ?_
    rintro e w6 ⟨rfl, p6, o6⟩
    have P6 := Lib.hid p6
    have D6 := Lib.hid (D5.out.only o6 (by have := D5.out.ne1; simpa using this) (by have := D5.out.ne2; simpa using this))
    have B6 := Lib.hid (B5.out.trans (o6.below (by omega) (by simp; omega)))
    have A6 := Lib.hid (A5.out.only o6 (fun b o e _ => by cases e; simp; omega))
    have S6 := Lib.hid (S0.out.below B6.out (Nat.le_refl _))
    have S6L := Lib.hid (show ∀ b o, a2 = some ⟨b, o, none⟩ → m ≠ 0 → b < w.heap.size from fun b o e h0 => S0.out.lt (by decide) e h0)
    have hs6 := o6.size
    clear p6 o6 C6 A5 B5 D5 P5
    by_cases hqm : q < m
    · have hqi : (q : Int) < (m : Int) := by omega
      have W7 := Lib.hid (write_at D6.out P6.out (pok (by omega) (by decide)) 0 0 rfl _ m c2 0 0 rfl l2 S6.out OK2.out (by omega) (show 64 + m ≤ _ by omega) (fun b o e h0 => by have hb := S6L.out b o e h0; simp; omega) rfl q ⟨true, 0, 64 + q⟩ (over 0 (l2.take q) (over 0 zrep (List.replicate 64 Sec.zero))) (wrs_cut l2 0 q 64 _ (by rw [ML.out]; exact hqm)) (q : Nat) 4 rfl (by simp [wErr, show ¬ q = m by omega]))
      go_wp2_with fail
      refine W7.out.mono ?_
      rintro e w7 ⟨rfl, p7, d7, o7⟩
      have R8 := Lib.hid (restore_any bm _ _ p7)
      have D7 := Lib.hid d7
      have B7 := Lib.hid (B6.out.trans (o7.below (by omega) (by simp; omega)))
      have A7 := Lib.hid (A6.out.only o7 (fun b o e _ => by cases e; simp; omega))
      have S7 := Lib.hid (S6.out.only o7 (fun b o e h0 => by have hb := S6L.out b o e h0; simp; omega))
      have hs7 := o7.size
      clear p7 d7 o7 W7 A6 B6 D6 P6 S6
      go_wp2_with fail
      refine R8.out.mono ?_
      rintro e w8 ⟨rfl, p8, o8⟩
      have P8 := Lib.hid p8
      have D8 := Lib.hid (D7.out.only o8 (by have := D7.out.ne1; simpa using this) (by have := D7.out.ne2; simpa using this))
      have B8 := Lib.hid (B7.out.trans (o8.below (by omega) (by simp; omega)))
      have A8 := Lib.hid (A7.out.only o8 (fun b o e _ => by cases e; simp; omega))
      have S8 := Lib.hid (S7.out.only o8 (fun b o e h0 => by have hb := S6L.out b o e h0; simp; omega))
      clear p8 o8 R8 A7 B7 D7 S7
      go_wp2_with fail
      go_loopw [11] (fun j wr => ∃ i : Nat, i ≤ 64 ∧ j = .int .i64 i ∧ Below w8.heap.size w8 wr) (fun j _ => 64 - (intOf j).toNat)
      case atStart => exact ⟨0, by omega, rfl, Below.refl _ _⟩
      case round =>
        obtain ⟨i, hi, rfl, hbel⟩ := hrel
        obtain ⟨wo, rfl⟩ : ∃ wo : World, wo = wr := ⟨_, rfl⟩
        have BW := Lib.hid hbel
        have O8 := Lib.hid (Only.of_below (S := []) hbel)
        clear hbel
        by_cases hi64 : i < 64
        · have RD := Lib.hid (read_at (D8.out.only O8.out (by simp) (by simp)) (P8.out.only O8.out (by simp)) i (i : Int) rfl hi64 (if i < q then l2.getD i Cel.zero else Cel.zero) 0 (read_sec rfl (tears_read (by rw [ML.out]; omega) (by rw [ML.out]; exact hm64) hi64)) 0 rfl)
          by_cases hik : i < q
          · rw [if_pos hik] at RD
            go_wp2_with fail
            refine RD.out.mono ?_
            rintro e w9 ⟨rfl, b9⟩
            obtain ⟨x, hx⟩ : ∃ x, l2[i]? = some x := ⟨_, List.getElem?_eq_getElem (by rw [ML.out]; omega)⟩
            have hxd : l2.getD i Cel.zero = x := by rw [List.getD_eq_getElem?_getD, hx]; rfl
            have hxok := OK2.out x (List.mem_of_getElem? hx)
            rw [hxd]
            have B9 := Lib.hid b9
            have hs9 := b9.size
            have HX := Lib.hid hx
            have i0 : (0 : Int) ≤ (i : Int) := by omega
            have i1 : (i : Int) < (m : Int) := by omega
            have i2 : decide ((i : Int) < (q : Int)) = true := by simp; omega
            have i3 : decide ((q : Int) ≤ (i : Int)) = false := by simp; omega
            have i4 : decide (i < q) = true := by simp; omega
            have i5 : decide (q ≤ i) = false := by simp; omega
            clear b9 hx hxd RD
            go_wp2_with (first | (refine store_cel rfl _ _ rfl x hxok rfl rfl ?_; intro w10 z10 b10))
            have O10 := Lib.hid ((BW.out.trans (B9.out.mono (by have := BW.out.size; omega))).trans (b10.mono (by have := BW.out.size; omega)))
            have S10 := (S8.out.below O10.out (Nat.le_refl _)).at HX.out
            obtain ⟨ab, ao, rfl, hat⟩ := S10
            have HAT := Lib.hid (show ∀ j v, x.cells[j]? = some v → w10.drew.cell? ((⟨ab, ao + i * 17, none⟩ : Addr).add j) = some v from fun j v hv => by rw [Addr.add_lit]; exact hat j v hv)
            have EQ := Lib.hid (fun w' => (Cel.eq hxok hxok w'))
            rw [decide_eq_true rfl] at EQ
            have x17 := Lib.hid (Cel.len hxok)
            have Z10 := Lib.hid z10
            clear hat z10 b10
            refine wp_region_still_lit (by kernel_rfl) (by kernel_rfl) ?_
            repeat still_step
            refine wpStill_value_g rfl _ (exec_load rfl rfl Z10.out.drew Try.underlying37 rfl (by kernel_rfl) x17.out) ?_
            simp only [Act.put, List.setIfInBounds_toArray, List.set_cons_zero, List.set_cons_succ]
            repeat still_step
            refine wpStill_value_g rfl _ (exec_load_from rfl rfl HAT.out Try.underlying37 rfl (by kernel_rfl) x17.out) ?_
            simp only [Act.put, List.setIfInBounds_toArray, List.set_cons_zero, List.set_cons_succ]
            refine wpStill_value_g rfl _ (exec_neq rfl rfl rfl (by kernel_rfl) (EQ.out _)) ?_
            simp only [Act.put, List.setIfInBounds_toArray, List.set_cons_zero, List.set_cons_succ]
            still_step
            still_step
            still_step
            still_step
            still_step
            still_step
            still_step
            with_reducible refine wpStill_skip_g ?_ ?_
            · kernel_rfl
            simp only [Act.put, List.setIfInBounds_toArray, List.set_cons_zero, List.set_cons_succ]
            with_reducible refine wpStill_skip_g ?_ ?_
            · kernel_rfl
            simp only [Act.put, List.setIfInBounds_toArray, List.set_cons_zero, List.set_cons_succ]
            with_reducible refine wpStill_skip_g ?_ ?_
            · kernel_rfl
            simp only [Act.put, List.setIfInBounds_toArray, List.set_cons_zero, List.set_cons_succ]
            with_reducible refine wpStill_skip_g ?_ ?_
            · kernel_rfl
            simp only [Act.put, List.setIfInBounds_toArray, List.set_cons_zero, List.set_cons_succ]
            with_reducible refine wpStill_skip_g ?_ ?_
            · kernel_rfl
            simp only [Act.put, List.setIfInBounds_toArray, List.set_cons_zero, List.set_cons_succ]
            with_reducible refine wpStill_skip_g ?_ ?_
            · kernel_rfl
            simp only [Act.put, List.setIfInBounds_toArray, List.set_cons_zero, List.set_cons_succ]
            with_reducible refine wpStill_step ?_
            intro K hK
            go_simp
            with_reducible refine hK _ ?_
            clear hK K
            with_reducible refine wpStill_step ?_
            intro K hK
            go_simp
            with_reducible refine hK _ ?_
            clear hK K
            with_reducible refine wpStill_nil ?_
            go_wp2_with fail
            go_roundw
            case rel => exact ⟨i + 1, by omega, by go_num, O10.out.drew⟩
            case measure => simp [intOf]; omega
          · rw [if_neg hik] at RD
            go_wp2_with fail
            refine RD.out.mono ?_
            rintro e w9 ⟨rfl, b9⟩
            have hxok := Cel.zero_ok
            have B9 := Lib.hid b9
            have hs9 := b9.size
            have i0 : (0 : Int) ≤ (i : Int) := by omega
            have i1 : (i : Int) < 64 := by omega
            have i2 : decide ((i : Int) < (q : Int)) = false := by simp; omega
            have i3 : decide ((q : Int) ≤ (i : Int)) = true := by simp; omega
            have i4 : decide (i < q) = false := by simp; omega
            have i5 : decide (q ≤ i) = true := by simp; omega
            clear b9 RD
            go_wp2_with (first | (refine store_cel rfl _ _ rfl Cel.zero hxok rfl rfl ?_; intro w10 z10 b10))
            have O10 := Lib.hid ((BW.out.trans (B9.out.mono (by have := BW.out.size; omega))).trans (b10.mono (by have := BW.out.size; omega)))
            have S10 := (A8.out.below O10.out (Nat.le_refl _)).at (zrep_get hi64)
            obtain ⟨ab, ao, ea, hat⟩ := S10
            cases ea
            have HAT := Lib.hid (show ∀ j v, Cel.zero.cells[j]? = some v → w10.drew.cell? ((⟨go, i * 17, none⟩ : Addr).add j) = some v from fun j v hv => by rw [Addr.add_lit]; have h0 := hat j v hv; rw [Nat.zero_add] at h0; exact h0)
            have EQ := Lib.hid (fun w' => (Cel.eq hxok hxok w'))
            rw [decide_eq_true rfl] at EQ
            have x17 := Lib.hid (Cel.len hxok)
            have Z10 := Lib.hid z10
            clear hat z10 b10
            refine wp_region_still_lit (by kernel_rfl) (by kernel_rfl) ?_
            with_reducible refine wpStill_step ?_
            intro K hK
            go_simp
            with_reducible refine hK _ ?_
            clear hK K
            with_reducible refine wpStill_step ?_
            intro K hK
            go_simp
            with_reducible refine hK _ ?_
            clear hK K
            with_reducible refine wpStill_step ?_
            intro K hK
            go_simp
            with_reducible refine hK _ ?_
            clear hK K
            with_reducible refine wpStill_step ?_
            intro K hK
            go_simp
            with_reducible refine hK _ ?_
            clear hK K
            with_reducible refine wpStill_step ?_
            intro K hK
            go_simp
            with_reducible refine hK _ ?_
            clear hK K
            with_reducible refine wpStill_step ?_
            intro K hK
            go_simp
            with_reducible refine hK _ ?_
            clear hK K
            with_reducible refine wpStill_step ?_
            intro K hK
            go_simp
            with_reducible refine hK _ ?_
            clear hK K
            with_reducible refine wpStill_skip_g ?_ ?_
            · kernel_rfl
            simp only [Act.put, List.setIfInBounds_toArray, List.set_cons_zero, List.set_cons_succ]
            with_reducible refine wpStill_skip_g ?_ ?_
            · kernel_rfl
            simp only [Act.put, List.setIfInBounds_toArray, List.set_cons_zero, List.set_cons_succ]
            with_reducible refine wpStill_skip_g ?_ ?_
            · kernel_rfl
            simp only [Act.put, List.setIfInBounds_toArray, List.set_cons_zero, List.set_cons_succ]
            with_reducible refine wpStill_skip_g ?_ ?_
            · kernel_rfl
            simp only [Act.put, List.setIfInBounds_toArray, List.set_cons_zero, List.set_cons_succ]
            with_reducible refine wpStill_skip_g ?_ ?_
            · kernel_rfl
            simp only [Act.put, List.setIfInBounds_toArray, List.set_cons_zero, List.set_cons_succ]
            with_reducible refine wpStill_skip_g ?_ ?_
            · kernel_rfl
            simp only [Act.put, List.setIfInBounds_toArray, List.set_cons_zero, List.set_cons_succ]
            with_reducible refine wpStill_step ?_
            intro K hK
            go_simp
            with_reducible refine hK _ ?_
            clear hK K
            with_reducible refine wpStill_step ?_
            intro K hK
            go_simp
            with_reducible refine hK _ ?_
            clear hK K
            with_reducible refine wpStill_step ?_
            intro K hK
            go_simp
            with_reducible refine hK _ ?_
            clear hK K
            with_reducible refine wpStill_step ?_
            intro K hK
            go_simp
            with_reducible refine hK _ ?_
            clear hK K
            with_reducible refine wpStill_step ?_
            intro K hK
            go_simp
            with_reducible refine hK _ ?_
            clear hK K
            with_reducible refine wpStill_step ?_
            intro K hK
            go_simp
            with_reducible refine hK _ ?_
            clear hK K
            with_reducible refine wpStill_step ?_
            intro K hK
            go_simp
            with_reducible refine hK _ ?_
            clear hK K
            refine wpStill_value_g rfl _ (exec_load rfl rfl Z10.out.drew Try.underlying37 rfl (by kernel_rfl) x17.out) ?_
            simp only [Act.put, List.setIfInBounds_toArray, List.set_cons_zero, List.set_cons_succ]
            with_reducible refine wpStill_step ?_
            intro K hK
            go_simp
            with_reducible refine hK _ ?_
            clear hK K
            with_reducible refine wpStill_step ?_
            intro K hK
            go_simp
            with_reducible refine hK _ ?_
            clear hK K
            with_reducible refine wpStill_step ?_
            intro K hK
            go_simp
            with_reducible refine hK _ ?_
            clear hK K
            refine wpStill_value_g rfl _ (exec_load_from rfl rfl HAT.out Try.underlying37 rfl (by kernel_rfl) x17.out) ?_
            simp only [Act.put, List.setIfInBounds_toArray, List.set_cons_zero, List.set_cons_succ]
            refine wpStill_value_g rfl _ (exec_neq rfl rfl rfl (by kernel_rfl) (EQ.out _)) ?_
            simp only [Act.put, List.setIfInBounds_toArray, List.set_cons_zero, List.set_cons_succ]
            with_reducible refine wpStill_step ?_
            intro K hK
            go_simp
            with_reducible refine hK _ ?_
            clear hK K
            with_reducible refine wpStill_step ?_
            intro K hK
            go_simp
            with_reducible refine hK _ ?_
            clear hK K
            with_reducible refine wpStill_nil ?_
            go_wp2_with fail
            go_roundw
            case rel => exact ⟨i + 1, by omega, by go_num, O10.out.drew⟩
            case measure => simp [intOf]; omega
        · obtain rfl : i = 64 := by omega
          have hs8 := BW.out.size
          go_wp2_with fail
          go_ret
          exact ⟨rfl, B8.out.trans (BW.out.mono (by have := B8.out.size; omega))⟩
    · have hqi : ¬ (q : Int) < (m : Int) := by omega
      have W7 := Lib.hid (write_at D6.out P6.out (pok (by omega) (by decide)) 0 0 rfl _ m c2 0 0 rfl l2 S6.out OK2.out (by omega) (show 64 + m ≤ _ by omega) (fun b o e h0 => by have hb := S6L.out b o e h0; simp; omega) rfl m ⟨false, q + 1 - m, 64 + m⟩ (over 0 (l2.take m) (over 0 zrep (List.replicate 64 Sec.zero))) (show wrs 0 l2 ⟨false, q + 1, 64⟩ (over 0 zrep (List.replicate 64 Sec.zero)) = (m, ⟨false, q + 1 - m, 64 + m⟩, over 0 (l2.take m) (over 0 zrep (List.replicate 64 Sec.zero))) by rw [wrs_all l2 0 (q + 1) 64 _ (by rw [ML.out]; omega), ML.out, List.take_of_length_le (by rw [ML.out]; exact Nat.le_refl _)]) (m : Nat) 0 rfl (by simp [wErr]))
      go_wp2_with fail
      refine W7.out.mono ?_
      rintro e w7 ⟨rfl, p7, d7, o7⟩
      have R8 := Lib.hid (restore_any bm _ _ p7)
      have D7 := Lib.hid d7
      have B7 := Lib.hid (B6.out.trans (o7.below (by omega) (by simp; omega)))
      have A7 := Lib.hid (A6.out.only o7 (fun b o e _ => by cases e; simp; omega))
      have S7 := Lib.hid (S6.out.only o7 (fun b o e h0 => by have hb := S6L.out b o e h0; simp; omega))
      have hs7 := o7.size
      clear p7 d7 o7 W7 A6 B6 D6 P6 S6
      go_wp2_with fail
      refine R8.out.mono ?_
      rintro e w8 ⟨rfl, p8, o8⟩
      have P8 := Lib.hid p8
      have D8 := Lib.hid (D7.out.only o8 (by have := D7.out.ne1; simpa using this) (by have := D7.out.ne2; simpa using this))
      have B8 := Lib.hid (B7.out.trans (o8.below (by omega) (by simp; omega)))
      have A8 := Lib.hid (A7.out.only o8 (fun b o e _ => by cases e; simp; omega))
      have S8 := Lib.hid (S7.out.only o8 (fun b o e h0 => by have hb := S6L.out b o e h0; simp; omega))
      clear p8 o8 R8 A7 B7 D7 S7
      go_wp2_with fail
      go_loopw [11] (fun j wr => ∃ i : Nat, i ≤ 64 ∧ j = .int .i64 i ∧ Below w8.heap.size w8 wr) (fun j _ => 64 - (intOf j).toNat)
      case atStart => exact ⟨0, by omega, rfl, Below.refl _ _⟩
      case round =>
        obtain ⟨i, hi, rfl, hbel⟩ := hrel
        obtain ⟨wo, rfl⟩ : ∃ wo : World, wo = wr := ⟨_, rfl⟩
        have BW := Lib.hid hbel
        have O8 := Lib.hid (Only.of_below (S := []) hbel)
        clear hbel
        by_cases hi64 : i < 64
        · have RD := Lib.hid (read_at (D8.out.only O8.out (by simp) (by simp)) (P8.out.only O8.out (by simp)) i (i : Int) rfl hi64 (if i < m then l2.getD i Cel.zero else Cel.zero) 0 (read_sec rfl (tears_read (by rw [ML.out]; omega) (by rw [ML.out]; exact hm64) hi64)) 0 rfl)
          by_cases hik : i < m
          · rw [if_pos hik] at RD
            go_wp2_with fail
            refine RD.out.mono ?_
            rintro e w9 ⟨rfl, b9⟩
            obtain ⟨x, hx⟩ : ∃ x, l2[i]? = some x := ⟨_, List.getElem?_eq_getElem (by rw [ML.out]; omega)⟩
            have hxd : l2.getD i Cel.zero = x := by rw [List.getD_eq_getElem?_getD, hx]; rfl
            have hxok := OK2.out x (List.mem_of_getElem? hx)
            rw [hxd]
            have B9 := Lib.hid b9
            have hs9 := b9.size
            have HX := Lib.hid hx
            have i0 : (0 : Int) ≤ (i : Int) := by omega
            have i1 : (i : Int) < (m : Int) := by omega
            have i2 : decide ((i : Int) < (m : Int)) = true := by simp; omega
            have i3 : decide ((m : Int) ≤ (i : Int)) = false := by simp; omega
            have i4 : decide (i < m) = true := by simp; omega
            have i5 : decide (m ≤ i) = false := by simp; omega
            clear b9 hx hxd RD
            go_wp2_with (first | (refine store_cel rfl _ _ rfl x hxok rfl rfl ?_; intro w10 z10 b10))
            have O10 := Lib.hid ((BW.out.trans (B9.out.mono (by have := BW.out.size; omega))).trans (b10.mono (by have := BW.out.size; omega)))
            have S10 := (S8.out.below O10.out (Nat.le_refl _)).at HX.out
            obtain ⟨ab, ao, rfl, hat⟩ := S10
            have HAT := Lib.hid (show ∀ j v, x.cells[j]? = some v → w10.drew.cell? ((⟨ab, ao + i * 17, none⟩ : Addr).add j) = some v from fun j v hv => by rw [Addr.add_lit]; exact hat j v hv)
            have EQ := Lib.hid (fun w' => (Cel.eq hxok hxok w'))
            rw [decide_eq_true rfl] at EQ
            have x17 := Lib.hid (Cel.len hxok)
            have Z10 := Lib.hid z10
            clear hat z10 b10
            refine wp_region_still_lit (by kernel_rfl) (by kernel_rfl) ?_
            repeat still_step
            refine wpStill_value_g rfl _ (exec_load rfl rfl Z10.out.drew Try.underlying37 rfl (by kernel_rfl) x17.out) ?_
            simp only [Act.put, List.setIfInBounds_toArray, List.set_cons_zero, List.set_cons_succ]
            repeat still_step
            refine wpStill_value_g rfl _ (exec_load_from rfl rfl HAT.out Try.underlying37 rfl (by kernel_rfl) x17.out) ?_
            simp only [Act.put, List.setIfInBounds_toArray, List.set_cons_zero, List.set_cons_succ]
            refine wpStill_value_g rfl _ (exec_neq rfl rfl rfl (by kernel_rfl) (EQ.out _)) ?_
            simp only [Act.put, List.setIfInBounds_toArray, List.set_cons_zero, List.set_cons_succ]
            still_step
            still_step
            still_step
            still_step
            still_step
            still_step
            still_step
            with_reducible refine wpStill_skip_g ?_ ?_
            · kernel_rfl
            simp only [Act.put, List.setIfInBounds_toArray, List.set_cons_zero, List.set_cons_succ]
            with_reducible refine wpStill_skip_g ?_ ?_
            · kernel_rfl
            simp only [Act.put, List.setIfInBounds_toArray, List.set_cons_zero, List.set_cons_succ]
            with_reducible refine wpStill_skip_g ?_ ?_
            · kernel_rfl
            simp only [Act.put, List.setIfInBounds_toArray, List.set_cons_zero, List.set_cons_succ]
            with_reducible refine wpStill_skip_g ?_ ?_
            · kernel_rfl
            simp only [Act.put, List.setIfInBounds_toArray, List.set_cons_zero, List.set_cons_succ]
            with_reducible refine wpStill_skip_g ?_ ?_
            · kernel_rfl
            simp only [Act.put, List.setIfInBounds_toArray, List.set_cons_zero, List.set_cons_succ]
            with_reducible refine wpStill_skip_g ?_ ?_
            · kernel_rfl
            simp only [Act.put, List.setIfInBounds_toArray, List.set_cons_zero, List.set_cons_succ]
            with_reducible refine wpStill_step ?_
            intro K hK
            go_simp
            with_reducible refine hK _ ?_
            clear hK K
            with_reducible refine wpStill_step ?_
            intro K hK
            go_simp
            with_reducible refine hK _ ?_
            clear hK K
            with_reducible refine wpStill_nil ?_
            go_wp2_with fail
            go_roundw
            case rel => exact ⟨i + 1, by omega, by go_num, O10.out.drew⟩
            case measure => simp [intOf]; omega
          · rw [if_neg hik] at RD
            go_wp2_with fail
            refine RD.out.mono ?_
            rintro e w9 ⟨rfl, b9⟩
            have hxok := Cel.zero_ok
            have B9 := Lib.hid b9
            have hs9 := b9.size
            have i0 : (0 : Int) ≤ (i : Int) := by omega
            have i1 : (i : Int) < 64 := by omega
            have i2 : decide ((i : Int) < (m : Int)) = false := by simp; omega
            have i3 : decide ((m : Int) ≤ (i : Int)) = true := by simp; omega
            have i4 : decide (i < m) = false := by simp; omega
            have i5 : decide (m ≤ i) = true := by simp; omega
            clear b9 RD
            go_wp2_with (first | (refine store_cel rfl _ _ rfl Cel.zero hxok rfl rfl ?_; intro w10 z10 b10))
            have O10 := Lib.hid ((BW.out.trans (B9.out.mono (by have := BW.out.size; omega))).trans (b10.mono (by have := BW.out.size; omega)))
            have S10 := (A8.out.below O10.out (Nat.le_refl _)).at (zrep_get hi64)
            obtain ⟨ab, ao, ea, hat⟩ := S10
            cases ea
            have HAT := Lib.hid (show ∀ j v, Cel.zero.cells[j]? = some v → w10.drew.cell? ((⟨go, i * 17, none⟩ : Addr).add j) = some v from fun j v hv => by rw [Addr.add_lit]; have h0 := hat j v hv; rw [Nat.zero_add] at h0; exact h0)
            have EQ := Lib.hid (fun w' => (Cel.eq hxok hxok w'))
            rw [decide_eq_true rfl] at EQ
            have x17 := Lib.hid (Cel.len hxok)
            have Z10 := Lib.hid z10
            clear hat z10 b10
            refine wp_region_still_lit (by kernel_rfl) (by kernel_rfl) ?_
            with_reducible refine wpStill_step ?_
            intro K hK
            go_simp
            with_reducible refine hK _ ?_
            clear hK K
            with_reducible refine wpStill_step ?_
            intro K hK
            go_simp
            with_reducible refine hK _ ?_
            clear hK K
            with_reducible refine wpStill_step ?_
            intro K hK
            go_simp
            with_reducible refine hK _ ?_
            clear hK K
            with_reducible refine wpStill_step ?_
            intro K hK
            go_simp
            with_reducible refine hK _ ?_
            clear hK K
            with_reducible refine wpStill_step ?_
            intro K hK
            go_simp
            with_reducible refine hK _ ?_
            clear hK K
            with_reducible refine wpStill_step ?_
            intro K hK
            go_simp
            with_reducible refine hK _ ?_
            clear hK K
            with_reducible refine wpStill_step ?_
            intro K hK
            go_simp
            with_reducible refine hK _ ?_
            clear hK K
            with_reducible refine wpStill_skip_g ?_ ?_
            · kernel_rfl
            simp only [Act.put, List.setIfInBounds_toArray, List.set_cons_zero, List.set_cons_succ]
            with_reducible refine wpStill_skip_g ?_ ?_
            · kernel_rfl
            simp only [Act.put, List.setIfInBounds_toArray, List.set_cons_zero, List.set_cons_succ]
            with_reducible refine wpStill_skip_g ?_ ?_
            · kernel_rfl
            simp only [Act.put, List.setIfInBounds_toArray, List.set_cons_zero, List.set_cons_succ]
            with_reducible refine wpStill_skip_g ?_ ?_
            · kernel_rfl
            simp only [Act.put, List.setIfInBounds_toArray, List.set_cons_zero, List.set_cons_succ]
            with_reducible refine wpStill_skip_g ?_ ?_
            · kernel_rfl
            simp only [Act.put, List.setIfInBounds_toArray, List.set_cons_zero, List.set_cons_succ]
            with_reducible refine wpStill_skip_g ?_ ?_
            · kernel_rfl
            simp only [Act.put, List.setIfInBounds_toArray, List.set_cons_zero, List.set_cons_succ]
            with_reducible refine wpStill_step ?_
            intro K hK
            go_simp
            with_reducible refine hK _ ?_
            clear hK K
            with_reducible refine wpStill_step ?_
            intro K hK
            go_simp
            with_reducible refine hK _ ?_
            clear hK K
            with_reducible refine wpStill_step ?_
            intro K hK
            go_simp
            with_reducible refine hK _ ?_
            clear hK K
            with_reducible refine wpStill_step ?_
            intro K hK
            go_simp
            with_reducible refine hK _ ?_
            clear hK K
            with_reducible refine wpStill_step ?_
            intro K hK
            go_simp
            with_reducible refine hK _ ?_
            clear hK K
            with_reducible refine wpStill_step ?_
            intro K hK
            go_simp
            with_reducible refine hK _ ?_
            clear hK K
            with_reducible refine wpStill_step ?_
            intro K hK
            go_simp
            with_reducible refine hK _ ?_
            clear hK K
            refine wpStill_value_g rfl _ (exec_load rfl rfl Z10.out.drew Try.underlying37 rfl (by kernel_rfl) x17.out) ?_
            simp only [Act.put, List.setIfInBounds_toArray, List.set_cons_zero, List.set_cons_succ]
            with_reducible refine wpStill_step ?_
            intro K hK
            go_simp
            with_reducible refine hK _ ?_
            clear hK K
            with_reducible refine wpStill_step ?_
            intro K hK
            go_simp
            with_reducible refine hK _ ?_
            clear hK K
            with_reducible refine wpStill_step ?_
            intro K hK
            go_simp
            with_reducible refine hK _ ?_
            clear hK K
            refine wpStill_value_g rfl _ (exec_load_from rfl rfl HAT.out Try.underlying37 rfl (by kernel_rfl) x17.out) ?_
            simp only [Act.put, List.setIfInBounds_toArray, List.set_cons_zero, List.set_cons_succ]
            refine wpStill_value_g rfl _ (exec_neq rfl rfl rfl (by kernel_rfl) (EQ.out _)) ?_
            simp only [Act.put, List.setIfInBounds_toArray, List.set_cons_zero, List.set_cons_succ]
            with_reducible refine wpStill_step ?_
            intro K hK
            go_simp
            with_reducible refine hK _ ?_
            clear hK K
            with_reducible refine wpStill_step ?_
            intro K hK
            go_simp
            with_reducible refine hK _ ?_
            clear hK K
            with_reducible refine wpStill_nil ?_
            go_wp2_with fail
            go_roundw
            case rel => exact ⟨i + 1, by omega, by go_num, O10.out.drew⟩
            case measure => simp [intOf]; omega
        · obtain rfl : i = 64 := by omega
          have hs8 := BW.out.size
          go_wp2_with fail
          go_ret
          exact ⟨rfl, B8.out.trans (BW.out.mono (by have := B8.out.size; omega))⟩
section
variable {H : Type} {enc : TypeId × Value → H} {base : Nat} {spare : Nat → Bool} {held : Bool} {W : World}
theorem tears_in (a : Option Addr) (n ca : Nat) (lf : Opens.LfOk enc Try.prog W base spare held (.slice 37) (.slice a n ca)) (q : Int) (hq : (Lit.int .u8 q).wf = true) :
    Calls Try.prog 3 #[.slice a n ca, .int .u8 q] W fun e w' => e = .returned (.bool true) ∧ Below W.heap.size W w' := by
  obtain ⟨l, hs, hok, hr⟩ := cels_in lf
  obtain ⟨b, rfl⟩ := Opens.wf_u8 hq
  exact tears_walk a n ca l b.toNat b.toNat_lt W hs hok (by
    rw [show Try.prog.bytesOf 37 = 20 from by kernel_rfl] at hr
    have : reachBytes = 140737488351232 := by rfl
    omega)
end
end Go.Proofs.Ytnjcepjhllgccaa.Disk
