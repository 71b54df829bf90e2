/-
  The walk of the statement on hurt and turned sectors. Helper text; no statement is proved here.
-/
import Derived.Test.YtnjcepjhllgccaaDisk6F
set_option linter.unusedVariables false
set_option linter.unusedSimpArgs false
namespace Go.Proofs.Ytnjcepjhllgccaa.Disk
open Go.RowKit Go.Proofs.Ytnjcepjhllgccaa.Base Go.Proofs.Ytnjcepjhllgccaa.Laws Go.Proofs.Ytnjcepjhllgccaa.Flat Go.Proofs.Ytnjcepjhllgccaa.InvM
section
variable {bd bm bs n : Nat} {D : Dsk} {w : World} {p : Pow}
set_option maxRecDepth 8000 in
theorem turn_bad (h : DiskAt w bd bm bs n D) (i k : Nat) (c : Cel) (hs : D.secs[i]? = some ⟨c, false⟩) (h2 : D.dead = false) (hk : k < 128) : Calls Try.prog 20 #[.pointer (some ⟨bd, 0, none⟩), .int .i64 (i : Int), .int .i64 (k : Int)] w fun e w' => e = .returned (.int .i64 7) ∧ w = w' := by
  have hi : i < n := by rw [← h.len]; exact (List.getElem?_eq_some_iff.1 hs).1
  have hn := h.hi
  have IN := Lib.hid (in_yes h i hi)
  have c1 := h.c1
  have c3 := h.c3
  have cg := h.good hs
  rw [h2] at c3
  have i0 : (0 : Int) ≤ (i : Int) := by omega
  have i1 : (i : Int) < (n : Int) := by omega
  have k0 : (0 : Int) ≤ (k : Int) := by omega
  have k1 : (k : Int) < 128 := by omega
  clear h hs h2
  go_enter Try.func20, Try.ntmps20
  go_wp2_with (first | (go_at_call 29; refine IN.out.mono ?_; rintro e w' ⟨rfl, rfl⟩))
  go_ret
  exact ⟨rfl, rfl⟩
end
/-- the sectors behind the turns and the hurt -/
def hurtS (l : List Cel) (n k : Nat) (a b c : Cel) : List Sec := (((over 0 l (List.replicate n Sec.zero)).set k ⟨a, true⟩).set k ⟨b, true⟩).set k ⟨c, false⟩
theorem first_get {l : List Cel} {n i : Nat} {x : Cel} (hl : l.length = n) (hx : l[i]? = some x) : (over 0 l (List.replicate n Sec.zero))[i]? = some ⟨x, true⟩ := by
  have := over_in l 0 i (List.replicate n Sec.zero) x (by rw [List.length_replicate]; omega) hx
  rwa [Nat.zero_add] at this
theorem hurt_get {l : List Cel} {n k i : Nat} {a b c : Cel} {x : Cel} (hl : l.length = n) (hx : l[i]? = some x) (hne : k ≠ i) : (hurtS l n k a b c)[i]? = some ⟨x, true⟩ := by
  unfold hurtS
  rw [List.getElem?_set_ne hne, List.getElem?_set_ne hne, List.getElem?_set_ne hne]
  exact first_get hl hx
theorem hurt_same {l : List Cel} {n k : Nat} {a b c : Cel} (hl : l.length = n) (hk : k < n) : (hurtS l n k a b c)[k]? = some ⟨c, false⟩ := by
  unfold hurtS
  rw [List.getElem?_set_self (by simp [over_len, hk])]
set_option maxRecDepth 100000 in
set_option maxHeartbeats 4000000 in
theorem hurts_walk (a : Option Addr) (len cap : Nat) (l : List Cel) (at_ bit : Nat) (hat_ : at_ < 256) (hbit : bit < 256) (now : Cel) (hnow : now.Ok) (w : World) (h : Sl w Cel.cells 17 a len cap l) (hok : ∀ x ∈ l, x.Ok) (hbig : len ≤ 140737488351232) :
    Calls Try.prog 6 #[.slice a len cap, .int .u8 (at_ : Int), .int .u8 (bit : Int), .agg now.cells.toArray] w fun e w' => e = .returned (.bool true) ∧ Below w.heap.size w w' := by
  have hm := h.2.1
  have hm2 := h.2.2.1
  unfold maxLen at hm2
  have H0 := Lib.hid h
  have HOK := Lib.hid hok
  have HN := Lib.hid hnow
  have n17 := Lib.hid (Cel.len hnow)
  have Z0 := Lib.hid (blk_at (w := w) (g := w.heap.size) (cs := now.cells) (t := 37) (arr := now.cells.toArray) rfl rfl)
  have t0 : (0 : Int) ≤ (at_ : Int) := by omega
  have t1 : (at_ : Int) < 256 := by omega
  have u0 : (0 : Int) ≤ (bit : Int) := by omega
  have u1 : (bit : Int) < 256 := by omega
  clear h hok hnow
  go_enter Try.func6, Try.ntmps6
  go_wp2_with fail
  refine (awake_any _).mono ?_
  rintro e w1 ⟨rfl, b1⟩
  have Z1 := Lib.hid (Z0.out.below b1 (Z0.out.lt))
  have B1 := Lib.hid (((Below.refl w.heap.size w).alloc (Nat.le_refl _) _).trans (b1.mono (by simp only [size_alloc]; omega)))
  have hs1 := B1.out.size
  have hz1 := Z1.out.lt
  clear b1 Z0
  obtain ⟨gc, hgc⟩ : ∃ g, g = w.heap.size := ⟨_, rfl⟩
  rw [← hgc]
  rw [← hgc] at Z1 hz1
  have HG := Lib.hid hgc
  clear hgc
  go_upto_if 25 with (fail)
  go_cut [0] (fun v wx => ∃ (a2 : Option Addr) (m c2 : Nat) (l2 : List Cel), v = .slice a2 m c2 ∧ m ≤ 100 ∧ Sl w Cel.cells 17 a2 m c2 l2 ∧ (∀ x ∈ l2, x.Ok) ∧ wx = w1)
  case first =>
    by_cases h64 : 100 < len
    · obtain ⟨b, o, rfl, hc⟩ := (H0.out.2.2.2.2).resolve_left (by omega)
      have HC := Lib.hid hc
      have h1 : (100 : Int) < (len : Int) := by omega
      have h2 : (100 : Int) ≤ (cap : Int) := by omega
      have h3 : ¬ cap = 0 := by omega
      clear hc
      go_wp2
      go_meet
      exact ⟨_, 100, _, l.take 100, rfl, Nat.le_refl _, H0.out.take (by omega), fun x hx => HOK.out x (List.mem_of_mem_take hx), rfl⟩
    · have h1 : ¬ (100 : Int) < (len : Int) := by omega
      go_wp2
      go_meet
      exact ⟨_, len, _, l, rfl, by omega, H0.out, HOK.out, rfl⟩
  case rest =>
    obtain ⟨a2, m, c2, l2, rfl, hm64, hsl, hok2, rfl⟩ := hcut
    clear H0 HOK hm hm2 hbig
    have S0 := Lib.hid hsl
    have OK2 := Lib.hid hok2
    have hmc := hsl.2.1
    have ML := Lib.hid hsl.1
    have S0L := Lib.hid (show ∀ b o, a2 = some ⟨b, o, none⟩ → m ≠ 0 → b < w.heap.size from fun b o e h0 => S0.out.lt (by decide) e h0)
    clear hsl hok2
    by_cases hm0 : m = 0
    · have e0 : ((m : Int) == 0) = true := by simp [hm0]
      have e1 : (m == 0) = true := by simp [hm0]
      clear hm0
      go_wp2_with fail
      go_ret
      exact ⟨rfl, B1.out⟩
    · have e0 : ((m : Int) == 0) = false := by simp; omega
      have e1 : (m == 0) = false := by simp; omega
      have hmp : 1 ≤ m := by omega
      have HM0 := Lib.hid hm0
      clear hm0
      go_wp2_with fail
      refine (newmains wc).mono ?_
      rintro e w2 ⟨rfl, p2, b2, z2⟩
      have NW := Lib.hid (new_any m wc.heap.size _ hmp (by omega) w2 p2)
      have P2 := Lib.hid p2
      have Z2 := Lib.hid (Z1.out.below b2 hz1)
      have B2 := Lib.hid (B1.out.trans (b2.mono hs1))
      have hs2 := b2.size
      have hp2 := p2.lt
      clear p2 b2 z2 Z1 B1
      go_wp2_with fail
      refine NW.out.mono ?_
      rintro e w3 ⟨rfl, d3, b3⟩
      have P3 := Lib.hid (P2.out.only (Only.of_below (S := []) b3) (by simp))
      have D3 := Lib.hid d3
      have Z3 := Lib.hid (Z2.out.below b3 (by omega))
      have B3 := Lib.hid (B2.out.trans (b3.mono (by omega)))
      have hd3 := d3.head.lt
      have hb3 := d3.body.lt
      have hs3 := b3.size
      clear d3 b3 NW P2 B2 Z2
      obtain ⟨bm, hbm⟩ : ∃ g, g = wc.heap.size := ⟨_, rfl⟩
      obtain ⟨bs, hbs⟩ : ∃ g, g = w2.heap.size := ⟨_, rfl⟩
      obtain ⟨bd, hbd⟩ : ∃ g, g = bs + 1 := ⟨_, rfl⟩
      rw [← hbm] at P3 D3 hp2 hs2 hs1 hz1
      rw [← hbs] at D3 hd3 hb3 hp2 hs2 hs3 ⊢
      rw [← hbd] at D3 hd3 ⊢
      have hbsd : bs < bd := by omega
      have hgl : gc = w.heap.size := HG.out
      have hwb : w.heap.size ≤ gc := by omega
      have hS3 := Lib.hid (S0.out.below B3.out (Nat.le_refl _))
      have W4 := Lib.hid (write_at D3.out P3.out (pok (by decide) (by decide)) 0 0 rfl a2 m c2 0 0 rfl l2 hS3.out OK2.out (by omega) (show 0 + m ≤ _ by omega) (fun b o e h0 => by have hb := S0L.out b o e h0; simp; omega) rfl m ⟨false, 0, m⟩ (over 0 l2 (List.replicate m Sec.zero)) (show wrs 0 l2 ⟨false, 0, 0⟩ (List.replicate m Sec.zero) = _ by rw [wrs_free, ML.out, Nat.zero_add]) (m : Nat) 0 rfl (by simp [wErr]))
      clear hbs hbd hbm hgl
      have KE : ∃ k, k = at_ % m := ⟨_, rfl⟩
      obtain ⟨k, hk⟩ := KE
      have hkm : k < m := by rw [hk]; exact Nat.mod_lt _ (by omega)
      have kI : (at_ : Int) % (m : Int) = (k : Int) := by rw [hk]; exact (Int.natCast_emod at_ m).symm
      obtain ⟨q, hq⟩ : ∃ q, q = bit % 128 := ⟨_, rfl⟩
      have hq128 : q < 128 := by omega
      have qI : (bit : Int) % 128 = (q : Int) := by omega
      have m0 : (0 : Int) < (m : Int) := by omega
      clear hk hq
      obtain ⟨x, hx⟩ : ∃ x, l2[k]? = some x := ⟨_, List.getElem?_eq_getElem (by rw [ML.out]; exact hkm)⟩
      have HX := Lib.hid hx
      have HXOK := Lib.hid (OK2.out x (List.mem_of_getElem? hx))
      clear hx
      go_wp2_with fail
      refine W4.out.mono ?_
      rintro e w4 ⟨rfl, p4, d4, o4⟩
      have P4 := Lib.hid p4
      have T5 := Lib.hid (turn_ok d4 k q x (first_get ML.out HX.out) rfl hq128)
      have D4 := Lib.hid d4
      have Z4 := Lib.hid (Z3.out.only o4 (by simp; omega))
      have B4 := Lib.hid (B3.out.trans (o4.below (by omega) (by simp; omega)))
      have hs4 := o4.size
      clear p4 d4 o4 W4 P3 D3 Z3 B3 hS3
      go_wp2_with fail
      refine T5.out.mono ?_
      rintro e w5 ⟨rfl, d5, o5⟩
      have P5 := Lib.hid (P4.out.only o5 (by have := d5.ne2; simp; omega))
      have RD := Lib.hid (read_at d5 P5.out k (k : Int) rfl hkm (x.turn q) 0 (read_sec rfl (by show (List.set _ _ _)[k]? = _; rw [List.getElem?_set_self (by rw [over_len, List.length_replicate]; exact hkm)])) 0 rfl)
      have D5 := Lib.hid d5
      have Z5 := Lib.hid (Z4.out.only o5 (by simp; omega))
      have B5 := Lib.hid (B4.out.trans (o5.below (by omega) (by simp; omega)))
      have hs5 := o5.size
      clear d5 o5 T5 P4 D4 Z4 B4
      go_wp2_with fail
      refine RD.out.mono ?_
      rintro e w6 ⟨rfl, b6⟩
      have P6 := Lib.hid (P5.out.only (Only.of_below (S := []) b6) (by simp))
      have D6 := Lib.hid (D5.out.only (Only.of_below (S := []) b6) (by simp) (by simp))
      have Z6 := Lib.hid (Z5.out.below b6 (by omega))
      have B6 := Lib.hid (B5.out.trans (b6.mono (by omega)))
      have hs6 := b6.size
      clear b6 RD P5 D5 Z5 B5
      have k0 : (0 : Int) ≤ (k : Int) := by omega
      have k1 : (k : Int) < (m : Int) := by omega
      have HXT := Lib.hid (Cel.turn_ok HXOK.out q)
      go_upto_region 16 with (first | (refine store_cel rfl _ _ rfl (x.turn q) HXT.out rfl rfl ?_; intro w7 z7 b7; have B7 := Lib.hid (B6.out.trans (b7.mono (by omega))); have G7 := Lib.hid (Z6.out.below b7 (by omega)); have P7 := Lib.hid (P6.out.only (Only.of_below (S := []) b7) (by simp)); have D7 := Lib.hid (D6.out.only (Only.of_below (S := []) b7) (by simp) (by simp)); have Z7 := Lib.hid z7; have hs7 := b7.size; clear z7 b7))
      have hz7 := Z7.out.lt
      obtain ⟨g14, hg14⟩ : ∃ g, g = w6.heap.size := ⟨_, rfl⟩
      rw [← hg14] at Z7 hz7 hs6 hs7 ⊢
      clear hg14 P6 D6 Z6 B6
      obtain ⟨ab, ao, ea, hat⟩ := (S0.out.below B7.out (Nat.le_refl _)).at HX.out
      subst ea
      have HAT := Lib.hid (show ∀ j v, x.cells[j]? = some v → w7.cell? ((⟨ab, ao + k * 17, none⟩ : Addr).add j) = some v from fun j v hv => by rw [Addr.add_lit]; exact hat j v hv)
      have x17 := Lib.hid (Cel.len HXOK.out)
      clear hat
      go_upto_region 17 with (first | (refine wpList_value_g rfl (.agg x.cells.toArray) (exec_load_from rfl rfl HAT.out Try.underlying37 rfl (by kernel_rfl) x17.out) ?_) | (refine store_cel rfl _ _ rfl x HXOK.out rfl rfl ?_; intro w8 z8 b8; have B8 := Lib.hid (B7.out.trans (b8.mono (by omega))); have G8 := Lib.hid (G7.out.below b8 (by omega)); have P8 := Lib.hid (P7.out.only (Only.of_below (S := []) b8) (by simp)); have D8 := Lib.hid (D7.out.only (Only.of_below (S := []) b8) (by simp) (by simp)); have V8 := Lib.hid (Z7.out.below b8 (by omega)); have Z8 := Lib.hid z8; have hs8 := b8.size; clear z8 b8))
      have hz8 := Z8.out.lt
      obtain ⟨g15, hg15⟩ : ∃ g, g = w7.heap.size := ⟨_, rfl⟩
      rw [← hg15] at Z8 hz8 hz7 hs8 ⊢
      clear hg15 P7 D7 G7 B7 Z7
      have hl16 : x.d.length = 16 := HXOK.out.1
      have hk8 : q / 8 < x.d.length := by omega
      obtain ⟨u, hu⟩ : ∃ u, x.d[q / 8]? = some u := ⟨_, List.getElem?_eq_getElem hk8⟩
      have hud : x.d.getD (q / 8) 0 = u := by rw [List.getD_eq_getElem?_getD, hu]; rfl
      have TC := Cel.turn_cells x hk8
      rw [hud] at TC
      have cb : w8.cell? ⟨g15, q / 8, none⟩ = some (.int .u8 (u.toNat : Int)) := by
        rw [Z8.out.cell]
        unfold Cel.cells
        rw [List.getElem?_append_left (by rw [bv_len]; exact hk8), bv_get, hu]
        rfl
      have fb := Z8.out.frozen (q / 8)
      have E4 := mask_j q
      obtain ⟨M, hM⟩ : ∃ M, M = mask q := ⟨_, rfl⟩
      obtain ⟨y, hy⟩ : ∃ y, y = q / 8 := ⟨_, rfl⟩
      obtain ⟨r, hr⟩ : ∃ r, r = q % 8 := ⟨_, rfl⟩
      rw [← hM, ← hr] at E4
      rw [← hM, ← hy] at TC
      rw [← hy] at cb fb
      have E6 := Lib.hid E4
      have HTC := Lib.hid TC
      have v0 : (0 : Int) ≤ (q : Int) := by omega
      have v1 : (q : Int) < 128 := by omega
      have e1 : (q : Int) / 8 = (y : Int) := by omega
      have e2 : (q : Int).tmod 8 = (r : Int) := by rw [Int.tmod_eq_emod_of_nonneg (by omega)]; omega
      have e3 : (y : Int) < 16 := by omega
      have e4 : (r : Int) < 8 := by omega
      have e5 : IntKind.i64.wrap (y : Int) = (y : Int) := Go.IntWalk.i64_in _ (by omega)
      have e6 : IntKind.i64.wrap (r : Int) = (r : Int) := Go.IntWalk.i64_in _ (by omega)
      have e7 : IntKind.u8.wrap ((2 : Int) ^ r) = (M.toNat : Int) := (show IntKind.u8.wrap ((2 : Int) ^ r) = (2 : Int) ^ r % 256 from by simp [IntKind.wrap_u8]).trans E6.out
      have e8 := xor8 u M
      clear E4 TC hl16 hk8 hu hud hM hy hr E6
      refine wp_region_still_tail 11 (by kernel_rfl) (by kernel_rfl) ?_
      simp only [List.take_succ_cons, List.take_zero, List.drop_succ_cons, List.drop_zero]
      repeat still_step
      refine wpStill_nil ?_
      clear e1 e2 e5 e6 e7
      go_upto_region 18 with (fail)
      have ex : ((u.toNat ^^^ M.toNat : Nat) : Int) = ((u ^^^ M).toNat : Int) := by rw [UInt8.toNat_xor]
      have z9 : Blk ((w8.setCell ⟨g15, y, none⟩ (.int .u8 ((u.toNat ^^^ M.toNat : Nat) : Int))).drew) g15 (x.turn q).cells 37 := by rw [HTC.out, ex]; exact Z8.out.setCell y (u8 (u ^^^ M))
      obtain ⟨w9, hw9⟩ : ∃ w9, w9 = (w8.setCell ⟨g15, y, none⟩ (.int .u8 ((u.toNat ^^^ M.toNat : Nat) : Int))).drew := ⟨_, rfl⟩
      have o9 : Only [g15] w8 w9 := hw9 ▸ ((Only.refl [g15] w8).setCell (by simp) _ _).drew
      rw [← hw9] at z9 ⊢
      clear hw9 ex
      have Z9 := Lib.hid z9
      have V9 := Lib.hid (V8.out.only o9 (by simp; omega))
      have G9 := Lib.hid (G8.out.only o9 (by simp; omega))
      have P9 := Lib.hid (P8.out.only o9 (by simp; omega))
      have D9 := Lib.hid (D8.out.only o9 (by simp; omega) (by simp; omega))
      have B9 := Lib.hid (B8.out.trans (o9.below (by omega) (by simp; omega)))
      have hs9 := o9.size
      clear z9 o9 V8 G8 P8 D8 B8 Z8 cb fb e8 HTC
      have EQ := Lib.hid (fun w' => Cel.eq HXT.out HXT.out w')
      rw [decide_eq_true rfl] at EQ
      have xt17 := Lib.hid (Cel.len HXT.out)
      have T10 := Lib.hid (turn_ok D9.out k q (x.turn q) (by show (List.set _ _ _)[k]? = _; rw [List.getElem?_set_self (by rw [over_len, List.length_replicate]; exact hkm)]) rfl hq128)
      go_wp2_with (first | (refine wpList_load_g rfl 37 _ rfl g14 17 rfl 37 (x.turn q).cells _ V9.out Try.underlying37 rfl (by kernel_rfl) xt17.out ?_) | (refine wpList_load_g rfl 37 _ rfl g15 17 rfl 37 (x.turn q).cells _ Z9.out Try.underlying37 rfl (by kernel_rfl) xt17.out ?_) | (refine wpList_value_g rfl (.bool false) (exec_neq rfl rfl rfl (by kernel_rfl) (EQ.out _)) ?_))
      refine T10.out.mono ?_
      rintro e w10 ⟨rfl, d10, o10⟩
      have H11 := Lib.hid (hurt_ok d10 k ⟨(x.turn q).turn q, true⟩ (by show (List.set _ _ _)[k]? = _; rw [List.getElem?_set_self (by rw [List.length_set, over_len, List.length_replicate]; exact hkm)]) rfl)
      have P10 := Lib.hid (P9.out.only o10 (by have := d10.ne2; simp; omega))
      have V10 := Lib.hid (V9.out.only o10 (by simp; omega))
      have G10 := Lib.hid (G9.out.only o10 (by simp; omega))
      have B10 := Lib.hid (B9.out.trans (o10.below (by omega) (by simp; omega)))
      have hs10 := o10.size
      clear d10 o10 T10 P9 D9 G9 B9 Z9 V9
      go_wp2_with fail
      refine H11.out.mono ?_
      rintro e w11 ⟨rfl, d11, o11⟩
      have D11 := Lib.hid (show DiskAt w11 bd bm bs m ⟨0, false, hurtS l2 m k (x.turn q) ((x.turn q).turn q) ((x.turn q).turn q)⟩ from d11)
      have T12 := Lib.hid (turn_bad D11.out k q ((x.turn q).turn q) (hurt_same ML.out hkm) rfl hq128)
      have P11 := Lib.hid (P10.out.only o11 (by have := d11.ne2; simp; omega))
      have V11 := Lib.hid (V10.out.only o11 (by simp; omega))
      have G11 := Lib.hid (G10.out.only o11 (by simp; omega))
      have B11 := Lib.hid (B10.out.trans (o11.below (by omega) (by simp; omega)))
      have hs11 := o11.size
      clear d11 o11 H11 P10 G10 B10 V10
      go_wp2_with fail
      refine T12.out.mono ?_
      rintro e w' ⟨rfl, rfl⟩
      clear T12
      obtain ⟨cz, hcz⟩ : ∃ cz, cz = (x.turn q).turn q := ⟨_, rfl⟩
      rw [← hcz] at D11
      clear hcz
      go_wp2_with fail
      go_loopw [16] (fun j wr => ∃ i : Nat, i ≤ m ∧ j = .int .i64 i ∧ Below w11.heap.size w11 wr) (fun j _ => m - (intOf j).toNat)
      case atStart => exact ⟨0, by omega, rfl, Below.refl _ _⟩
      case round =>
        obtain ⟨i, hi, rfl, hbel⟩ := hrel
        obtain ⟨wo, rfl⟩ : ∃ wo : World, wo = wr := ⟨_, rfl⟩
        have BW := Lib.hid hbel
        have OW := Lib.hid (Only.of_below (S := []) hbel)
        have hsw := hbel.size
        clear hbel
        have DW := Lib.hid (D11.out.only OW.out (by simp) (by simp))
        have PW := Lib.hid (P11.out.only OW.out (by simp))
        by_cases him : i < m
        · have i0 : (0 : Int) ≤ (i : Int) := by omega
          have i1 : (i : Int) < (m : Int) := by omega
          by_cases hik : i = k
          · subst hik
            have RD := Lib.hid (read_at DW.out PW.out i (i : Int) rfl him Cel.zero 7 (read_bad rfl (hurt_same ML.out hkm)) 7 rfl)
            have EZ := Lib.hid (fun w' => Cel.eq Cel.zero_ok Cel.zero_ok w')
            rw [decide_eq_true rfl] at EZ
            go_wp2_with fail
            refine RD.out.mono ?_
            rintro e w12 ⟨rfl, b12⟩
            have B12 := Lib.hid b12
            have hs12 := b12.size
            clear b12 RD
            go_wp2_with (first | (refine store_cel rfl _ _ rfl Cel.zero Cel.zero_ok rfl rfl ?_; intro w13 z13 b13))
            have O13 := Lib.hid ((BW.out.trans (B12.out.mono (by omega))).trans (b13.mono (by omega)))
            have Z13 := Lib.hid z13
            clear z13 b13
            refine wp_region_still_lit (by kernel_rfl) (by kernel_rfl) ?_
            with_reducible refine wpStill_step ?_
            intro K hK
            go_simp
            with_reducible refine hK _ ?_
            clear hK K
            with_reducible refine wpStill_step ?_
            intro K hK
            go_simp
            with_reducible refine hK _ ?_
            clear hK K
            with_reducible refine wpStill_step ?_
            intro K hK
            go_simp
            with_reducible refine hK _ ?_
            clear hK K
            with_reducible refine wpStill_step ?_
            intro K hK
            go_simp
            with_reducible refine hK _ ?_
            clear hK K
            with_reducible refine wpStill_step ?_
            intro K hK
            go_simp
            with_reducible refine hK _ ?_
            clear hK K
            with_reducible refine wpStill_step ?_
            intro K hK
            go_simp
            with_reducible refine hK _ ?_
            clear hK K
            with_reducible refine wpStill_step ?_
            intro K hK
            go_simp
            with_reducible refine hK _ ?_
            clear hK K
            refine wpStill_value_g rfl _ (exec_load rfl rfl Z13.out.drew Try.underlying37 rfl (by kernel_rfl) rfl) ?_
            simp only [Act.put, List.setIfInBounds_toArray, List.set_cons_zero, List.set_cons_succ]
            refine wpStill_value_g rfl _ (exec_built' rfl rfl zcell) ?_
            simp only [Act.put, List.setIfInBounds_toArray, List.set_cons_zero, List.set_cons_succ]
            refine wpStill_value_g rfl _ (exec_neq rfl rfl rfl (by kernel_rfl) (EZ.out _)) ?_
            simp only [Act.put, List.setIfInBounds_toArray, List.set_cons_zero, List.set_cons_succ]
            with_reducible refine wpStill_step ?_
            intro K hK
            go_simp
            with_reducible refine hK _ ?_
            clear hK K
            with_reducible refine wpStill_step ?_
            intro K hK
            go_simp
            with_reducible refine hK _ ?_
            clear hK K
            with_reducible refine wpStill_step ?_
            intro K hK
            go_simp
            with_reducible refine hK _ ?_
            clear hK K
            with_reducible refine wpStill_step ?_
            intro K hK
            go_simp
            with_reducible refine hK _ ?_
            clear hK K
            with_reducible refine wpStill_step ?_
            intro K hK
            go_simp
            with_reducible refine hK _ ?_
            clear hK K
            with_reducible refine wpStill_step ?_
            intro K hK
            go_simp
            with_reducible refine hK _ ?_
            clear hK K
            with_reducible refine wpStill_step ?_
            intro K hK
            go_simp
            with_reducible refine hK _ ?_
            clear hK K
            with_reducible refine wpStill_skip_g ?_ ?_
            · kernel_rfl
            simp only [Act.put, List.setIfInBounds_toArray, List.set_cons_zero, List.set_cons_succ]
            with_reducible refine wpStill_skip_g ?_ ?_
            · kernel_rfl
            simp only [Act.put, List.setIfInBounds_toArray, List.set_cons_zero, List.set_cons_succ]
            with_reducible refine wpStill_skip_g ?_ ?_
            · kernel_rfl
            simp only [Act.put, List.setIfInBounds_toArray, List.set_cons_zero, List.set_cons_succ]
            with_reducible refine wpStill_skip_g ?_ ?_
            · kernel_rfl
            simp only [Act.put, List.setIfInBounds_toArray, List.set_cons_zero, List.set_cons_succ]
            with_reducible refine wpStill_skip_g ?_ ?_
            · kernel_rfl
            simp only [Act.put, List.setIfInBounds_toArray, List.set_cons_zero, List.set_cons_succ]
            with_reducible refine wpStill_skip_g ?_ ?_
            · kernel_rfl
            simp only [Act.put, List.setIfInBounds_toArray, List.set_cons_zero, List.set_cons_succ]
            with_reducible refine wpStill_skip_g ?_ ?_
            · kernel_rfl
            simp only [Act.put, List.setIfInBounds_toArray, List.set_cons_zero, List.set_cons_succ]
            with_reducible refine wpStill_skip_g ?_ ?_
            · kernel_rfl
            simp only [Act.put, List.setIfInBounds_toArray, List.set_cons_zero, List.set_cons_succ]
            with_reducible refine wpStill_skip_g ?_ ?_
            · kernel_rfl
            simp only [Act.put, List.setIfInBounds_toArray, List.set_cons_zero, List.set_cons_succ]
            with_reducible refine wpStill_skip_g ?_ ?_
            · kernel_rfl
            simp only [Act.put, List.setIfInBounds_toArray, List.set_cons_zero, List.set_cons_succ]
            with_reducible refine wpStill_step ?_
            intro K hK
            go_simp
            with_reducible refine hK _ ?_
            clear hK K
            with_reducible refine wpStill_step ?_
            intro K hK
            go_simp
            with_reducible refine hK _ ?_
            clear hK K
            with_reducible refine wpStill_nil ?_
            go_wp2_with fail
            go_roundw
            case rel => exact ⟨i + 1, by omega, by go_num, O13.out.drew⟩
            case measure => simp [intOf]; omega
          · obtain ⟨y, hy⟩ : ∃ y, l2[i]? = some y := ⟨_, List.getElem?_eq_getElem (by rw [ML.out]; exact him)⟩
            have HY := Lib.hid hy
            have HYOK := Lib.hid (OK2.out y (List.mem_of_getElem? hy))
            have RD := Lib.hid (read_at DW.out PW.out i (i : Int) rfl him y 0 (read_sec rfl (hurt_get ML.out hy (Ne.symm hik))) 0 rfl)
            have EY := Lib.hid (fun w' => Cel.eq HYOK.out HYOK.out w')
            rw [decide_eq_true rfl] at EY
            have y17 := Lib.hid (Cel.len HYOK.out)
            have f1 : ((i : Int) == (k : Int)) = false := by simp; omega
            have f2 : (i == k) = false := by simp; omega
            have f3 : ((i : Int) != (k : Int)) = true := by simp; omega
            have f4 : (i != k) = true := by simp; omega
            clear hik hy
            go_wp2_with fail
            refine RD.out.mono ?_
            rintro e w12 ⟨rfl, b12⟩
            have B12 := Lib.hid b12
            have hs12 := b12.size
            clear b12 RD
            go_wp2_with (first | (refine store_cel rfl _ _ rfl y HYOK.out rfl rfl ?_; intro w13 z13 b13))
            have O13 := Lib.hid ((BW.out.trans (B12.out.mono (by omega))).trans (b13.mono (by omega)))
            have Z13 := Lib.hid z13
            clear z13 b13
            obtain ⟨ab', ao', ea, hat⟩ := (S0.out.below (B11.out.trans (O13.out.mono (by omega))) (Nat.le_refl _)).at HY.out
            cases ea
            have HAT2 := Lib.hid (show ∀ j v, y.cells[j]? = some v → w13.drew.cell? ((⟨ab, ao + i * 17, none⟩ : Addr).add j) = some v from fun j v hv => by rw [Addr.add_lit]; exact hat j v hv)
            clear hat
            refine wp_region_still_lit (by kernel_rfl) (by kernel_rfl) ?_
            with_reducible refine wpStill_step ?_
            intro K hK
            go_simp
            with_reducible refine hK _ ?_
            clear hK K
            with_reducible refine wpStill_step ?_
            intro K hK
            go_simp
            with_reducible refine hK _ ?_
            clear hK K
            with_reducible refine wpStill_step ?_
            intro K hK
            go_simp
            with_reducible refine hK _ ?_
            clear hK K
            with_reducible refine wpStill_step ?_
            intro K hK
            go_simp
            with_reducible refine hK _ ?_
            clear hK K
            with_reducible refine wpStill_skip_g ?_ ?_
            · kernel_rfl
            simp only [Act.put, List.setIfInBounds_toArray, List.set_cons_zero, List.set_cons_succ]
            with_reducible refine wpStill_skip_g ?_ ?_
            · kernel_rfl
            simp only [Act.put, List.setIfInBounds_toArray, List.set_cons_zero, List.set_cons_succ]
            with_reducible refine wpStill_skip_g ?_ ?_
            · kernel_rfl
            simp only [Act.put, List.setIfInBounds_toArray, List.set_cons_zero, List.set_cons_succ]
            with_reducible refine wpStill_skip_g ?_ ?_
            · kernel_rfl
            simp only [Act.put, List.setIfInBounds_toArray, List.set_cons_zero, List.set_cons_succ]
            with_reducible refine wpStill_skip_g ?_ ?_
            · kernel_rfl
            simp only [Act.put, List.setIfInBounds_toArray, List.set_cons_zero, List.set_cons_succ]
            with_reducible refine wpStill_skip_g ?_ ?_
            · kernel_rfl
            simp only [Act.put, List.setIfInBounds_toArray, List.set_cons_zero, List.set_cons_succ]
            with_reducible refine wpStill_skip_g ?_ ?_
            · kernel_rfl
            simp only [Act.put, List.setIfInBounds_toArray, List.set_cons_zero, List.set_cons_succ]
            with_reducible refine wpStill_step ?_
            intro K hK
            go_simp
            with_reducible refine hK _ ?_
            clear hK K
            with_reducible refine wpStill_step ?_
            intro K hK
            go_simp
            with_reducible refine hK _ ?_
            clear hK K
            with_reducible refine wpStill_step ?_
            intro K hK
            go_simp
            with_reducible refine hK _ ?_
            clear hK K
            with_reducible refine wpStill_step ?_
            intro K hK
            go_simp
            with_reducible refine hK _ ?_
            clear hK K
            with_reducible refine wpStill_step ?_
            intro K hK
            go_simp
            with_reducible refine hK _ ?_
            clear hK K
            with_reducible refine wpStill_step ?_
            intro K hK
            go_simp
            with_reducible refine hK _ ?_
            clear hK K
            with_reducible refine wpStill_step ?_
            intro K hK
            go_simp
            with_reducible refine hK _ ?_
            clear hK K
            with_reducible refine wpStill_step ?_
            intro K hK
            go_simp
            with_reducible refine hK _ ?_
            clear hK K
            with_reducible refine wpStill_step ?_
            intro K hK
            go_simp
            with_reducible refine hK _ ?_
            clear hK K
            refine wpStill_value_g rfl _ (exec_load rfl rfl Z13.out.drew Try.underlying37 rfl (by kernel_rfl) y17.out) ?_
            simp only [Act.put, List.setIfInBounds_toArray, List.set_cons_zero, List.set_cons_succ]
            with_reducible refine wpStill_step ?_
            intro K hK
            go_simp
            with_reducible refine hK _ ?_
            clear hK K
            with_reducible refine wpStill_step ?_
            intro K hK
            go_simp
            with_reducible refine hK _ ?_
            clear hK K
            with_reducible refine wpStill_step ?_
            intro K hK
            go_simp
            with_reducible refine hK _ ?_
            clear hK K
            refine wpStill_value_g rfl _ (exec_load_from rfl rfl HAT2.out Try.underlying37 rfl (by kernel_rfl) y17.out) ?_
            simp only [Act.put, List.setIfInBounds_toArray, List.set_cons_zero, List.set_cons_succ]
            refine wpStill_value_g rfl _ (exec_neq rfl rfl rfl (by kernel_rfl) (EY.out _)) ?_
            simp only [Act.put, List.setIfInBounds_toArray, List.set_cons_zero, List.set_cons_succ]
            with_reducible refine wpStill_step ?_
            intro K hK
            go_simp
            with_reducible refine hK _ ?_
            clear hK K
            with_reducible refine wpStill_step ?_
            intro K hK
            go_simp
            with_reducible refine hK _ ?_
            clear hK K
            with_reducible refine wpStill_step ?_
            intro K hK
            go_simp
            with_reducible refine hK _ ?_
            clear hK K
            with_reducible refine wpStill_nil ?_
            go_wp2_with fail
            go_roundw
            case rel => exact ⟨i + 1, by omega, by go_num, O13.out.drew⟩
            case measure => simp [intOf]; omega
        · obtain rfl : i = m := by omega
          have GW := Lib.hid (G11.out.below BW.out (by omega))
          have VW := Lib.hid (V11.out.below BW.out (by omega))
          have BB := Lib.hid (B11.out.trans (BW.out.mono (by omega)))
          have vt17 := Lib.hid (Cel.len HXT.out)
          have hg14 := VW.out.lt
          have hgcw := GW.out.lt
          have hbdw := DW.out.head.lt
          have hbsw := DW.out.body.lt
          have hbmw := PW.out.lt
          clear G11 V11 B11 D11 P11
          go_wp2_with (first | (refine wpList_load_blk rfl 37 _ rfl gc 0 17 rfl 37 now.cells _ GW.out Try.underlying37 rfl (by kernel_rfl) (by rw [n17.out]; omega) now.cells (by rw [List.drop_zero, List.take_of_length_le (by rw [n17.out]; omega)]) ?_) | (refine wpList_world_gg rfl _ (exec_build_one rfl rfl Try.underlying22 zcel n17.out (by decide) (by decide)) ?_))
          obtain ⟨w14, hw14⟩ : ∃ w14, w14 = wo.alloc (.cells now.cells.toArray 37) := ⟨_, rfl⟩
          have b14 : Below wo.heap.size wo w14 := hw14 ▸ (Below.refl _ _).alloc (Nat.le_refl _) _
          have A14 := Lib.hid (show Sl w14 Cel.cells 17 (some ⟨wo.heap.size, 0, none⟩) 1 1 [now] from sl_blk (t := 37) (by rw [flat_one]; exact hw14 ▸ blk_new wo _ _) (fun x hx => by simp at hx; subst hx; exact n17.out) rfl (Nat.le_refl _) (by decide))
          have P14 := Lib.hid (PW.out.only (Only.of_below (S := []) b14) (by simp))
          have D14 := Lib.hid (DW.out.only (Only.of_below (S := []) b14) (by simp) (by simp))
          have V14 := Lib.hid (VW.out.below b14 (by omega))
          have G14 := Lib.hid (GW.out.below b14 (by omega))
          have B14 := Lib.hid (BB.out.trans (b14.mono (by omega)))
          have hs14 : wo.heap.size < w14.heap.size := by rw [hw14]; simp
          rw [← hw14]
          clear hw14 b14 PW DW VW GW BB
          obtain ⟨ga, hga⟩ : ∃ g, g = wo.heap.size := ⟨_, rfl⟩
          rw [← hga] at A14 hs14 hg14 hgcw hbdw hbsw hbmw hsw ⊢
          clear hga
          have W15 := Lib.hid (write_at D14.out P14.out (pok (by decide) (by omega)) k (k : Int) rfl (some ⟨ga, 0, none⟩) 1 1 0 0 rfl [now] A14.out (fun x hx => by simp at hx; subst hx; exact HN.out) (by omega) (show i + 1 ≤ _ by omega) (fun b o e _ => by cases e; simp; omega) rfl 1 ⟨false, 0, i + 1⟩ ((hurtS l2 i k (x.turn q) cz cz).set k ⟨now, true⟩) (show wrs k [now] ⟨false, 0, i⟩ _ = _ from wrs_free [now] k i _) 1 0 rfl rfl)
          refine W15.out.mono ?_
          rintro e w15 ⟨rfl, p15, d15, o15⟩
          have RD := Lib.hid (read_at d15 p15 k (k : Int) rfl hkm now 0 (read_sec rfl (by show (List.set _ _ _)[k]? = _; rw [List.getElem?_set_self (by unfold hurtS; simp [over_len, hkm])])) 0 rfl)
          have V15 := Lib.hid (V14.out.only o15 (by simp; omega))
          have G15 := Lib.hid (G14.out.only o15 (by simp; omega))
          have B15 := Lib.hid (B14.out.trans (o15.below (by omega) (by simp; omega)))
          have hs15 := o15.size
          clear p15 d15 o15 W15 P14 D14 V14 G14 B14 A14
          go_wp2_with fail
          refine RD.out.mono ?_
          rintro e w16 ⟨rfl, b16⟩
          have V16 := Lib.hid (V15.out.below b16 (by omega))
          have G16 := Lib.hid (G15.out.below b16 (by omega))
          have B16 := Lib.hid (B15.out.trans (b16.mono (by omega)))
          have hs16 := b16.size
          clear b16 RD V15 G15 B15
          have EN := Lib.hid (fun w' => Cel.eq HN.out HN.out w')
          rw [decide_eq_true rfl] at EN
          have hgcl : w.heap.size ≤ gc := Nat.le_of_eq HG.out.symm
          go_upto_region 28 with (first | (refine wpList_store_blk rfl 37 _ _ rfl g14 0 17 rfl 37 (x.turn q).cells now.cells rfl V16.out (by kernel_rfl) n17.out (by rw [vt17.out]; omega) (Cel.one now) ?_; intro w17 z17 g17; rw [put_all _ now.cells (by rw [n17.out, vt17.out])] at z17; have V17 := Lib.hid z17; have G17 := Lib.hid (G16.out.grown g17 (by omega)); have B17 := Lib.hid (below_grown B16.out g17 (by omega) (by omega)); clear z17 g17))
          clear V16 G16 B16 hgcl
          go_wp2_with (first | (refine wpList_load_g rfl 37 _ rfl g14 17 rfl 37 now.cells _ V17.out Try.underlying37 rfl (by kernel_rfl) n17.out ?_) | (refine wpList_load_g rfl 37 _ rfl gc 17 rfl 37 now.cells _ G17.out Try.underlying37 rfl (by kernel_rfl) n17.out ?_) | (refine wpList_value_g rfl (.bool true) (exec_eql rfl rfl rfl (by kernel_rfl) (EN.out _)) ?_))
          go_ret
          exact ⟨rfl, B17.out⟩
section
variable {H : Type} {enc : TypeId × Value → H} {base : Nat} {spare : Nat → Bool} {held : Bool} {W : World}
theorem hurts_in (a : Option Addr) (n ca : Nat) (lf : Opens.LfOk enc Try.prog W base spare held (.slice 37) (.slice a n ca)) (q : Int) (hq : (Lit.int .u8 q).wf = true) (r : Int) (hr : (Lit.int .u8 r).wf = true) (c : List Value) (hl : c.length = 17) (h : Opens.Fits enc Try.prog W base spare held (List.replicate 16 (.int .u8) ++ [.int .u32]) c) :
    Calls Try.prog 6 #[.slice a n ca, .int .u8 q, .int .u8 r, .agg c.toArray] W fun e w' => e = .returned (.bool true) ∧ Below W.heap.size W w' := by
  obtain ⟨l, hs, hok, hr'⟩ := cels_in lf
  obtain ⟨x, rfl, hxok⟩ := cel_in hl rfl h
  obtain ⟨b, rfl⟩ := Opens.wf_u8 hq
  obtain ⟨b', rfl⟩ := Opens.wf_u8 hr
  exact hurts_walk a n ca l b.toNat b'.toNat b.toNat_lt b'.toNat_lt x hxok W hs hok (by
    rw [show Try.prog.bytesOf 37 = 20 from by kernel_rfl] at hr'
    have : reachBytes = 140737488351232 := by rfl
    omega)
end
end Go.Proofs.Ytnjcepjhllgccaa.Disk
