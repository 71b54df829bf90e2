/-
  The walk of the statement on fences. Helper text; no statement is proved here.
-/
import Derived.Test.YtnjcepjhllgccaaDisk6Tears
set_option linter.unusedVariables false
set_option linter.unusedSimpArgs false
namespace Go.Proofs.Ytnjcepjhllgccaa.Disk
open Go.RowKit Go.Proofs.Ytnjcepjhllgccaa.Base Go.Proofs.Ytnjcepjhllgccaa.Laws Go.Proofs.Ytnjcepjhllgccaa.Flat Go.Proofs.Ytnjcepjhllgccaa.InvM
/-- a slice of one whole value is built -/
theorem run_build_one {P : Program} (w : World) {t e : TypeId} {vs : List Value} {z : Value} {size bytes : Nat} (hu : P.underlying t = some (.slice e)) (hi : (P.info? e).map (fun i => (i.zero, i.size, i.bytes)) = some (some z, size, bytes)) (hl : vs.length = size) (h0 : 0 < size) (hs : size ≤ 1000) :
    (Instr.buildSlice t 1 #[(0, .agg vs.toArray)]).run P w = .ok (.slice (some ⟨w.heap.size, 0, none⟩) 1 1) (w.alloc (.cells vs.toArray e)) := by
  obtain ⟨i, hi, hz, hsz, hb⟩ := info_parts hi
  have hso : (sizeOf e).run P w = .ok size w := by simp [sizeOf, typeInfo, hi, hsz]
  have hzo : (zeroValue e).run P w = .ok z w := by simp [zeroValue, typeInfo, hi, hz]
  have hf : ∀ A : Array Value, A.size = size → Instr.fill (fun i => some (i * size, size)) A [(0, .agg vs.toArray)] = some vs.toArray := fun A hA => by
    have := fill_cons (fun i => some (i * size, size)) A.toList vs 0 0 (.agg vs.toArray) [] (by simp [hl]) rfl (by simp [hA, hl])
    rw [show A.toList.toArray = A from by simp] at this
    rw [this, put_all _ _ (by simp [hA, hl])]
    rfl
  unfold Instr.buildSlice
  have hfa := hf ((Array.range (1 * size)).map (fun x => z.cells[x % z.cells.size]!)) (by simp)
  simp only [Sem.run_bind, run_underlying hu, Result.andThen_ok, hso, Nat.one_mul, hzo] at hfa ⊢
  rw [if_neg (by omega), if_neg (by omega)]
  simp [hzo, hfa, newRow, newObj]
  rfl
theorem exec_build_one {P : Program} {ρ : Operand → Value} {w : World} {o : Oper} {t e : TypeId} {x : Operand} {vs : List Value} {z : Value} {size bytes : Nat} (ho : o.op = .buildSlice t 1 #[(0, x)]) (hx : ρ x = .agg vs.toArray) (hu : P.underlying t = some (.slice e)) (hi : (P.info? e).map (fun i => (i.zero, i.size, i.bytes)) = some (some z, size, bytes)) (hl : vs.length = size) (h0 : 0 < size) (hs : size ≤ 1000) :
    (execOp ρ o).run P w = .ok (.value (.slice (some ⟨w.heap.size, 0, none⟩) 1 1)) (w.alloc (.cells vs.toArray e)) := by
  have hm : (#[((0 : Nat), x)].map fun (i, x) => (i, ρ x)) = #[(0, .agg vs.toArray)] := by simp [hx]
  unfold execOp
  simp only [ho, hm, Sem.run_bind, run_build_one w hu hi hl h0 hs, Result.andThen_ok, Sem.run_pure]
section
variable {bd bm bs n : Nat} {D : Dsk} {w : World} {p : Pow}
theorem fence_at (h : DiskAt w bd bm bs n D) (hp : PowAt w bm p) (ep : Nat) (he : ep < 4294967296) (h1 : p.off = false) (h2 : D.dead = false) (k : Nat) (hk : max D.key ep = k) : Calls Try.prog 18 #[.pointer (some ⟨bd, 0, none⟩), .int .u32 (ep : Int)] w fun e w' => e = .returned (.int .i64 0) ∧ DiskAt w' bd bm bs n ⟨k, D.dead, D.secs⟩ ∧ Only [bd] w w' := by
  subst hk
  exact fence_ok h hp ep he h1 h2
theorem write_no_at (h : DiskAt w bd bm bs n D) (hp : PowAt w bm p) (i : Nat) (iv : Int) (hiv : iv = (i : Int)) (a : Option Addr) (m c ep : Nat) (hi : i + m ≤ n) (hmc : m ≤ c) (f : Nat) (hr : D.refuse p ep = f) (hf : f ≠ 0) (fv : Int) (hfv : fv = f) : Calls Try.prog 11 #[.pointer (some ⟨bd, 0, none⟩), .int .i64 iv, .slice a m c, .int .u32 (ep : Int)] w fun e w' => e = .returned (.tuple #[.int .i64 0, .int .i64 fv]) ∧ w = w' := by
  subst hiv
  subst hr
  subst hfv
  exact write_no h hp i a m c ep hi hmc hf
end
set_option maxRecDepth 100000 in
set_option maxHeartbeats 2000000 in
theorem fences_walk (f lo ep : Nat) (hf : f < 4294967296) (hlo : lo < 4294967296) (hep : ep < 4294967296) (c : Cel) (hc : c.Ok) (K : Nat) (hK : max f lo = K) (w : World) :
    Calls Try.prog 5 #[.int .u32 (f : Int), .int .u32 (lo : Int), .int .u32 (ep : Int), .agg c.cells.toArray] w fun e w' => e = .returned (.bool true) ∧ Below w.heap.size w w' := by
  have hc17 := Lib.hid (Cel.len hc)
  have HC := Lib.hid hc
  have HK := Lib.hid hK
  have k1 : decide (K < f) = false := by simp; omega
  have k2 : decide (K < lo) = false := by simp; omega
  have hKlt : K < 4294967296 := by omega
  have hor : K = f ∨ (K ≠ f ∧ K = lo) := by omega
  have HOR := Lib.hid hor
  have Z0 := Lib.hid (blk_at (w := w) (g := w.heap.size) (cs := c.cells) (t := 37) (arr := c.cells.toArray) rfl rfl)
  clear hc hK hor
  go_enter Try.func5, Try.ntmps5
  go_wp2_with fail
  refine (awake_any _).mono ?_
  rintro e w1 ⟨rfl, b1⟩
  have Z1 := Lib.hid (Z0.out.below b1 (Z0.out.lt))
  have B1 := Lib.hid (((Below.refl w.heap.size w).alloc (Nat.le_refl _) _).trans (b1.mono (by simp only [size_alloc]; omega)))
  have hs1 := B1.out.size
  have hz1 := Z1.out.lt
  clear b1 Z0
  obtain ⟨gc, hgc⟩ : ∃ g, g = w.heap.size := ⟨_, rfl⟩
  rw [← hgc]
  rw [← hgc] at Z1 hz1
  have HG := Lib.hid hgc
  clear hgc
  go_wp2_with fail
  refine (newmains w1).mono ?_
  rintro e w2 ⟨rfl, p2, b2, z2⟩
  have NW := Lib.hid (new_any 1 w1.heap.size _ (by decide) (by decide) w2 p2)
  have P2 := Lib.hid p2
  have Z2 := Lib.hid (Z1.out.below b2 hz1)
  have B2 := Lib.hid (B1.out.trans (b2.mono hs1))
  have hs2 := b2.size
  have hp2 := p2.lt
  clear p2 b2 z2 Z1 B1
  go_wp2_with fail
  refine NW.out.mono ?_
  rintro e w3 ⟨rfl, d3, b3⟩
  have P3 := Lib.hid (P2.out.only (Only.of_below (S := []) b3) (by simp))
  have D3 := Lib.hid d3
  have Z3 := Lib.hid (Z2.out.below b3 (by omega))
  have B3 := Lib.hid (B2.out.trans (b3.mono (by omega)))
  have hd3 := d3.head.lt
  have hb3 := d3.body.lt
  have hs3 := b3.size
  clear d3 b3 NW P2 B2 Z2
  obtain ⟨bm, hbm⟩ : ∃ g, g = w1.heap.size := ⟨_, rfl⟩
  obtain ⟨bs, hbs⟩ : ∃ g, g = w2.heap.size := ⟨_, rfl⟩
  obtain ⟨bd, hbd⟩ : ∃ g, g = bs + 1 := ⟨_, rfl⟩
  rw [← hbm] at P3 D3 hp2 hs2 hs1 hz1
  rw [← hbs] at D3 hd3 hb3 hp2 hs2 hs3 ⊢
  rw [← hbd] at D3 hd3 ⊢
  have hbsd : bs < bd := by omega
  have hg0 := HG.out
  have F4 := Lib.hid (fence_at D3.out P3.out f hf rfl rfl f (by show max 0 f = f; omega))
  clear hbs hbd hbm hg0
  go_wp2_with fail
  refine F4.out.mono ?_
  rintro e w4 ⟨rfl, d4, o4⟩
  have P4 := P3.out.only o4 (by have := D3.out.ne1; simp; omega)
  have F5 := Lib.hid (fence_at d4 P4 lo hlo rfl rfl K HK.out)
  have HP4 := Lib.hid P4
  have Z4 := Lib.hid (Z3.out.only o4 (by have := HG.out; simp; omega))
  have B4 := Lib.hid (B3.out.trans (o4.below (by omega) (by have := HG.out; simp; omega)))
  have hs4 := o4.size
  clear d4 o4 P4 F4 P3 D3 Z3 B3
  go_wp2_with fail
  refine F5.out.mono ?_
  rintro e w5 ⟨rfl, d5, o5⟩
  have D5 := Lib.hid d5
  have P5 := Lib.hid (HP4.out.only o5 (by have := d5.ne1; simp; omega))
  have Z5 := Lib.hid (Z4.out.only o5 (by have := HG.out; simp; omega))
  have B5 := Lib.hid (B4.out.trans (o5.below (by omega) (by have := HG.out; simp; omega)))
  have hs5 := o5.size
  have KY := Lib.hid (key_any d5)
  clear d5 o5 F5 HP4 Z4 B4
  go_wp2_with fail
  refine KY.out.mono ?_
  rintro e w' ⟨rfl, rfl⟩
  clear KY
  go_wp2_with (first | (refine wpList_load_blk rfl 37 _ rfl gc 0 17 rfl 37 c.cells _ Z5.out Try.underlying37 rfl (by kernel_rfl) (by rw [hc17.out]; omega) c.cells (by rw [List.drop_zero, List.take_of_length_le (by rw [hc17.out]; omega)]) ?_) | (refine wpList_world_gg rfl _ (exec_build_one rfl rfl Try.underlying22 zcel hc17.out (by decide) (by decide)) ?_))
  obtain ⟨w6, hw6⟩ : ∃ w6, w6 = w5.alloc (.cells c.cells.toArray 37) := ⟨_, rfl⟩
  have b6 : Below w5.heap.size w5 w6 := hw6 ▸ (Below.refl _ _).alloc (Nat.le_refl _) _
  have A6 := Lib.hid (show Sl w6 Cel.cells 17 (some ⟨w5.heap.size, 0, none⟩) 1 1 [c] from sl_blk (t := 37) (by rw [flat_one]; exact hw6 ▸ blk_new w5 _ _) (fun x hx => by simp at hx; subst hx; exact hc17.out) rfl (Nat.le_refl _) (by decide))
  have P6 := Lib.hid (P5.out.only (Only.of_below (S := []) b6) (by simp))
  have D6 := Lib.hid (D5.out.only (Only.of_below (S := []) b6) (by simp) (by simp))
  have Z6 := Lib.hid (Z5.out.below b6 (by omega))
  have B6 := Lib.hid (B5.out.trans (b6.mono (by omega)))
  have hs6 : w5.heap.size < w6.heap.size := by rw [hw6]; simp
  rw [← hw6]
  clear hw6 b6 P5 D5 Z5 B5
  obtain ⟨ga, hga⟩ : ∃ g, g = w5.heap.size := ⟨_, rfl⟩
  rw [← hga] at A6 hs5 hs6 ⊢
  clear hga
  by_cases hek : ep < K
  · have W7 := Lib.hid (write_no_at D6.out P6.out 0 0 rfl (some ⟨ga, 0, none⟩) 1 1 ep (by decide) (by decide) 6 (by simp [Dsk.refuse, hek]) (by decide) 6 rfl)
    refine W7.out.mono ?_
    rintro e w' ⟨rfl, rfl⟩
    have RD := Lib.hid (read_at D6.out P6.out 0 0 rfl (by decide) Cel.zero 7 rfl 7 rfl)
    go_wp2_with fail
    refine RD.out.mono ?_
    rintro e w8 ⟨rfl, b8⟩
    have GG := Lib.hid (Z6.out.below b8 (by omega))
    have B8 := Lib.hid (B6.out.trans (b8.mono (by omega)))
    have hs8 := b8.size
    clear b8 RD
    have EQ := Lib.hid (fun w' => Cel.eq Cel.zero_ok Cel.zero_ok w')
    rw [decide_eq_true rfl] at EQ
    rcases HOR.out with e | ⟨hne, e⟩
    · subst e
      go_upto_region 11 with (first | (refine store_cel rfl _ _ rfl Cel.zero Cel.zero_ok rfl rfl ?_; intro w9 z9 b9; have B9 := Lib.hid (B8.out.trans (b9.mono (by omega))); have G7 := Lib.hid (GG.out.below b9 (by omega)); have Z7 := Lib.hid z9; clear z9 b9))
      obtain ⟨g7, hg7⟩ : ∃ g, g = w8.heap.size := ⟨_, rfl⟩
      rw [← hg7] at Z7 ⊢
      clear hg7
      go_wp2_with (first | (refine wpList_load_g rfl 37 _ rfl g7 17 rfl 37 Cel.zero.cells _ Z7.out Try.underlying37 rfl (by kernel_rfl) (Cel.len Cel.zero_ok) ?_) | (refine wpList_value_g rfl _ (exec_built' rfl rfl zcell) ?_) | (refine wpList_value_g rfl (.bool true) (exec_eql rfl rfl rfl (by kernel_rfl) (EQ.out _)) ?_))
      go_ret
      exact ⟨rfl, B9.out⟩
    · subst e
      have q1 : ((K : Int) == (f : Int)) = false := by simp; omega
      have q2 : ((K : Int) != (f : Int)) = true := by simp; omega
      have q3 : (K == f) = false := by simp; omega
      clear hne
      go_upto_region 11 with (first | (refine store_cel rfl _ _ rfl Cel.zero Cel.zero_ok rfl rfl ?_; intro w9 z9 b9; have B9 := Lib.hid (B8.out.trans (b9.mono (by omega))); have G7 := Lib.hid (GG.out.below b9 (by omega)); have Z7 := Lib.hid z9; clear z9 b9))
      obtain ⟨g7, hg7⟩ : ∃ g, g = w8.heap.size := ⟨_, rfl⟩
      rw [← hg7] at Z7 ⊢
      clear hg7
      go_wp2_with (first | (refine wpList_load_g rfl 37 _ rfl g7 17 rfl 37 Cel.zero.cells _ Z7.out Try.underlying37 rfl (by kernel_rfl) (Cel.len Cel.zero_ok) ?_) | (refine wpList_value_g rfl _ (exec_built' rfl rfl zcell) ?_) | (refine wpList_value_g rfl (.bool true) (exec_eql rfl rfl rfl (by kernel_rfl) (EQ.out _)) ?_))
      go_ret
      exact ⟨rfl, B9.out⟩
  · have W7 := Lib.hid (write_at D6.out P6.out (pok (by decide) (by decide)) 0 0 rfl (some ⟨ga, 0, none⟩) 1 1 ep (ep : Int) rfl [c] A6.out (fun x hx => by simp at hx; subst hx; exact HC.out) (by decide) (by decide) (fun b o e _ => by cases e; simp; omega) (by simp [Dsk.refuse, hek]) 1 ⟨false, 0, 1⟩ [⟨c, true⟩] rfl 1 0 rfl rfl)
    refine W7.out.mono ?_
    rintro e w7 ⟨rfl, p7, d7, o7⟩
    have RD := Lib.hid (read_at d7 p7 0 0 rfl (by decide) c 0 rfl 0 rfl)
    have Z6' := Lib.hid (Z6.out.only o7 (by have := HG.out; simp; omega))
    have B6' := Lib.hid (B6.out.trans (o7.below (by omega) (by have := HG.out; simp; omega)))
    have hs7 := o7.size
    clear p7 d7 o7 W7 Z6 B6 A6 P6 D6
    have Z6 := Z6'
    have B6 := B6'
    clear Z6' B6'
    go_wp2_with fail
    refine RD.out.mono ?_
    rintro e w8 ⟨rfl, b8⟩
    have GG := Lib.hid (Z6.out.below b8 (by omega))
    have B8 := Lib.hid (B6.out.trans (b8.mono (by omega)))
    have hs8 := b8.size
    clear b8 RD
    have EQ := Lib.hid (fun w' => Cel.eq HC.out HC.out w')
    rw [decide_eq_true rfl] at EQ
    rcases HOR.out with e | ⟨hne, e⟩
    · subst e
      go_upto_region 11 with (first | (refine store_cel rfl _ _ rfl c HC.out rfl rfl ?_; intro w9 z9 b9; have B9 := Lib.hid (B8.out.trans (b9.mono (by omega))); have G7 := Lib.hid (GG.out.below b9 (by omega)); have Z7 := Lib.hid z9; clear z9 b9))
      obtain ⟨g7, hg7⟩ : ∃ g, g = w8.heap.size := ⟨_, rfl⟩
      rw [← hg7] at Z7 ⊢
      clear hg7
      go_wp2_with (first | (refine wpList_load_g rfl 37 _ rfl g7 17 rfl 37 c.cells _ Z7.out Try.underlying37 rfl (by kernel_rfl) hc17.out ?_) | (refine wpList_load_g rfl 37 _ rfl gc 17 rfl 37 c.cells _ G7.out Try.underlying37 rfl (by kernel_rfl) hc17.out ?_) | (refine wpList_value_g rfl (.bool true) (exec_eql rfl rfl rfl (by kernel_rfl) (EQ.out _)) ?_))
      go_ret
      exact ⟨rfl, B9.out⟩
    · subst e
      have q1 : ((K : Int) == (f : Int)) = false := by simp; omega
      have q2 : ((K : Int) != (f : Int)) = true := by simp; omega
      have q3 : (K == f) = false := by simp; omega
      clear hne
      go_upto_region 11 with (first | (refine store_cel rfl _ _ rfl c HC.out rfl rfl ?_; intro w9 z9 b9; have B9 := Lib.hid (B8.out.trans (b9.mono (by omega))); have G7 := Lib.hid (GG.out.below b9 (by omega)); have Z7 := Lib.hid z9; clear z9 b9))
      obtain ⟨g7, hg7⟩ : ∃ g, g = w8.heap.size := ⟨_, rfl⟩
      rw [← hg7] at Z7 ⊢
      clear hg7
      go_wp2_with (first | (refine wpList_load_g rfl 37 _ rfl g7 17 rfl 37 c.cells _ Z7.out Try.underlying37 rfl (by kernel_rfl) hc17.out ?_) | (refine wpList_load_g rfl 37 _ rfl gc 17 rfl 37 c.cells _ G7.out Try.underlying37 rfl (by kernel_rfl) hc17.out ?_) | (refine wpList_value_g rfl (.bool true) (exec_eql rfl rfl rfl (by kernel_rfl) (EQ.out _)) ?_))
      go_ret
      exact ⟨rfl, B9.out⟩
section
variable {H : Type} {enc : TypeId × Value → H} {base : Nat} {spare : Nat → Bool} {held : Bool} {W : World}
theorem fences_in (a : Int) (ha : (Lit.int .u32 a).wf = true) (b : Int) (hb : (Lit.int .u32 b).wf = true) (d : Int) (hd : (Lit.int .u32 d).wf = true) (c : List Value) (hl : c.length = 17) (h : Opens.Fits enc Try.prog W base spare held (List.replicate 16 (.int .u8) ++ [.int .u32]) c) :
    Calls Try.prog 5 #[.int .u32 a, .int .u32 b, .int .u32 d, .agg c.toArray] W fun e w' => e = .returned (.bool true) ∧ Below W.heap.size W w' := by
  obtain ⟨x, rfl, hok⟩ := cel_in hl rfl h
  obtain ⟨a', ha', rfl⟩ := Opens.wf_u32 ha
  obtain ⟨b', hb', rfl⟩ := Opens.wf_u32 hb
  obtain ⟨d', hd', rfl⟩ := Opens.wf_u32 hd
  exact fences_walk a' b' d' ha' hb' hd' x hok _ rfl W
end
end Go.Proofs.Ytnjcepjhllgccaa.Disk
