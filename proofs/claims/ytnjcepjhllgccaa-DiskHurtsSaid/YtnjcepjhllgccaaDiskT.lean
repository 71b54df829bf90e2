/-
  Fences, hurt and turned sectors. Helper text; no statement is proved here.
-/
import Derived.Test.YtnjcepjhllgccaaDiskW
set_option linter.unusedVariables false
set_option linter.unusedSimpArgs false
namespace Go.Proofs.Ytnjcepjhllgccaa.Disk
open Go.RowKit Go.Proofs.Ytnjcepjhllgccaa.Base Go.Proofs.Ytnjcepjhllgccaa.Laws Go.Proofs.Ytnjcepjhllgccaa.Flat Go.Proofs.Ytnjcepjhllgccaa.InvM
theorem flat_set {α : Type} {f : α → List Value} {m : Nat} {l : List α} {i j : Nat} {x y : α} {v : Value} (h : ∀ x ∈ l, (f x).length = m) (hx : l[i]? = some x) (hj : j < m) (hy : f y = (f x).set j v) : (flat f l).set (i * m + j) v = flat f (l.set i y) := by
  obtain ⟨A, B, e, hA, e1, e2⟩ := flat_split h hx
  have hi := (List.getElem?_eq_some_iff.1 hx).1
  have hm := h x (List.mem_of_getElem? hx)
  have es : flat f (l.set i y) = A ++ ((f x).set j v ++ B) := by
    rw [List.set_eq_take_append_cons_drop, if_pos hi, flat_append, flat_cons, e1, e2, hy]
  rw [es, e, ← hA, List.set_append_right _ _ (by omega), show A.length + j - A.length = j from by omega, List.set_append_left _ _ (by omega)]
/-- the byte with just bit p set -/
def mask (p : Nat) : UInt8 := UInt8.ofNat (2 ^ (p % 8))
theorem mask_val (p : Nat) : (mask p).toNat = 2 ^ (p % 8) := by
  unfold mask
  rw [UInt8.toNat_ofNat']
  have h : (2 : Nat) ^ (p % 8) ≤ 2 ^ 7 := Nat.pow_le_pow_right (by decide) (by omega)
  have h2 : (2 : Nat) ^ 7 = 128 := by decide
  exact Nat.mod_eq_of_lt (by omega)
theorem xor8 (x y : UInt8) : bits BinOp.xor IntKind.u8 (x.toNat : Int) (y.toNat : Int) = ((x ^^^ y).toNat : Int) := by
  have := u8_xor_nat x.toNat y.toNat x.toNat_lt y.toNat_lt
  rw [this, UInt8.toNat_xor]
theorem mask_j (p : Nat) : (2 : Int) ^ (p % 8) % 256 = ((mask p).toNat : Int) := by
  rw [mask_val]
  have h : (2 : Nat) ^ (p % 8) ≤ 2 ^ 7 := Nat.pow_le_pow_right (by decide) (by omega)
  have h2 : (2 : Nat) ^ 7 = 128 := by decide
  have e : ((2 ^ (p % 8) : Nat) : Int) = (2 : Int) ^ (p % 8) := by simp
  rw [← e]
  generalize 2 ^ (p % 8) = q at *
  omega
/-- a cell with bit k turned -/
def Cel.turn (c : Cel) (k : Nat) : Cel := ⟨c.d.set (k / 8) (c.d.getD (k / 8) 0 ^^^ mask k), c.s⟩
theorem Cel.turn_ok {c : Cel} (h : c.Ok) (k : Nat) : (c.turn k).Ok := ⟨by simp [Cel.turn, h.1], h.2⟩
theorem Cel.turn_cells (c : Cel) {k : Nat} (h : k / 8 < c.d.length) : (c.turn k).cells = c.cells.set (k / 8) (u8 (c.d.getD (k / 8) 0 ^^^ mask k)) := by
  unfold Cel.cells Cel.turn
  rw [List.set_append_left _ _ (by rw [bv_len]; exact h)]
  simp [bv, List.map_set]
section
variable {bd bm bs n : Nat} {D : Dsk} {w : World} {p : Pow}
theorem DiskAt.setKey (h : DiskAt w bd bm bs n D) {k : Nat} (hk : k < 4294967296) : DiskAt (w.setCell ⟨bd, 2, none⟩ (.int .u32 (k : Int))) bd bm bs n ⟨k, D.dead, D.secs⟩ :=
  { h with
    head := h.head.setCell 2 _
    body := h.body.setCell_far h.ne3 _ _
    key := hk }
theorem fence_ok (h : DiskAt w bd bm bs n D) (hp : PowAt w bm p) (ep : Nat) (he : ep < 4294967296) (h1 : p.off = false) (h2 : D.dead = false) : Calls Try.prog 18 #[.pointer (some ⟨bd, 0, none⟩), .int .u32 (ep : Int)] w fun e w' => e = .returned (.int .i64 0) ∧ DiskAt w' bd bm bs n ⟨max D.key ep, D.dead, D.secs⟩ ∧ Only [bd] w w' := by
  have ON := Lib.hid (on_any bm p w hp)
  have c0 := h.c0
  have c2 := h.c2
  have c3 := h.c3
  have f2 := h.head.frozen 2
  have HD := Lib.hid h
  rw [h1] at ON
  rw [h2] at c3
  have H2 := Lib.hid h2
  clear h hp h1 h2
  by_cases hk : D.key < ep
  · have hm : max D.key ep = ep := by omega
    have hki : (D.key : Int) < (ep : Int) := by omega
    have HM := Lib.hid hm
    clear hm
    go_enter Try.func18, Try.ntmps18
    go_wp2_with (first | (go_at_call 16; refine ON.out.mono ?_; rintro e w' ⟨rfl, rfl⟩))
    go_ret
    rw [HM.out]
    exact ⟨rfl, HD.out.setKey he, (Only.refl [bd] w).setCell (by simp) _ _⟩
  · have hm : max D.key ep = D.key := by omega
    have hki : ¬ (D.key : Int) < (ep : Int) := by omega
    have HM := Lib.hid hm
    clear hm
    go_enter Try.func18, Try.ntmps18
    go_wp2_with (first | (go_at_call 16; refine ON.out.mono ?_; rintro e w' ⟨rfl, rfl⟩))
    go_ret
    rw [HM.out]
    exact ⟨rfl, HD.out.setKey HD.out.key, (Only.refl [bd] w).setCell (by simp) _ _⟩
theorem hurt_ok (h : DiskAt w bd bm bs n D) (i : Nat) (s : Sec) (hs : D.secs[i]? = some s) (h2 : D.dead = false) : Calls Try.prog 21 #[.pointer (some ⟨bd, 0, none⟩), .int .i64 (i : Int)] w fun e w' => e = .returned (.int .i64 0) ∧ DiskAt w' bd bm bs n ⟨D.key, D.dead, D.secs.set i ⟨s.c, false⟩⟩ ∧ Only [bs] w w' := by
  have hi : i < n := by rw [← h.len]; exact (List.getElem?_eq_some_iff.1 hs).1
  have hn := h.hi
  have IN := Lib.hid (in_yes h i hi)
  have c1 := h.c1
  have c3 := h.c3
  have cg := h.good hs
  have fg := h.body.frozen (i * 18 + 17)
  rw [h2] at c3
  have i0 : (0 : Int) ≤ (i : Int) := by omega
  have i1 : (i : Int) < (n : Int) := by omega
  have hok := h.ok s (List.mem_of_getElem? hs)
  have HB := Lib.hid (h.body.setCell (i * 18 + 17) (.bool false))
  have HF := Lib.hid (flat_set (y := ⟨s.c, false⟩) (v := .bool false) h.len18 hs (show 17 < 18 by decide) (by
    have hl := Cel.len hok
    unfold Sec.cells
    rw [List.set_append_right _ _ (by omega), hl]
    rfl))
  have HD := Lib.hid h
  have HOK := Lib.hid hok
  clear h hs h2 hok
  go_enter Try.func21, Try.ntmps21
  go_wp2_with (first | (go_at_call 29; refine IN.out.mono ?_; rintro e w' ⟨rfl, rfl⟩))
  go_ret
  have O1 : Only [bs] w (w.setCell ⟨bs, i * 18 + 17, none⟩ (.bool false)) := (Only.refl [bs] w).setCell (by simp) _ _
  exact ⟨rfl, HD.out.set (s := ⟨s.c, false⟩) HOK.out (HF.out ▸ HB.out) O1, O1⟩
set_option maxRecDepth 8000 in
set_option maxHeartbeats 1000000 in
theorem turn_ok (h : DiskAt w bd bm bs n D) (i k : Nat) (c : Cel) (hs : D.secs[i]? = some ⟨c, true⟩) (h2 : D.dead = false) (hk : k < 128) : Calls Try.prog 20 #[.pointer (some ⟨bd, 0, none⟩), .int .i64 (i : Int), .int .i64 (k : Int)] w fun e w' => e = .returned (.int .i64 0) ∧ DiskAt w' bd bm bs n ⟨D.key, D.dead, D.secs.set i ⟨c.turn k, true⟩⟩ ∧ Only [bs] w w' := by
  have hi : i < n := by rw [← h.len]; exact (List.getElem?_eq_some_iff.1 hs).1
  have hn := h.hi
  have IN := Lib.hid (in_yes h i hi)
  have c1 := h.c1
  have c3 := h.c3
  have cg := h.good hs
  rw [h2] at c3
  have hok := h.ok _ (List.mem_of_getElem? hs)
  have hl16 : c.d.length = 16 := hok.1
  have hk8 : k / 8 < c.d.length := by omega
  obtain ⟨u, hu⟩ : ∃ u, c.d[k / 8]? = some u := ⟨_, List.getElem?_eq_getElem hk8⟩
  have hud : c.d.getD (k / 8) 0 = u := by rw [List.getD_eq_getElem?_getD, hu]; rfl
  have cb : w.cell? ⟨bs, i * 18 + k / 8, none⟩ = some (.int .u8 (u.toNat : Int)) := by
    rw [h.body.cell]
    refine flat_get h.len18 hs ?_
    have hl := Cel.len hok
    unfold Sec.cells
    rw [List.getElem?_append_left (by omega)]
    show c.cells[k / 8]? = _
    unfold Cel.cells
    rw [List.getElem?_append_left (by rw [bv_len]; exact hk8), bv_get, hu]
    rfl
  have fb := h.body.frozen (i * 18 + k / 8)
  have HB := Lib.hid (h.body.setCell (i * 18 + k / 8) (u8 (u ^^^ mask k)))
  have HF := Lib.hid (flat_set (y := ⟨c.turn k, true⟩) (v := u8 (u ^^^ mask k)) h.len18 hs (show k / 8 < 18 by omega) (by
    have hl := Cel.len hok
    show (c.turn k).cells ++ _ = (c.cells ++ _).set _ _
    rw [List.set_append_left _ _ (by rw [hl]; omega), Cel.turn_cells c hk8, hud]))
  have E4 := mask_j k
  obtain ⟨M, hM⟩ : ∃ M, M = mask k := ⟨_, rfl⟩
  obtain ⟨q, hq⟩ : ∃ q, q = k / 8 := ⟨_, rfl⟩
  obtain ⟨r, hr⟩ : ∃ r, r = k % 8 := ⟨_, rfl⟩
  rw [← hM, ← hr] at E4
  rw [← hM, ← hq] at HB HF
  rw [← hq] at cb fb
  have E6 := Lib.hid E4
  clear E4
  have i0 : (0 : Int) ≤ (i : Int) := by omega
  have i1 : (i : Int) < (n : Int) := by omega
  have k0 : (0 : Int) ≤ (k : Int) := by omega
  have k1 : (k : Int) < 128 := by omega
  have e1 : (k : Int) / 8 = (q : Int) := by omega
  have e2 : (k : Int).tmod 8 = (r : Int) := by rw [Int.tmod_eq_emod_of_nonneg (by omega)]; omega
  have e3 : (q : Int) < 16 := by omega
  have e4 : (r : Int) < 8 := by omega
  have e7 : IntKind.u8.wrap ((2 : Int) ^ r) = (M.toNat : Int) := (show IntKind.u8.wrap ((2 : Int) ^ r) = (2 : Int) ^ r % 256 from by simp [IntKind.wrap_u8]).trans E6.out
  have e8 := xor8 u M
  have e5 : IntKind.i64.wrap (q : Int) = (q : Int) := Go.IntWalk.i64_in _ (by omega)
  have e6 : IntKind.i64.wrap (r : Int) = (r : Int) := Go.IntWalk.i64_in _ (by omega)
  have HD := Lib.hid h
  have HOK := Lib.hid hok
  have HUD := Lib.hid hud
  clear h hs h2 hok hu hud hq hr hk hk8 hM hl16
  go_enter Try.func20, Try.ntmps20
  go_wp2_with (first | (go_at_call 29; refine IN.out.mono ?_; rintro e w' ⟨rfl, rfl⟩))
  refine wp_region_still_tail 20 (by kernel_rfl) (by kernel_rfl) ?_
  simp only [List.take_succ_cons, List.take_zero, List.drop_succ_cons, List.drop_zero]
  repeat still_step
  refine wpStill_nil ?_
  go_wp2
  go_ret
  have O1 : Only [bs] w (w.setCell ⟨bs, i * 18 + q, none⟩ (u8 (u ^^^ M))).drew := ((Only.refl [bs] w).setCell (by simp) _ _).drew
  exact ⟨rfl, HD.out.set (s := ⟨c.turn k, true⟩) (Cel.turn_ok HOK.out k) (HF.out ▸ HB.out) O1, O1⟩
/-- a new variable that a cell is stored in -/
theorem store_cel {ops : Array Oper} {rest : List Oper} {o : Oper} {a : Act} {Q : Exit → Act → World → Prop} (hgd : o.guard = none) (x y : Operand) (ho : o.op = .store 37 x y) (c : Cel) (hc : c.Ok)
    (hx : a.eval x = .pointer (some ⟨w.heap.size, 0, none⟩)) (hy : a.eval y = .agg c.cells.toArray)
    (h : ∀ w', Blk w' w.heap.size c.cells 37 → Below w.heap.size w w' → wpList Try.prog ops Q rest (a.put o.dst undef) w') : wpList Try.prog ops Q (o :: rest) a (w.alloc (.cells #[.int .u8 0, .int .u8 0, .int .u8 0, .int .u8 0, .int .u8 0, .int .u8 0, .int .u8 0, .int .u8 0, .int .u8 0, .int .u8 0, .int .u8 0, .int .u8 0, .int .u8 0, .int .u8 0, .int .u8 0, .int .u8 0, .int .u32 0] 37)) := by
  refine wpList_store_blk hgd 37 x y ho w.heap.size 0 17 hx 37 Cel.zero.cells c.cells hy (zblk w) (by kernel_rfl) (Cel.len hc) (by decide) (Cel.one c) ?_
  intro w2 z2 g2
  rw [put_all _ c.cells (by rw [Cel.len hc]; rfl)] at z2
  exact h w2 z2 (below_grown ((Below.refl w.heap.size w).alloc (Nat.le_refl _) _) g2 (by simp only [size_alloc]; omega) (Nat.le_refl _))
theorem write_at (h : DiskAt w bd bm bs n D) (hp : PowAt w bm p) (hpo : p.Ok) (i : Nat) (iv : Int) (hiv : iv = (i : Int)) (a : Option Addr) (m c ep : Nat) (ev : Int) (hev : ev = (ep : Int)) (cs : List Cel) (hs : Sl w Cel.cells 17 a m c cs) (hok : ∀ x ∈ cs, x.Ok) (hi : i + m ≤ n) (hst : p.steps + m ≤ 4611686018427387904) (hne : ∀ b o, a = some ⟨b, o, none⟩ → m ≠ 0 → b ∉ [bm, bs]) (hr : D.refuse p ep = 0)
    (k : Nat) (p' : Pow) (ss : List Sec) (hw : wrs i cs p D.secs = (k, p', ss)) (kv fv : Int) (hk : kv = k) (hf : fv = (wErr k m : Nat)) :
    Calls Try.prog 11 #[.pointer (some ⟨bd, 0, none⟩), .int .i64 iv, .slice a m c, .int .u32 ev] w fun e w' => e = .returned (.tuple #[.int .i64 kv, .int .i64 fv]) ∧ PowAt w' bm p' ∧ DiskAt w' bd bm bs n ⟨D.key, D.dead, ss⟩ ∧ Only [bm, bs] w w' := by
  subst hiv
  subst hev
  subst hk
  subst hf
  have := write_yes h hp hpo i a m c ep cs hs hok hi hst hne hr
  rw [hw] at this
  exact this
theorem read_at (h : DiskAt w bd bm bs n D) (hp : PowAt w bm p) (i : Nat) (iv : Int) (hiv : iv = (i : Int)) (hi : i < n) (c : Cel) (f : Nat) (hr : D.read p i = (c, f)) (fv : Int) (hf : fv = f) : Calls Try.prog 14 #[.pointer (some ⟨bd, 0, none⟩), .int .i64 iv] w fun e w' => e = .returned (.tuple #[.agg c.cells.toArray, .int .i64 fv]) ∧ Below w.heap.size w w' := by
  subst hiv
  subst hf
  have := read_any h hp i hi
  rw [hr] at this
  exact this
end
end Go.Proofs.Ytnjcepjhllgccaa.Disk
