/-
  Helper texts, joined in build order; no statement is proved here.
-/
import Derived.StillTailTactics
import Derived.Lib.SliceRun
import Derived.Deep.Cut
import Derived.Test.YtgnnjinpcdemiaaWc3
/-
  stripe.Plan by contract where no cell is lost and no disk has failed. Helper text; no statement is proved here.
-/
set_option linter.unusedVariables false
set_option maxRecDepth 20000
set_option linter.unusedSimpArgs false
namespace Go.Proofs.Ytgnnjinpcdemiaa.Str
open Go.RowKit Go.Proofs.Ytgnnjinpcdemiaa.Base Go.Proofs.Ytgnnjinpcdemiaa.Laws Go.Proofs.Ytgnnjinpcdemiaa.Disk Go.Proofs.Ytgnnjinpcdemiaa.Lay Go.Proofs.Ytgnnjinpcdemiaa.Par Go.Proofs.Ytgnnjinpcdemiaa.Flat Go.Proofs.Ytgnnjinpcdemiaa.Row Go.Proofs.Ytgnnjinpcdemiaa.InvM Go.Proofs.Ytgnnjinpcdemiaa.InvX Go.Proofs.Ytgnnjinpcdemiaa.InvG Go.Proofs.Ytgnnjinpcdemiaa.InvC Go.Proofs.Ytgnnjinpcdemiaa.Codec Go.Proofs.Ytgnnjinpcdemiaa.Seal
/-- the columns behind a write -/
def newData (cols : List (List UInt8)) (C m : Nat) (X : List UInt8) : List (List UInt8) := (cols.set C X).take m
def newCols (cols : List (List UInt8)) (C m : Nat) (X : List UInt8) : List (List UInt8) :=
  ((cols.set C X).set m (sumP 16 (newData cols C m X) m)).set (m + 1) (sumQ 16 (newData cols C m X) m)
/-- the cells of a write -/
def planPut (d st A : Int) (cols : List (List UInt8)) (q : Nat) : Put := (((fst d st + q) % d).toNat, A.toNat, cellOf A.toNat (cols.getD q []))
def planOf (d st A : Int) (cols : List (List UInt8)) (C m : Nat) (X : List UInt8) : List Put := [C, m, m + 1].map (planPut d st A (newCols cols C m X))
theorem own_blk {w : World} {base : Nat} {e : TypeId} {size : Nat} {v : Value} {n : Nat} {xs : List Value} (h : w.ownsRow base e size v n xs) (h0 : 0 < n) : ∃ g cap spare, v = .slice (some ⟨g, 0, none⟩) n cap ∧ n ≤ cap ∧ cap ≤ maxLen ∧ base ≤ g ∧ Blk w g (xs ++ spare) e := by
  rcases h.2 with ⟨rfl, h2⟩ | ⟨g, cap, cur, rfl, hb, hg, h3, h4, h5, h6⟩
  · have := h.1
    have h7 : 0 = n ∨ 0 < n := by omega
    rcases h7 with h7 | h7
    · omega
    · cases h2; omega
  · refine ⟨g, cap, cur.toList.drop (n * size), rfl, h3, h4, hb, ?_⟩
    have e1 : xs ++ cur.toList.drop (n * size) = cur.toList := by rw [← h6, List.take_append_drop]
    unfold Blk
    rw [e1]
    simpa using hg
theorem flat_put_front {α : Type} {f : α → List Value} {m : Nat} {l : List α} {i : Nat} {x : α} (h : ∀ x ∈ l, (f x).length = m) (hx : (f x).length = m) (hi : i < l.length) (r : List Value) : put (flat f l ++ r) (i * m) (f x) = flat f (l.set i x) ++ r := by
  have h1 := flat_put h hx hi
  have hl := flat_len h
  have hb : i * m + m ≤ l.length * m := by
    have := Nat.mul_le_mul_right m (show i + 1 ≤ l.length from hi)
    rw [Nat.add_mul, Nat.one_mul] at this
    exact this
  rw [← h1]
  unfold put
  rw [List.take_append_of_le_length (by omega), List.drop_append_of_le_length (by rw [hx]; omega), List.append_assoc, List.append_assoc]
theorem alive_yes {bd bm bs n : Nat} {D : Dsk} {w : World} (h : DiskAt w bd bm bs n D) (hd : D.dead = false) : Calls Try.prog 42 #[.pointer (some ⟨bd, 0, none⟩)] w fun e w' => e = .returned (.bool true) ∧ w = w' := by
  have c3 := h.c3
  rw [hd] at c3
  clear h
  go_enter Try.func42, Try.ntmps42
  go_wp2_with fail
  go_ret
  exact ⟨rfl, rfl⟩
theorem meets_store_at {P : Program} {J : World → Prop} {ρ : Operand → Value} {w : World} {o : Oper} {ty t : TypeId} {x y : Operand} {g off m : Nat} {cs vs : List Value} (ho : o.op = .store ty x y) (hx : ρ x = .pointer (some ⟨g, off, none⟩)) (hy : ρ y = .agg vs.toArray) (hg : Blk w g cs t) (hi : (P.info? ty).map (·.size) = some m) (hl : vs.length = m) (hm : off + m ≤ cs.length) (h1 : ∀ v ∈ vs, v.oneCell' = true) (h : J (w.setRow g (put cs off vs).toArray)) : Inv.Meets P J undef ((execOp ρ o).run P w) := by
  unfold execOp
  simp only [ho, hx, hy, Instr.storeAt, Instr.sureAddr, Sem.run_bind, Sem.run_pure, Result.andThen_ok, run_store_blk hg hi hl hm h1]
  exact ⟨rfl, h⟩
theorem zeros_put : (Try.prog.info? 122).map (·.zero) = some (some (.agg ([Value.int .i64 0, Value.int .i64 0] ++ (Seal.zeros 16 ++ [Value.int .u32 0])).toArray)) := by kernel_rfl
theorem built_put (a b : Int) (cs : List Value) (hc : cs.length = 17) : Try.prog.built 122 [(0, .agg #[.int .i64 a, .int .i64 b]), (1, .agg cs.toArray)] = some ([Value.int .i64 a, Value.int .i64 b] ++ cs).toArray := by
  have hz : ∃ it, Try.prog.info? 122 = some it ∧ it.zero = some (.agg ([Value.int .i64 0, Value.int .i64 0] ++ (Seal.zeros 16 ++ [Value.int .u32 0])).toArray) := by
    obtain ⟨it, h1, h2⟩ := Option.map_eq_some_iff.1 zeros_put
    exact ⟨it, h1, h2⟩
  obtain ⟨it, h1, h2⟩ := hz
  unfold Program.built
  rw [h1, Try.underlying122]
  simp only [h2]
  have hp : ((#[{ name := "Place", type := 109, offset := 0, embedded := false, tag := "", pkgPath := "", byteOffset := 0 }, { name := "Cell", type := 92, offset := 2, embedded := false, tag := "", pkgPath := "", byteOffset := 16 }] : Array Field).toList.mapM (fun f => (Try.prog.info? f.type).map fun i => (f.offset, i.size))) = some [(0, 2), (2, 17)] := by kernel_rfl
  rw [hp]
  simp only [Value.cells]
  rw [fill_cons _ ([Value.int .i64 0, Value.int .i64 0] ++ (Seal.zeros 16 ++ [Value.int .u32 0])) [.int .i64 a, .int .i64 b] 0 0 (.agg #[.int .i64 a, .int .i64 b]) _ rfl rfl (by simp [Seal.zeros])]
  have e1 : put ([Value.int .i64 0, Value.int .i64 0] ++ (Seal.zeros 16 ++ [Value.int .u32 0])) 0 [.int .i64 a, .int .i64 b] = [Value.int .i64 a, Value.int .i64 b] ++ (Seal.zeros 16 ++ [Value.int .u32 0]) := rfl
  rw [e1, fill_cons _ _ cs 1 2 (.agg cs.toArray) [] (by rw [hc]; rfl) rfl (by rw [hc]; simp [Seal.zeros])]
  have e2 : put ([Value.int .i64 a, Value.int .i64 b] ++ (Seal.zeros 16 ++ [Value.int .u32 0])) 2 cs = [Value.int .i64 a, Value.int .i64 b] ++ cs := by
    unfold put
    rw [hc]
    simp [Seal.zeros]
  rw [e2]
  rfl
theorem info_put : (Try.prog.info? 122).map (fun i => (i.zero, i.size, i.bytes)) = some (some (.agg ([Value.int .i64 0, Value.int .i64 0] ++ (Seal.zeros 16 ++ [Value.int .u32 0])).toArray), 19, 40) := by kernel_rfl
theorem At2.set_p {p q : Nat} {A B C : World → Prop} {d : Array Bool} {w' : World} (hpq : p ≠ q) (hd : d.getD p true = false) (hq : d.getD q false = false) (h' : B w') : At2 p q A B C (d.setIfInBounds p true) w' := by
  unfold At2
  rw [InvG.now hd, getD_set_ne false hpq, hq]
  simpa using h'
/-- the first q columns of a row, as slices -/
def pcs (g q : Nat) : List Sv := (List.range q).map fun j => (some ⟨g, j * 16, none⟩, 16, 16)
theorem pcs_succ (g q : Nat) : pcs g (q + 1) = pcs g q ++ [(some ⟨g, q * 16, none⟩, 16, 16)] := by simp [pcs, List.range_succ]
theorem pcs_len (g q : Nat) : (pcs g q).length = q := by simp [pcs]
theorem pcs_get {g q i : Nat} (h : i < q) : (pcs g q)[i]? = some (some ⟨g, i * 16, none⟩, 16, 16) := by simp [pcs, h]
set_option maxHeartbeats 8000000 in
theorem plan_good {d c s lba : Int} (h : Sound d c s) (h0 : 0 ≤ lba) (h1 : lba < (d - 2) * c * s) {gd bm n cap : Nat} {ds : List Dk} {w : World} {p : Pow} (S : SetAt w gd bm n ds) (hp : PowAt w bm p) (hn : (n : Int) = c * s) (hd : (ds.length : Int) = d) (hcap : ds.length ≤ cap) {cols : List (List UInt8)} (hcl : cols.length = ds.length) (hok : RowOk d c (spS d c lba) (spO c lba) ds p n cols) (hal : ∀ x ∈ ds, x.2.2.dead = false) {X : List UInt8} (hX : X.length = 16) :
    Calls Try.prog 19 #[.agg (setV d c s gd ds.length cap).toArray, .int .i64 lba, .agg (bv X).toArray] w fun e w' => ∃ v, e = .returned (.tuple #[v, .int .i64 0]) ∧ w'.ownsRow w.heap.size 122 19 v 3 (flat putV (planOf d (spS d c lba) (plA d c lba) cols (spC d c lba).toNat (ds.length - 2) X)) ∧ Below w.heap.size w w' := by
  obtain ⟨⟨S0, S1⟩, ⟨C0, C1⟩, O0, O1⟩ := sp_bd h h0 h1
  have hrow : InRow c s (spS d c lba) (spO c lba) := ⟨⟨S0, S1⟩, O0, O1⟩
  obtain ⟨_, A0, A1⟩ := pl_bd h h0 h1
  have hn1 : n ≤ 512 := by
    have := mul_bd (a := c) (b := s) (A := 8) (B := 64) (by have := h.2.1; omega) (by have := h.2.1; omega) (by have := h.2.2; omega) (by have := h.2.2; omega)
    omega
  have hk1 : ds.length ≤ 32 := by have := h.1; omega
  have hk0 : 4 ≤ ds.length := by have := h.1; omega
  have MP := Lib.hid (fun w' => map_any h h0 h1 w')
  have CK := Lib.hid (fun (w' : World) (hb : Below w.heap.size w w') => check_any h (S.below hb (Nat.le_refl _)) hn hd hcap)
  have SR := Lib.hid (fun (w' : World) (hb : Below w.heap.size w w') => srow_good h hrow (S.below hb (Nat.le_refl _)) (hp.below hb hp.lt) hn hd hcap hcl hok)
  have RW := Lib.hid (fun (w' : World) => row_yes h hrow w')
  have HS := Lib.hid S
  have HAL := Lib.hid hal
  have H16 := Lib.hid (fun (q : Nat) (Y : List UInt8) (hY : cols[q]? = some Y) => (hok.2 q Y hY).1)
  obtain ⟨m, hm⟩ : ∃ m, ds.length = m + 2 := ⟨ds.length - 2, by omega⟩
  have eA : spS d c lba * c + spO c lba = plA d c lba := rfl
  obtain ⟨st, hst⟩ : ∃ st, st = spS d c lba := ⟨_, rfl⟩
  obtain ⟨of, hof⟩ : ∃ of, of = spO c lba := ⟨_, rfl⟩
  obtain ⟨C, hC⟩ : ∃ C : Nat, (C : Int) = spC d c lba := ⟨(spC d c lba).toNat, by omega⟩
  obtain ⟨A, hA⟩ : ∃ A : Nat, (A : Int) = plA d c lba := ⟨(plA d c lba).toNat, by omega⟩
  obtain ⟨K0, hK0⟩ : ∃ K0, K0 = plD d c lba := ⟨_, rfl⟩
  have hdm : d.toNat = m + 2 := by omega
  rw [← hst, ← hof] at eA
  rw [← hst, ← hof, ← hC, ← hA, ← hK0] at MP
  rw [← hst, ← hof, hm] at SR
  rw [← hst, ← hof, hdm] at RW
  rw [← hst, ← hC, ← hA, hm, show ((C : Int)).toNat = C from by omega, show m + 2 - 2 = m from by omega]
  rw [hm] at CK hcl hcap hk1 hk0
  rw [← hC] at C1
  rw [← hA] at A1 eA
  have hCm : C < m := by omega
  have hAn : A < n := by omega
  have HD := Lib.hid (show d = ((m + 2 : Nat) : Int) from by omega)
  have HM := Lib.hid hm
  have HCL := Lib.hid hcl
  have EA := Lib.hid eA
  have hbx16 : (bv X).length = 16 := by rw [bv_len]; exact hX
  have hd0 : 0 < d := by omega
  clear S hp hn hd hok hal hst hof hC hA hK0 hdm hm hcl S0 S1 C0 C1 O0 O1 A0 A1 hrow h h0 h1 eA
  obtain ⟨k, hk⟩ : ∃ k, k = m + 2 := ⟨_, rfl⟩
  have HKM := Lib.hid hk
  rw [← hk] at CK SR RW hcap hk1 hk0 HCL ⊢
  have hCk : C < k := by omega
  have hmk : m < k := by omega
  have hmk1 : m + 1 < k := by omega
  have ek2 : (k : Int) - 2 = (m : Int) := by omega
  clear hk
  have Zs := Lib.hid (show Blk ((w.alloc (.cells #[.int .i64 d, .int .i64 c, .int .i64 s, .slice (some ⟨gd, 0, none⟩) k cap] 60)).alloc (.cells (bv X).toArray 33)) w.heap.size [.int .i64 d, .int .i64 c, .int .i64 s, .slice (some ⟨gd, 0, none⟩) k cap] 60 from (blk_at rfl rfl).alloc _)
  have Zx := Lib.hid (show Blk ((w.alloc (.cells #[.int .i64 d, .int .i64 c, .int .i64 s, .slice (some ⟨gd, 0, none⟩) k cap] 60)).alloc (.cells (bv X).toArray 33)) (w.heap.size + 1) (bv X) 33 from blk_at (by simp) rfl)
  have Zl := Lib.hid (show Below w.heap.size w ((w.alloc (.cells #[.int .i64 d, .int .i64 c, .int .i64 s, .slice (some ⟨gd, 0, none⟩) k cap] 60)).alloc (.cells (bv X).toArray 33)) from ((Below.refl w.heap.size w).alloc (Nat.le_refl _) _).alloc (by simp) _)
  unfold setV
  go_enter Try.func19, Try.ntmps19
  go_upto_region 1 with (fail)
  obtain ⟨w1, hw1⟩ : ∃ w1, w1 = (w.alloc (.cells #[.int .i64 d, .int .i64 c, .int .i64 s, .slice (some ⟨gd, 0, none⟩) k cap] 60)).alloc (.cells (bv X).toArray 33) := ⟨_, rfl⟩
  rw [← hw1] at Zs Zx Zl ⊢
  clear hw1
  have c0 := Zs.out.cell 0
  have c1 := Zs.out.cell 1
  have c2 := Zs.out.cell 2
  have c3 := Zs.out.cell 3
  simp only [List.getElem?_cons_zero, List.getElem?_cons_succ] at c0 c1 c2 c3
  go_upto_region 4 with (first | (go_at_call 37; go_must (refine (CK.out _ Zl.out).mono ?_; rintro e w2 ⟨rfl, hb2⟩; have B2 := Lib.hid hb2; clear hb2)))
  have s1 := Zl.out.size
  have S2 := Lib.hid (Zs.out.below B2.out Zs.out.lt)
  have X2 := Lib.hid (Zx.out.below B2.out Zx.out.lt)
  have L2 := Lib.hid (Zl.out.trans (B2.out.mono s1))
  have s2 := L2.out.size
  clear c0 c1 c2 c3 Zs Zx Zl B2 CK
  have c0 := S2.out.cell 0
  have c1 := S2.out.cell 1
  have c2 := S2.out.cell 2
  simp only [List.getElem?_cons_zero, List.getElem?_cons_succ] at c0 c1 c2
  go_upto_region 7 with (first | (go_at_call 38; go_must (refine (MP.out _).mono ?_; rintro e w3 ⟨rfl, hb3⟩; have B3 := Lib.hid hb3; clear hb3)))
  obtain ⟨w4, hw4⟩ : ∃ w4, w4 = (w3.alloc (.cells #[.int .i64 st, .int .i64 (C : Int), .int .i64 of] 107)).alloc (.cells #[.int .i64 K0, .int .i64 (A : Int)] 109) := ⟨_, rfl⟩
  have B4 := Lib.hid (show Below w3.heap.size w3 w4 from by rw [hw4]; exact ((Below.refl _ _).alloc (Nat.le_refl _) _).alloc (by simp) _)
  have SP4 := Lib.hid (show Blk w4 w3.heap.size [.int .i64 st, .int .i64 (C : Int), .int .i64 of] 107 from by rw [hw4]; exact (blk_at rfl rfl).alloc _)
  rw [← hw4]
  clear hw4 c0 c1 c2
  have s3 := B3.out.size
  have B24 := Lib.hid (B3.out.trans (B4.out.mono s3))
  have S4 := Lib.hid (S2.out.below B24.out S2.out.lt)
  have X4 := Lib.hid (X2.out.below B24.out X2.out.lt)
  have L4 := Lib.hid (L2.out.trans (B24.out.mono s2))
  obtain ⟨gs, hgs⟩ : ∃ gs, gs = w3.heap.size := ⟨_, rfl⟩
  rw [← hgs] at SP4 ⊢
  have hgsw : w.heap.size + 2 ≤ gs := by have := X2.out.lt; omega
  clear S2 X2 L2 B3 B4 B24 hgs s3 s2 s1
  have s4 := L4.out.size
  have c0 := S4.out.cell 0
  have c1 := S4.out.cell 1
  have c2 := S4.out.cell 2
  have c3 := S4.out.cell 3
  have p0 := SP4.out.cell 0
  have p1 := SP4.out.cell 1
  have p2 := SP4.out.cell 2
  simp only [List.getElem?_cons_zero, List.getElem?_cons_succ] at c0 c1 c2 c3 p0 p1 p2
  go_upto_region 10 with (first | (go_at_call 39; go_must (refine (SR.out _ L4.out).mono ?_; rintro e w5 ⟨v5, rfl, ho5, hb5⟩; obtain ⟨gc, cc, sp, rfl, hcc, hcm, hgc, hbc⟩ := own_blk ho5 (by omega); have B5 := Lib.hid hb5; have BC5 := Lib.hid hbc; clear hb5 ho5 hbc)))
  have hall : ∀ Y ∈ cols, (bv Y).length = 16 := fun Y hY => by
    obtain ⟨i, hi⟩ := List.getElem?_of_mem hY
    rw [bv_len]
    exact H16.out i Y hi
  have S5 := Lib.hid (S4.out.below B5.out S4.out.lt)
  have X5 := Lib.hid (X4.out.below B5.out X4.out.lt)
  have P5 := Lib.hid (SP4.out.below B5.out SP4.out.lt)
  have L5 := Lib.hid (L4.out.trans (B5.out.mono s4))
  have s5 := B5.out.size
  have hgs4 := SP4.out.lt
  have hlen := flat_len hall
  have HPUT := Lib.hid (flat_put_front hall hbx16 (show C < cols.length by rw [HCL.out]; exact hCk) sp)
  have hfit : C * 16 + 16 ≤ (flat bv cols ++ sp).length := by
    rw [List.length_append, hlen, HCL.out]
    omega
  have HFIT := Lib.hid hfit
  clear c0 c1 c2 c3 p0 p1 p2 S4 X4 SP4 B5 hfit hlen MP SR
  have p1 := P5.out.cell 1
  simp only [List.getElem?_cons_zero, List.getElem?_cons_succ] at p1
  go_upto_region 12 with (first
    | (refine wpList_load_blk rfl 33 _ rfl (w.heap.size + 1) 0 16 rfl 33 _ _ X5.out Try.underlying33 rfl (by kernel_rfl) (by rw [hbx16]; omega) (bv X) (by rw [List.drop_zero, List.take_of_length_le (by rw [hbx16]; omega)]) ?_)
    | (refine wpList_store_blk rfl 33 _ _ rfl gc (C * 16) 16 rfl 33 (flat bv cols ++ sp) (bv X) rfl BC5.out (by kernel_rfl) hbx16 HFIT.out (bv_cell X) ?_; intro w6 z6 g6; rw [HPUT.out] at z6; have BC6 := Lib.hid z6; have G6 := Lib.hid g6; clear z6 g6))
  have hgc5 := BC5.out.lt
  have hgcn : gc ≠ gs ∧ gc ≠ w.heap.size ∧ gc ≠ w.heap.size + 1 := by omega
  have S6 := Lib.hid (S5.out.grown G6.out (by omega))
  have P6 := Lib.hid (P5.out.grown G6.out (by omega))
  have L6 := Lib.hid (below_grown L5.out G6.out L5.out.size (by omega))
  have s6 := G6.out.size
  have hgc6 := BC6.out.lt
  obtain ⟨cols1, hc1⟩ : ∃ cols1, cols1 = cols.set C X := ⟨_, rfl⟩
  have HC1 := Lib.hid hc1
  rw [← hc1] at BC6
  have hlen1 : cols1.length = k := by rw [hc1, List.length_set]; exact HCL.out
  have hall1 : ∀ Y ∈ cols1, (bv Y).length = 16 := fun Y hY => by
    rw [hc1] at hY
    rcases List.mem_or_eq_of_mem_set hY with h1 | h1
    · exact hall Y h1
    · subst h1; exact hbx16
  have HALL1 := Lib.hid hall1
  have HL1 := Lib.hid hlen1
  clear S5 X5 P5 L5 BC5 G6 HPUT HFIT hall hc1 hall1 hlen1 hgs4 s5
  go_wp2_with fail
  go_loopw [15, 64] (fun v i w' => ∃ q : Nat, q ≤ m ∧ i = .int .i64 q ∧ w'.ownsRow w6.heap.size 27 1 v q (sv (pcs gc q)) ∧ Below w6.heap.size w6 w') (fun _ i _ => m - (intOf i).toNat)
  case atStart => exact ⟨0, by omega, rfl, ⟨rfl, .inl ⟨rfl, rfl⟩⟩, Below.refl _ _⟩
  case round =>
    obtain ⟨q, hq, rfl, hown, hbe⟩ := hrel
    have HO := Lib.hid hown
    have HB := Lib.hid hbe
    have sw := hbe.size
    clear hown hbe
    by_cases hqm : q < m
    · have hqk : q < k := by omega
      have HK := Lib.hid (pcs_succ gc q)
      go_wp2_with (first
        | (at_builtin; refine wpList_append_any _ rfl _ _ 42 rfl w6.heap.size 27 (.slice none 0 0) 1 24 Try.underlying42 info_b rfl (by decide) _ q (sv (pcs gc q)) rfl (HO.out.alloc _) (some ⟨wr.heap.size, 0, none⟩) 1 1 [.slice (some ⟨gc, q * 16, none⟩) 16 16] rfl (src_blk (blk_at rfl rfl) rfl (fun u hu => by simp at hu; subst hu; rfl)) ?a1 ?a2 ?a3 ?_))
      case a1 => omega
      case a2 => unfold maxLen; omega
      case a3 => rw [size_alloc]; omega
      intro v7 w7 o7 g7
      have B7 := Lib.hid ((HB.out.alloc sw (.cells #[.slice (some ⟨gc, q * 16, none⟩) 16 16] 27)).grown g7 (by rw [size_alloc]; omega) (fun k hk => (HO.out.lt k hk).1))
      have O7 := Lib.hid (show w7.ownsRow w6.heap.size 27 1 v7 (q + 1) (sv (pcs gc (q + 1))) from by rw [HK.out]; unfold sv; rw [List.map_append]; exact o7)
      clear o7 g7
      go_wp2_with fail
      go_roundw
      case rel => exact ⟨q + 1, by omega, by go_num, O7.out, B7.out⟩
      case measure => simp [intOf]; omega
    · obtain rfl : m = q := by omega
      have sB := HB.out.size
      have BCr := Lib.hid (BC6.out.below HB.out BC6.out.lt)
      obtain ⟨a7, c7, rfl, _, _, hz7⟩ := own_slice HO.out (by decide)
      have T7 : Tab wr a7 (pcs gc m) (cols1.take m) := by
        refine ⟨by rw [pcs_len, List.length_take, HL1.out]; omega, ?_, fun i p B hp hB => ?_⟩
        · rcases hz7 with h0 | ⟨g, rfl, _, hc⟩
          · omega
          · exact .inr ⟨g, 0, rfl, hc⟩
        · have him : i < m := by have := (List.getElem?_eq_some_iff.1 hp).1; rw [pcs_len] at this; exact this
          rw [pcs_get him] at hp
          cases hp
          rw [List.getElem?_take, if_pos him] at hB
          have hB16 : B.length = 16 := by have := HALL1.out B (List.mem_of_getElem? hB); rwa [bv_len] at this
          refine ⟨hB16.symm, hB16, Nat.le_refl _, by show 16 ≤ maxLen; decide, .inr ⟨gc, i * 16, rfl, fun j u hu => ?_⟩⟩
          rw [BCr.out.cell, List.getElem?_append_left]
          · exact flat_get HALL1.out hB (by rw [bv_get, hu]; rfl)
          · have h1 := flat_inb HALL1.out hB
            have h2 := (List.getElem?_eq_some_iff.1 hu).1
            omega
      have hl1m : (cols1.take m).length = m := by rw [List.length_take, HL1.out]; omega
      have EN := Lib.hid (encode_any 16 (by decide) (by decide) a7 c7 (pcs gc m) (cols1.take m) wr T7 (by rw [hl1m]; omega) (by rw [hl1m]; omega) (fun B hB => by have := HALL1.out B (List.mem_of_mem_take hB); rwa [bv_len] at this))
      rw [hl1m] at EN
      obtain ⟨SP, hSP⟩ : ∃ SP, SP = sumP 16 (cols1.take m) m := ⟨_, rfl⟩
      obtain ⟨SQ, hSQ⟩ : ∃ SQ, SQ = sumQ 16 (cols1.take m) m := ⟨_, rfl⟩
      have SP16 : (bv SP).length = 16 := by rw [bv_len, hSP]; exact sumP_len _ _ _
      have SQ16 : (bv SQ).length = 16 := by rw [bv_len, hSQ]; exact sumQ_len _ _ _
      rw [← hSP, ← hSQ] at EN
      have HSP := Lib.hid hSP
      have HSQ := Lib.hid hSQ
      clear T7 hz7 HO hSP hSQ hl1m
      go_upto_region 19 with (first | (go_at_call 40; go_must (refine EN.out.mono ?_; rintro e w8 ⟨bp, bq, rfl, hbp, hbq, hpq, hP, hQ, hb8⟩; have BP8 := Lib.hid hP; have BQ8 := Lib.hid hQ; have B8 := Lib.hid hb8; clear hP hQ hb8)))
      have hsz : gc < wr.heap.size := BCr.out.lt
      have BC8 := Lib.hid (BCr.out.below B8.out hsz)
      have s8 := B8.out.size
      have B68 := Lib.hid (HB.out.trans (B8.out.mono sB))
      have hput1 := Lib.hid (flat_put_front HALL1.out SP16 (show m < cols1.length by rw [HL1.out]; exact hmk) sp)
      have BPe := Lib.hid (fun (w' : World) (h : w' = w8.drew ∨ (Blk w' gc (flat bv (cols1.set m SP) ++ sp) 33 ∧ w8.drew.grownBy w' (some gc))) => show Blk w' bp (bv SP) 5 from by
        rcases h with rfl | h
        · exact BP8.out.drew
        · exact BP8.out.drew.grown h.2 (by omega))
      have BQe := Lib.hid (fun (w' : World) (h : w' = w8.drew ∨ (Blk w' gc (flat bv (cols1.set m SP) ++ sp) 33 ∧ w8.drew.grownBy w' (some gc))) => show Blk w' bq (bv SQ) 5 from by
        rcases h with rfl | h
        · exact BQ8.out.drew
        · exact BQ8.out.drew.grown h.2 (by omega))
      have hfl : (flat bv cols1 ++ sp).length ≥ k * 16 := by rw [List.length_append, flat_len HALL1.out, HL1.out]; omega
      have HFL := Lib.hid hfl
      clear hfl
      refine wp_region_gate_tail (fun d w' => InvL.At 12 (fun w' => w' = w8.drew) (fun w' => Blk w' gc (flat bv (cols1.set m SP) ++ sp) 33 ∧ w8.drew.grownBy w' (some gc)) d w') 13 (by kernel_rfl) (by kernel_rfl) (InvL.At.start (by kernel_rfl) rfl) ?_
      simp only [List.take_succ_cons, List.take_zero, List.drop_succ_cons, List.drop_zero]
      refine invc_value (.slice (some ⟨gc, 0, none⟩) k cc) (fun u hu => by cases hu) rfl (fun d w' hd hG h => by clear h; go_simp; all_goals (first | rfl | omega)) (fun d w' hd _ h => h.keep (by decide) id id) ?_
      simp only [Act.put, List.setIfInBounds_toArray, List.set_cons_zero, List.set_cons_succ]
      refine invc_value (.int .i64 (m : Int)) (fun u hu => by cases hu) rfl (fun d w' hd hG h => by clear h; go_simp; all_goals (first | rfl | omega)) (fun d w' hd _ h => h.keep (by decide) id id) ?_
      simp only [Act.put, List.setIfInBounds_toArray, List.set_cons_zero, List.set_cons_succ]
      refine invc_value (.slice (some ⟨gc, 0, none⟩) k cc) (fun u hu => by cases hu) rfl (fun d w' hd hG h => by clear h; go_simp; all_goals (first | rfl | omega)) (fun d w' hd _ h => h.keep (by decide) id id) ?_
      simp only [Act.put, List.setIfInBounds_toArray, List.set_cons_zero, List.set_cons_succ]
      refine invc_value (.int .i64 (m : Int)) (fun u hu => by cases hu) rfl (fun d w' hd hG h => by clear h; go_simp; all_goals (first | rfl | omega)) (fun d w' hd _ h => h.keep (by decide) id id) ?_
      simp only [Act.put, List.setIfInBounds_toArray, List.set_cons_zero, List.set_cons_succ]
      refine invc_value (.int .i64 ((m : Int) + 1)) (fun u hu => by cases hu) rfl (fun d w' hd hG h => by clear h; go_simp; exact w64 (by omega) (by omega)) (fun d w' hd _ h => h.keep (by decide) id id) ?_
      simp only [Act.put, List.setIfInBounds_toArray, List.set_cons_zero, List.set_cons_succ]
      refine invc_value (.slice (some ⟨bp, 0, none⟩) 16 16) (fun u hu => by cases hu) rfl (fun d w' hd hG h => by clear h; go_simp; all_goals (first | rfl | omega)) (fun d w' hd _ h => h.keep (by decide) id id) ?_
      simp only [Act.put, List.setIfInBounds_toArray, List.set_cons_zero, List.set_cons_succ]
      refine invc_value (.pointer (some ⟨bp, 0, none⟩)) (fun u hu => by cases hu) rfl (fun d w' hd hG h => exec_array_at (len := 16) rfl rfl Try.underlying33 (by decide)) (fun d w' hd _ h => h.keep (by decide) id id) ?_
      simp only [Act.put, List.setIfInBounds_toArray, List.set_cons_zero, List.set_cons_succ]
      refine invc_value (.agg (bv SP).toArray) (fun u hu => by cases hu) rfl (fun d w' hd hG h => InvM.exec_load (m := 16) rfl rfl (BPe.out w' (at_or h)) Try.underlying33 rfl (by kernel_rfl) SP16) (fun d w' hd _ h => h.keep (by decide) id id) ?_
      simp only [Act.put, List.setIfInBounds_toArray, List.set_cons_zero, List.set_cons_succ]
      refine invc_value (.slice (some ⟨bq, 0, none⟩) 16 16) (fun u hu => by cases hu) rfl (fun d w' hd hG h => by clear h; go_simp; all_goals (first | rfl | omega)) (fun d w' hd _ h => h.keep (by decide) id id) ?_
      simp only [Act.put, List.setIfInBounds_toArray, List.set_cons_zero, List.set_cons_succ]
      refine invc_value (.pointer (some ⟨bq, 0, none⟩)) (fun u hu => by cases hu) rfl (fun d w' hd hG h => exec_array_at (len := 16) rfl rfl Try.underlying33 (by decide)) (fun d w' hd _ h => h.keep (by decide) id id) ?_
      simp only [Act.put, List.setIfInBounds_toArray, List.set_cons_zero, List.set_cons_succ]
      refine invc_value (.agg (bv SQ).toArray) (fun u hu => by cases hu) rfl (fun d w' hd hG h => InvM.exec_load (m := 16) rfl rfl (BQe.out w' (at_or h)) Try.underlying33 rfl (by kernel_rfl) SQ16) (fun d w' hd _ h => h.keep (by decide) id id) ?_
      simp only [Act.put, List.setIfInBounds_toArray, List.set_cons_zero, List.set_cons_succ]
      refine invc_value (.pointer (some ⟨gc, m * 16, none⟩)) (fun u hu => by cases hu) rfl (fun d w' hd hG h => by clear h; go_simp; all_goals (first | rfl | omega)) (fun d w' hd _ h => h.keep (by decide) id id) ?_
      simp only [Act.put, List.setIfInBounds_toArray, List.set_cons_zero, List.set_cons_succ]
      refine InvE.invc_meets undef (fun u hu => by cases hu) rfl (fun d w' hd hG h => by
        have hA := h.before hd
        subst hA
        refine meets_store_at (m := 16) (vs := bv SP) rfl rfl rfl BC8.out.drew (by kernel_rfl) SP16 (Nat.le_trans (show m * 16 + 16 ≤ k * 16 from by omega) HFL.out) (bv_cell SP) (InvL.At.now hd ⟨?_, grown_setRow _ _ _⟩)
        have hz := BC8.out.drew.setRow (put (flat bv cols1 ++ sp) (m * 16) (bv SP))
        rw [hput1.out] at hz
        rw [hput1.out]
        exact hz) ?_
      simp only [Act.put, List.setIfInBounds_toArray, List.set_cons_zero, List.set_cons_succ]
      refine invc_nil fun w9 hI => ?_
      have hI9 := hI.done (by kernel_rfl)
      have BC9 := Lib.hid hI9.1
      have G9 := Lib.hid hI9.2
      have hall2 : ∀ Y ∈ cols1.set m SP, (bv Y).length = 16 := fun Y hY => by
        rcases List.mem_or_eq_of_mem_set hY with h1 | h1
        · exact HALL1.out Y h1
        · subst h1; exact SP16
      have hput2 := Lib.hid (flat_put_front hall2 SQ16 (show m + 1 < (cols1.set m SP).length by rw [List.length_set, HL1.out]; exact hmk1) sp)
      have hfl2 : (flat bv (cols1.set m SP) ++ sp).length ≥ k * 16 := by rw [List.length_append, flat_len hall2, List.length_set, HL1.out]; omega
      have HFL2 := Lib.hid hfl2
      have HALL3 := Lib.hid (show ∀ Y ∈ (cols1.set m SP).set (m + 1) SQ, (bv Y).length = 16 from fun Y hY => by
        rcases List.mem_or_eq_of_mem_set hY with h1 | h1
        · exact hall2 Y h1
        · subst h1; exact SQ16)
      clear hI hI9 hall2 hfl2 BPe BQe hput1 HFL EN
      go_upto_region 20 with (first
        | (refine wpList_store_blk rfl 33 _ _ rfl gc ((m + 1) * 16) 16 rfl 33 (flat bv (cols1.set m SP) ++ sp) (bv SQ) rfl BC9.out (by kernel_rfl) SQ16 (Nat.le_trans (show (m + 1) * 16 + 16 ≤ k * 16 from by omega) HFL2.out) (bv_cell SQ) ?_; intro w10 z10 g10; rw [hput2.out] at z10; have BC10 := Lib.hid z10; have G10 := Lib.hid g10; clear z10 g10))
      have s9 := G9.out.size
      have s10 := G10.out.size
      rw [World.size_drew] at s9
      have hgc8 := BC8.out.lt
      have S8 := S6.out.below B68.out S6.out.lt
      have P8 := P6.out.below B68.out P6.out.lt
      have S10 := Lib.hid ((S8.drew.grown G9.out (by omega)).grown G10.out (by omega))
      have P10 := Lib.hid ((P8.drew.grown G9.out (by omega)).grown G10.out (by omega))
      have sz6 := L6.out.size
      have hl8 : Below w.heap.size w w8.drew := (L6.out.trans (B68.out.mono sz6)).drew
      have hl9 := below_grown hl8 G9.out hl8.size (by omega)
      have L10 := Lib.hid (below_grown hl9 G10.out hl9.size (by omega))
      obtain ⟨cols2, hc2⟩ : ∃ cols2, cols2 = (cols1.set m SP).set (m + 1) SQ := ⟨_, rfl⟩
      have HC2 := Lib.hid (show cols2 = newCols cols C m X from by rw [hc2, HSP.out, HSQ.out, HC1.out]; rfl)
      have HL2 := Lib.hid (show cols2.length = k from by rw [hc2, List.length_set, List.length_set, HL1.out])
      rw [← hc2] at HALL3 BC10
      clear S8 P8 hl8 hl9 hc2 HSP HSQ HC1 HALL1 HL1 BC9 BC8 BCr BC6 G9 G10 BP8 BQ8 B8 B68 S6 P6 L6 HB hput2 HFL2 sz6 SP16 SQ16
      have c0 := S10.out.cell 0
      have c1 := S10.out.cell 1
      have c2 := S10.out.cell 2
      have p0 := P10.out.cell 0
      have p1 := P10.out.cell 1
      have p2 := P10.out.cell 2
      simp only [List.getElem?_cons_zero, List.getElem?_cons_succ] at c0 c1 c2 p0 p1 p2
      go_upto_region 22 with (first | (go_at_call 41; go_must (refine (RW.out _).mono ?_; rintro e w11 ⟨v11, rfl, ho11, hb11⟩; obtain ⟨ap, cp, rfl, hpc, hpm, hpz⟩ := own_slice ho11 (by decide); have B11 := Lib.hid hb11; clear ho11 hb11)))
      obtain ⟨gp, rfl, hgp, hpat⟩ := hpz.resolve_left (by omega)
      have PL := Lib.hid (fun (q : Nat) (hq : q < k) => show w11.cell? ⟨gp, q * 2 + 0, none⟩ = some (.int .i64 ((fst d st + q) % d)) ∧ w11.cell? ⟨gp, q * 2 + 1, none⟩ = some (.int .i64 (A : Int)) from by
        have h0 := hpat (q * 2 + 0) (.int .i64 ((fst d st + q) % d)) (by rw [places_at hq 0 (by decide)]; rfl)
        have h1 := hpat (q * 2 + 1) (.int .i64 (A : Int)) (by rw [places_at hq 1 (by decide), EA.out]; rfl)
        rw [Nat.zero_add] at h0 h1
        exact ⟨h0, h1⟩)
      have S11 := Lib.hid (S10.out.below B11.out S10.out.lt)
      have P11 := Lib.hid (P10.out.below B11.out P10.out.lt)
      have BC11 := Lib.hid (BC10.out.below B11.out BC10.out.lt)
      have sl10 := L10.out.size
      have L11 := Lib.hid (L10.out.trans (B11.out.mono sl10))
      clear hpz hpat S10 P10 BC10 L10 B11 c0 c1 c2 p0 p1 p2 RW
      have p1 := P11.out.cell 1
      simp only [List.getElem?_cons_zero, List.getElem?_cons_succ] at p1
      have wm1 : IntKind.i64.wrap ((m : Int) + 1) = (m : Int) + 1 := w64 (by omega) (by omega)
      go_wp2_with fail
      obtain ⟨w12, hw12⟩ : ∃ w12, w12 = w11.alloc (.cells #[.int .i64 (C : Int), .int .i64 (m : Int), .int .i64 ((m : Int) + 1)] 3) := ⟨_, rfl⟩
      have B12 := Lib.hid (show Below w11.heap.size w11 w12 from by rw [hw12]; exact (Below.refl _ _).alloc (Nat.le_refl _) _)
      have IB := Lib.hid (show Blk w12 w11.heap.size [.int .i64 (C : Int), .int .i64 (m : Int), .int .i64 ((m : Int) + 1)] 3 from by rw [hw12]; exact blk_at rfl rfl)
      rw [← hw12]
      clear hw12 p1 wm1
      obtain ⟨gi, hgi⟩ : ∃ gi, gi = w11.heap.size := ⟨_, rfl⟩
      rw [← hgi] at IB ⊢
      have hgp11 : gp < w11.heap.size := block_lt_of_cell (PL.out 0 (by omega)).1
      have PL12 := Lib.hid (fun (q : Nat) (hq : q < k) => show w12.cell? ⟨gp, q * 2 + 0, none⟩ = some (.int .i64 ((fst d st + q) % d)) ∧ w12.cell? ⟨gp, q * 2 + 1, none⟩ = some (.int .i64 (A : Int)) from by
        rw [B12.out.cell (p := ⟨gp, q * 2 + 0, none⟩) hgp11, B12.out.cell (p := ⟨gp, q * 2 + 1, none⟩) hgp11]
        exact PL.out q hq)
      have hgp12 : gp < w12.heap.size := block_lt_of_cell (PL12.out 0 (by omega)).1
      have S12 := Lib.hid (S11.out.below B12.out S11.out.lt)
      have BC12 := Lib.hid (BC11.out.below B12.out BC11.out.lt)
      have sl11 := L11.out.size
      have L12 := Lib.hid (L11.out.trans (B12.out.mono sl11))
      have ST12 := Lib.hid (HS.out.below L12.out (Nat.le_refl _))
      have hs12 := S12.out.lt
      have hgc12 := BC12.out.lt
      have hgi12 := IB.out.lt
      have sl12 := L12.out.size
      obtain ⟨PP, hPP⟩ : ∃ PP, PP = planPut d st (A : Int) cols2 := ⟨_, rfl⟩
      have HPP := Lib.hid hPP
      have hfin : planOf d st (A : Int) cols C m X = [C, m, m + 1].map PP := by rw [hPP, HC2.out]; rfl
      have HFIN := Lib.hid hfin
      clear PL S11 BC11 L11 B12 hPP hfin hgi
      go_loopw [22, 111] (fun v i w' => ∃ q : Nat, q ≤ 3 ∧ i = .int .i64 q ∧ w'.ownsRow w12.heap.size 122 19 v q (flat putV (([C, m, m + 1].take q).map PP)) ∧ Below w12.heap.size w12 w') (fun _ i _ => 3 - (intOf i).toNat)
      case atStart => exact ⟨0, by omega, rfl, ⟨rfl, .inl ⟨rfl, rfl⟩⟩, Below.refl _ _⟩
      case round =>
        obtain ⟨q, hq, rfl, hown, hbe⟩ := hrel
        have HO := Lib.hid hown
        have HB := Lib.hid hbe
        have sw := hbe.size
        clear hown hbe
        by_cases hq3 : q < 3
        · obtain ⟨kk, hkk⟩ : ∃ kk, [C, m, m + 1][q]? = some kk := ⟨_, List.getElem?_eq_getElem (by simpa using hq3)⟩
          have hkkk : kk < k := by
            have := List.mem_of_getElem? hkk
            simp at this
            omega
          have HT := (show flat putV (([C, m, m + 1].take (q + 1)).map PP) = flat putV (([C, m, m + 1].take q).map PP) ++ putV (PP kk) from by rw [take_snoc _ _ _ hkk, List.map_append, flat_append]; simp [flat_one])
          have hib : wr.cell? ⟨gi, q, none⟩ = some (.int .i64 (kk : Int)) := by
            rw [HB.out.cell (p := ⟨gi, q, none⟩) hgi12, IB.out.cell]
            have hm3 : q = 0 ∨ q = 1 ∨ q = 2 := by omega
            rcases hm3 with rfl | rfl | rfl <;> · simp at hkk; subst hkk; rfl
          obtain ⟨Y, hY⟩ : ∃ Y, cols2[kk]? = some Y := ⟨_, List.getElem?_eq_getElem (by rw [HL2.out]; exact hkkk)⟩
          have hY16 := HALL3.out Y (List.mem_of_getElem? hY)
          obtain ⟨Kk, hKk⟩ : ∃ Kk : Nat, (Kk : Int) = (fst d st + kk) % d := ⟨((fst d st + kk) % d).toNat, by have := Int.emod_nonneg (fst d st + kk) (show d ≠ 0 by omega); omega⟩
          have hKkk : Kk < k := by have := Int.emod_lt_of_pos (fst d st + kk) hd0; rw [HD.out] at this hKk; have := HKM.out; omega
          have hpl := PL12.out kk hkkk
          rw [← hKk] at hpl
          have p0 : wr.cell? ⟨gp, kk * 2 + 0, none⟩ = some (.int .i64 (Kk : Int)) := by rw [HB.out.cell (p := ⟨gp, kk * 2 + 0, none⟩) hgp12]; exact hpl.1
          have p1 : wr.cell? ⟨gp, kk * 2 + 1, none⟩ = some (.int .i64 (A : Int)) := by rw [HB.out.cell (p := ⟨gp, kk * 2 + 1, none⟩) hgp12]; exact hpl.2
          obtain ⟨x, hx⟩ : ∃ x, ds[Kk]? = some x := ⟨_, List.getElem?_eq_getElem (by rw [HM.out, ← HKM.out]; exact hKkk)⟩
          have STr := ST12.out.below HB.out (Nat.le_refl _)
          have hdk := STr.disk Kk x hx
          have hptr := STr.ptr Kk x hx
          have hxal := HAL.out x (List.mem_of_getElem? hx)
          have Sr := Lib.hid (S12.out.below HB.out hs12)
          have hPk : PP kk = (Kk, A, cellOf A Y) := by
            rw [HPP.out]
            unfold planPut
            rw [← hKk, List.getD_eq_getElem?_getD, hY]
            rfl
          rw [hPk] at HT
          have HTT := Lib.hid HT
          clear HT
          have YC := Lib.hid (fun (j : Nat) (u : Value) (hu : (bv Y)[j]? = some u) => show wr.cell? ⟨gc, kk * 16 + j, none⟩ = some u from by
            rw [HB.out.cell (p := ⟨gc, kk * 16 + j, none⟩) hgc12, BC12.out.cell, List.getElem?_append_left]
            · exact flat_get HALL3.out hY hu
            · have h1 := flat_inb HALL3.out hY
              have h2 := (List.getElem?_eq_some_iff.1 hu).1
              omega)
          have ALV := Lib.hid (fun (w' : World) (hb : Below wr.heap.size wr w') => alive_yes { hdk with head := hdk.head.below hb hdk.head.lt, body := hdk.body.below hb hdk.body.lt } hxal)
          have SE := Lib.hid (fun (w' : World) => Seal.seal_any (A : Int) (by omega) (by omega) Y (by rw [bv_len] at hY16; exact hY16) w')
          have hgdr : gd < wr.heap.size := block_lt_of_cell hptr
          have hgc14 : gc < wr.heap.size := Nat.lt_of_lt_of_le hgc12 sw
          have Y16 := Lib.hid (show Y.length = 16 from by rw [bv_len] at hY16; exact hY16)
          obtain ⟨bd, bs, D⟩ := x
          simp only at hptr ALV
          clear hpl hx hdk hxal STr hkk hY hKk hPk
          go_upto_region 26 with (first
            | (refine wpList_value_g rfl (.agg #[.int .i64 (Kk : Int), .int .i64 (A : Int)]) (exec_load_from (ad := ⟨gp, kk * 2, none⟩) (m := 2) (vs := [.int .i64 (Kk : Int), .int .i64 (A : Int)]) rfl rfl (fun j v hv => by
                rcases j with _ | _ | j
                · cases hv; exact p0
                · cases hv; exact p1
                · cases hv) Try.underlying109 rfl (by kernel_rfl) rfl) ?_))
          obtain ⟨w14, hw14⟩ : ∃ w14, w14 = wr.alloc (.cells #[.int .i64 (Kk : Int), .int .i64 (A : Int)] 109) := ⟨_, rfl⟩
          have B14 := Lib.hid (show Below wr.heap.size wr w14 from by rw [hw14]; exact (Below.refl _ _).alloc (Nat.le_refl _) _)
          have TB := Lib.hid (show Blk w14 wr.heap.size [.int .i64 (Kk : Int), .int .i64 (A : Int)] 109 from by rw [hw14]; exact blk_at rfl rfl)
          rw [← hw14]
          clear hw14 p0 p1 hib
          have S14 := Lib.hid (Sr.out.below B14.out Sr.out.lt)
          have c3 := S14.out.cell 3
          have p0 := TB.out.cell 0
          have p1 := TB.out.cell 1
          simp only [List.getElem?_cons_zero, List.getElem?_cons_succ] at c3 p0 p1
          have hp14 : w14.cell? ⟨gd, Kk, none⟩ = some (.pointer (some ⟨bd, 0, none⟩)) := by rw [B14.out.cell (p := ⟨gd, Kk, none⟩) hgdr]; exact hptr
          have sr14 := B14.out.size
          have BLr := Lib.hid (HB.out.trans (B14.out.mono sw))
          have HOr := Lib.hid (Lay.own_below HO.out B14.out)
          obtain ⟨gt, hgt⟩ : ∃ gt, gt = wr.heap.size := ⟨_, rfl⟩
          rw [← hgt] at TB p0 p1 ⊢
          have hYC14 := Lib.hid (fun (j : Nat) (u : Value) (hu : (bv Y)[j]? = some u) => show w14.cell? ⟨gc, kk * 16 + j, none⟩ = some u from by rw [B14.out.cell (p := ⟨gc, kk * 16 + j, none⟩) hgc14]; exact YC.out j u hu)
          have YC := hYC14
          have hgc14 : gc < w14.heap.size := Nat.lt_of_lt_of_le hgc14 sr14
          clear hgt hYC14 hptr
          go_upto_region 27 with (first | (go_at_call 42; go_must (refine (ALV.out _ B14.out).mono ?_; rintro e w15 ⟨rfl, rfl⟩)))
          have BLO := Lib.hid (fun (κ : Nat) (d : Array Bool) (w' : World) (h : At2 8 10 (fun w' => w' = w14.drew) (fun w' => Below w14.heap.size w14 w' ∧ w'.heap.size = κ) (fun w' => Below w14.heap.size w14 w' ∧ w14.heap.size ≤ κ ∧ Blk w' κ (putV (Kk, A, cellOf A Y)) 122) d w') => show Below w14.heap.size w14 w' from by
            unfold At2 at h
            split at h
            · exact h.2.1
            · split at h
              · exact h.1
              · subst h; exact (Below.refl _ _).drew)
          have C17 := Lib.hid (Cel.len (cellOf_ok (A := A) Y16.out))
          have P19 := Lib.hid (putV_len (q := (Kk, A, cellOf A Y)) (cellOf_ok Y16.out))
          have BU := Lib.hid (show Try.prog.built 122 [(0, .agg #[.int .i64 (Kk : Int), .int .i64 (A : Int)]), (1, .agg (cellOf A Y).cells.toArray)] = some (putV (Kk, A, cellOf A Y)).toArray from built_put (Kk : Int) (A : Int) (cellOf A Y).cells (Cel.len (cellOf_ok Y16.out)))
          have SEc := Lib.hid (fun (w' : World) => show Calls Try.prog 35 #[.int .i64 (A : Int), .agg (bv Y).toArray] w' fun e w'' => e = .returned (.agg (cellOf A Y).cells.toArray) ∧ Below w'.heap.size w' w'' from SE.out w')
          refine wp_region_choice (K := Nat) (fun κ d w' => At2 8 10 (fun w' => w' = w14.drew) (fun w' => Below w14.heap.size w14 w' ∧ w'.heap.size = κ) (fun w' => Below w14.heap.size w14 w' ∧ w14.heap.size ≤ κ ∧ Blk w' κ (putV (Kk, A, cellOf A Y)) 122) d w') (fun i => [some (u22), some (.agg #[.int .i64 (Kk : Int), .int .i64 (A : Int)]), some (.pointer (some ⟨gt, 1, none⟩)), some (.int .i64 (A : Int)), some (.slice (some ⟨gc, 0, none⟩) k cc), some (.int .i64 (kk : Int)), some (.pointer (some ⟨gc, kk * 16, none⟩)), some (.agg (bv Y).toArray)].getD i none) (fun κ => .agg (cellOf A Y).cells.toArray) 11 8 (by kernel_rfl) (by kernel_rfl) (by kernel_rfl) (fun κ κ' d w' hp h => by
            unfold At2 at h ⊢
            split at h
            · rw [hp] at h; exact absurd h.1 (by decide)
            · rename_i hq
              rw [if_neg hq, hp]
              rw [hp] at h
              exact h) (fun κ => At2.start (by kernel_rfl) (by kernel_rfl) rfl) ?_
          intro κ
          simp only [List.take_succ_cons, List.take_zero, List.drop_succ_cons, List.drop_zero]
          refine invx_value (u22) (by decide) (fun u hu => Option.some.inj hu) rfl (fun d w' hd hG h => by clear h; go_simp; all_goals (first | rfl | omega)) (fun d w' hd hG h => h.keep (by decide) (by decide)) ?_
          simp only [Act.put, List.setIfInBounds_toArray, List.set_cons_zero, List.set_cons_succ]
          refine invx_value (.agg #[.int .i64 (Kk : Int), .int .i64 (A : Int)]) (by decide) (fun u hu => Option.some.inj hu) rfl (fun d w' hd hG h => InvM.exec_load (m := 2) rfl rfl (TB.out.below (BLO.out κ d w' h) TB.out.lt) Try.underlying109 rfl (by kernel_rfl) rfl) (fun d w' hd hG h => h.keep (by decide) (by decide)) ?_
          simp only [Act.put, List.setIfInBounds_toArray, List.set_cons_zero, List.set_cons_succ]
          refine invx_value (.pointer (some ⟨gt, 1, none⟩)) (by decide) (fun u hu => Option.some.inj hu) rfl (fun d w' hd hG h => by clear h; go_simp; all_goals (first | rfl | omega)) (fun d w' hd hG h => h.keep (by decide) (by decide)) ?_
          simp only [Act.put, List.setIfInBounds_toArray, List.set_cons_zero, List.set_cons_succ]
          refine invx_value (.int .i64 (A : Int)) (by decide) (fun u hu => Option.some.inj hu) rfl (fun d w' hd hG h => by have f1 := (TB.out.below (BLO.out κ d w' h) TB.out.lt).cell 1; simp only [List.getElem?_cons_zero, List.getElem?_cons_succ] at f1; clear h; go_simp) (fun d w' hd hG h => h.keep (by decide) (by decide)) ?_
          simp only [Act.put, List.setIfInBounds_toArray, List.set_cons_zero, List.set_cons_succ]
          refine invx_value (.slice (some ⟨gc, 0, none⟩) k cc) (by decide) (fun u hu => Option.some.inj hu) rfl (fun d w' hd hG h => by clear h; go_simp; all_goals (first | rfl | omega)) (fun d w' hd hG h => h.keep (by decide) (by decide)) ?_
          simp only [Act.put, List.setIfInBounds_toArray, List.set_cons_zero, List.set_cons_succ]
          refine invx_value (.int .i64 (kk : Int)) (by decide) (fun u hu => Option.some.inj hu) rfl (fun d w' hd hG h => by clear h; go_simp; all_goals (first | rfl | omega)) (fun d w' hd hG h => h.keep (by decide) (by decide)) ?_
          simp only [Act.put, List.setIfInBounds_toArray, List.set_cons_zero, List.set_cons_succ]
          refine invx_value (.pointer (some ⟨gc, kk * 16, none⟩)) (by decide) (fun u hu => Option.some.inj hu) rfl (fun d w' hd hG h => by clear h; go_simp; all_goals (first | rfl | omega)) (fun d w' hd hG h => h.keep (by decide) (by decide)) ?_
          simp only [Act.put, List.setIfInBounds_toArray, List.set_cons_zero, List.set_cons_succ]
          refine invx_value (.agg (bv Y).toArray) (by decide) (fun u hu => Option.some.inj hu) rfl (fun d w' hd hG h => exec_load_from (ad := ⟨gc, kk * 16, none⟩) (m := 16) rfl rfl (fun j u hu => by rw [Addr.add_lit, (BLO.out κ d w' h).cell (p := ⟨gc, kk * 16 + j, none⟩) hgc14]; exact YC.out j u hu) Try.underlying33 rfl (by kernel_rfl) hY16) (fun d w' hd hG h => h.keep (by decide) (by decide)) ?_
          simp only [Act.put, List.setIfInBounds_toArray, List.set_cons_zero, List.set_cons_succ]
          refine invx_call (.agg (cellOf A Y).cells.toArray) (fun u hu => Option.some.inj hu) rfl 35 #[.int .i64 (A : Int), .agg (bv Y).toArray] (fun d w' h => by go_simp) (fun d w' hd hG h => by
            have hw := (h.at_p hd).1
            refine (SEc.out w').mono ?_
            rintro e w5 ⟨rfl, hb5⟩
            exact ⟨w5.heap.size, _, rfl, rfl, At2.set_p (by decide) hd (h.at_p hd).2 (by subst hw; exact ⟨(Below.refl _ _).drew.trans hb5, rfl⟩)⟩) ?_
          simp only [Act.put, List.setIfInBounds_toArray, List.set_cons_zero, List.set_cons_succ]
          refine invx_value (.agg (putV (Kk, A, cellOf A Y)).toArray) (by decide) (fun u hu => by have hu' : (none : Option Value) = some u := hu; cases hu') rfl (fun d w' hd hG h => exec_built' rfl rfl BU.out) (fun d w' hd hG h => h.keep (by decide) (by decide)) ?_
          simp only [Act.put, List.setIfInBounds_toArray, List.set_cons_zero, List.set_cons_succ]
          refine invx_meets (.slice (some ⟨κ, 0, none⟩) 1 1) (by decide) (fun u hu => by have hu' : (none : Option Value) = some u := hu; cases hu') rfl (fun d w' hd hG h => by
            have h8 := leans_gate hG (by kernel_rfl : leansB _ 8 13 10 = true)
            have hB := h.at_q hd h8
            rw [exec_build_one (w := w') (vs := putV (Kk, A, cellOf A Y)) rfl rfl Try.underlying65 info_put P19.out (by decide) (by decide)]
            have hs14 := hB.1.size
            have hsz := hB.2
            exact ⟨by rw [hsz], At2.did_q (by decide) hd h8 ⟨hB.1.alloc hs14 _, by omega, blk_at hsz rfl⟩⟩) ?_
          simp only [Act.put, List.setIfInBounds_toArray, List.set_cons_zero, List.set_cons_succ]
          refine invx_nil fun w16 hI => ?_
          have hF : Below w14.heap.size w14 w16 ∧ w14.heap.size ≤ κ ∧ Blk w16 κ (putV (Kk, A, cellOf A Y)) 122 := by
            unfold At2 at hI
            rw [if_pos (by kernel_rfl)] at hI
            exact hI.2
          have B16 := Lib.hid hF.1
          have PB16 := Lib.hid hF.2.2
          have hκ := hF.2.1
          clear hI hF BLO SEc BU
          have hb14 := B16.out.size
          go_wp2_with (first
            | (at_builtin; refine wpList_append_any _ rfl _ _ 65 rfl w12.heap.size 122 (.agg ([Value.int .i64 0, Value.int .i64 0] ++ (Seal.zeros 16 ++ [Value.int .u32 0])).toArray) 19 40 Try.underlying65 info_put rfl (by decide) _ q (flat putV (([C, m, m + 1].take q).map PP)) rfl (Lay.own_below HOr.out B16.out) (some ⟨κ, 0, none⟩) 1 1 (putV (Kk, A, cellOf A Y)) rfl (src_blk PB16.out P19.out (putV_one _)) ?b1 ?b2 ?b3 ?_))
          case b1 => omega
          case b2 => unfold maxLen; omega
          case b3 => omega
          intro v17 w17 o17 g17
          have o17' : w17.ownsRow w12.heap.size 122 19 v17 (q + 1) (flat putV (([C, m, m + 1].take (q + 1)).map PP)) := by rw [HTT.out, List.map_take]; exact o17
          have B17 := Lib.hid ((BLr.out.trans (B16.out.mono (by omega))).grown g17 (by omega) (fun k hk => (HOr.out.lt k hk).1))
          have O17 := Lib.hid o17'
          clear o17 o17' g17
          go_wp2_with fail
          go_roundw
          case rel => exact ⟨q + 1, by omega, by go_num, O17.out, B17.out⟩
          case measure => simp [intOf]; omega
        · obtain rfl : q = 3 := by omega
          have ho := HO.out
          rw [List.take_of_length_le (Nat.le_refl 3)] at ho
          have HO := Lib.hid ho
          clear ho
          go_wp2_with fail
          go_ret2
          exact ⟨_, rfl, by rw [HFIN.out]; exact own_base HO.out (fun g hg => by have := (own_lt HO.out hg).1; omega), L12.out.trans (HB.out.mono sl12)⟩
end Go.Proofs.Ytgnnjinpcdemiaa.Str
/-
  stripe.New by contract. Helper text; no statement is proved here.
-/
set_option linter.unusedVariables false
set_option maxRecDepth 20000
set_option linter.unusedSimpArgs false
namespace Go.Proofs.Ytgnnjinpcdemiaa.Str
open Go.RowKit Go.Proofs.Ytgnnjinpcdemiaa.Base Go.Proofs.Ytgnnjinpcdemiaa.Laws Go.Proofs.Ytgnnjinpcdemiaa.Disk Go.Proofs.Ytgnnjinpcdemiaa.Lay Go.Proofs.Ytgnnjinpcdemiaa.Par Go.Proofs.Ytgnnjinpcdemiaa.Flat Go.Proofs.Ytgnnjinpcdemiaa.Row Go.Proofs.Ytgnnjinpcdemiaa.InvM Go.Proofs.Ytgnnjinpcdemiaa.InvX Go.Proofs.Ytgnnjinpcdemiaa.InvG Go.Proofs.Ytgnnjinpcdemiaa.InvC Go.Proofs.Ytgnnjinpcdemiaa.Codec Go.Proofs.Ytgnnjinpcdemiaa.Seal
section
variable {P : Program} {K : Type} {I : K → Array Bool → World → Prop} {G : Nat → Array Bool → Prop} {T : K → Nat → Option Value} {p : Nat} {κ : K} {ops : Array Oper}
/-- a call of another function whose value is known -/
theorem invx_calls {Q : Act → Prop} {i : Nat} {a : Act} {o : Oper} {rest : List Oper} (v : Value) (hip : i ≠ p) (hT : ∀ u, T κ i = some u → v = u) (hw : Region.wanted o (yielded ops a.tmps) = true) (f : FuncId) (args : Array Value) (hr : ∀ d w, I κ d w → (execOp a.eval o).run P w = .ok (.enter f args) w)
    (hc : ∀ d w, d.getD i true = false → G i d → I κ d w → Calls P f args w fun e w' => e = .returned v ∧ I κ (d.setIfInBounds i true) w') (h : wpInvX P I G T p κ ops Q (i + 1) rest (a.put o.dst v)) : wpInvX P I G T p κ ops Q i (o :: rest) a :=
  invx_meets v hip hT hw (fun d w hd hG hI => by rw [hr d w hI]; exact hc d w hd hG hI) h
/-- an operation that is no call, whose value is chosen -/
theorem invx_pick {Q : Act → Prop} {a : Act} {o : Oper} {rest : List Oper} (v : Value) (hT : ∀ u, T κ p = some u → v = u) (hw : Region.wanted o (yielded ops a.tmps) = true)
    (hr : ∀ d w, d.getD p true = false → G p d → I κ d w → ∃ κ' u w', (execOp a.eval o).run P w = .ok (.value u) w' ∧ T κ' p = some u ∧ I κ' (d.setIfInBounds p true) w')
    (h : wpInvX P I G T p κ ops Q (p + 1) rest (a.put o.dst v)) : wpInvX P I G T p κ ops Q p (o :: rest) a :=
  ⟨v, ⟨hT, .inl ⟨hw, fun d w hd hG hI => by obtain ⟨κ', u, w', e1, e2, e3⟩ := hr d w hd hG hI; rw [e1]; exact .inl ⟨rfl, κ', e2, e3⟩⟩⟩, h⟩
end
/-- a slice of one value is built -/
theorem run_build_val {P : Program} (w : World) {t e : TypeId} {vs : List Value} {u : Value} (huc : u.cells = vs.toArray) {z : Value} {size bytes : Nat} (hu : P.underlying t = some (.slice e)) (hi : (P.info? e).map (fun i => (i.zero, i.size, i.bytes)) = some (some z, size, bytes)) (hl : vs.length = size) (h0 : 0 < size) (hs : size ≤ 1000) :
    (Instr.buildSlice t 1 #[(0, u)]).run P w = .ok (.slice (some ⟨w.heap.size, 0, none⟩) 1 1) (w.alloc (.cells vs.toArray e)) := by
  obtain ⟨i, hi, hz, hsz, hb⟩ := info_parts hi
  have hso : (sizeOf e).run P w = .ok size w := by simp [sizeOf, typeInfo, hi, hsz]
  have hzo : (zeroValue e).run P w = .ok z w := by simp [zeroValue, typeInfo, hi, hz]
  have hf : ∀ A : Array Value, A.size = size → Instr.fill (fun i => some (i * size, size)) A [(0, u)] = some vs.toArray := fun A hA => by
    have := fill_cons (fun i => some (i * size, size)) A.toList vs 0 0 u [] (by simp [hl]) huc (by simp [hA, hl])
    rw [show A.toList.toArray = A from by simp] at this
    rw [this, put_all _ _ (by simp [hA, hl])]
    rfl
  unfold Instr.buildSlice
  have hfa := hf ((Array.range (1 * size)).map (fun x => z.cells[x % z.cells.size]!)) (by simp)
  simp only [Sem.run_bind, run_underlying hu, Result.andThen_ok, hso, Nat.one_mul, hzo] at hfa ⊢
  rw [if_neg (by omega), if_neg (by omega)]
  simp [hzo, hfa, newRow, newObj]
  rfl
theorem exec_build_val {P : Program} {ρ : Operand → Value} {w : World} {o : Oper} {t e : TypeId} {x : Operand} {vs : List Value} {u : Value} (huc : u.cells = vs.toArray) {z : Value} {size bytes : Nat} (ho : o.op = .buildSlice t 1 #[(0, x)]) (hx : ρ x = u) (hu : P.underlying t = some (.slice e)) (hi : (P.info? e).map (fun i => (i.zero, i.size, i.bytes)) = some (some z, size, bytes)) (hl : vs.length = size) (h0 : 0 < size) (hs : size ≤ 1000) :
    (execOp ρ o).run P w = .ok (.value (.slice (some ⟨w.heap.size, 0, none⟩) 1 1)) (w.alloc (.cells vs.toArray e)) := by
  have hm : (#[((0 : Nat), x)].map fun (i, x) => (i, ρ x)) = #[(0, u)] := by simp [hx]
  unfold execOp
  simp only [ho, hm, Sem.run_bind, run_build_val w huc hu hi hl h0 hs, Result.andThen_ok, Sem.run_pure]
theorem info_ptr : (Try.prog.info? 87).map (fun i => (i.zero, i.size, i.bytes)) = some (some (.pointer none), 1, 8) := by kernel_rfl
/-- three operations that change the world one behind the other; the last one's value is chosen -/
def St3 {K : Type} (p q r : Nat) (A B C : World → Prop) (D : K → World → Prop) (κ : K) (d : Array Bool) (w : World) : Prop := if d.getD r false = true then D κ w else At2 p q A B C d w
section
variable {K : Type} {p q r i : Nat} {A B C : World → Prop} {D : K → World → Prop} {κ κ' : K} {d : Array Bool} {w w' : World}
theorem St3.keep (h1 : i ≠ p) (h2 : i ≠ q) (h3 : i ≠ r) (h : St3 p q r A B C D κ d w) : St3 p q r A B C D κ (d.setIfInBounds i true) w := by
  unfold St3 at *
  rw [getD_set_ne false h3]
  split at h
  · rename_i e; rw [if_pos e]; exact h
  · rename_i e; rw [if_neg e]; exact h.keep h1 h2
theorem St3.same (hr : d.getD r false = false) (h : St3 p q r A B C D κ d w) : St3 p q r A B C D κ' d w := by
  unfold St3 at *
  rw [hr] at h ⊢
  exact h
theorem St3.low (hr : d.getD r false = false) (h : St3 p q r A B C D κ d w) : At2 p q A B C d w := by
  unfold St3 at h
  rw [hr] at h
  exact h
theorem St3.start (hr : d.getD r false = false) (h : At2 p q A B C d w) : St3 p q r A B C D κ d w := by
  unfold St3
  rw [hr]
  exact h
theorem St3.up (hr : d.getD r false = false) (hi : i ≠ r) (h : At2 p q A B C (d.setIfInBounds i true) w) : St3 p q r A B C D κ (d.setIfInBounds i true) w := St3.start (by rw [getD_set_ne false hi]; exact hr) h
theorem St3.at_r (hd : d.getD r true = false) (h : D κ w) : St3 p q r A B C D κ (d.setIfInBounds r true) w := by
  unfold St3
  rw [InvG.now hd]
  exact h
theorem St3.done (hr : d.getD r false = true) (h : St3 p q r A B C D κ d w) : D κ w := by
  unfold St3 at h
  rw [hr] at h
  exact h
end
/-- a disk with another power -/
theorem on_disk {w : World} {bd bm bs n bm2 : Nat} {D : Dsk} (h : DiskAt w bd bm bs n D) : Calls Try.prog 36 #[.pointer (some ⟨bd, 0, none⟩), .pointer (some ⟨bm2, 0, none⟩)] w fun e w' => e = .returned (.pointer (some ⟨bd, 0, none⟩)) ∧ w' = w.setCell ⟨bd, 0, none⟩ (.pointer (some ⟨bm2, 0, none⟩)) := by
  have c0 := h.c0
  have f0 := h.head.frozen 0
  clear h
  go_enter Try.func36, Try.ntmps36
  go_wp2_with fail
  go_ret
  exact ⟨rfl, rfl⟩
theorem _root_.Go.Proofs.Ytgnnjinpcdemiaa.Disk.DiskAt.on {w : World} {bd bm bs n bm2 : Nat} {D : Dsk} (h : DiskAt w bd bm bs n D) (h1 : bd ≠ bm2) (h2 : bs ≠ bm2) : DiskAt (w.setCell ⟨bd, 0, none⟩ (.pointer (some ⟨bm2, 0, none⟩))) bd bm2 bs n D :=
  { h with
    head := h.head.setCell 0 _
    body := h.body.setCell_far h.ne3 _ _
    ne1 := h1
    ne2 := h2 }
/-- a sector of noughts -/
def z16 : List UInt8 := List.replicate 16 0
/-- the first k sectors are sealed noughts -/
def fresh (n k : Nat) : List Sec := ((List.range k).map fun i => ⟨cellOf i z16, true⟩) ++ List.replicate (n - k) Sec.zero
theorem fresh_len (n k : Nat) (h : k ≤ n) : (fresh n k).length = n := by simp [fresh]; omega
theorem fresh_set {n k : Nat} (h : k < n) : (fresh n k).set k ⟨cellOf k z16, true⟩ = fresh n (k + 1) := by
  unfold fresh
  rw [List.range_succ, List.map_append, show n - k = (n - (k + 1)) + 1 from by omega, List.replicate_succ, set_mid _ _ _ _ _ (by simp)]
  simp
theorem fresh_get {n k : Nat} (h : k < n) : (fresh n n)[k]? = some ⟨cellOf k z16, true⟩ := by
  unfold fresh
  rw [List.getElem?_append_left (by simp; exact h)]
  simp [h]
/-- a row of pointers is no disk -/
theorem own_disk {w : World} {base g : Nat} {v : Value} {n : Nat} {xs cs : List Value} {t : TypeId} (h : w.ownsRow base 87 1 v n xs) (hb : Blk w g cs t) (ht : t ≠ 87) : v.ownBlock ≠ some g := by
  intro e
  rcases h.2 with ⟨rfl, _⟩ | ⟨g', cap, cur, rfl, _, hg, _⟩
  · cases e
  · simp only [Value.ownBlock, Option.some.injEq] at e
    subst e
    unfold Blk at hb
    rw [hg] at hb
    simp only [Option.some.injEq, Obj.cells.injEq] at hb
    exact ht hb.2.1.symm
theorem only_weak {S T : List Nat} {a b c : World} (h : Only S a b) (k : Only T b c) (hT : ∀ x ∈ T, x ∈ S ∨ a.heap.size ≤ x) : Only S a c :=
  ⟨k.os.trans h.os, k.tape.trans h.tape, k.output.trans h.output, Nat.le_trans h.size k.size, fun g hg hn => (k.block g (Nat.lt_of_lt_of_le hg h.size) (fun hx => by
    rcases hT g hx with h1 | h1
    · exact hn h1
    · omega)).trans (h.block g hg hn)⟩
theorem _root_.Go.Proofs.Ytgnnjinpcdemiaa.Disk.Only.trans_any {S T : List Nat} {a b c : World} (h : Only S a b) (k : Only T b c) : Only (S ++ T) a c := (h.mono (by simp +contextual)).trans (k.mono (by simp +contextual))
theorem own_blk2 {w : World} {base : Nat} {e : TypeId} {size : Nat} {v : Value} {n : Nat} {xs : List Value} (h : w.ownsRow base e size v n xs) (h0 : 0 < n) : ∃ g cap spare, v = .slice (some ⟨g, 0, none⟩) n cap ∧ n ≤ cap ∧ cap ≤ maxLen ∧ base ≤ g ∧ Blk w g (xs ++ spare) e := by
  rcases h.2 with ⟨rfl, h2⟩ | ⟨g, cap, cur, rfl, hb, hg, h3, h4, h5, h6⟩
  · cases h2; omega
  · refine ⟨g, cap, cur.toList.drop (n * size), rfl, h3, h4, hb, ?_⟩
    have e1 : xs ++ cur.toList.drop (n * size) = cur.toList := by rw [← h6, List.take_append_drop]
    unfold Blk
    rw [e1]
    simpa using hg
/-- the disks so far -/
structure Made (w0 w : World) (bo bm n : Nat) (ds : List Dk) : Prop where
  disk : ∀ (i : Nat) (x : Dk), ds[i]? = some x → DiskAt w x.1 bm x.2.1 n x.2.2 ∧ w0.heap.size ≤ x.1 ∧ w0.heap.size ≤ x.2.1 ∧ x.2.2 = ⟨0, false, fresh n n⟩ ∧ x.1 ≠ bo ∧ x.2.1 ≠ bo
  far : ∀ (i j : Nat) (x y : Dk), i ≠ j → ds[i]? = some x → ds[j]? = some y → x.1 ≠ y.1 ∧ x.2.1 ≠ y.2.1 ∧ x.1 ≠ y.2.1
/-- the pointers of disks -/
def ptrs (ds : List Dk) : List Value := ds.map fun x => .pointer (some ⟨x.1, 0, none⟩)
theorem Made.only {w0 w w' : World} {bo bm n : Nat} {ds : List Dk} {S : List Nat} (h : Made w0 w bo bm n ds) (ho : Only S w w') (hS : ∀ x ∈ ds, x.1 ∉ S ∧ x.2.1 ∉ S) : Made w0 w' bo bm n ds :=
  ⟨fun i x hx => by
    obtain ⟨h1, h2⟩ := h.disk i x hx
    exact ⟨h1.only ho (hS x (List.mem_of_getElem? hx)).1 (hS x (List.mem_of_getElem? hx)).2, h2⟩, h.far⟩
theorem Made.mem {w0 w : World} {bo bm n : Nat} {ds : List Dk} (h : Made w0 w bo bm n ds) {x : Dk} (hx : x ∈ ds) : DiskAt w x.1 bm x.2.1 n x.2.2 ∧ w0.heap.size ≤ x.1 ∧ w0.heap.size ≤ x.2.1 ∧ x.2.2 = ⟨0, false, fresh n n⟩ ∧ x.1 ≠ bo ∧ x.2.1 ≠ bo := by
  obtain ⟨i, hi⟩ := List.getElem?_of_mem hx
  exact h.disk i x hi
set_option maxHeartbeats 8000000 in
theorem new_ok {d c s : Int} (h : Sound d c s) {bm n : Nat} {w : World} {p : Pow} (hp : PowAt w bm p) (hn : (n : Int) = c * s) :
    Calls Try.prog 17 #[.agg (geo d c s).toArray, .pointer (some ⟨bm, 0, none⟩)] w fun e w' => ∃ gd cap ds, e = .returned (.tuple #[.agg (setV d c s gd d.toNat cap).toArray, .int .i64 0]) ∧ ds.length = d.toNat ∧ d.toNat ≤ cap ∧ SetAt w' gd bm n ds ∧ (∀ x ∈ ds, x.2.2 = ⟨0, false, fresh n n⟩ ∧ w.heap.size ≤ x.2.1) ∧ w.heap.size ≤ gd ∧ Below w.heap.size w w' := by
  have hn1 : n ≤ 512 ∧ 1 ≤ n := by
    have := mul_bd (a := c) (b := s) (A := 8) (B := 64) (by have := h.2.1; omega) (by have := h.2.1; omega) (by have := h.2.2; omega) (by have := h.2.2; omega)
    have := Int.mul_pos (show 0 < c by have := h.2.1; omega) (show 0 < s by have := h.2.2; omega)
    omega
  obtain ⟨k, hk⟩ : ∃ k : Nat, d = (k : Int) := ⟨d.toNat, by have := h.1; omega⟩
  subst hk
  have hk1 : k ≤ 32 ∧ 4 ≤ k := by have := h.1; omega
  have HZ := Lib.hid (size_yes h)
  rw [← hn] at HZ
  have hbm : bm < w.heap.size := hp.lt
  have SE := Lib.hid (fun (q : Nat) (w' : World) (hq : q ≤ 512) => show Calls Try.prog 35 #[.int .i64 (q : Int), .agg (Seal.zeros 16).toArray] w' fun e w'' => e = .returned (.agg (cellOf q z16).cells.toArray) ∧ Below w'.heap.size w' w'' from Seal.seal_any (q : Int) (by omega) (by omega) z16 rfl w')
  rw [show ((k : Int)).toNat = k from by omega]
  clear h hp hn
  unfold geo
  go_enter Try.func17, Try.ntmps17
  go_upto_region 2 with (first
    | (go_at_call 32; go_must (refine (HZ.out _).mono ?_; rintro e w1 ⟨rfl, hb1⟩; have B1 := Lib.hid hb1; clear hb1)))
  have g0 : Blk ((w.alloc (.cells #[.int .i64 (k : Int), .int .i64 c, .int .i64 s] 57)).alloc (.cells #[.int .i64 0, .int .i64 0, .int .i64 0, .slice none 0 0] 60)) w.heap.size [.int .i64 (k : Int), .int .i64 c, .int .i64 s] 57 := (blk_at rfl rfl).alloc _
  have r0 : Blk ((w.alloc (.cells #[.int .i64 (k : Int), .int .i64 c, .int .i64 s] 57)).alloc (.cells #[.int .i64 0, .int .i64 0, .int .i64 0, .slice none 0 0] 60)) (w.heap.size + 1) [.int .i64 0, .int .i64 0, .int .i64 0, .slice none 0 0] 60 := blk_at (by simp) rfl
  have l0 : Below w.heap.size w ((w.alloc (.cells #[.int .i64 (k : Int), .int .i64 c, .int .i64 s] 57)).alloc (.cells #[.int .i64 0, .int .i64 0, .int .i64 0, .slice none 0 0] 60)) := ((Below.refl w.heap.size w).alloc (Nat.le_refl _) _).alloc (by simp) _
  have G1 := Lib.hid (g0.below B1.out g0.lt)
  have R1 := Lib.hid (r0.below B1.out r0.lt)
  have L1 := Lib.hid (l0.trans (B1.out.mono l0.size))
  clear g0 r0 l0 B1
  have c0 := G1.out.cell 0
  have c1 := G1.out.cell 1
  have c2 := G1.out.cell 2
  simp only [List.getElem?_cons_zero, List.getElem?_cons_succ] at c0 c1 c2
  go_upto_region 7 with (fail)
  obtain ⟨w2, hw2⟩ : ∃ w2, w2 = w1.alloc (.cells #[.int .i64 (k : Int), .int .i64 c, .int .i64 s, .slice none 0 0] 60) := ⟨_, rfl⟩
  have B2 := Lib.hid (show Below w1.heap.size w1 w2 from by rw [hw2]; exact (Below.refl _ _).alloc (Nat.le_refl _) _)
  have V2 := Lib.hid (show Blk w2 w1.heap.size [.int .i64 (k : Int), .int .i64 c, .int .i64 s, .slice none 0 0] 60 from by rw [hw2]; exact blk_at rfl rfl)
  have hs2 : w2.heap.size = w1.heap.size + 1 := by rw [hw2]; simp
  rw [← hw2]
  clear hw2 c0 c1 c2
  have hs1 := L1.out.size
  have hg1 := G1.out.lt
  have hr1 := R1.out.lt
  obtain ⟨g8, hg8⟩ : ∃ g8, g8 = w1.heap.size := ⟨_, rfl⟩
  rw [← hg8] at V2 hs2 hs1 hg1 hr1 ⊢
  have G2 := Lib.hid (G1.out.below B2.out G1.out.lt)
  have R2 := Lib.hid (R1.out.below B2.out R1.out.lt)
  have L2 := Lib.hid (L1.out.trans (B2.out.mono L1.out.size))
  clear G1 R1 L1 B2 hg8
  go_upto_region 8 with (first
    | (go_at_call 18; go_must (refine (newmains _).mono ?_; rintro e w3 ⟨rfl, hpo, hb3, hs3⟩; have B3 := Lib.hid hb3; have PO3 := Lib.hid hpo; clear hb3 hpo)))
  have G3 := Lib.hid (G2.out.below B3.out G2.out.lt)
  have R3 := Lib.hid (R2.out.below B3.out R2.out.lt)
  have V3 := Lib.hid (V2.out.below B3.out V2.out.lt)
  have L3 := Lib.hid (L2.out.trans (B3.out.mono L2.out.size))
  obtain ⟨bo, hbo⟩ : ∃ bo, bo = g8 + 1 := ⟨_, rfl⟩
  rw [hs2, ← hbo] at PO3
  rw [← hbo]
  have hg8b : g8 < bo := by omega
  clear G2 R2 V2 L2 B3 hbo hs2 hs3
  have c0 := G3.out.cell 0
  simp only [List.getElem?_cons_zero, List.getElem?_cons_succ] at c0
  go_wp2_with fail
  clear c0
  go_loopw [30] (fun i wr => ∃ (q : Nat) (ds : List Dk) (v : Value), q ≤ k ∧ i = .int .i64 q ∧ ds.length = q ∧ Blk wr g8 [.int .i64 (k : Int), .int .i64 c, .int .i64 s, v] 60 ∧ wr.ownsRow w3.heap.size 87 1 v q (ptrs ds) ∧ Made w3 wr bo bm n ds ∧ PowAt wr bo ⟨false, 0, q * n⟩ ∧ Only [g8, bo] w3 wr) (fun i _ => k - (intOf i).toNat)
  case atStart => exact ⟨0, [], .slice none 0 0, by omega, rfl, rfl, V3.out, ⟨rfl, .inl ⟨rfl, rfl⟩⟩, ⟨fun i x hx => by simp at hx, fun i j x y _ hx => by simp at hx⟩, by rw [Nat.zero_mul]; exact PO3.out, Only.refl _ _⟩
  case round =>
    obtain ⟨q, ds, v, hq, rfl, hdl, hvb, hown, hmade, hpow, honly⟩ := hrel
    have HV := Lib.hid hvb
    have HO := Lib.hid hown
    have HM := Lib.hid hmade
    have HP := Lib.hid hpow
    have HN := Lib.hid honly
    have so := honly.size
    have HDL := Lib.hid hdl
    clear hvb hown hmade hpow honly hdl
    by_cases hqk : q < k
    · have ND := Lib.hid (new_any n bo ⟨false, 0, q * n⟩ hn1.2 (by omega) wr HP.out)
      have hqn : q * n + n ≤ 32 * 512 := by
        have h1 := Nat.mul_le_mul (show q + 1 ≤ 32 by omega) hn1.1
        rw [Nat.add_mul, Nat.one_mul] at h1
        exact h1
      go_upto_region 11 with (first
        | (go_at_call 33; go_must (refine ND.out.mono ?_; rintro e w5 ⟨rfl, hd5, hb5⟩; have D5 := Lib.hid hd5; have B5 := Lib.hid hb5; clear hd5 hb5)))
      have P5 := Lib.hid (HP.out.below B5.out HP.out.lt)
      have s5 := B5.out.size
      have hbd5 := D5.out.head.lt
      obtain ⟨bs, hbs⟩ : ∃ bs, bs = wr.heap.size := ⟨_, rfl⟩
      rw [← hbs] at D5 hbd5 ⊢
      have hwr : bs = wr.heap.size := hbs
      have HWR := Lib.hid hwr
      have hbo3 : bo < w3.heap.size := PO3.out.lt
      have hbsw : w3.heap.size ≤ bs := by omega
      clear hbs hwr ND
      go_wp2_with fail
      obtain ⟨wq, rfl⟩ : ∃ wq, wq = wr := ⟨wr, rfl⟩
      go_loopw [39] (fun i w' => ∃ a : Nat, a ≤ n ∧ i = .int .i64 a ∧ DiskAt w' (bs + 1) bo bs n ⟨0, false, fresh n a⟩ ∧ PowAt w' bo ⟨false, 0, q * n + a⟩ ∧ Only [bo, bs] w5 w') (fun i _ => n - (intOf i).toNat)
      case atStart => exact ⟨0, by omega, rfl, by simpa [fresh] using D5.out, P5.out, Only.refl _ _⟩
      case round =>
        obtain ⟨a, ha, rfl, hd, hpw, hon⟩ := hrel
        have DA := Lib.hid hd
        have PA := Lib.hid hpw
        have OA := Lib.hid hon
        have soa := hon.size
        clear hd hpw hon
        by_cases han : a < n
        · have SEa := Lib.hid (SE.out a wr (by omega))
          have C17 := Lib.hid (Cel.len (cellOf_ok (A := a) (show z16.length = 16 from rfl)))
          go_wp2_with (first
            | (refine wpList_builds rfl 33 _ rfl [] rfl _ zsec ?_)
            | (go_at_call 35; go_must (refine SEa.out.mono ?_; rintro e w6 ⟨rfl, hb6⟩; have B6 := Lib.hid hb6; clear hb6))
            | (refine wpList_world_g rfl (.slice (some ⟨w6.heap.size, 0, none⟩) 1 1) (exec_build_one rfl rfl Try.underlying94 info_cell C17.out (by decide) (by decide)) ?_)
            | (go_at_call 34; fail))
          have hbl6 : Below wr.heap.size wr (w6.alloc (.cells (cellOf a z16).cells.toArray 92)) := B6.out.alloc B6.out.size _
          have DA6 : DiskAt (w6.alloc (.cells (cellOf a z16).cells.toArray 92)) (bs + 1) bo bs n ⟨0, false, fresh n a⟩ := { DA.out with head := DA.out.head.below hbl6 DA.out.head.lt, body := DA.out.body.below hbl6 DA.out.body.lt }
          have hsl : Sl (w6.alloc (.cells (cellOf a z16).cells.toArray 92)) Cel.cells 17 (some ⟨w6.heap.size, 0, none⟩) 1 1 [cellOf a z16] := sl_blk (t := 92) (by rw [flat_one]; exact blk_at rfl rfl) (fun x hx => by simp at hx; subst hx; exact Cel.len (cellOf_ok rfl)) rfl (Nat.le_refl _) (by decide)
          have s6 := B6.out.size
          have hw := write_at DA6 (p := ⟨false, 0, q * n + a⟩) (PA.out.below hbl6 PA.out.lt) ⟨Nat.zero_le _, by show q * n + a ≤ _; omega⟩ a (a : Int) rfl (some ⟨w6.heap.size, 0, none⟩) 1 1 0 (0 : Int) rfl [cellOf a z16] hsl (fun x hx => by simp at hx; subst hx; exact cellOf_ok rfl) (by omega) (by show q * n + a + 1 ≤ _; omega) (fun b o e _ => by
              cases e
              have h1 := PA.out.lt
              have h2 := DA.out.body.lt
              simp only [List.mem_cons, List.not_mem_nil, or_false, not_or]
              omega) rfl 1 ⟨false, 0, q * n + a + 1⟩ ((fresh n a).set a ⟨cellOf a z16, true⟩) (by simp [wrs, Pow.step]) 1 0 rfl (by simp [wErr])
          rw [fresh_set han] at hw
          have O6 := Lib.hid ((OA.out.trans (Only.of_below hbl6)))
          refine hw.mono ?_
          rintro e w7 ⟨rfl, hp7, hd7, ho7⟩
          have D7 := Lib.hid hd7
          have P7 := Lib.hid hp7
          have O7 := Lib.hid (O6.out.trans ho7)
          clear hw hsl DA6 hbl6 hp7 hd7 ho7
          go_wp2_with fail
          go_roundw
          case rel => exact ⟨a + 1, by omega, by go_num, D7.out, P7.out, O7.out⟩
          case measure => simp [intOf]; omega
        · obtain rfl : a = n := by omega
          go_upto_region 16 with (fail)
          have hbsr := DA.out.body.lt
          have hbdr := DA.out.head.lt
          have hg8w : g8 < w3.heap.size := V3.out.lt
          have HV5 := HV.out.below B5.out HV.out.lt
          have HVr := Lib.hid (HV5.only OA.out (by simp; omega))
          have hown5 := Lay.own_below HO.out B5.out
          have hlt := fun g hg => own_lt HO.out (g := g) hg
          have hwq := HWR.out
          have HOr := Lib.hid (own_only hown5 OA.out (fun g hg => by have := hlt g hg; simp; omega))
          have hfin0 := DA.out
          have DF := Lib.hid hfin0
          have hg8d : g8 ≠ bs + 1 := by omega
          have hbmd : bs + 1 ≠ bm ∧ bs ≠ bm := by
            have := L3.out.size
            omega
          have HOB : (wr.drew.setCell ⟨bs + 1, 0, none⟩ (.pointer (some ⟨bm, 0, none⟩))).ownsRow w3.heap.size 87 1 v q (ptrs ds) := own_only (S := [bs + 1]) HOr.out.drew ((Only.refl [bs + 1] wr.drew).setCell (List.mem_singleton.2 rfl) 0 _) (fun g hg => by have := hlt g hg; simp; omega)
          have SZ := Lib.hid (show (wr.drew.setCell ⟨bs + 1, 0, none⟩ (.pointer (some ⟨bm, 0, none⟩))).heap.size = wr.heap.size from by simp)
          have VC := Lib.hid (fun (w' : World) (h : w' = wr.drew ∨ w' = (wr.drew.setCell ⟨bs + 1, 0, none⟩ (.pointer (some ⟨bm, 0, none⟩))) ∨ w' = ((wr.drew.setCell ⟨bs + 1, 0, none⟩ (.pointer (some ⟨bm, 0, none⟩))).alloc (.cells #[.pointer (some ⟨bs + 1, 0, none⟩)] 87))) => show w'.cell? ⟨g8, 3, none⟩ = some v from by
            rcases h with rfl | rfl | rfl
            · exact HVr.out.drew.cell 3
            · exact (HVr.out.drew.setCell_far hg8d 0 _).cell 3
            · exact ((HVr.out.drew.setCell_far hg8d 0 _).alloc _).cell 3)
          have AP := Lib.hid (run_append_any_at (P := Try.prog) ((wr.drew.setCell ⟨bs + 1, 0, none⟩ (.pointer (some ⟨bm, 0, none⟩))).alloc (.cells #[.pointer (some ⟨bs + 1, 0, none⟩)] 87)) w3.heap.size 58 58 87 (.pointer none) 1 8 Try.underlying58 info_ptr rfl (by decide) v q (ptrs ds) (HOB.alloc _) (some ⟨wr.heap.size, 0, none⟩) 1 1 [.pointer (some ⟨bs + 1, 0, none⟩)] (src_blk (blk_at SZ.out rfl) rfl (fun u hu => by simp at hu; subst hu; rfl)) (by omega) (by unfold maxLen; omega) (by rw [size_alloc, SZ.out]; omega))
          refine wp_region_choice (K := Value) (fun κ d w' => St3 4 5 6 (fun w' => w' = wr.drew) (fun w' => w' = (wr.drew.setCell ⟨bs + 1, 0, none⟩ (.pointer (some ⟨bm, 0, none⟩)))) (fun w' => w' = ((wr.drew.setCell ⟨bs + 1, 0, none⟩ (.pointer (some ⟨bm, 0, none⟩))).alloc (.cells #[.pointer (some ⟨bs + 1, 0, none⟩)] 87))) (fun κ w' => w'.ownsRow w3.heap.size 87 1 κ (q + 1) (ptrs ds ++ [.pointer (some ⟨bs + 1, 0, none⟩)]) ∧ ((wr.drew.setCell ⟨bs + 1, 0, none⟩ (.pointer (some ⟨bm, 0, none⟩))).alloc (.cells #[.pointer (some ⟨bs + 1, 0, none⟩)] 87)).grownBy w' v.ownBlock) κ d w') (fun i => [some (.pointer (some ⟨g8, 3, none⟩)), some v, some (.pointer (some ⟨bs + 1, 0, none⟩)), some (.pointer (some ⟨bm, 0, none⟩)), some (.pointer (some ⟨bs + 1, 0, none⟩)), some (.slice (some ⟨wr.heap.size, 0, none⟩) 1 1), none, some (.pointer (some ⟨g8, 3, none⟩))].getD i none) (fun κ => κ) 8 6 (by kernel_rfl) (by kernel_rfl) (by kernel_rfl) (fun κ κ' d w' hp h => h.same hp) (fun κ => St3.start (by kernel_rfl) (At2.start (by kernel_rfl) (by kernel_rfl) rfl)) ?_
          intro κ
          simp only [List.take_succ_cons, List.take_zero, List.drop_succ_cons, List.drop_zero]
          refine invx_value (.pointer (some ⟨g8, 3, none⟩)) (by decide) (fun u hu => Option.some.inj hu) rfl (fun d w' hd hG h => by clear h; go_simp) (fun d w' _ _ h => h.keep (by decide) (by decide) (by decide)) ?_
          simp only [Act.put, List.setIfInBounds_toArray, List.set_cons_zero, List.set_cons_succ]
          refine invx_value v (by decide) (fun u hu => Option.some.inj hu) rfl (fun d w' hd hG h => by have hc := VC.out w' ((h.low (undone hG.2 hd (by kernel_rfl : leansB _ 1 9 6 = true))).any); clear h; go_simp) (fun d w' _ _ h => h.keep (by decide) (by decide) (by decide)) ?_
          simp only [Act.put, List.setIfInBounds_toArray, List.set_cons_zero, List.set_cons_succ]
          refine invx_value (.pointer (some ⟨bs + 1, 0, none⟩)) (by decide) (fun u hu => Option.some.inj hu) rfl (fun d w' hd hG h => by clear h; go_simp) (fun d w' _ _ h => h.keep (by decide) (by decide) (by decide)) ?_
          simp only [Act.put, List.setIfInBounds_toArray, List.set_cons_zero, List.set_cons_succ]
          refine invx_value (.pointer (some ⟨bm, 0, none⟩)) (by decide) (fun u hu => Option.some.inj hu) rfl (fun d w' hd hG h => by clear h; go_simp) (fun d w' _ _ h => h.keep (by decide) (by decide) (by decide)) ?_
          simp only [Act.put, List.setIfInBounds_toArray, List.set_cons_zero, List.set_cons_succ]
          refine invx_calls (.pointer (some ⟨bs + 1, 0, none⟩)) (by decide) (fun u hu => Option.some.inj hu) rfl 36 #[.pointer (some ⟨bs + 1, 0, none⟩), .pointer (some ⟨bm, 0, none⟩)] (fun d w' h => by go_simp) (fun d w' hd hG h => by
            have h6 := undone hG.2 hd (by kernel_rfl : leansB _ 4 9 6 = true)
            have hl := h.low h6
            have hA := (hl.at_p hd).1
            subst hA
            exact (on_disk (DF.out.drewN 1)).mono fun e w' he => ⟨he.1, St3.up h6 (by decide) (At2.did_p (by decide) hd hl he.2)⟩) ?_
          simp only [Act.put, List.setIfInBounds_toArray, List.set_cons_zero, List.set_cons_succ]
          refine invx_meets (.slice (some ⟨wr.heap.size, 0, none⟩) 1 1) (by decide) (fun u hu => Option.some.inj hu) rfl (fun d w' hd hG h => by
            have h6 := undone hG.2 hd (by kernel_rfl : leansB _ 5 9 6 = true)
            have h4 := leans_gate hG (by kernel_rfl : leansB _ 4 9 5 = true)
            have hl := h.low h6
            have hB := hl.at_q hd h4
            subst hB
            have hsz := SZ.out
            have hC : St3 4 5 6 (fun w' => w' = wr.drew) (fun w' => w' = (wr.drew.setCell ⟨bs + 1, 0, none⟩ (.pointer (some ⟨bm, 0, none⟩)))) (fun w' => w' = ((wr.drew.setCell ⟨bs + 1, 0, none⟩ (.pointer (some ⟨bm, 0, none⟩))).alloc (.cells #[.pointer (some ⟨bs + 1, 0, none⟩)] 87))) (fun κ w' => w'.ownsRow w3.heap.size 87 1 κ (q + 1) (ptrs ds ++ [.pointer (some ⟨bs + 1, 0, none⟩)]) ∧ ((wr.drew.setCell ⟨bs + 1, 0, none⟩ (.pointer (some ⟨bm, 0, none⟩))).alloc (.cells #[.pointer (some ⟨bs + 1, 0, none⟩)] 87)).grownBy w' v.ownBlock) κ (d.setIfInBounds 5 true) ((wr.drew.setCell ⟨bs + 1, 0, none⟩ (.pointer (some ⟨bm, 0, none⟩))).alloc (.cells #[.pointer (some ⟨bs + 1, 0, none⟩)] 87)) := St3.up h6 (by decide) (At2.did_q (by decide) hd h4 rfl)
            rw [exec_build_val (vs := [.pointer (some ⟨bs + 1, 0, none⟩)]) (u := .pointer (some ⟨bs + 1, 0, none⟩)) rfl rfl rfl Try.underlying58 info_ptr rfl (by decide) (by decide)]
            exact ⟨by rw [hsz], hC⟩) ?_
          simp only [Act.put, List.setIfInBounds_toArray, List.set_cons_zero, List.set_cons_succ]
          refine invx_pick κ (fun u hu => Option.some.inj hu) rfl (fun d w' hd hG h => by
            have h5 := leans_gate hG (by kernel_rfl : leansB _ 5 9 6 = true)
            have hl := h.low (InvC.getD_true_of hd)
            have hC0 := InvG.At2.done h5 hl
            have hC : w' = ((wr.drew.setCell ⟨bs + 1, 0, none⟩ (.pointer (some ⟨bm, 0, none⟩))).alloc (.cells #[.pointer (some ⟨bs + 1, 0, none⟩)] 87)) := hC0
            subst hC
            obtain ⟨v', w9, hr, ho9, hg9, _⟩ := AP.out
            exact ⟨v', v', w9, exec_append (a := some ⟨wr.heap.size, 0, none⟩) (m := 1) (c := 1) _ _ rfl rfl rfl hr, rfl, St3.at_r hd ⟨ho9, hg9⟩⟩) ?_
          simp only [Act.put, List.setIfInBounds_toArray, List.set_cons_zero, List.set_cons_succ]
          refine invx_value (.pointer (some ⟨g8, 3, none⟩)) (by decide) (fun u hu => Option.some.inj hu) rfl (fun d w' hd hG h => by clear h; go_simp) (fun d w' _ _ h => h.keep (by decide) (by decide) (by decide)) ?_
          simp only [Act.put, List.setIfInBounds_toArray, List.set_cons_zero, List.set_cons_succ]
          refine invx_nil fun w9 hI => ?_
          have hF := hI.done (by kernel_rfl)
          have O9 := Lib.hid hF.1
          have G9 := Lib.hid hF.2
          clear hI hF
          have sg9 := G9.out.size
          rw [size_alloc, SZ.out] at sg9
          have hV9 : Blk w9 g8 [.int .i64 (k : Int), .int .i64 c, .int .i64 s, v] 60 := ((HVr.out.drew.setCell_far hg8d 0 _).alloc _).only (only_grown (d := wr.heap.size) G9.out) (by
            rw [List.mem_singleton]
            unfold blkOf
            cases hv : v.ownBlock with
            | none => simp; omega
            | some gv => have := hlt gv hv; simp; omega)
          have v9 := hV9.cell 3
          have f9 := hV9.frozen 3
          simp only [List.getElem?_cons_zero, List.getElem?_cons_succ] at v9
          have V9 := Lib.hid hV9
          have hT : Only [bo, bs, bs + 1, blkOf v wr.heap.size] wq w9 :=
            ((((Only.of_below B5.out).trans (OA.out.mono (by simp))).drew.setCell (g := bs + 1) (by simp) 0 (.pointer (some ⟨bm, 0, none⟩))).trans (Only.of_below ((Below.refl _ _).alloc (Nat.le_refl _) (.cells #[.pointer (some ⟨bs + 1, 0, none⟩)] 87)))).trans ((only_grown (d := wr.heap.size) G9.out).mono (by simp))
          have HT := Lib.hid hT
          have hP9 : PowAt w9 bo ⟨false, 0, (q + 1) * a⟩ := by
            have e : (q + 1) * a = q * a + a := by rw [Nat.add_mul, Nat.one_mul]
            rw [e]
            refine PowAt.only (S := [blkOf v wr.heap.size]) (w := ((wr.drew.setCell ⟨bs + 1, 0, none⟩ (.pointer (some ⟨bm, 0, none⟩))).alloc (.cells #[.pointer (some ⟨bs + 1, 0, none⟩)] 87))) ?_ (only_grown G9.out) ?_
            · exact Blk.alloc (Blk.setCell_far (Blk.drew PA.out) (by omega) 0 _) _
            · rw [List.mem_singleton]
              unfold blkOf
              cases hv : v.ownBlock with
              | none => have := PA.out.lt; simp; omega
              | some gv => have := hlt gv hv; simp; omega
          have P9 := Lib.hid hP9
          have hD9 : DiskAt w9 (bs + 1) bm bs a ⟨0, false, fresh a a⟩ := by
            have h1 := (DF.out.drewN 1).on hbmd.1 hbmd.2
            have h2 : DiskAt ((wr.drew.setCell ⟨bs + 1, 0, none⟩ (.pointer (some ⟨bm, 0, none⟩))).alloc (.cells #[.pointer (some ⟨bs + 1, 0, none⟩)] 87)) (bs + 1) bm bs a ⟨0, false, fresh a a⟩ := h1.only (Only.of_below (S := []) ((Below.refl _ _).alloc (Nat.le_refl _) _)) (by simp) (by simp)
            refine h2.only (only_grown (d := wr.heap.size) G9.out) ?_ ?_ <;>
            · rw [List.mem_singleton]
              unfold blkOf
              cases hv : v.ownBlock with
              | none => simp; omega
              | some gv => have := hlt gv hv; simp; omega
          have D9 := Lib.hid hD9
          obtain ⟨ak, ck, rfl, _⟩ := own_slice O9.out (by decide)
          clear hV9 hT hP9 hD9 AP VC HOB DF
          go_wp2_with fail
          go_roundw
          case rel =>
            have hg8bs : g8 ≠ bs := by omega
            have hold : ∀ x ∈ ds, x.1 < bs ∧ x.2.1 < bs ∧ x.1 ∉ [bo, bs, bs + 1, blkOf v wr.heap.size] ∧ x.2.1 ∉ [bo, bs, bs + 1, blkOf v wr.heap.size] ∧ x.1 ≠ g8 ∧ x.2.1 ≠ g8 := fun x hx => by
              obtain ⟨m1, m2, m3, m4, m5, m6⟩ := HM.out.mem hx
              have l1 := m1.head.lt
              have l2 := m1.body.lt
              have hb1 : x.1 ≠ blkOf v wr.heap.size := by
                unfold blkOf
                cases hv : v.ownBlock with
                | none => simp; omega
                | some gv =>
                  simp
                  intro e
                  subst e
                  exact own_disk HO.out m1.head (by decide) hv
              have hb2 : x.2.1 ≠ blkOf v wr.heap.size := by
                unfold blkOf
                cases hv : v.ownBlock with
                | none => simp; omega
                | some gv =>
                  simp
                  intro e
                  subst e
                  exact own_disk HO.out m1.body (by decide) hv
              refine ⟨by omega, by omega, ?_, ?_, by omega, by omega⟩
              · simp only [List.mem_cons, List.not_mem_nil, or_false, not_or]
                exact ⟨m5, by omega, by omega, hb1⟩
              · simp only [List.mem_cons, List.not_mem_nil, or_false, not_or]
                exact ⟨m6, by omega, by omega, hb2⟩
            have hset := (Only.refl [g8] w9).setCell (List.mem_singleton.2 rfl) 3 (.slice ak (q + 1) ck)
            refine ⟨q + 1, ds ++ [(bs + 1, bs, ⟨0, false, fresh a a⟩)], .slice ak (q + 1) ck, by omega, by go_num, by simp [HDL.out], V9.out.setCell 3 _, ?_, ⟨fun i x hx => ?_, fun i j x y hij hx hy => ?_⟩, PowAt.only P9.out hset (by simp; omega), ?_⟩
            · have h1 := own_only O9.out hset (fun g hg => by have := (own_lt O9.out hg).1; simp; omega)
              unfold ptrs at h1 ⊢
              rw [List.map_append]
              exact h1
            · by_cases hi : i < ds.length
              · rw [List.getElem?_append_left hi] at hx
                have hm := List.mem_of_getElem? hx
                obtain ⟨o1, o2, o3, o4, o5, o6⟩ := hold x hm
                obtain ⟨m1, m2⟩ := HM.out.disk i x hx
                exact ⟨(m1.only HT.out o3 o4).only hset (by simpa using o5) (by simpa using o6), m2⟩
              · rw [List.getElem?_append_right (by omega)] at hx
                have h0 : i - ds.length = 0 := by
                  have := (List.getElem?_eq_some_iff.1 hx).1
                  simp at this; omega
                rw [h0] at hx
                cases hx
                exact ⟨D9.out.only hset (by simpa using hg8d.symm) (by simpa using hg8bs.symm), by show w3.heap.size ≤ bs + 1; omega, hbsw, rfl, by show bs + 1 ≠ bo; omega, by show bs ≠ bo; omega⟩
            · have key : ∀ (i : Nat) (x : Dk), (ds ++ [(bs + 1, bs, (⟨0, false, fresh a a⟩ : Dsk))])[i]? = some x → (i < ds.length ∧ ds[i]? = some x) ∨ (i = ds.length ∧ x.1 = bs + 1 ∧ x.2.1 = bs) := fun i x hx => by
                by_cases hi : i < ds.length
                · rw [List.getElem?_append_left hi] at hx
                  exact .inl ⟨hi, hx⟩
                · rw [List.getElem?_append_right (by omega)] at hx
                  have h0 : i - ds.length = 0 := by
                    have := (List.getElem?_eq_some_iff.1 hx).1
                    simp at this; omega
                  rw [h0] at hx
                  cases hx
                  exact .inr ⟨by omega, rfl, rfl⟩
              rcases key i x hx with ⟨i1, i2⟩ | ⟨i1, i2, i3⟩ <;> rcases key j y hy with ⟨j1, j2⟩ | ⟨j1, j2, j3⟩
              · exact HM.out.far i j x y hij i2 j2
              · obtain ⟨o1, o2, _⟩ := hold x (List.mem_of_getElem? i2)
                rw [j2, j3]
                omega
              · obtain ⟨o1, o2, _⟩ := hold y (List.mem_of_getElem? j2)
                rw [i2, i3]
                omega
              · omega
            · refine only_weak HN.out (HT.out.trans_any hset) (fun x hx => ?_)
              simp only [List.mem_append, List.mem_cons, List.not_mem_nil, or_false] at hx
              rcases hx with (rfl | rfl | rfl | rfl) | rfl
              · exact .inl (by simp)
              · exact .inr hbsw
              · exact .inr (by omega)
              · refine .inr ?_
                unfold blkOf
                cases hv : v.ownBlock with
                | none => simp; omega
                | some gv => have := hlt gv hv; simp; omega
              · exact .inl (by simp)
          case measure => simp [intOf]; omega
    · obtain rfl : q = k := by omega
      obtain ⟨gd, cap, sp, rfl, hcc, hcm, hgd, hbg⟩ := own_blk2 HO.out (by omega)
      have hl3 := L3.out.size
      have hbo3 : bo < w3.heap.size := PO3.out.lt
      have hg83 : g8 < w3.heap.size := V3.out.lt
      have hr3 := R3.out.lt
      have Rr := Lib.hid (R3.out.only HN.out (by simp; omega))
      have c0 := HV.out.cell 0
      have c1 := HV.out.cell 1
      have c2 := HV.out.cell 2
      have c3 := HV.out.cell 3
      simp only [List.getElem?_cons_zero, List.getElem?_cons_succ] at c0 c1 c2 c3
      have hown := HO.out
      have hne : ∀ x ∈ ds, gd ≠ x.2.1 := fun x hx e => by
        obtain ⟨m1, _⟩ := HM.out.mem hx
        exact own_disk hown m1.body (by decide) (by rw [← e]; rfl)
      have HSET := Lib.hid (show SetAt wr gd bm n ds from {
        ptr := fun i x hx => by
          rw [hbg.cell, List.getElem?_append_left (by unfold ptrs; rw [List.length_map]; exact (List.getElem?_eq_some_iff.1 hx).1)]
          unfold ptrs
          rw [List.getElem?_map, hx]
          rfl
        disk := fun i x hx => (HM.out.disk i x hx).1
        far := HM.out.far
        gm := by omega
        gs := hne })
      clear hown hne hbg
      go_wp2_with (first
        | (refine wpList_store_blk rfl 60 _ _ rfl (w.heap.size + 1) 0 4 rfl 60 _ [.int .i64 (q : Int), .int .i64 c, .int .i64 s, .slice (some ⟨gd, 0, none⟩) q cap] rfl Rr.out (by kernel_rfl) rfl (by decide) (by simp [Value.oneCell']) ?_; intro w9 z9 g9; have Z9 := Lib.hid (show Blk w9 (w.heap.size + 1) [.int .i64 (q : Int), .int .i64 c, .int .i64 s, .slice (some ⟨gd, 0, none⟩) q cap] 60 from z9); have G9 := Lib.hid g9; clear z9 g9))
      have ho9 := Only.of_grown G9.out
      refine bodyPost_ret (v := .tuple #[.agg (setV (q : Int) c s gd q cap).toArray, .int .i64 0]) (results_cell_two rfl _ _ (w.heap.size + 1) 60 _ (0, 0) _ _ rfl rfl Z9.out Try.underlying60 rfl (by kernel_rfl)) rfl ⟨gd, cap, ds, rfl, HDL.out, hcc, HSET.out.only ho9 (by simp; omega) (fun x hx => ?_), fun x hx => ?_, by omega, ?_⟩
      · obtain ⟨_, m2, m3, _⟩ := HM.out.mem hx
        simp only [List.mem_singleton]
        omega
      · obtain ⟨_, m2, m3, m4, _⟩ := HM.out.mem hx
        exact ⟨m4, by omega⟩
      · exact below_grown (L3.out.trans ((HN.out.below (B := w.heap.size) hl3 (fun x hx => by simp at hx; omega)))) G9.out (by have := HN.out.size; omega) (by omega)
end Go.Proofs.Ytgnnjinpcdemiaa.Str
/-
  diskWakes by contract. Helper text; no statement is proved here.
-/
set_option linter.unusedVariables false
set_option maxRecDepth 20000
set_option linter.unusedSimpArgs false
namespace Go.Proofs.Ytgnnjinpcdemiaa.Str
open Go.RowKit Go.Proofs.Ytgnnjinpcdemiaa.Base Go.Proofs.Ytgnnjinpcdemiaa.Laws Go.Proofs.Ytgnnjinpcdemiaa.Disk Go.Proofs.Ytgnnjinpcdemiaa.Lay Go.Proofs.Ytgnnjinpcdemiaa.Par Go.Proofs.Ytgnnjinpcdemiaa.Flat Go.Proofs.Ytgnnjinpcdemiaa.Row Go.Proofs.Ytgnnjinpcdemiaa.InvM Go.Proofs.Ytgnnjinpcdemiaa.InvX Go.Proofs.Ytgnnjinpcdemiaa.InvG Go.Proofs.Ytgnnjinpcdemiaa.InvC Go.Proofs.Ytgnnjinpcdemiaa.Codec Go.Proofs.Ytgnnjinpcdemiaa.Seal
/-- the sector that is written -/
def six : List UInt8 := 6 :: List.replicate 15 0
theorem sound5 : Sound 5 1 1 := ⟨⟨by decide, by decide⟩, ⟨by decide, by decide⟩, ⟨by decide, by decide⟩⟩
def zcols : List (List UInt8) := List.replicate 5 z16
theorem fresh_read (p : Pow) (h : p.off = false) : Dsk.read ⟨0, false, fresh 1 1⟩ p 0 = (cellOf 0 z16, 0) := by
  unfold Dsk.read
  rw [h]
  rfl
theorem five {ds : List Dk} (h : ds.length = 5) : ∃ x0 x1 x2 x3 x4, ds = [x0, x1, x2, x3, x4] := by
  match ds, h with
  | [x0, x1, x2, x3, x4], _ => exact ⟨x0, x1, x2, x3, x4, rfl⟩
theorem rowok5 {ds : List Dk} {p : Pow} (h : p.off = false) (hl : ds.length = 5) (hd : ∀ x ∈ ds, x.2.2 = ⟨0, false, fresh 1 1⟩) : RowOk 5 1 (spS 5 1 1) (spO 1 1) ds p 1 zcols := by
  refine ⟨by decide, fun q X hX => ?_⟩
  have hq : q < 5 := by have := (List.getElem?_eq_some_iff.1 hX).1; simpa [zcols] using this
  have hX' : X = z16 := by
    unfold zcols at hX
    rw [List.getElem?_replicate] at hX
    rw [if_pos hq] at hX
    cases hX
    rfl
  subst hX'
  refine ⟨rfl, ?_⟩
  have hm0 : 0 ≤ (fst 5 (spS 5 1 1) + q) % 5 := Int.emod_nonneg _ (by decide)
  have hm1 : (fst 5 (spS 5 1 1) + q) % 5 < 5 := Int.emod_lt_of_pos _ (by decide)
  obtain ⟨x, hx⟩ : ∃ x, ds[((fst 5 (spS 5 1 1) + q) % 5).toNat]? = some x := ⟨_, List.getElem?_eq_getElem (by rw [hl]; omega)⟩
  refine ⟨x, hx, ?_⟩
  rw [hd x (List.mem_of_getElem? hx)]
  exact fresh_read p h
theorem puts5 (c1 c2 c3 : Cel) {ds : List Dk} (hl : ds.length = 5) (hd : ∀ x ∈ ds, x.2.2 = ⟨0, false, fresh 1 1⟩) : ∃ x : Dk, (putAll ds [(2, 0, c1), (4, 0, c2), (0, 0, c3)])[2]? = some x ∧ x.2.2 = ⟨0, false, (fresh 1 1).set 0 ⟨c1, true⟩⟩ := by
  obtain ⟨x0, x1, x2, x3, x4, rfl⟩ := five hl
  refine ⟨_, rfl, ?_⟩
  simp only
  rw [hd x2 (by simp)]
theorem zsix : Try.prog.built 33 [(0, .int .u8 6)] = some (bv six).toArray := by kernel_rfl
theorem six_eq (w : World) : (Op.equalIn 10000 33 (.agg (bv six).toArray) (.agg (bv six).toArray)).run Try.prog w = .ok true w := by
  have h := Eq.run_eq_flat (P := Try.prog) (t := 33) (ks := List.replicate 16 .u8) (l := [(.u8, 6), (.u8, 0), (.u8, 0), (.u8, 0), (.u8, 0), (.u8, 0), (.u8, 0), (.u8, 0), (.u8, 0), (.u8, 0), (.u8, 0), (.u8, 0), (.u8, 0), (.u8, 0), (.u8, 0), (.u8, 0)]) (m := [(.u8, 6), (.u8, 0), (.u8, 0), (.u8, 0), (.u8, 0), (.u8, 0), (.u8, 0), (.u8, 0), (.u8, 0), (.u8, 0), (.u8, 0), (.u8, 0), (.u8, 0), (.u8, 0), (.u8, 0), (.u8, 0)]) 6 (by kernel_rfl) (by kernel_rfl) (by kernel_rfl) rfl rfl (by decide) (by decide) w
  have e : ((([(.u8, 6), (.u8, 0), (.u8, 0), (.u8, 0), (.u8, 0), (.u8, 0), (.u8, 0), (.u8, 0), (.u8, 0), (.u8, 0), (.u8, 0), (.u8, 0), (.u8, 0), (.u8, 0), (.u8, 0), (.u8, 0)] : List (IntKind × Int)).map Eq.val).toArray) = (bv six).toArray := by rfl
  rw [e] at h
  simpa using h
theorem plan5 (ds : List Dk) (h : ds.length = 5) : ∃ c2 c3 : Cel, planOf 5 (spS 5 1 1) (plA 5 1 1) zcols (spC 5 1 1).toNat (ds.length - 2) six = [(2, 0, cellOf 0 six), (4, 0, c2), (0, 0, c3)] ∧ c2.Ok ∧ c3.Ok := by
  rw [h]
  have e1 : spS 5 1 1 = 0 := by decide
  have e2 : plA 5 1 1 = 0 := by decide
  have e3 : (spC 5 1 1).toNat = 1 := by decide
  rw [e1, e2, e3]
  refine ⟨cellOf 0 (sumP 16 (newData zcols 1 3 six) 3), cellOf 0 (sumQ 16 (newData zcols 1 3 six) 3), ?_, cellOf_ok (sumP_len _ _ _), cellOf_ok (sumQ_len _ _ _)⟩
  generalize hP : sumP 16 (newData zcols 1 3 six) 3 = SP
  generalize hQ : sumQ 16 (newData zcols 1 3 six) 3 = SQ
  unfold planOf newCols
  rw [show 5 - 2 = 3 from rfl, hP, hQ]
  have k1 : ((fst 5 0 + (1 : Nat)) % 5).toNat = 2 := by decide
  have k3 : ((fst 5 0 + (3 : Nat)) % 5).toNat = 4 := by decide
  have k4 : ((fst 5 0 + (4 : Nat)) % 5).toNat = 0 := by decide
  simp only [List.map_cons, List.map_nil, planPut]
  rw [k1, k3, show (3 + 1 : Nat) = 4 from rfl, k4]
  rfl
set_option maxHeartbeats 8000000 in
theorem wakes_any (w : World) : Calls Try.prog 5 #[] w fun e w' => e = .returned (.bool true) ∧ Below w.heap.size w w' := by
  have NW := Lib.hid (fun (w' : World) (bm : Nat) (h : PowAt w' bm ⟨false, 0, 0⟩) => show Calls Try.prog 17 #[.agg #[.int .i64 5, .int .i64 1, .int .i64 1], .pointer (some ⟨bm, 0, none⟩)] w' fun e w'' => ∃ gd cap ds, e = .returned (.tuple #[.agg #[.int .i64 5, .int .i64 1, .int .i64 1, .slice (some ⟨gd, 0, none⟩) 5 cap], .int .i64 0]) ∧ ds.length = 5 ∧ 5 ≤ cap ∧ SetAt w'' gd bm 1 ds ∧ (∀ x ∈ ds, x.2.2 = ⟨0, false, fresh 1 1⟩ ∧ w'.heap.size ≤ x.2.1) ∧ w'.heap.size ≤ gd ∧ Below w'.heap.size w' w'' from new_ok sound5 (n := 1) h rfl)
  go_enter Try.func5, Try.ntmps5
  go_upto_region 2 with (first
    | (go_at_call 18; go_must (refine (newmains _).mono ?_; rintro e w1 ⟨rfl, hp1, hb1, hs1⟩; have B1 := Lib.hid hb1; have P1 := Lib.hid hp1; clear hb1 hp1 hs1))
    | (go_at_call 17; go_must (refine (NW.out _ _ P1.out).mono ?_; rintro e w2 ⟨gd, cap, ds, rfl, hdl, hcap, hset, hds, hgd, hb2⟩; have B2 := Lib.hid hb2; have S2 := Lib.hid hset; have DS := Lib.hid hds; have DL := Lib.hid hdl; clear hb2 hset hds hdl)))
  obtain ⟨bm, hbm⟩ : ∃ bm, bm = w.heap.size := ⟨_, rfl⟩
  rw [← hbm] at P1 S2
  have P2 := Lib.hid (P1.out.below B2.out P1.out.lt)
  have L2 := Lib.hid (B1.out.trans (B2.out.mono B1.out.size))
  have s2 := L2.out.size
  obtain ⟨g1, hg1⟩ : ∃ g1, g1 = w2.heap.size := ⟨_, rfl⟩
  obtain ⟨w3, hw3⟩ : ∃ w3, w3 = w2.alloc (.cells #[.int .i64 5, .int .i64 1, .int .i64 1, .slice (some ⟨gd, 0, none⟩) 5 cap] 60) := ⟨_, rfl⟩
  have B3 := Lib.hid (show Below w2.heap.size w2 w3 from by rw [hw3]; exact (Below.refl _ _).alloc (Nat.le_refl _) _)
  have V3 := Lib.hid (show Blk w3 g1 [.int .i64 5, .int .i64 1, .int .i64 1, .slice (some ⟨gd, 0, none⟩) 5 cap] 60 from by rw [hw3, hg1]; exact blk_at rfl rfl)
  rw [← hw3, ← hg1]
  clear hw3
  have L3 := Lib.hid (L2.out.trans (B3.out.mono s2))
  have S3 := Lib.hid (S2.out.below B3.out (Nat.le_refl _))
  have P3 := Lib.hid (P2.out.below B3.out P2.out.lt)
  have hfar : g1 ∉ (bm :: ds.map fun x => x.2.1) := by
    simp only [List.mem_cons, List.mem_map, not_or, not_exists, not_and]
    refine ⟨by have := P2.out.lt; omega, fun x hx e => ?_⟩
    obtain ⟨i, hi⟩ := List.getElem?_of_mem hx
    have := (S2.out.disk i x hi).body.lt
    omega
  have HFAR := Lib.hid hfar
  have HGE := Lib.hid (show ∀ x ∈ (bm :: ds.map fun x => x.2.1), w.heap.size ≤ x from fun x hx => by
    simp only [List.mem_cons, List.mem_map] at hx
    rcases hx with rfl | ⟨y, hy, rfl⟩
    · omega
    · have := (DS.out y hy).2
      have := B1.out.size
      omega)
  have PLN := Lib.hid (fun (w' : World) (hb : Below w3.heap.size w3 w') => show Calls Try.prog 19 #[.agg #[.int .i64 5, .int .i64 1, .int .i64 1, .slice (some ⟨gd, 0, none⟩) 5 cap], .int .i64 1, .agg (bv six).toArray] w' fun e w'' => ∃ v, e = .returned (.tuple #[v, .int .i64 0]) ∧ w''.ownsRow w'.heap.size 122 19 v 3 (flat putV (planOf 5 (spS 5 1 1) (plA 5 1 1) zcols (spC 5 1 1).toNat (ds.length - 2) six)) ∧ Below w'.heap.size w' w'' from by
    have hS := S3.out.below hb (Nat.le_refl _)
    have := plan_good sound5 (lba := 1) (by decide) (by decide) (cap := cap) hS (P3.out.below hb P3.out.lt) rfl (by rw [DL.out]; rfl) (by rw [DL.out]; exact hcap) (cols := zcols) (by rw [DL.out]; rfl) (rowok5 rfl DL.out (fun x hx => (DS.out x hx).1)) (fun x hx => by rw [(DS.out x hx).1]) (X := six) rfl
    rw [DL.out] at this ⊢
    exact this)
  obtain ⟨c2, c3, hpl, ok2, ok3⟩ := plan5 ds DL.out
  rw [hpl] at PLN
  obtain ⟨puts, hputs⟩ : ∃ puts : List Put, puts = [(2, 0, cellOf 0 six), (4, 0, c2), (0, 0, c3)] := ⟨_, rfl⟩
  rw [← hputs] at PLN
  have hok : ∀ q ∈ puts, q.1 < ds.length ∧ q.2.1 < 1 ∧ q.2.2.Ok := fun q hq => by
    rw [hputs] at hq
    rw [DL.out]
    simp only [List.mem_cons, List.not_mem_nil, or_false] at hq
    rcases hq with rfl | rfl | rfl
    · exact ⟨by decide, by decide, cellOf_ok rfl⟩
    · exact ⟨by show 4 < 5; decide, by show 0 < 1; decide, ok2⟩
    · exact ⟨by show 0 < 5; decide, by show 0 < 1; decide, ok3⟩
  have HOK := Lib.hid hok
  have PUTS := Lib.hid hputs
  clear hpl hok hputs B1 B2 S2 P1 P2 L2 hfar NW hg1
  have c0 := V3.out.cell 0
  have c1 := V3.out.cell 1
  have c2' := V3.out.cell 2
  have c3' := V3.out.cell 3
  simp only [List.getElem?_cons_zero, List.getElem?_cons_succ] at c0 c1 c2' c3'
  go_upto_region 5 with (first
    | (refine wpList_builds rfl 33 _ rfl [(0, .int .u8 6)] rfl _ zsix ?_)
    | (go_at_call 19; go_must (refine (PLN.out _ (Below.refl _ _)).mono ?_; rintro e w4 ⟨v4, rfl, ho4, hb4⟩; have O4 := Lib.hid ho4; have B4 := Lib.hid hb4; clear ho4 hb4)))
  have hpv : ∀ x ∈ puts, (putV x).length = 19 := fun x hx => putV_len (HOK.out x hx).2.2
  obtain ⟨av, cv, rfl, hsl⟩ := sl_own (n := 3) (by rw [PUTS.out]; rfl) hpv (by decide) O4.out
  have S4 := S3.out.below B4.out (Nat.le_refl _)
  have P4 := P3.out.below B4.out P3.out.lt
  have V4 := V3.out.below B4.out V3.out.lt
  have hown := O4.out
  have hne : (3 : Nat) ≠ 0 → ∀ b o, av = some ⟨b, o, none⟩ → b ≠ bm ∧ ∀ x ∈ ds, b ≠ x.2.1 := fun _ b o e => by
    subst e
    have h1 := (own_lt hown (g := b) rfl).1
    refine ⟨by have := P3.out.lt; omega, fun x hx e => ?_⟩
    obtain ⟨i, hi⟩ := List.getElem?_of_mem hx
    have := (S3.out.disk i x hi).body.lt
    omega
  have AP := Lib.hid (show Calls Try.prog 20 #[.agg #[.int .i64 5, .int .i64 1, .int .i64 1, .slice (some ⟨gd, 0, none⟩) 5 cap], .slice av 3 cv, .int .u32 0] w4 fun e w' => e = .returned (.int .i64 0) ∧ SetAt w' gd bm 1 (putAll ds puts) ∧ PowAt w' bm ⟨false, 0, 3⟩ ∧ Only (bm :: ds.map fun x => x.2.1) w4 w' from by
    have := apply_ok sound5 (cap := cap) S4 P4 rfl (by rw [DL.out]; rfl) (by rw [DL.out]; exact hcap) rfl rfl hsl HOK.out (by decide) (by show 0 + 3 ≤ _; decide) hne (ep := 0) (by decide) (fun x hx => by rw [(DS.out x hx).1]; exact ⟨rfl, Nat.le_refl _⟩)
    rw [DL.out] at this
    exact this)
  have L4 := Lib.hid (L3.out.trans (B4.out.mono L3.out.size))
  have HV4 := Lib.hid V4
  clear c0 c1 c2' c3' hsl hown hne hpv S4 P4 V4 PLN
  have c0 := HV4.out.cell 0
  have c1 := HV4.out.cell 1
  have c2' := HV4.out.cell 2
  have c3' := HV4.out.cell 3
  simp only [List.getElem?_cons_zero, List.getElem?_cons_succ] at c0 c1 c2' c3'
  go_upto_region 7 with (first
    | (go_at_call 20; go_must (refine AP.out.mono ?_; rintro e w5 ⟨rfl, hs5, hp5, ho5⟩; have S5 := Lib.hid hs5; have P5 := Lib.hid hp5; have O5 := Lib.hid ho5; clear hs5 hp5 ho5)))
  have V5 := Lib.hid (HV4.out.only O5.out HFAR.out)
  have L5 := Lib.hid (L4.out.trans (O5.out.below L4.out.size HGE.out))
  clear c0 c1 c2' c3' AP
  have c0 := V5.out.cell 0
  have c1 := V5.out.cell 1
  have c2' := V5.out.cell 2
  have c3' := V5.out.cell 3
  simp only [List.getElem?_cons_zero, List.getElem?_cons_succ] at c0 c1 c2' c3'
  obtain ⟨x, hx, hxd⟩ := puts5 (cellOf 0 six) c2 c3 DL.out (fun x hx => (DS.out x hx).1)
  rw [← PUTS.out] at hx
  have RD := Lib.hid (show Calls Try.prog 21 #[.agg #[.int .i64 5, .int .i64 1, .int .i64 1, .slice (some ⟨gd, 0, none⟩) 5 cap], .int .i64 1] w5 fun e w' => e = .returned (.tuple #[.agg (bv six).toArray, .int .i64 0]) ∧ Below w5.heap.size w5 w' from by
    have hl : (putAll ds puts).length = 5 := by rw [putAll_len, DL.out]
    have := read_good sound5 (lba := 1) (by decide) (by decide) (cap := cap) S5.out P5.out rfl (by rw [hl]; rfl) (by rw [hl]; exact hcap) (x := x) (by rw [show (plD 5 1 1).toNat = 2 from by decide]; exact hx) (X := six) rfl (by rw [show (plA 5 1 1).toNat = 0 from by decide, hxd]; rfl)
    rw [hl] at this
    exact this)
  have h16 : (bv six).length = 16 := rfl
  clear hx hxd
  go_wp2_with (first
    | (go_at_call 21; go_must (refine RD.out.mono ?_; rintro e w6 ⟨rfl, hb6⟩; have B6 := Lib.hid hb6; clear hb6))
    | (refine wpList_store_blk rfl 33 _ _ rfl w6.heap.size 0 16 rfl 33 (Seal.zeros 16) (bv six) rfl (blk_at rfl rfl) (by kernel_rfl) h16 (by decide) (bv_cell _) ?_; intro w7 z7 g7; rw [put_all _ _ (by rw [h16]; rfl)] at z7; have Z7 := Lib.hid z7; have B7 := Lib.hid (below_grown ((Below.refl w6.heap.size w6).alloc (Nat.le_refl _) _) g7 (by simp) (Nat.le_refl _)); clear z7 g7)
    | (refine wpList_load_g rfl 33 _ rfl w6.heap.size 16 rfl 33 _ _ Z7.out Try.underlying33 rfl (by kernel_rfl) h16 ?_)
    | (refine wpList_value_g rfl (.agg (bv six).toArray) (exec_built' rfl rfl zsix) ?_)
    | (refine wpList_value_g rfl (.bool true) (exec_eql rfl rfl rfl (by kernel_rfl) (six_eq _)) ?_))
  go_ret
  exact ⟨rfl, L5.out.trans ((B6.out.trans (B7.out.mono B6.out.size)).mono L5.out.size)⟩
end Go.Proofs.Ytgnnjinpcdemiaa.Str
/-
  SameRecords of the reference by contract. Helper text; no statement is proved here.
-/
set_option linter.unusedVariables false
set_option maxRecDepth 20000
set_option linter.unusedSimpArgs false
namespace Go.Proofs.Ytgnnjinpcdemiaa.Codec
open Go.RowKit Go.Proofs.Ytgnnjinpcdemiaa.Base Go.Proofs.Ytgnnjinpcdemiaa.Laws Go.Proofs.Ytgnnjinpcdemiaa.InvM
theorem rec_at {w : World} {b o : Nat} {rs : List Rc} (hv : ∀ r ∈ rs, r.Valid) (hc : ∀ j u, (rv rs)[j]? = some u → w.cell? ⟨b, o + j, none⟩ = some u) {i : Nat} {r : Rc} (hr : rs[i]? = some r) : ∀ j u, r.cells[j]? = some u → w.cell? ((⟨b, o + i * 19, none⟩ : Addr).add j) = some u := fun j u hu => by
  rw [Addr.add_lit, Nat.add_assoc]
  exact hc _ u (rv_get hv i r hr j u hu)
end Go.Proofs.Ytgnnjinpcdemiaa.Codec
/-
  same of the top by contract. Helper text; no statement is proved here.
-/
set_option linter.unusedVariables false
set_option maxRecDepth 20000
set_option linter.unusedSimpArgs false
namespace Go.Proofs.Ytgnnjinpcdemiaa.Codec
open Go.RowKit Go.Proofs.Ytgnnjinpcdemiaa.Base Go.Proofs.Ytgnnjinpcdemiaa.Laws Go.Proofs.Ytgnnjinpcdemiaa.InvM
set_option maxRecDepth 4000 in
set_option maxHeartbeats 2000000 in
theorem same_recs (a : Option Addr) (n c : Nat) (la : List Rc) (b : Option Addr) (m d : Nat) (lb : List Rc) (w : World) (ha : Recs w a n c la) (hb : Recs w b m d lb) :
    Calls Try.prog 15 #[.slice a n c, .slice b m d] w fun e w' => e = .returned (.bool (decide (la = lb))) ∧ ∃ nd, w' = w.drewN nd := by
  obtain ⟨h1, h2, h3, h5, h4⟩ := ha
  obtain ⟨g1, g2, g3, g5, g4⟩ := hb
  unfold maxLen at h3 g3
  by_cases hnm : n = m
  · subst hnm
    have HL := Lib.hid (show la.length = lb.length by omega)
    have HV := Lib.hid h5
    have GV := Lib.hid g5
    by_cases h0 : n = 0
    · subst h0
      have e : la = lb := by rw [List.eq_nil_of_length_eq_zero h1, List.eq_nil_of_length_eq_zero g1]
      have HE := Lib.hid e
      clear h4 g4 h5 g5 e
      go_enter Try.func15, Try.ntmps15
      go_wp2
      refine wp_loop_rounds 1 ?_
      rw [rounds_succ]
      go_wp2
      go_ret
      exact ⟨ret_bool (decide_eq_true HE.out).symm, 0, rfl⟩
    rcases h4 with h4 | ⟨p, o, rfl, hc⟩
    · omega
    rcases g4 with g4 | ⟨q, u, rfl, gc⟩
    · omega
    have HA := Lib.hid hc
    have HB := Lib.hid gc
    clear hc gc h5 g5
    go_enter Try.func15, Try.ntmps15
    go_wp2
    go_loopw [5] (fun i wr => ∃ k nd : Nat, k ≤ n ∧ i = .int .i64 k ∧ la.take k = lb.take k ∧ wr = w.drewN nd) (fun i _ => n - (intOf i).toNat)
    case atStart => exact ⟨0, 0, by omega, rfl, rfl, rfl⟩
    case round =>
      obtain ⟨k, nd, hk, rfl, ht, rfl⟩ := hrel
      have HT := Lib.hid ht
      clear ht
      by_cases hkn : k < n
      · obtain ⟨x, hx⟩ : ∃ x, la[k]? = some x := ⟨_, List.getElem?_eq_getElem (by omega)⟩
        obtain ⟨y, hy⟩ : ∃ x, lb[k]? = some x := ⟨_, List.getElem?_eq_getElem (by omega)⟩
        have xv := HV.out x (List.mem_of_getElem? hx)
        have yv := GV.out y (List.mem_of_getElem? hy)
        have X1 := Lib.hid (take_snoc la k x hx)
        have Y1 := Lib.hid (take_snoc lb k y hy)
        have XC := Lib.hid (rec_at HV.out HA.out hx)
        have YC := Lib.hid (rec_at GV.out HB.out hy)
        have XL := Lib.hid (Rc.len xv)
        have YL := Lib.hid (Rc.len yv)
        have XE := Lib.hid (Rc.eq xv yv)
        have XG := Lib.hid hx
        have YG := Lib.hid hy
        clear hx hy xv yv
        go_wp2
        refine wp_region_still_tail 8 (by kernel_rfl) (by kernel_rfl) ?_
        simp only [List.take_succ_cons, List.take_zero, List.drop_succ_cons, List.drop_zero]
        still_step
        still_step
        still_step
        refine wpStill_value rfl (.agg x.cells.toArray) (exec_load_from (m := 19) rfl rfl XC.out Try.underlying35 rfl (by kernel_rfl) XL.out) ?_
        still_step
        still_step
        still_step
        refine wpStill_value rfl (.agg y.cells.toArray) (exec_load_from (m := 19) rfl rfl YC.out Try.underlying35 rfl (by kernel_rfl) YL.out) ?_
        refine wpStill_nil ?_
        change wpList _ _ _ _ _ (w.drewN nd).drew
        rw [World.drew_drewN]
        by_cases hxy : x = y
        · refine wpList_value_g rfl (.bool (!true)) (exec_neq rfl rfl rfl (by kernel_rfl) ((XE.out (w.drewN (nd + 1))).trans (by rw [decide_eq_true hxy]))) ?_
          simp only [Bool.not_true, Bool.not_false]
          go_wp2
          go_roundw
          case rel => exact ⟨k + 1, nd + 1, by omega, by go_num, by rw [X1.out, Y1.out, HT.out, hxy], rfl⟩
          case measure => simp [intOf]; omega
        · refine wpList_value_g rfl (.bool (!false)) (exec_neq rfl rfl rfl (by kernel_rfl) ((XE.out (w.drewN (nd + 1))).trans (by rw [decide_eq_false hxy]))) ?_
          simp only [Bool.not_true, Bool.not_false]
          go_wp2
          go_ret
          refine ⟨ret_bool (decide_eq_false fun e => hxy ?_).symm, nd + 1, rfl⟩
          have := XG.out
          rw [e, YG.out] at this
          exact (Option.some.inj this).symm
      · go_wp2
        go_ret
        exact ⟨ret_bool (decide_eq_true (Same.take_eq_of HL.out (by omega) HT.out)).symm, _, rfl⟩
  · have HN := Lib.hid (show la ≠ lb from fun e => by subst e; omega)
    have hnm' : ¬ ((n : Int) = m) := by omega
    clear h4 g4 h5 g5
    go_enter Try.func15, Try.ntmps15
    go_wp2
    go_ret
    exact ⟨ret_bool (decide_eq_false HN.out).symm, 0, rfl⟩
end Go.Proofs.Ytgnnjinpcdemiaa.Codec
/-
  What a write or an append does to a link. Helper text; no statement is proved here.
-/
set_option linter.unusedVariables false
set_option maxRecDepth 20000
set_option linter.unusedSimpArgs false
namespace Go.Proofs.Ytgnnjinpcdemiaa.Link
open Go.RowKit Go.Proofs.Ytgnnjinpcdemiaa.Base Go.Proofs.Ytgnnjinpcdemiaa.Laws Go.Proofs.Ytgnnjinpcdemiaa.Disk Go.Proofs.Ytgnnjinpcdemiaa.Row Go.Proofs.Ytgnnjinpcdemiaa.Flat Go.Proofs.Ytgnnjinpcdemiaa.InvL Go.Proofs.Ytgnnjinpcdemiaa.InvC Go.Proofs.Ytgnnjinpcdemiaa.Inv
def upd (V : Nat → Value) (i : Nat) (v : Value) : Nat → Value := fun j => if j = i then v else V j
theorem upd_self (V : Nat → Value) (i : Nat) (v : Value) : upd V i v i = v := if_pos rfl
theorem upd_ne {V : Nat → Value} {i j : Nat} {v : Value} (h : j ≠ i) : upd V i v j = V j := if_neg h
section
variable {α : Type} {P : Program} {w w' : World} {base : Nat} {S S' T : List Nat} {t : TypeId} {m : Nat} {f : α × Value → List Value} {body : α → List UInt8} {v : Value} {xs : List α}
theorem RowOf.append (h : RowOf w base S t m f body v xs) (ts ty : TypeId) (z : Value) (bytes : Nat) (ht : P.underlying ts = some (.slice t)) (hi : (P.info? t).map (fun i => (i.zero, i.size, i.bytes)) = some (some z, m, bytes))
    (hzs : z.cells.size = m) (hsz : 0 < m) (x : α) (y : Value) (hy : Body w S y (body x)) {a : Option Addr} {c : Nat} (hs : SrcOf w a 1 m (f (x, y))) (hb : (xs.length + 1) * bytes ≤ 140737488355328) (h63 : xs.length + 1 ≤ maxLen) (hbase : base ≤ w.heap.size)
    (hv : ∀ g, v.ownBlock = some g → g ∈ S) :
    ∃ v' w', (Builtin.append_ #[ts, ts] ty #[v, .slice a 1 c]).run P w = .ok v' w' ∧ (∀ S', (∀ x ∈ S', x ∈ S ∨ w.heap.size ≤ x) → RowOf w' base S' t m f body v' (xs ++ [x])) ∧ w.grownBy w' v.ownBlock ∧ (v'.ownBlock = v.ownBlock ∨ v'.ownBlock = some w.heap.size) ∧ (∃ a' c', v' = .slice a' (xs.length + 1) c') := by
  obtain ⟨ps, rfl, h1, h2⟩ := h
  simp only [List.length_map] at hb h63 ⊢
  obtain ⟨v', w', hr, ho, hg, hv'⟩ := run_append_any_at (P := P) w base ts ty t z m bytes ht hi hzs hsz v ps.length (flat f ps) h1 a 1 c (f (x, y)) hs hb h63 hbase
  obtain ⟨a', c', e, _⟩ := own_slice ho hsz
  refine ⟨v', w', hr, fun S' hS => ⟨ps ++ [(x, y)], by simp, ?_, ?_⟩, hg, hv', a', c', e⟩
  · rw [flat_append, flat_one]
    simpa using ho
  · have hl : Only v.ownBlock.toList w w' := ⟨hg.os, hg.tape, hg.output, hg.size, fun k hk hn => hg.block k hk (by intro e; apply hn; rw [← e]; simp)⟩
    intro p hp
    rcases List.mem_append.1 hp with hp | hp
    · exact (h2 p hp).move hl (fun x hx => hv x (by simpa using hx)) hS
    · obtain rfl : p = (x, y) := by simpa using hp
      exact hy.move hl (fun x hx => hv x (by simpa using hx)) hS
theorem RowOf.setCell (h : RowOf w base S t m f body v xs) {g : Nat} (hg : g ∈ S) (hv : ∀ b, v.ownBlock = some b → b ≠ g) (i : Nat) (x : Value) : RowOf (w.setCell ⟨g, i, none⟩ x) base S t m f body v xs :=
  h.move (T := [g]) ((Only.refl [g] w).setCell (by simp) i x) (by simpa using hg) (fun x hx => .inl hx) (fun b hb hx => hv b hb (by simpa using hx))
end
section
variable {w w' w1 : World} {bl : Nat} {V : Nat → Value} {A : List Nat} {k : Lk}
/-- a row has another value; one cell of the link is written -/
theorem LinkAt.turned (h : LinkAt w bl V A k) (i : Nat) (hi : i < 5) (v' : Value) (pos : Nat) (k' : Lk) (hg : w.grownBy w1 (V i).ownBlock) (hv : v'.ownBlock = (V i).ownBlock ∨ v'.ownBlock = some w.heap.size ∨ v'.ownBlock = none)
    (hh : lcells k' (upd V i v') = (lcells k V).set pos v') (ho : ∀ n, n < 2 → 2 * n ≠ i → (k'.en n).op = (k.en n).op) (hgot : ∀ n, n < 2 → 2 * n + 1 ≠ i → (k'.en n).got = (k.en n).got) (hfl : i ≠ 4 → k'.fl = k.fl)
    (no : ∀ n, n < 2 → 2 * n = i → RowOf w1 (bl + 1) (reach bl (upd V i v') ++ A) 75 4 mc (·.B) v' (k'.en n).op)
    (ng : ∀ n, n < 2 → 2 * n + 1 = i → RowOf w1 (bl + 1) (reach bl (upd V i v') ++ A) 27 1 gc id v' (k'.en n).got)
    (nf : i = 4 → RowOf w1 (bl + 1) (reach bl (upd V i v') ++ A) 78 5 pc (·.m.B) v' k'.fl) : Goes w bl V A (w1.setCell ⟨bl, pos, none⟩ v') (upd V i v') k' := by
  have hkin : Kin w V (upd V i v') := fun j hj g hgj => by
    by_cases e : j = i
    · subst e
      rw [upd_self] at hgj
      rcases hv with e | e | e <;> rw [e] at hgj
      · exact .inl hgj
      · cases hgj; exact .inr (Nat.le_refl _)
      · cases hgj
    · rw [upd_ne e] at hgj; exact .inl hgj
  have hin : ∀ x, (V i).ownBlock = some x → x ∈ reach bl V := fun x hx => mem_reach.2 (.inr ⟨i, hi, hx⟩)
  have hbi : ∀ x, (V i).ownBlock = some x → x ≠ bl := fun x hx => by have := h.row i hi hx; omega
  have hS : ∀ x ∈ reach bl (upd V i v') ++ A, x ∈ reach bl V ++ A ∨ w.heap.size ≤ x := fun x hx => by
    rcases List.mem_append.1 hx with hx | hx
    · exact (hkin.reach hx).imp (List.mem_append_left _) id
    · exact .inl (List.mem_append_right _ hx)
  have hb : bl ∈ reach bl (upd V i v') ++ A := List.mem_append_left _ (mem_reach.2 (.inl rfl))
  have hnb : ∀ j, j < 5 → ∀ b, (V j).ownBlock = some b → b ≠ bl := fun j hj b hb => by have := h.row j hj hb; omega
  have hnd : ∀ j, j < 5 → j ≠ i → ∀ g, (V j).ownBlock = some g → (V i).ownBlock ≠ some g := fun j hj hne g hgj => h.dist j i hj hi hne g hgj
  have hnv : ∀ b, v'.ownBlock = some b → b ≠ bl := fun b hb => by
    rcases hv with e | e | e <;> rw [e] at hb
    · exact hbi b hb
    · cases hb; have := h.head.lt; omega
    · cases hb
  refine ⟨?_, ?_, hkin⟩
  · refine { head := ?_, o := fun n hn => ?_, g := fun n hn => ?_, fl := ?_, dist := ?_, out := ?_ }
    · rw [hh]
      exact (h.head.grownO hg (fun x hx => (hbi x hx).symm)).setCell pos v'
    · by_cases e : 2 * n = i
      · rw [e, upd_self]
        exact (no n hn e).setCell hb hnv _ _
      · rw [upd_ne e, ho n hn e]
        exact ((h.o n hn).grown hg (fun x hx => List.mem_append_left _ (hin x hx)) hS (hnd _ (by omega) e)).setCell hb (hnb _ (by omega)) _ _
    · by_cases e : 2 * n + 1 = i
      · rw [e, upd_self]
        exact (ng n hn e).setCell hb hnv _ _
      · rw [upd_ne e, hgot n hn e]
        exact ((h.g n hn).grown hg (fun x hx => List.mem_append_left _ (hin x hx)) hS (hnd _ (by omega) e)).setCell hb (hnb _ (by omega)) _ _
    · by_cases e : i = 4
      · have e' : upd V i v' 4 = v' := by rw [← e]; exact upd_self ..
        rw [e']
        exact (nf e).setCell hb hnv _ _
      · rw [upd_ne (Ne.symm e), hfl e]
        exact (h.fl.grown hg (fun x hx => List.mem_append_left _ (hin x hx)) hS (hnd _ (by omega) (Ne.symm e))).setCell hb (hnb _ (by omega)) _ _
    · intro a b ha hb' hne g hga hgb
      by_cases e1 : a = i
      · subst e1
        rw [upd_self] at hga
        rw [upd_ne (Ne.symm hne)] at hgb
        rcases hv with e | e | e <;> rw [e] at hga
        · exact h.dist a b ha hb' hne g hga hgb
        · cases hga; have := h.row b hb' hgb; omega
        · cases hga
      · rw [upd_ne e1] at hga
        by_cases e2 : b = i
        · subst e2
          rw [upd_self] at hgb
          rcases hv with e | e | e <;> rw [e] at hgb
          · exact h.dist a b ha hb' hne g hga hgb
          · cases hgb; have := h.row a ha hga; omega
          · cases hgb
        · rw [upd_ne e2] at hgb
          exact h.dist a b ha hb' hne g hga hgb
    · intro x hx
      have := h.out x hx
      have := hg.size
      have e : (w1.setCell ⟨bl, pos, none⟩ v').heap.size = w1.heap.size := by simp
      omega
  · have h1 : Only (reach bl V) w w1 := ⟨hg.os, hg.tape, hg.output, hg.size, fun x hx hn => hg.block x hx fun e => hn (hin x e.symm)⟩
    exact h1.setCell (mem_reach.2 (.inl rfl)) _ _
/-- a number of the link is written -/
theorem LinkAt.scalar (h : LinkAt w bl V A k) (pos : Nat) (x : Value) (k' : Lk) (hh : lcells k' V = (lcells k V).set pos x) (ho : ∀ n, (k'.en n).op = (k.en n).op) (hgot : ∀ n, (k'.en n).got = (k.en n).got) (hfl : k'.fl = k.fl) : Goes w bl V A (w.setCell ⟨bl, pos, none⟩ x) V k' := by
  have hb : bl ∈ reach bl V ++ A := List.mem_append_left _ (mem_reach.2 (.inl rfl))
  have hnb : ∀ j, j < 5 → ∀ b, (V j).ownBlock = some b → b ≠ bl := fun j hj b hb => by have := h.row j hj hb; omega
  have hsz : (w.setCell ⟨bl, pos, none⟩ x).heap.size = w.heap.size := by simp
  refine ⟨{ head := by rw [hh]; exact h.head.setCell pos x, o := fun n hn => by rw [ho]; exact (h.o n hn).setCell hb (hnb _ (by omega)) _ _, g := fun n hn => by rw [hgot]; exact (h.g n hn).setCell hb (hnb _ (by omega)) _ _, fl := by rw [hfl]; exact h.fl.setCell hb (hnb _ (by omega)) _ _, dist := h.dist, out := fun y hy => by rw [hsz]; exact h.out y hy }, (Only.refl _ w).setCell (mem_reach.2 (.inl rfl)) _ _, Kin.refl _ _⟩
end
theorem src_blk {w : World} {g m : Nat} {cs : List Value} {t : TypeId} (h : Blk w g cs t) (hl : cs.length = m) (h1 : ∀ u ∈ cs, u.oneCell' = true) : SrcOf w (some ⟨g, 0, none⟩) 1 m cs := by
  refine ⟨by rw [hl, Nat.one_mul], h1, .inr ⟨_, rfl, fun j u hu => ?_⟩⟩
  rw [Addr.add_lit, Nat.zero_add, h.cell]
  exact hu
end Go.Proofs.Ytgnnjinpcdemiaa.Link
/-
  Two makings of memory in either order: a message and a clone. Helper text; no statement is proved here.
-/
set_option linter.unusedVariables false
set_option maxRecDepth 20000
set_option linter.unusedSimpArgs false
namespace Go.Proofs.Ytgnnjinpcdemiaa.Link
open Go.RowKit Go.Proofs.Ytgnnjinpcdemiaa.Base Go.Proofs.Ytgnnjinpcdemiaa.Laws Go.Proofs.Ytgnnjinpcdemiaa.Inv Go.Proofs.Ytgnnjinpcdemiaa.InvL Go.Proofs.Ytgnnjinpcdemiaa.InvC Go.Proofs.Ytgnnjinpcdemiaa.Codec
/-- the message of noughts -/
def zmk : List Value := [.int .u32 0, .int .u32 0, .int .u32 0, .slice none 0 0]
def cBk (N : Nat) (κ : Bool) : Nat := match κ with | true => N + 1 | false => N
def pBk (N eo : Nat) (κ : Bool) : Nat := match κ with | true => N | false => N + 1 + eo
/-- 22 makes room for the message, 20 clones -/
def MkSt (N D eo n cc p c : Nat) (body : List UInt8) (κ : Bool) (d : Array Bool) (w : World) : Prop :=
  match d.getD p false, d.getD c false with
  | false, false => w.heap.size = N ∧ w.drawn = D
  | true, false => κ = true ∧ Blk w N zmk 75 ∧ w.heap.size = N + 1 ∧ w.drawn = D
  | false, true => κ = false ∧ Bts w (some ⟨N + eo, 0, none⟩) n cc body ∧ w.heap.size = N + 1 + eo
  | true, true => Blk w (pBk N eo κ) zmk 75 ∧ Bts w (some ⟨cBk N κ + eo, 0, none⟩) n cc body
section
variable {N D eo n cc p c : Nat} {body : List UInt8} {κ : Bool} {d : Array Bool} {w w' : World}
theorem MkSt.keep {i : Nat} (h1 : i ≠ p) (h2 : i ≠ c) (h : MkSt N D eo n cc p c body κ d w) : MkSt N D eo n cc p c body κ (d.setIfInBounds i true) w := by
  unfold MkSt at *
  rwa [getD_set_ne false h1, getD_set_ne false h2]
theorem getD_nowk {i : Nat} (h : d.getD i true = false) : (d.setIfInBounds i true).getD i false = true := by
  have hp : i < d.size := by
    rcases Nat.lt_or_ge i d.size with h' | h'
    · exact h'
    · simp [Array.getElem?_eq_none h'] at h
  simp [hp]
theorem MkSt.at_c (hpc : p ≠ c) (hd : d.getD c true = false) (hG : Two p c κ c d) (h : MkSt N D eo n cc p c body κ d w) : w.heap.size = cBk N κ ∧ w.drawn = D := by
  have hd' := getD_true_of hd
  unfold MkSt at h
  rw [hd'] at h
  cases κ with
  | true =>
    have := hG rfl
    rw [this] at h
    exact ⟨h.2.2.1, h.2.2.2⟩
  | false =>
    cases hp : d.getD p false with
    | true => rw [hp] at h; cases h.1
    | false => rw [hp] at h; exact h
theorem MkSt.cloned (hpc : p ≠ c) (hd : d.getD c true = false) (hG : Two p c κ c d) (h : MkSt N D eo n cc p c body κ d w) (hs : w'.heap.size = w.heap.size + 1 + eo) (hb : Bts w' (some ⟨w.heap.size + eo, 0, none⟩) n cc body) (hbl : Below w.heap.size w w') : MkSt N D eo n cc p c body κ (d.setIfInBounds c true) w' := by
  obtain ⟨e1, _⟩ := h.at_c hpc hd hG
  have hd' := getD_true_of hd
  unfold MkSt at *
  rw [getD_nowk hd, getD_set_ne false (Ne.symm hpc)]
  rw [hd'] at h
  rw [e1] at hb hs
  cases κ with
  | true =>
    have := hG rfl
    rw [this] at h ⊢
    exact ⟨h.2.1.below hbl h.2.1.lt, hb⟩
  | false =>
    cases hp : d.getD p false with
    | true => rw [hp] at h; cases h.1
    | false => exact ⟨rfl, hb, hs⟩
theorem MkSt.at_p (hpc : p ≠ c) (hd : d.getD p true = false) (hG : Two p c κ p d) (h : MkSt N D eo n cc p c body κ d w) : w.heap.size = pBk N eo κ := by
  have hd' := getD_true_of hd
  unfold MkSt at h
  rw [hd'] at h
  cases κ with
  | true =>
    cases hp : d.getD c false with
    | true => rw [hp] at h; cases h.1
    | false => rw [hp] at h; exact h.1
  | false =>
    have := hG rfl
    rw [this] at h
    exact h.2.2
theorem MkSt.made (hpc : p ≠ c) (hd : d.getD p true = false) (hG : Two p c κ p d) (h : MkSt N D eo n cc p c body κ d w) (arr : Array Value) (ha : zmk.toArray = arr) : MkSt N D eo n cc p c body κ (d.setIfInBounds p true) (w.alloc (.cells arr 75)) := by
  have e1 := h.at_p hpc hd hG
  have hd' := getD_true_of hd
  have hblk : Blk (w.alloc (.cells arr 75)) (pBk N eo κ) zmk 75 := blk_at e1 ha
  unfold MkSt at *
  rw [getD_nowk hd, getD_set_ne false hpc]
  rw [hd'] at h
  cases κ with
  | true =>
    cases hp : d.getD c false with
    | true => rw [hp] at h; cases h.1
    | false =>
      rw [hp] at h
      exact ⟨rfl, hblk, by simp only [size_alloc]; rw [h.1], h.2⟩
  | false =>
    have := hG rfl
    rw [this] at h ⊢
    exact ⟨hblk, bts_alloc h.2.1 _⟩
theorem MkSt.done (h1 : d.getD p false = true) (h2 : d.getD c false = true) (h : MkSt N D eo n cc p c body κ d w) : Blk w (pBk N eo κ) zmk 75 ∧ Bts w (some ⟨cBk N κ + eo, 0, none⟩) n cc body := by
  unfold MkSt at h
  rwa [h1, h2] at h
end
theorem clone_none (w : World) : Calls Try.prog 25 #[.slice none 0 0] w fun e w' => e = .returned (.slice none 0 0) ∧ w = w' := by
  have hq : ∀ w', (binOp .eql 27 (.slice none 0 0) (.slice none 0 0)).run Try.prog w' = .ok (.bool true) w' := fun w' => Lib.run_eql_slice_nil w' _ _ _ _ _ _ _ Try.underlying27
  go_enter Try.func25, Try.ntmps25
  go_wp2_with fail
  go_ret
  exact ⟨rfl, rfl⟩
theorem built_mk (e s a : Nat) (b : Option Addr) (n c : Nat) : Try.prog.built 75 [(0, .int .u32 (e : Int)), (1, .int .u32 (s : Int)), (2, .int .u32 (a : Int)), (3, .slice b n c)] = some (mc (⟨e, s, a, []⟩, .slice b n c)).toArray := by kernel_rfl
theorem built_pk (f : Nat) (m : Mk) (v : Value) : Try.prog.built 78 [(0, .int .i64 (f : Int)), (1, .agg (mc (m, v)).toArray)] = some (pc (⟨f, m⟩, v)).toArray := by
  cases v <;> kernel_rfl
theorem info_pk : (Try.prog.info? 78).map (fun i => (i.zero, i.size, i.bytes)) = some (some (.agg #[.int .i64 0, .int .u32 0, .int .u32 0, .int .u32 0, .slice none 0 0]), 5, 48) := by kernel_rfl
theorem info_mk : (Try.prog.info? 75).map (fun i => (i.zero, i.size, i.bytes)) = some (some (.agg #[.int .u32 0, .int .u32 0, .int .u32 0, .slice none 0 0]), 4, 40) := by kernel_rfl
theorem info_bs : (Try.prog.info? 27).map (fun i => (i.zero, i.size, i.bytes)) = some (some (.slice none 0 0), 1, 24) := by kernel_rfl
end Go.Proofs.Ytgnnjinpcdemiaa.Link
/-
  put of a link by contract. Helper text; no statement is proved here.
-/
set_option linter.unusedVariables false
set_option maxRecDepth 20000
set_option linter.unusedSimpArgs false
namespace Go.Proofs.Ytgnnjinpcdemiaa.Link
open Go.RowKit Go.Proofs.Ytgnnjinpcdemiaa.Base Go.Proofs.Ytgnnjinpcdemiaa.Laws Go.Proofs.Ytgnnjinpcdemiaa.Disk Go.Proofs.Ytgnnjinpcdemiaa.Row Go.Proofs.Ytgnnjinpcdemiaa.Flat Go.Proofs.Ytgnnjinpcdemiaa.InvM Go.Proofs.Ytgnnjinpcdemiaa.Inv Go.Proofs.Ytgnnjinpcdemiaa.InvL Go.Proofs.Ytgnnjinpcdemiaa.InvC Go.Proofs.Ytgnnjinpcdemiaa.InvG Go.Proofs.Ytgnnjinpcdemiaa.Codec
theorem mc_len (p : Mk × Value) : (mc p).length = 4 := rfl
theorem pc_len (p : Pk × Value) : (pc p).length = 5 := rfl
theorem slice_one (a : Option Addr) (n c : Nat) : (Value.slice a n c).oneCell' = true := rfl
theorem mc_one {p : Mk × Value} (h : p.2.oneCell' = true) : ∀ u ∈ mc p, u.oneCell' = true := by
  intro u hu
  simp only [mc, List.mem_cons, List.not_mem_nil, or_false] at hu
  rcases hu with rfl | rfl | rfl | rfl <;> first | rfl | exact h
theorem pc_one {p : Pk × Value} (h : p.2.oneCell' = true) : ∀ u ∈ pc p, u.oneCell' = true := by
  intro u hu
  simp only [pc, List.mem_cons, List.not_mem_nil, or_false] at hu
  rcases hu with rfl | rfl | rfl | rfl | rfl <;> first | rfl | exact h
theorem Body.one {w : World} {S : List Nat} {v : Value} {B : List UInt8} (h : Body w S v B) : v.oneCell' = true := by
  rcases h with ⟨_, rfl⟩ | ⟨g, o, c, rfl, _⟩ <;> rfl
theorem Body.slice {w : World} {S : List Nat} {v : Value} {B : List UInt8} (h : Body w S v B) : ∃ a c, v = .slice a B.length c ∧ Bts w a B.length c B ∧ B.length ≤ 64 := by
  rcases h with ⟨rfl, rfl⟩ | ⟨g, o, c, rfl, _, h2, h3, _⟩
  · exact ⟨none, 0, rfl, ⟨rfl, Nat.le_refl _, by unfold maxLen; omega, .inl rfl⟩, by simp⟩
  · exact ⟨_, c, rfl, h3, h2⟩
/-- a packet goes behind the others -/
theorem LinkAt.more {w : World} {bl : Nat} {V : Nat → Value} {A : List Nat} {k : Lk} (h : LinkAt w bl V A k) (x : Pk) (y : Value) (hy : Body w (reach bl V ++ A) y x.m.B) {g : Nat} (hz : Blk w g (pc (x, y)) 78) (hl : k.fl.length < 1024) :
    ∃ v' w', (Builtin.append_ #[37, 37] 37 #[V 4, .slice (some ⟨g, 0, none⟩) 1 1]).run Try.prog w = .ok v' w' ∧ Goes w bl V A (w'.setCell ⟨bl, 9, none⟩ v') (upd V 4 v') { k with fl := k.fl ++ [x] } ∧ w'.cell? ⟨bl, 9, none⟩ = some (V 4) ∧ w'.frozen? ⟨bl, 9, none⟩ = false ∧ w.grownBy w' (V 4).ownBlock ∧ (∃ a' c', v' = .slice a' (k.fl.length + 1) c') := by
  have hlt := h.head.lt
  obtain ⟨v', w', hr, hrow, hg, hv, hs⟩ := h.fl.append 37 37 (.agg #[.int .i64 0, .int .u32 0, .int .u32 0, .int .u32 0, .slice none 0 0]) 48 Try.underlying37 info_pk rfl (by decide) x y hy (src_blk hz rfl (pc_one hy.one)) (by omega) (by unfold maxLen; omega) (by omega) (fun g hg => List.mem_append_left _ (mem_reach.2 (.inr ⟨4, by decide, hg⟩)))
  have hhead := h.head.grownO hg (fun x hx => by have := h.row 4 (by decide) hx; omega)
  refine ⟨v', w', hr, h.turned 4 (by decide) v' 9 { k with fl := k.fl ++ [x] } hg ?_ rfl (fun n hn _ => by rfl) (fun n hn _ => by rfl) (fun e => absurd rfl e) (fun n hn e => by omega) (fun n hn e => by omega) (fun _ => hrow _ (fun x hx => ?_)), hhead.cell 9, hhead.frozen 9, hg, hs⟩
  · rcases hv with e | e
    · exact .inl e
    · exact .inr (.inl e)
  · rcases List.mem_append.1 hx with hx | hx
    · rcases mem_reach.1 hx with rfl | ⟨i, hi, e⟩
      · exact .inl (List.mem_append_left _ (mem_reach.2 (.inl rfl)))
      · by_cases e4 : i = 4
        · subst e4
          rw [upd_self] at e
          rcases hv with e' | e' <;> rw [e'] at e
          · exact .inl (List.mem_append_left _ (mem_reach.2 (.inr ⟨4, by decide, e⟩)))
          · cases e; exact .inr (Nat.le_refl _)
        · rw [upd_ne e4] at e
          exact .inl (List.mem_append_left _ (mem_reach.2 (.inr ⟨i, hi, e⟩)))
    · exact .inl (List.mem_append_right _ hx)
section
variable {w : World} {bl : Nat} {V : Nat → Value} {A : List Nat} {k : Lk}
set_option maxHeartbeats 2000000 in
theorem put_full0 (h : LinkAt w bl V A k) (s : Nat) (ad : Addr) (c bn : Nat) (B : List UInt8) (hbn : B.length = bn) (h0 : 0 < bn) (h64 : bn ≤ 64) (hb : Bts w (some ad) bn c B) (hfl : k.fl.length < 1024) : Calls Try.prog 26 #[.pointer (some ⟨bl, 0, none⟩), .int .i64 0, .int .u32 (s : Int), .slice (some ad) bn c] w fun e w' => e = .returned (.tuple #[]) ∧ ∃ v', Goes w bl V A w' (upd V 4 v') (k.put 0 s B) := by
  have hlt := h.head.lt
  obtain ⟨cm, hcm⟩ : ∃ cm, cm = (k.en 0).come := ⟨_, rfl⟩
  have H0 := Lib.hid h
  have C0 := Lib.hid (fun w' (hb : Below w.heap.size w w') => show w'.cell? ⟨bl, 0, none⟩ = some (.int .u32 (k.ep : Int)) from (h.below hb).cell 0)
  have C1 := Lib.hid (fun w' (hb : Below w.heap.size w w') => show w'.cell? ⟨bl, 3, none⟩ = some (.int .u32 (cm : Int)) from by rw [hcm]; exact (h.below hb).cell 3)
  have HB := Lib.hid hb
  have HCM := Lib.hid hcm
  have HBN := Lib.hid hbn
  clear h hb hcm hbn
  go_enter Try.func26, Try.ntmps26
  go_upto_region 0 with (fail)
  obtain ⟨N, hN⟩ : ∃ N, N = w.heap.size := ⟨_, rfl⟩
  obtain ⟨D, hD⟩ : ∃ D, D = w.drew.drawn := ⟨_, rfl⟩
  obtain ⟨cc, hcc⟩ : ∃ cc, cc = cloneCap w.drew bn := ⟨_, rfl⟩
  refine InvC.wp_region_two_tail (fun κ d w' => (Bts w' (some ad) bn c B ∧ Below w.heap.size w w') ∧ MkSt N D (cloneOff bn) bn cc 15 13 B κ d w') (fun i => [some (.pointer (some ⟨bl, 0, none⟩)), some (.pointer (some ⟨bl, 0, none⟩)), some (.pointer (some ⟨bl, 0, none⟩)), some (.int .u32 (k.ep : Int)), some (.int .u32 (s : Int)), some (.pointer (some ⟨bl, 0, none⟩)), some (.int .i64 0), some (.pointer (some ⟨bl, 0, none⟩)), some (.pointer (some ⟨bl, 1, none⟩)), some (.pointer (some ⟨bl, 1, none⟩)), some (.pointer (some ⟨bl, 3, none⟩)), some (.int .u32 (cm : Int)), some (.slice (some ad) bn c), none, none, none].getD i none) 16 15 13 (by kernel_rfl) (by kernel_rfl) (by decide) (by decide) (by decide) (by kernel_rfl) (fun d w' h1 h2 => by unfold MkSt; rw [h1, h2]) (fun κ => ⟨⟨HB.out, (Below.refl _ _).drew⟩, by unfold MkSt; exact ⟨hN.symm, hD.symm⟩⟩) (fun κ => ?_)
  have KV := Lib.hid (fun (i : Nat) (d : Array Bool) (w' : World) (h1 : i ≠ 15) (h2 : i ≠ 13) (h : (Bts w' (some ad) bn c B ∧ Below w.heap.size w w') ∧ MkSt N D (cloneOff bn) bn cc 15 13 B κ d w') => (⟨h.1, h.2.keep h1 h2⟩ : (Bts w' (some ad) bn c B ∧ Below w.heap.size w w') ∧ MkSt N D (cloneOff bn) bn cc 15 13 B κ (d.setIfInBounds i true) w'))
  obtain ⟨mv, hmv⟩ : ∃ mv, mv = mc (⟨k.ep, s, cm, B⟩, .slice (some ⟨cBk N κ + cloneOff bn, 0, none⟩) bn cc) := ⟨_, rfl⟩
  have HM := Lib.hid hmv
  have HD := Lib.hid hD
  have HN := Lib.hid hN
  have HCC := Lib.hid hcc
  have BM := Lib.hid (show Try.prog.built 75 [(0, .int .u32 (k.ep : Int)), (1, .int .u32 (s : Int)), (2, .int .u32 (cm : Int)), (3, .slice (some ⟨cBk N κ + cloneOff bn, 0, none⟩) bn cc)] = some mv.toArray from by rw [hmv]; exact built_mk k.ep s cm (some ⟨cBk N κ + cloneOff bn, 0, none⟩) bn cc)
  clear hmv hD hN hcc
  simp only [List.take_succ_cons, List.take_zero, List.drop_succ_cons, List.drop_zero]
  refine InvC.invc_value (.pointer (some ⟨bl, 0, none⟩)) (fun u hu => Option.some.inj hu) rfl (fun d w' _ _ h => by go_simp; all_goals rfl) (fun d w' _ _ h => KV.out _ d w' (by decide) (by decide) h) ?_
  simp only [Act.put, List.setIfInBounds_toArray, List.set_cons_zero, List.set_cons_succ]
  refine InvC.invc_value (.pointer (some ⟨bl, 0, none⟩)) (fun u hu => Option.some.inj hu) rfl (fun d w' _ _ h => by go_simp; all_goals rfl) (fun d w' _ _ h => KV.out _ d w' (by decide) (by decide) h) ?_
  simp only [Act.put, List.setIfInBounds_toArray, List.set_cons_zero, List.set_cons_succ]
  refine InvC.invc_value (.pointer (some ⟨bl, 0, none⟩)) (fun u hu => Option.some.inj hu) rfl (fun d w' _ _ h => by go_simp; all_goals rfl) (fun d w' _ _ h => KV.out _ d w' (by decide) (by decide) h) ?_
  simp only [Act.put, List.setIfInBounds_toArray, List.set_cons_zero, List.set_cons_succ]
  refine InvC.invc_value (.int .u32 (k.ep : Int)) (fun u hu => Option.some.inj hu) rfl (fun d w' _ _ h => by have c0 := C0.out w' h.1.2; go_simp) (fun d w' _ _ h => KV.out _ d w' (by decide) (by decide) h) ?_
  simp only [Act.put, List.setIfInBounds_toArray, List.set_cons_zero, List.set_cons_succ]
  refine InvC.invc_value (.int .u32 (s : Int)) (fun u hu => Option.some.inj hu) rfl (fun d w' _ _ h => by go_simp; all_goals rfl) (fun d w' _ _ h => KV.out _ d w' (by decide) (by decide) h) ?_
  simp only [Act.put, List.setIfInBounds_toArray, List.set_cons_zero, List.set_cons_succ]
  refine InvC.invc_value (.pointer (some ⟨bl, 0, none⟩)) (fun u hu => Option.some.inj hu) rfl (fun d w' _ _ h => by go_simp; all_goals rfl) (fun d w' _ _ h => KV.out _ d w' (by decide) (by decide) h) ?_
  simp only [Act.put, List.setIfInBounds_toArray, List.set_cons_zero, List.set_cons_succ]
  refine InvC.invc_value (.int .i64 0) (fun u hu => Option.some.inj hu) rfl (fun d w' _ _ h => by go_simp; all_goals rfl) (fun d w' _ _ h => KV.out _ d w' (by decide) (by decide) h) ?_
  simp only [Act.put, List.setIfInBounds_toArray, List.set_cons_zero, List.set_cons_succ]
  refine InvC.invc_value (.pointer (some ⟨bl, 0, none⟩)) (fun u hu => Option.some.inj hu) rfl (fun d w' _ _ h => by go_simp; all_goals rfl) (fun d w' _ _ h => KV.out _ d w' (by decide) (by decide) h) ?_
  simp only [Act.put, List.setIfInBounds_toArray, List.set_cons_zero, List.set_cons_succ]
  refine InvC.invc_value (.pointer (some ⟨bl, 1, none⟩)) (fun u hu => Option.some.inj hu) rfl (fun d w' _ _ h => by go_simp; all_goals rfl) (fun d w' _ _ h => KV.out _ d w' (by decide) (by decide) h) ?_
  simp only [Act.put, List.setIfInBounds_toArray, List.set_cons_zero, List.set_cons_succ]
  refine InvC.invc_value (.pointer (some ⟨bl, 1, none⟩)) (fun u hu => Option.some.inj hu) rfl (fun d w' _ _ h => by go_simp; all_goals rfl) (fun d w' _ _ h => KV.out _ d w' (by decide) (by decide) h) ?_
  simp only [Act.put, List.setIfInBounds_toArray, List.set_cons_zero, List.set_cons_succ]
  refine InvC.invc_value (.pointer (some ⟨bl, 3, none⟩)) (fun u hu => Option.some.inj hu) rfl (fun d w' _ _ h => by go_simp; all_goals rfl) (fun d w' _ _ h => KV.out _ d w' (by decide) (by decide) h) ?_
  simp only [Act.put, List.setIfInBounds_toArray, List.set_cons_zero, List.set_cons_succ]
  refine InvC.invc_value (.int .u32 (cm : Int)) (fun u hu => Option.some.inj hu) rfl (fun d w' _ _ h => by have c1 := C1.out w' h.1.2; go_simp) (fun d w' _ _ h => KV.out _ d w' (by decide) (by decide) h) ?_
  simp only [Act.put, List.setIfInBounds_toArray, List.set_cons_zero, List.set_cons_succ]
  refine InvC.invc_value (.slice (some ad) bn c) (fun u hu => Option.some.inj hu) rfl (fun d w' _ _ h => by go_simp; all_goals rfl) (fun d w' _ _ h => KV.out _ d w' (by decide) (by decide) h) ?_
  simp only [Act.put, List.setIfInBounds_toArray, List.set_cons_zero, List.set_cons_succ]
  refine InvC.invc_call (.slice (some ⟨cBk N κ + cloneOff bn, 0, none⟩) bn cc) (fun u hu => by cases hu) rfl 25 #[.slice (some ad) bn c] (fun d w' _ => by go_simp) (fun d w' hd hG h => by
    obtain ⟨hs', hdr⟩ := h.2.at_c (by decide) hd hG
    have hcl := clone_any ad bn c B (by omega) w' w.drew h.1.2.tape (hdr.trans HD.out) h.1.1
    rw [← HCC.out] at hcl
    refine hcl.mono fun e w'' ⟨he, h2, h3, h4⟩ => ⟨by rw [he, hs'], ⟨h.1.1.below h4 (Nat.le_refl _), h.1.2.trans (h4.mono h.1.2.size)⟩, h.2.cloned (by decide) hd hG h2 h3 h4⟩) ?_
  simp only [Act.put, List.setIfInBounds_toArray, List.set_cons_zero, List.set_cons_succ]
  refine InvC.invc_value (.agg mv.toArray) (fun u hu => by cases hu) rfl (fun d w' _ _ h => exec_build (vs := [(0, .int .u32 (k.ep : Int)), (1, .int .u32 (s : Int)), (2, .int .u32 (cm : Int)), (3, .slice (some ⟨cBk N κ + cloneOff bn, 0, none⟩) bn cc)]) rfl rfl BM.out) (fun d w' _ _ h => KV.out _ d w' (by decide) (by decide) h) ?_
  simp only [Act.put, List.setIfInBounds_toArray, List.set_cons_zero, List.set_cons_succ]
  refine InvC.invc_world (.pointer (some ⟨pBk N (cloneOff bn) κ, 0, none⟩)) (fun u hu => by cases hu) rfl (fun d w' hd hG h => ⟨w'.alloc (.cells #[.int .u32 0, .int .u32 0, .int .u32 0, .slice none 0 0] 75), by have hh := h.2.at_p (by decide) hd hG; go_simp, ⟨bts_alloc h.1.1 _, h.1.2.alloc h.1.2.size _⟩, h.2.made (by decide) hd hG _ rfl⟩) ?_
  simp only [Act.put, List.setIfInBounds_toArray, List.set_cons_zero, List.set_cons_succ]
  refine InvC.invc_nil fun w2 hI => ?_
  obtain ⟨⟨bt, bl2⟩, hn⟩ := hI
  obtain ⟨hn, hcl⟩ := hn.done (by kernel_rfl) (by kernel_rfl)
  have hN2 := hn.lt
  have hs2 := bl2.size
  have hpw : w.heap.size ≤ pBk N (cloneOff bn) κ := by have := HN.out; cases κ <;> simp only [pBk] <;> omega
  have hcw : w.heap.size ≤ cBk N κ + cloneOff bn := by have := HN.out; cases κ <;> simp only [cBk] <;> omega
  have hcp : cBk N κ + cloneOff bn ≠ pBk N (cloneOff bn) κ := by cases κ <;> simp only [pBk, cBk] <;> omega
  have hmc4 : mv.length = 4 := by rw [HM.out]; rfl
  have hmc1 : ∀ u ∈ mv, u.oneCell' = true := by rw [HM.out]; exact mc_one rfl
  refine wpList_store_blk rfl 75 _ _ rfl (pBk N (cloneOff bn) κ) 0 4 rfl 75 zmk mv rfl hn (by kernel_rfl) hmc4 (by decide) hmc1 ?_
  intro w3 n3 g3
  rw [put_all _ _ (by rw [hmc4]; rfl)] at n3
  obtain ⟨g8, hg8⟩ : ∃ g8, g8 = pBk N (cloneOff bn) κ := ⟨_, rfl⟩
  obtain ⟨cn, hcn⟩ : ∃ cn, cn = cBk N κ + cloneOff bn := ⟨_, rfl⟩
  rw [← hg8] at n3 g3 hpw hcp hN2 ⊢
  rw [← hcn] at hcl hcw hcp HM
  have B3 := Lib.hid (below_grown bl2 g3 hs2 hpw)
  have K3 := Lib.hid (H0.out.below B3.out)
  have c3 : Bts w3 (some ⟨cn, 0, none⟩) bn cc B := bts_only hcl (Only.of_grown g3) (by simpa using hcp)
  have Y3 := Lib.hid (show Body w3 (reach bl V ++ A) (.slice (some ⟨cn, 0, none⟩) bn cc) B from by
    have e := HBN.out
    subst e
    refine .inr ⟨cn, 0, cc, rfl, h0, h64, c3, fun hx => ?_⟩
    rcases List.mem_append.1 hx with hx | hx
    · have := H0.out.reach_lt hx; omega
    · have := H0.out.out cn hx; omega)
  have M3 := Lib.hid (show Blk w3 g8 (mc (⟨k.ep, s, (k.en 0).come, B⟩, .slice (some ⟨cn, 0, none⟩) bn cc)) 75 from by rw [← HCM.out, ← HM.out]; exact n3)
  have G8 := Lib.hid (show ∀ x, (V 4).ownBlock = some x → g8 ≠ x from fun x hx => by have := H0.out.row 4 (by decide) hx; omega)
  clear bt bl2 hn hcl g3 n3 KV BM HD HCC HN hN2 c3 hg8 hcn hcw hcp hmc4 hmc1 HM C0 C1 HB hpw hs2
  go_upto_region 1 with (fail)
  -- the packet goes behind the others
  obtain ⟨mv, hmv⟩ : ∃ mv, mv = mc (⟨k.ep, s, (k.en 0).come, B⟩, .slice (some ⟨cn, 0, none⟩) bn cc) := ⟨_, rfl⟩
  obtain ⟨pv, hpv⟩ : ∃ pv, pv = pc (⟨0, ⟨k.ep, s, (k.en 0).come, B⟩⟩, .slice (some ⟨cn, 0, none⟩) bn cc) := ⟨_, rfl⟩
  obtain ⟨w4, hw4⟩ : ∃ w4, w4 = w3.drew.alloc (.cells pv.toArray 78) := ⟨_, rfl⟩
  have b4 : Below w3.heap.size w3 w4 := hw4 ▸ ((Below.refl _ _).drew.alloc (Nat.le_refl _) _)
  have K4 := Lib.hid (K3.out.below b4)
  have Y4 := Lib.hid (Y3.out.move (Only.of_below (S := []) b4) (by simp) (fun x hx => .inl hx))
  have Z4 := Lib.hid (show Blk w4 w3.heap.size (pc (⟨0, ⟨k.ep, s, (k.en 0).come, B⟩⟩, .slice (some ⟨cn, 0, none⟩) bn cc)) 78 from by rw [hw4, hpv]; exact blk_at (w := w3.drew) rfl rfl)
  obtain ⟨v', w5, hr5, hg5, hc5, hf5, gr5, va, vc, rfl⟩ := K4.out.more ⟨0, ⟨k.ep, s, (k.en 0).come, B⟩⟩ (.slice (some ⟨cn, 0, none⟩) bn cc) Y4.out Z4.out hfl
  have HR5 := Lib.hid hr5
  have HG5 := Lib.hid hg5
  have M3' := Lib.hid (show Blk w3 g8 mv 75 from hmv ▸ M3.out)
  have M4' := Lib.hid (M3'.out.below b4 M3'.out.lt)
  have M5' := Lib.hid (M4'.out.grownO gr5 G8.out)
  have BP := Lib.hid (show Try.prog.built 78 [(0, .int .i64 0), (1, .agg mv.toArray)] = some pv.toArray from by rw [hmv, hpv]; exact built_pk 0 ⟨k.ep, s, (k.en 0).come, B⟩ (.slice (some ⟨cn, 0, none⟩) bn cc))
  have HP := Lib.hid (show pv.length = 5 from by rw [hpv]; rfl)
  have HW4 := Lib.hid hw4
  have hmv4 : mv.length = 4 := by rw [hmv]; rfl
  have L3C := Lib.hid (show w3.cell? ⟨bl, 9, none⟩ = some (V 4) from K3.out.cell 9)
  have L4C := Lib.hid (show w4.cell? ⟨bl, 9, none⟩ = some (V 4) from K4.out.cell 9)
  have B4 := Lib.hid (B3.out.trans (b4.mono B3.out.size))
  have hc5' : w5.cell? ⟨bl, 9, none⟩ = some (V 4) := hc5
  obtain ⟨v4, hv4⟩ : ∃ v4, v4 = V 4 := ⟨_, rfl⟩
  rw [← hv4] at L3C L4C hc5' HR5
  obtain ⟨hcl, hcl'⟩ : ∃ hcl : Nat, hcl = w3.heap.size := ⟨_, rfl⟩
  have HH := Lib.hid hcl'
  rw [← hcl'] at HR5
  obtain ⟨fn, hfn⟩ : ∃ fn, fn = k.fl.length + 1 := ⟨_, rfl⟩
  rw [← hfn] at HR5 HG5
  clear hr5 hg5 hc5 hmv hw4 hcl' hv4 hpv Z4 K4 Y4 K3 Y3 b4 M3 G8 gr5 hfl hfn
  refine wp_region_gate_tail (fun d w' => At2 8 9 (fun w' => w' = w3.drew) (fun w' => w' = w4) (fun w' => w' = w5) d w') 12 (by kernel_rfl) (by kernel_rfl) ?hI ?_
  case hI => exact At2.start (by rfl) (by rfl) rfl
  simp only [List.take_succ_cons, List.take_zero, List.drop_succ_cons, List.drop_zero]
  refine InvC.invc_value (.pointer (some ⟨bl, 0, none⟩)) (fun u hu => by cases hu) rfl (fun d w' _ _ h => by go_simp; all_goals rfl) (fun d w' _ _ h => At2.keep (by decide) (by decide) h) ?_
  simp only [Act.put, List.setIfInBounds_toArray, List.set_cons_zero, List.set_cons_succ]
  refine InvC.invc_value (.pointer (some ⟨bl, 0, none⟩)) (fun u hu => by cases hu) rfl (fun d w' _ _ h => by go_simp; all_goals rfl) (fun d w' _ _ h => At2.keep (by decide) (by decide) h) ?_
  simp only [Act.put, List.setIfInBounds_toArray, List.set_cons_zero, List.set_cons_succ]
  refine InvC.invc_value (.pointer (some ⟨bl, 0, none⟩)) (fun u hu => by cases hu) rfl (fun d w' _ _ h => by go_simp; all_goals rfl) (fun d w' _ _ h => At2.keep (by decide) (by decide) h) ?_
  simp only [Act.put, List.setIfInBounds_toArray, List.set_cons_zero, List.set_cons_succ]
  refine InvC.invc_value (.pointer (some ⟨bl, 9, none⟩)) (fun u hu => by cases hu) rfl (fun d w' _ _ h => by go_simp; all_goals rfl) (fun d w' _ _ h => At2.keep (by decide) (by decide) h) ?_
  simp only [Act.put, List.setIfInBounds_toArray, List.set_cons_zero, List.set_cons_succ]
  refine InvC.invc_value v4 (fun u hu => by cases hu) rfl (fun d w' _ _ h => by
    have c9 : w'.cell? ⟨bl, 9, none⟩ = some v4 := by
      rcases h.any with rfl | rfl | rfl
      · exact L3C.out
      · exact L4C.out
      · exact hc5'
    go_simp) (fun d w' _ _ h => At2.keep (by decide) (by decide) h) ?_
  simp only [Act.put, List.setIfInBounds_toArray, List.set_cons_zero, List.set_cons_succ]
  refine InvC.invc_value (.int .i64 0) (fun u hu => by cases hu) rfl (fun d w' _ _ h => by go_simp; all_goals rfl) (fun d w' _ _ h => At2.keep (by decide) (by decide) h) ?_
  simp only [Act.put, List.setIfInBounds_toArray, List.set_cons_zero, List.set_cons_succ]
  refine InvC.invc_value (.agg mv.toArray) (fun u hu => by cases hu) rfl (fun d w' _ _ h => by
    have c8 : Blk w' g8 mv 75 := by
      rcases h.any with rfl | rfl | rfl
      · exact M3'.out.drew
      · exact M4'.out
      · exact M5'.out
    exact exec_load rfl rfl c8 Try.underlying75 rfl (by kernel_rfl) hmv4) (fun d w' _ _ h => At2.keep (by decide) (by decide) h) ?_
  simp only [Act.put, List.setIfInBounds_toArray, List.set_cons_zero, List.set_cons_succ]
  refine InvC.invc_value (.agg pv.toArray) (fun u hu => by cases hu) rfl (fun d w' _ _ h => exec_build (vs := [(0, .int .i64 0), (1, .agg mv.toArray)]) rfl rfl BP.out) (fun d w' _ _ h => At2.keep (by decide) (by decide) h) ?_
  simp only [Act.put, List.setIfInBounds_toArray, List.set_cons_zero, List.set_cons_succ]
  refine InvC.invc_world (.slice (some ⟨hcl, 0, none⟩) 1 1) (fun u hu => by cases hu) rfl (fun d w' hd hG h => ⟨w4, by
    obtain ⟨e, _⟩ := h.at_p hd
    subst e
    rw [HH.out, HW4.out]
    exact exec_build_one rfl rfl Try.underlying37 info_pk HP.out (by decide) (by decide), At2.did_p (by decide) hd h rfl⟩) ?_
  simp only [Act.put, List.setIfInBounds_toArray, List.set_cons_zero, List.set_cons_succ]
  refine InvC.invc_world (.slice va fn vc) (fun u hu => by cases hu) rfl (fun d w' hd hG h => ⟨w5, by
    have e := h.at_q hd (hG.of (by kernel_rfl))
    subst e
    exact exec_append _ _ rfl rfl rfl HR5.out, At2.did_q (by decide) hd (hG.of (by kernel_rfl)) rfl⟩) ?_
  simp only [Act.put, List.setIfInBounds_toArray, List.set_cons_zero, List.set_cons_succ]
  refine InvC.invc_value (.pointer (some ⟨bl, 0, none⟩)) (fun u hu => by cases hu) rfl (fun d w' _ _ h => by go_simp; all_goals rfl) (fun d w' _ _ h => At2.keep (by decide) (by decide) h) ?_
  simp only [Act.put, List.setIfInBounds_toArray, List.set_cons_zero, List.set_cons_succ]
  refine InvC.invc_value (.pointer (some ⟨bl, 9, none⟩)) (fun u hu => by cases hu) rfl (fun d w' _ _ h => by go_simp; all_goals rfl) (fun d w' _ _ h => At2.keep (by decide) (by decide) h) ?_
  simp only [Act.put, List.setIfInBounds_toArray, List.set_cons_zero, List.set_cons_succ]
  refine InvC.invc_nil fun w6 hI => ?_
  have e6 := hI.done (by rfl)
  subst e6
  clear L3C L4C M3' M4' M5' BP HP HW4 HH HR5 hmv4
  go_wp2
  go_end0
  exact ⟨rfl, _, (Goes.of_below H0.out B4.out).trans HG5.out⟩
set_option maxHeartbeats 2000000 in
theorem put_full1 (h : LinkAt w bl V A k) (s : Nat) (ad : Addr) (c bn : Nat) (B : List UInt8) (hbn : B.length = bn) (h0 : 0 < bn) (h64 : bn ≤ 64) (hb : Bts w (some ad) bn c B) (hfl : k.fl.length < 1024) : Calls Try.prog 26 #[.pointer (some ⟨bl, 0, none⟩), .int .i64 1, .int .u32 (s : Int), .slice (some ad) bn c] w fun e w' => e = .returned (.tuple #[]) ∧ ∃ v', Goes w bl V A w' (upd V 4 v') (k.put 1 s B) := by
  have hlt := h.head.lt
  obtain ⟨cm, hcm⟩ : ∃ cm, cm = (k.en 1).come := ⟨_, rfl⟩
  have H0 := Lib.hid h
  have C0 := Lib.hid (fun w' (hb : Below w.heap.size w w') => show w'.cell? ⟨bl, 0, none⟩ = some (.int .u32 (k.ep : Int)) from (h.below hb).cell 0)
  have C1 := Lib.hid (fun w' (hb : Below w.heap.size w w') => show w'.cell? ⟨bl, 7, none⟩ = some (.int .u32 (cm : Int)) from by rw [hcm]; exact (h.below hb).cell 7)
  have HB := Lib.hid hb
  have HCM := Lib.hid hcm
  have HBN := Lib.hid hbn
  clear h hb hcm hbn
  go_enter Try.func26, Try.ntmps26
  go_upto_region 0 with (fail)
  obtain ⟨N, hN⟩ : ∃ N, N = w.heap.size := ⟨_, rfl⟩
  obtain ⟨D, hD⟩ : ∃ D, D = w.drew.drawn := ⟨_, rfl⟩
  obtain ⟨cc, hcc⟩ : ∃ cc, cc = cloneCap w.drew bn := ⟨_, rfl⟩
  refine InvC.wp_region_two_tail (fun κ d w' => (Bts w' (some ad) bn c B ∧ Below w.heap.size w w') ∧ MkSt N D (cloneOff bn) bn cc 15 13 B κ d w') (fun i => [some (.pointer (some ⟨bl, 0, none⟩)), some (.pointer (some ⟨bl, 0, none⟩)), some (.pointer (some ⟨bl, 0, none⟩)), some (.int .u32 (k.ep : Int)), some (.int .u32 (s : Int)), some (.pointer (some ⟨bl, 0, none⟩)), some (.int .i64 1), some (.pointer (some ⟨bl, 0, none⟩)), some (.pointer (some ⟨bl, 1, none⟩)), some (.pointer (some ⟨bl, 5, none⟩)), some (.pointer (some ⟨bl, 7, none⟩)), some (.int .u32 (cm : Int)), some (.slice (some ad) bn c), none, none, none].getD i none) 16 15 13 (by kernel_rfl) (by kernel_rfl) (by decide) (by decide) (by decide) (by kernel_rfl) (fun d w' h1 h2 => by unfold MkSt; rw [h1, h2]) (fun κ => ⟨⟨HB.out, (Below.refl _ _).drew⟩, by unfold MkSt; exact ⟨hN.symm, hD.symm⟩⟩) (fun κ => ?_)
  have KV := Lib.hid (fun (i : Nat) (d : Array Bool) (w' : World) (h1 : i ≠ 15) (h2 : i ≠ 13) (h : (Bts w' (some ad) bn c B ∧ Below w.heap.size w w') ∧ MkSt N D (cloneOff bn) bn cc 15 13 B κ d w') => (⟨h.1, h.2.keep h1 h2⟩ : (Bts w' (some ad) bn c B ∧ Below w.heap.size w w') ∧ MkSt N D (cloneOff bn) bn cc 15 13 B κ (d.setIfInBounds i true) w'))
  obtain ⟨mv, hmv⟩ : ∃ mv, mv = mc (⟨k.ep, s, cm, B⟩, .slice (some ⟨cBk N κ + cloneOff bn, 0, none⟩) bn cc) := ⟨_, rfl⟩
  have HM := Lib.hid hmv
  have HD := Lib.hid hD
  have HN := Lib.hid hN
  have HCC := Lib.hid hcc
  have BM := Lib.hid (show Try.prog.built 75 [(0, .int .u32 (k.ep : Int)), (1, .int .u32 (s : Int)), (2, .int .u32 (cm : Int)), (3, .slice (some ⟨cBk N κ + cloneOff bn, 0, none⟩) bn cc)] = some mv.toArray from by rw [hmv]; exact built_mk k.ep s cm (some ⟨cBk N κ + cloneOff bn, 0, none⟩) bn cc)
  clear hmv hD hN hcc
  simp only [List.take_succ_cons, List.take_zero, List.drop_succ_cons, List.drop_zero]
  refine InvC.invc_value (.pointer (some ⟨bl, 0, none⟩)) (fun u hu => Option.some.inj hu) rfl (fun d w' _ _ h => by go_simp; all_goals rfl) (fun d w' _ _ h => KV.out _ d w' (by decide) (by decide) h) ?_
  simp only [Act.put, List.setIfInBounds_toArray, List.set_cons_zero, List.set_cons_succ]
  refine InvC.invc_value (.pointer (some ⟨bl, 0, none⟩)) (fun u hu => Option.some.inj hu) rfl (fun d w' _ _ h => by go_simp; all_goals rfl) (fun d w' _ _ h => KV.out _ d w' (by decide) (by decide) h) ?_
  simp only [Act.put, List.setIfInBounds_toArray, List.set_cons_zero, List.set_cons_succ]
  refine InvC.invc_value (.pointer (some ⟨bl, 0, none⟩)) (fun u hu => Option.some.inj hu) rfl (fun d w' _ _ h => by go_simp; all_goals rfl) (fun d w' _ _ h => KV.out _ d w' (by decide) (by decide) h) ?_
  simp only [Act.put, List.setIfInBounds_toArray, List.set_cons_zero, List.set_cons_succ]
  refine InvC.invc_value (.int .u32 (k.ep : Int)) (fun u hu => Option.some.inj hu) rfl (fun d w' _ _ h => by have c0 := C0.out w' h.1.2; go_simp) (fun d w' _ _ h => KV.out _ d w' (by decide) (by decide) h) ?_
  simp only [Act.put, List.setIfInBounds_toArray, List.set_cons_zero, List.set_cons_succ]
  refine InvC.invc_value (.int .u32 (s : Int)) (fun u hu => Option.some.inj hu) rfl (fun d w' _ _ h => by go_simp; all_goals rfl) (fun d w' _ _ h => KV.out _ d w' (by decide) (by decide) h) ?_
  simp only [Act.put, List.setIfInBounds_toArray, List.set_cons_zero, List.set_cons_succ]
  refine InvC.invc_value (.pointer (some ⟨bl, 0, none⟩)) (fun u hu => Option.some.inj hu) rfl (fun d w' _ _ h => by go_simp; all_goals rfl) (fun d w' _ _ h => KV.out _ d w' (by decide) (by decide) h) ?_
  simp only [Act.put, List.setIfInBounds_toArray, List.set_cons_zero, List.set_cons_succ]
  refine InvC.invc_value (.int .i64 1) (fun u hu => Option.some.inj hu) rfl (fun d w' _ _ h => by go_simp; all_goals rfl) (fun d w' _ _ h => KV.out _ d w' (by decide) (by decide) h) ?_
  simp only [Act.put, List.setIfInBounds_toArray, List.set_cons_zero, List.set_cons_succ]
  refine InvC.invc_value (.pointer (some ⟨bl, 0, none⟩)) (fun u hu => Option.some.inj hu) rfl (fun d w' _ _ h => by go_simp; all_goals rfl) (fun d w' _ _ h => KV.out _ d w' (by decide) (by decide) h) ?_
  simp only [Act.put, List.setIfInBounds_toArray, List.set_cons_zero, List.set_cons_succ]
  refine InvC.invc_value (.pointer (some ⟨bl, 1, none⟩)) (fun u hu => Option.some.inj hu) rfl (fun d w' _ _ h => by go_simp; all_goals rfl) (fun d w' _ _ h => KV.out _ d w' (by decide) (by decide) h) ?_
  simp only [Act.put, List.setIfInBounds_toArray, List.set_cons_zero, List.set_cons_succ]
  refine InvC.invc_value (.pointer (some ⟨bl, 5, none⟩)) (fun u hu => Option.some.inj hu) rfl (fun d w' _ _ h => by go_simp; all_goals rfl) (fun d w' _ _ h => KV.out _ d w' (by decide) (by decide) h) ?_
  simp only [Act.put, List.setIfInBounds_toArray, List.set_cons_zero, List.set_cons_succ]
  refine InvC.invc_value (.pointer (some ⟨bl, 7, none⟩)) (fun u hu => Option.some.inj hu) rfl (fun d w' _ _ h => by go_simp; all_goals rfl) (fun d w' _ _ h => KV.out _ d w' (by decide) (by decide) h) ?_
  simp only [Act.put, List.setIfInBounds_toArray, List.set_cons_zero, List.set_cons_succ]
  refine InvC.invc_value (.int .u32 (cm : Int)) (fun u hu => Option.some.inj hu) rfl (fun d w' _ _ h => by have c1 := C1.out w' h.1.2; go_simp) (fun d w' _ _ h => KV.out _ d w' (by decide) (by decide) h) ?_
  simp only [Act.put, List.setIfInBounds_toArray, List.set_cons_zero, List.set_cons_succ]
  refine InvC.invc_value (.slice (some ad) bn c) (fun u hu => Option.some.inj hu) rfl (fun d w' _ _ h => by go_simp; all_goals rfl) (fun d w' _ _ h => KV.out _ d w' (by decide) (by decide) h) ?_
  simp only [Act.put, List.setIfInBounds_toArray, List.set_cons_zero, List.set_cons_succ]
  refine InvC.invc_call (.slice (some ⟨cBk N κ + cloneOff bn, 0, none⟩) bn cc) (fun u hu => by cases hu) rfl 25 #[.slice (some ad) bn c] (fun d w' _ => by go_simp) (fun d w' hd hG h => by
    obtain ⟨hs', hdr⟩ := h.2.at_c (by decide) hd hG
    have hcl := clone_any ad bn c B (by omega) w' w.drew h.1.2.tape (hdr.trans HD.out) h.1.1
    rw [← HCC.out] at hcl
    refine hcl.mono fun e w'' ⟨he, h2, h3, h4⟩ => ⟨by rw [he, hs'], ⟨h.1.1.below h4 (Nat.le_refl _), h.1.2.trans (h4.mono h.1.2.size)⟩, h.2.cloned (by decide) hd hG h2 h3 h4⟩) ?_
  simp only [Act.put, List.setIfInBounds_toArray, List.set_cons_zero, List.set_cons_succ]
  refine InvC.invc_value (.agg mv.toArray) (fun u hu => by cases hu) rfl (fun d w' _ _ h => exec_build (vs := [(0, .int .u32 (k.ep : Int)), (1, .int .u32 (s : Int)), (2, .int .u32 (cm : Int)), (3, .slice (some ⟨cBk N κ + cloneOff bn, 0, none⟩) bn cc)]) rfl rfl BM.out) (fun d w' _ _ h => KV.out _ d w' (by decide) (by decide) h) ?_
  simp only [Act.put, List.setIfInBounds_toArray, List.set_cons_zero, List.set_cons_succ]
  refine InvC.invc_world (.pointer (some ⟨pBk N (cloneOff bn) κ, 0, none⟩)) (fun u hu => by cases hu) rfl (fun d w' hd hG h => ⟨w'.alloc (.cells #[.int .u32 0, .int .u32 0, .int .u32 0, .slice none 0 0] 75), by have hh := h.2.at_p (by decide) hd hG; go_simp, ⟨bts_alloc h.1.1 _, h.1.2.alloc h.1.2.size _⟩, h.2.made (by decide) hd hG _ rfl⟩) ?_
  simp only [Act.put, List.setIfInBounds_toArray, List.set_cons_zero, List.set_cons_succ]
  refine InvC.invc_nil fun w2 hI => ?_
  obtain ⟨⟨bt, bl2⟩, hn⟩ := hI
  obtain ⟨hn, hcl⟩ := hn.done (by kernel_rfl) (by kernel_rfl)
  have hN2 := hn.lt
  have hs2 := bl2.size
  have hpw : w.heap.size ≤ pBk N (cloneOff bn) κ := by have := HN.out; cases κ <;> simp only [pBk] <;> omega
  have hcw : w.heap.size ≤ cBk N κ + cloneOff bn := by have := HN.out; cases κ <;> simp only [cBk] <;> omega
  have hcp : cBk N κ + cloneOff bn ≠ pBk N (cloneOff bn) κ := by cases κ <;> simp only [pBk, cBk] <;> omega
  have hmc4 : mv.length = 4 := by rw [HM.out]; rfl
  have hmc1 : ∀ u ∈ mv, u.oneCell' = true := by rw [HM.out]; exact mc_one rfl
  refine wpList_store_blk rfl 75 _ _ rfl (pBk N (cloneOff bn) κ) 0 4 rfl 75 zmk mv rfl hn (by kernel_rfl) hmc4 (by decide) hmc1 ?_
  intro w3 n3 g3
  rw [put_all _ _ (by rw [hmc4]; rfl)] at n3
  obtain ⟨g8, hg8⟩ : ∃ g8, g8 = pBk N (cloneOff bn) κ := ⟨_, rfl⟩
  obtain ⟨cn, hcn⟩ : ∃ cn, cn = cBk N κ + cloneOff bn := ⟨_, rfl⟩
  rw [← hg8] at n3 g3 hpw hcp hN2 ⊢
  rw [← hcn] at hcl hcw hcp HM
  have B3 := Lib.hid (below_grown bl2 g3 hs2 hpw)
  have K3 := Lib.hid (H0.out.below B3.out)
  have c3 : Bts w3 (some ⟨cn, 0, none⟩) bn cc B := bts_only hcl (Only.of_grown g3) (by simpa using hcp)
  have Y3 := Lib.hid (show Body w3 (reach bl V ++ A) (.slice (some ⟨cn, 0, none⟩) bn cc) B from by
    have e := HBN.out
    subst e
    refine .inr ⟨cn, 0, cc, rfl, h0, h64, c3, fun hx => ?_⟩
    rcases List.mem_append.1 hx with hx | hx
    · have := H0.out.reach_lt hx; omega
    · have := H0.out.out cn hx; omega)
  have M3 := Lib.hid (show Blk w3 g8 (mc (⟨k.ep, s, (k.en 1).come, B⟩, .slice (some ⟨cn, 0, none⟩) bn cc)) 75 from by rw [← HCM.out, ← HM.out]; exact n3)
  have G8 := Lib.hid (show ∀ x, (V 4).ownBlock = some x → g8 ≠ x from fun x hx => by have := H0.out.row 4 (by decide) hx; omega)
  clear bt bl2 hn hcl g3 n3 KV BM HD HCC HN hN2 c3 hg8 hcn hcw hcp hmc4 hmc1 HM C0 C1 HB hpw hs2
  go_upto_region 1 with (fail)
  -- the packet goes behind the others
  obtain ⟨mv, hmv⟩ : ∃ mv, mv = mc (⟨k.ep, s, (k.en 1).come, B⟩, .slice (some ⟨cn, 0, none⟩) bn cc) := ⟨_, rfl⟩
  obtain ⟨pv, hpv⟩ : ∃ pv, pv = pc (⟨1, ⟨k.ep, s, (k.en 1).come, B⟩⟩, .slice (some ⟨cn, 0, none⟩) bn cc) := ⟨_, rfl⟩
  obtain ⟨w4, hw4⟩ : ∃ w4, w4 = w3.drew.alloc (.cells pv.toArray 78) := ⟨_, rfl⟩
  have b4 : Below w3.heap.size w3 w4 := hw4 ▸ ((Below.refl _ _).drew.alloc (Nat.le_refl _) _)
  have K4 := Lib.hid (K3.out.below b4)
  have Y4 := Lib.hid (Y3.out.move (Only.of_below (S := []) b4) (by simp) (fun x hx => .inl hx))
  have Z4 := Lib.hid (show Blk w4 w3.heap.size (pc (⟨1, ⟨k.ep, s, (k.en 1).come, B⟩⟩, .slice (some ⟨cn, 0, none⟩) bn cc)) 78 from by rw [hw4, hpv]; exact blk_at (w := w3.drew) rfl rfl)
  obtain ⟨v', w5, hr5, hg5, hc5, hf5, gr5, va, vc, rfl⟩ := K4.out.more ⟨1, ⟨k.ep, s, (k.en 1).come, B⟩⟩ (.slice (some ⟨cn, 0, none⟩) bn cc) Y4.out Z4.out hfl
  have HR5 := Lib.hid hr5
  have HG5 := Lib.hid hg5
  have M3' := Lib.hid (show Blk w3 g8 mv 75 from hmv ▸ M3.out)
  have M4' := Lib.hid (M3'.out.below b4 M3'.out.lt)
  have M5' := Lib.hid (M4'.out.grownO gr5 G8.out)
  have BP := Lib.hid (show Try.prog.built 78 [(0, .int .i64 1), (1, .agg mv.toArray)] = some pv.toArray from by rw [hmv, hpv]; exact built_pk 1 ⟨k.ep, s, (k.en 1).come, B⟩ (.slice (some ⟨cn, 0, none⟩) bn cc))
  have HP := Lib.hid (show pv.length = 5 from by rw [hpv]; rfl)
  have HW4 := Lib.hid hw4
  have hmv4 : mv.length = 4 := by rw [hmv]; rfl
  have L3C := Lib.hid (show w3.cell? ⟨bl, 9, none⟩ = some (V 4) from K3.out.cell 9)
  have L4C := Lib.hid (show w4.cell? ⟨bl, 9, none⟩ = some (V 4) from K4.out.cell 9)
  have B4 := Lib.hid (B3.out.trans (b4.mono B3.out.size))
  have hc5' : w5.cell? ⟨bl, 9, none⟩ = some (V 4) := hc5
  obtain ⟨v4, hv4⟩ : ∃ v4, v4 = V 4 := ⟨_, rfl⟩
  rw [← hv4] at L3C L4C hc5' HR5
  obtain ⟨hcl, hcl'⟩ : ∃ hcl : Nat, hcl = w3.heap.size := ⟨_, rfl⟩
  have HH := Lib.hid hcl'
  rw [← hcl'] at HR5
  obtain ⟨fn, hfn⟩ : ∃ fn, fn = k.fl.length + 1 := ⟨_, rfl⟩
  rw [← hfn] at HR5 HG5
  clear hr5 hg5 hc5 hmv hw4 hcl' hv4 hpv Z4 K4 Y4 K3 Y3 b4 M3 G8 gr5 hfl hfn
  refine wp_region_gate_tail (fun d w' => At2 8 9 (fun w' => w' = w3.drew) (fun w' => w' = w4) (fun w' => w' = w5) d w') 12 (by kernel_rfl) (by kernel_rfl) ?hI ?_
  case hI => exact At2.start (by rfl) (by rfl) rfl
  simp only [List.take_succ_cons, List.take_zero, List.drop_succ_cons, List.drop_zero]
  refine InvC.invc_value (.pointer (some ⟨bl, 0, none⟩)) (fun u hu => by cases hu) rfl (fun d w' _ _ h => by go_simp; all_goals rfl) (fun d w' _ _ h => At2.keep (by decide) (by decide) h) ?_
  simp only [Act.put, List.setIfInBounds_toArray, List.set_cons_zero, List.set_cons_succ]
  refine InvC.invc_value (.pointer (some ⟨bl, 0, none⟩)) (fun u hu => by cases hu) rfl (fun d w' _ _ h => by go_simp; all_goals rfl) (fun d w' _ _ h => At2.keep (by decide) (by decide) h) ?_
  simp only [Act.put, List.setIfInBounds_toArray, List.set_cons_zero, List.set_cons_succ]
  refine InvC.invc_value (.pointer (some ⟨bl, 0, none⟩)) (fun u hu => by cases hu) rfl (fun d w' _ _ h => by go_simp; all_goals rfl) (fun d w' _ _ h => At2.keep (by decide) (by decide) h) ?_
  simp only [Act.put, List.setIfInBounds_toArray, List.set_cons_zero, List.set_cons_succ]
  refine InvC.invc_value (.pointer (some ⟨bl, 9, none⟩)) (fun u hu => by cases hu) rfl (fun d w' _ _ h => by go_simp; all_goals rfl) (fun d w' _ _ h => At2.keep (by decide) (by decide) h) ?_
  simp only [Act.put, List.setIfInBounds_toArray, List.set_cons_zero, List.set_cons_succ]
  refine InvC.invc_value v4 (fun u hu => by cases hu) rfl (fun d w' _ _ h => by
    have c9 : w'.cell? ⟨bl, 9, none⟩ = some v4 := by
      rcases h.any with rfl | rfl | rfl
      · exact L3C.out
      · exact L4C.out
      · exact hc5'
    go_simp) (fun d w' _ _ h => At2.keep (by decide) (by decide) h) ?_
  simp only [Act.put, List.setIfInBounds_toArray, List.set_cons_zero, List.set_cons_succ]
  refine InvC.invc_value (.int .i64 1) (fun u hu => by cases hu) rfl (fun d w' _ _ h => by go_simp; all_goals rfl) (fun d w' _ _ h => At2.keep (by decide) (by decide) h) ?_
  simp only [Act.put, List.setIfInBounds_toArray, List.set_cons_zero, List.set_cons_succ]
  refine InvC.invc_value (.agg mv.toArray) (fun u hu => by cases hu) rfl (fun d w' _ _ h => by
    have c8 : Blk w' g8 mv 75 := by
      rcases h.any with rfl | rfl | rfl
      · exact M3'.out.drew
      · exact M4'.out
      · exact M5'.out
    exact exec_load rfl rfl c8 Try.underlying75 rfl (by kernel_rfl) hmv4) (fun d w' _ _ h => At2.keep (by decide) (by decide) h) ?_
  simp only [Act.put, List.setIfInBounds_toArray, List.set_cons_zero, List.set_cons_succ]
  refine InvC.invc_value (.agg pv.toArray) (fun u hu => by cases hu) rfl (fun d w' _ _ h => exec_build (vs := [(0, .int .i64 1), (1, .agg mv.toArray)]) rfl rfl BP.out) (fun d w' _ _ h => At2.keep (by decide) (by decide) h) ?_
  simp only [Act.put, List.setIfInBounds_toArray, List.set_cons_zero, List.set_cons_succ]
  refine InvC.invc_world (.slice (some ⟨hcl, 0, none⟩) 1 1) (fun u hu => by cases hu) rfl (fun d w' hd hG h => ⟨w4, by
    obtain ⟨e, _⟩ := h.at_p hd
    subst e
    rw [HH.out, HW4.out]
    exact exec_build_one rfl rfl Try.underlying37 info_pk HP.out (by decide) (by decide), At2.did_p (by decide) hd h rfl⟩) ?_
  simp only [Act.put, List.setIfInBounds_toArray, List.set_cons_zero, List.set_cons_succ]
  refine InvC.invc_world (.slice va fn vc) (fun u hu => by cases hu) rfl (fun d w' hd hG h => ⟨w5, by
    have e := h.at_q hd (hG.of (by kernel_rfl))
    subst e
    exact exec_append _ _ rfl rfl rfl HR5.out, At2.did_q (by decide) hd (hG.of (by kernel_rfl)) rfl⟩) ?_
  simp only [Act.put, List.setIfInBounds_toArray, List.set_cons_zero, List.set_cons_succ]
  refine InvC.invc_value (.pointer (some ⟨bl, 0, none⟩)) (fun u hu => by cases hu) rfl (fun d w' _ _ h => by go_simp; all_goals rfl) (fun d w' _ _ h => At2.keep (by decide) (by decide) h) ?_
  simp only [Act.put, List.setIfInBounds_toArray, List.set_cons_zero, List.set_cons_succ]
  refine InvC.invc_value (.pointer (some ⟨bl, 9, none⟩)) (fun u hu => by cases hu) rfl (fun d w' _ _ h => by go_simp; all_goals rfl) (fun d w' _ _ h => At2.keep (by decide) (by decide) h) ?_
  simp only [Act.put, List.setIfInBounds_toArray, List.set_cons_zero, List.set_cons_succ]
  refine InvC.invc_nil fun w6 hI => ?_
  have e6 := hI.done (by rfl)
  subst e6
  clear L3C L4C M3' M4' M5' BP HP HW4 HH HR5 hmv4
  go_wp2
  go_end0
  exact ⟨rfl, _, (Goes.of_below H0.out B4.out).trans HG5.out⟩
set_option maxHeartbeats 2000000 in
theorem put_none0 (h : LinkAt w bl V A k) (s : Nat) (hfl : k.fl.length < 1024) : Calls Try.prog 26 #[.pointer (some ⟨bl, 0, none⟩), .int .i64 0, .int .u32 (s : Int), .slice none 0 0] w fun e w' => e = .returned (.tuple #[]) ∧ ∃ v', Goes w bl V A w' (upd V 4 v') (k.put 0 s []) := by
  have hlt := h.head.lt
  obtain ⟨B, hB⟩ : ∃ B : List UInt8, B = [] := ⟨_, rfl⟩
  rw [← hB]
  obtain ⟨cm, hcm⟩ : ∃ cm, cm = (k.en 0).come := ⟨_, rfl⟩
  have H0 := Lib.hid h
  have C0 := Lib.hid (fun w' (hb : Below w.heap.size w w') => show w'.cell? ⟨bl, 0, none⟩ = some (.int .u32 (k.ep : Int)) from (h.below hb).cell 0)
  have C1 := Lib.hid (fun w' (hb : Below w.heap.size w w') => show w'.cell? ⟨bl, 3, none⟩ = some (.int .u32 (cm : Int)) from by rw [hcm]; exact (h.below hb).cell 3)
  have HCM := Lib.hid hcm
  have HBN := Lib.hid hB
  obtain ⟨mv0, hmv0⟩ : ∃ mv0, mv0 = mc (⟨k.ep, s, cm, B⟩, .slice none 0 0) := ⟨_, rfl⟩
  have HM := Lib.hid hmv0
  have BM := Lib.hid (show Try.prog.built 75 [(0, .int .u32 (k.ep : Int)), (1, .int .u32 (s : Int)), (2, .int .u32 (cm : Int)), (3, .slice none 0 0)] = some mv0.toArray from by rw [hmv0]; exact built_mk k.ep s cm none 0 0)
  obtain ⟨w1, hw1⟩ : ∃ w1, w1 = w.drew.alloc (.cells #[.int .u32 0, .int .u32 0, .int .u32 0, .slice none 0 0] 75) := ⟨_, rfl⟩
  have HW1 := Lib.hid hw1
  have b1 : Below w.heap.size w w1 := hw1 ▸ ((Below.refl _ _).drew.alloc (Nat.le_refl _) _)
  have B0 := Lib.hid (show Below w.heap.size w w.drew from (Below.refl _ _).drew)
  have B1 := Lib.hid b1
  have Z1 := Lib.hid (show Blk w1 w.heap.size zmk 75 from hw1 ▸ blk_at (w := w.drew) rfl rfl)
  obtain ⟨g8, hg8⟩ : ∃ g8, g8 = w.heap.size := ⟨_, rfl⟩
  have HG8 := Lib.hid hg8
  rw [← hg8] at Z1
  clear h hcm hB hmv0 hw1 b1 hg8
  go_enter Try.func26, Try.ntmps26
  go_upto_region 0 with (fail)
  refine InvL.wp_region_inv_tail (fun d w' => At 15 (fun w' => w' = w.drew) (fun w' => w' = w1) d w') 16 (by kernel_rfl) (by kernel_rfl) ?hI ?_
  case hI => exact At.start (by rfl) rfl
  simp only [List.take_succ_cons, List.take_zero, List.drop_succ_cons, List.drop_zero]
  refine invl_value (.pointer (some ⟨bl, 0, none⟩)) rfl (fun d w' h => by go_simp; all_goals rfl) (fun d w' _ h => At.keep (by decide) id id h) ?_
  simp only [Act.put, List.setIfInBounds_toArray, List.set_cons_zero, List.set_cons_succ]
  refine invl_value (.pointer (some ⟨bl, 0, none⟩)) rfl (fun d w' h => by go_simp; all_goals rfl) (fun d w' _ h => At.keep (by decide) id id h) ?_
  simp only [Act.put, List.setIfInBounds_toArray, List.set_cons_zero, List.set_cons_succ]
  refine invl_value (.pointer (some ⟨bl, 0, none⟩)) rfl (fun d w' h => by go_simp; all_goals rfl) (fun d w' _ h => At.keep (by decide) id id h) ?_
  simp only [Act.put, List.setIfInBounds_toArray, List.set_cons_zero, List.set_cons_succ]
  refine invl_value (.int .u32 (k.ep : Int)) rfl (fun d w' h => by have c0 : w'.cell? ⟨bl, 0, none⟩ = some (.int .u32 (k.ep : Int)) := (by rcases at_or h with rfl | rfl; exact C0.out _ B0.out; exact C0.out _ B1.out); go_simp) (fun d w' _ h => At.keep (by decide) id id h) ?_
  simp only [Act.put, List.setIfInBounds_toArray, List.set_cons_zero, List.set_cons_succ]
  refine invl_value (.int .u32 (s : Int)) rfl (fun d w' h => by go_simp; all_goals rfl) (fun d w' _ h => At.keep (by decide) id id h) ?_
  simp only [Act.put, List.setIfInBounds_toArray, List.set_cons_zero, List.set_cons_succ]
  refine invl_value (.pointer (some ⟨bl, 0, none⟩)) rfl (fun d w' h => by go_simp; all_goals rfl) (fun d w' _ h => At.keep (by decide) id id h) ?_
  simp only [Act.put, List.setIfInBounds_toArray, List.set_cons_zero, List.set_cons_succ]
  refine invl_value (.int .i64 0) rfl (fun d w' h => by go_simp; all_goals rfl) (fun d w' _ h => At.keep (by decide) id id h) ?_
  simp only [Act.put, List.setIfInBounds_toArray, List.set_cons_zero, List.set_cons_succ]
  refine invl_value (.pointer (some ⟨bl, 0, none⟩)) rfl (fun d w' h => by go_simp; all_goals rfl) (fun d w' _ h => At.keep (by decide) id id h) ?_
  simp only [Act.put, List.setIfInBounds_toArray, List.set_cons_zero, List.set_cons_succ]
  refine invl_value (.pointer (some ⟨bl, 1, none⟩)) rfl (fun d w' h => by go_simp; all_goals rfl) (fun d w' _ h => At.keep (by decide) id id h) ?_
  simp only [Act.put, List.setIfInBounds_toArray, List.set_cons_zero, List.set_cons_succ]
  refine invl_value (.pointer (some ⟨bl, 1, none⟩)) rfl (fun d w' h => by go_simp; all_goals rfl) (fun d w' _ h => At.keep (by decide) id id h) ?_
  simp only [Act.put, List.setIfInBounds_toArray, List.set_cons_zero, List.set_cons_succ]
  refine invl_value (.pointer (some ⟨bl, 3, none⟩)) rfl (fun d w' h => by go_simp; all_goals rfl) (fun d w' _ h => At.keep (by decide) id id h) ?_
  simp only [Act.put, List.setIfInBounds_toArray, List.set_cons_zero, List.set_cons_succ]
  refine invl_value (.int .u32 (cm : Int)) rfl (fun d w' h => by have c0 : w'.cell? ⟨bl, 3, none⟩ = some (.int .u32 (cm : Int)) := (by rcases at_or h with rfl | rfl; exact C1.out _ B0.out; exact C1.out _ B1.out); go_simp) (fun d w' _ h => At.keep (by decide) id id h) ?_
  simp only [Act.put, List.setIfInBounds_toArray, List.set_cons_zero, List.set_cons_succ]
  refine invl_value (.slice none 0 0) rfl (fun d w' h => by go_simp; all_goals rfl) (fun d w' _ h => At.keep (by decide) id id h) ?_
  simp only [Act.put, List.setIfInBounds_toArray, List.set_cons_zero, List.set_cons_succ]
  refine invl_call (.slice none 0 0) rfl 25 #[.slice none 0 0] (fun d w' _ => by go_simp) (fun d w' hd h => (clone_none w').mono fun e w'' ⟨he, hw⟩ => ⟨he, hw ▸ At.keep (by decide) id id h⟩) ?_
  simp only [Act.put, List.setIfInBounds_toArray, List.set_cons_zero, List.set_cons_succ]
  refine invl_value (.agg mv0.toArray) rfl (fun d w' h => exec_build (vs := [(0, .int .u32 (k.ep : Int)), (1, .int .u32 (s : Int)), (2, .int .u32 (cm : Int)), (3, .slice none 0 0)]) rfl rfl BM.out) (fun d w' _ h => At.keep (by decide) id id h) ?_
  simp only [Act.put, List.setIfInBounds_toArray, List.set_cons_zero, List.set_cons_succ]
  refine invl_world (.pointer (some ⟨g8, 0, none⟩)) rfl (fun d w' hd h => ⟨w1, by
    have e := h.before hd
    subst e
    rw [HW1.out, HG8.out]
    go_simp
    all_goals rfl, At.now hd rfl⟩) ?_
  simp only [Act.put, List.setIfInBounds_toArray, List.set_cons_zero, List.set_cons_succ]
  refine invl_nil fun w2 hI => ?_
  have e2 := hI.done (by rfl)
  subst e2
  have hmc4 : mv0.length = 4 := by rw [HM.out]; rfl
  have hmc1 : ∀ u ∈ mv0, u.oneCell' = true := by rw [HM.out]; exact mc_one rfl
  refine wpList_store_blk rfl 75 _ _ rfl g8 0 4 rfl 75 zmk mv0 rfl Z1.out (by kernel_rfl) hmc4 (by decide) hmc1 ?_
  intro w3 n3 g3
  rw [put_all _ _ (by rw [hmc4]; rfl)] at n3
  have hg8 : w.heap.size ≤ g8 := by have := HG8.out; omega
  have B3 := Lib.hid (below_grown B1.out g3 B1.out.size hg8)
  have K3 := Lib.hid (H0.out.below B3.out)
  have Y3 := Lib.hid (show Body w3 (reach bl V ++ A) (.slice none 0 0) B from .inl ⟨HBN.out, rfl⟩)
  have M3 := Lib.hid (show Blk w3 g8 (mc (⟨k.ep, s, (k.en 0).come, B⟩, .slice none 0 0)) 75 from by rw [← HCM.out, ← HM.out]; exact n3)
  have G8 := Lib.hid (show ∀ x, (V 4).ownBlock = some x → g8 ≠ x from fun x hx => by have := H0.out.row 4 (by decide) hx; omega)
  clear n3 g3 BM HM C0 C1 hmc4 hmc1 B0 B1 Z1 HW1 HG8 hg8
  go_upto_region 1 with (fail)
  -- the packet goes behind the others
  obtain ⟨mv, hmv⟩ : ∃ mv, mv = mc (⟨k.ep, s, (k.en 0).come, B⟩, .slice none 0 0) := ⟨_, rfl⟩
  obtain ⟨pv, hpv⟩ : ∃ pv, pv = pc (⟨0, ⟨k.ep, s, (k.en 0).come, B⟩⟩, .slice none 0 0) := ⟨_, rfl⟩
  obtain ⟨w4, hw4⟩ : ∃ w4, w4 = w3.drew.alloc (.cells pv.toArray 78) := ⟨_, rfl⟩
  have b4 : Below w3.heap.size w3 w4 := hw4 ▸ ((Below.refl _ _).drew.alloc (Nat.le_refl _) _)
  have K4 := Lib.hid (K3.out.below b4)
  have Y4 := Lib.hid (Y3.out.move (Only.of_below (S := []) b4) (by simp) (fun x hx => .inl hx))
  have Z4 := Lib.hid (show Blk w4 w3.heap.size (pc (⟨0, ⟨k.ep, s, (k.en 0).come, B⟩⟩, .slice none 0 0)) 78 from by rw [hw4, hpv]; exact blk_at (w := w3.drew) rfl rfl)
  obtain ⟨v', w5, hr5, hg5, hc5, hf5, gr5, va, vc, rfl⟩ := K4.out.more ⟨0, ⟨k.ep, s, (k.en 0).come, B⟩⟩ (.slice none 0 0) Y4.out Z4.out hfl
  have HR5 := Lib.hid hr5
  have HG5 := Lib.hid hg5
  have M3' := Lib.hid (show Blk w3 g8 mv 75 from hmv ▸ M3.out)
  have M4' := Lib.hid (M3'.out.below b4 M3'.out.lt)
  have M5' := Lib.hid (M4'.out.grownO gr5 G8.out)
  have BP := Lib.hid (show Try.prog.built 78 [(0, .int .i64 0), (1, .agg mv.toArray)] = some pv.toArray from by rw [hmv, hpv]; exact built_pk 0 ⟨k.ep, s, (k.en 0).come, B⟩ (.slice none 0 0))
  have HP := Lib.hid (show pv.length = 5 from by rw [hpv]; rfl)
  have HW4 := Lib.hid hw4
  have hmv4 : mv.length = 4 := by rw [hmv]; rfl
  have L3C := Lib.hid (show w3.cell? ⟨bl, 9, none⟩ = some (V 4) from K3.out.cell 9)
  have L4C := Lib.hid (show w4.cell? ⟨bl, 9, none⟩ = some (V 4) from K4.out.cell 9)
  have B4 := Lib.hid (B3.out.trans (b4.mono B3.out.size))
  have hc5' : w5.cell? ⟨bl, 9, none⟩ = some (V 4) := hc5
  obtain ⟨v4, hv4⟩ : ∃ v4, v4 = V 4 := ⟨_, rfl⟩
  rw [← hv4] at L3C L4C hc5' HR5
  obtain ⟨hcl, hcl'⟩ : ∃ hcl : Nat, hcl = w3.heap.size := ⟨_, rfl⟩
  have HH := Lib.hid hcl'
  rw [← hcl'] at HR5
  obtain ⟨fn, hfn⟩ : ∃ fn, fn = k.fl.length + 1 := ⟨_, rfl⟩
  rw [← hfn] at HR5 HG5
  clear hr5 hg5 hc5 hmv hw4 hcl' hv4 hpv Z4 K4 Y4 K3 Y3 b4 M3 G8 gr5 hfl hfn
  refine wp_region_gate_tail (fun d w' => At2 8 9 (fun w' => w' = w3.drew) (fun w' => w' = w4) (fun w' => w' = w5) d w') 12 (by kernel_rfl) (by kernel_rfl) ?hI ?_
  case hI => exact At2.start (by rfl) (by rfl) rfl
  simp only [List.take_succ_cons, List.take_zero, List.drop_succ_cons, List.drop_zero]
  refine InvC.invc_value (.pointer (some ⟨bl, 0, none⟩)) (fun u hu => by cases hu) rfl (fun d w' _ _ h => by go_simp; all_goals rfl) (fun d w' _ _ h => At2.keep (by decide) (by decide) h) ?_
  simp only [Act.put, List.setIfInBounds_toArray, List.set_cons_zero, List.set_cons_succ]
  refine InvC.invc_value (.pointer (some ⟨bl, 0, none⟩)) (fun u hu => by cases hu) rfl (fun d w' _ _ h => by go_simp; all_goals rfl) (fun d w' _ _ h => At2.keep (by decide) (by decide) h) ?_
  simp only [Act.put, List.setIfInBounds_toArray, List.set_cons_zero, List.set_cons_succ]
  refine InvC.invc_value (.pointer (some ⟨bl, 0, none⟩)) (fun u hu => by cases hu) rfl (fun d w' _ _ h => by go_simp; all_goals rfl) (fun d w' _ _ h => At2.keep (by decide) (by decide) h) ?_
  simp only [Act.put, List.setIfInBounds_toArray, List.set_cons_zero, List.set_cons_succ]
  refine InvC.invc_value (.pointer (some ⟨bl, 9, none⟩)) (fun u hu => by cases hu) rfl (fun d w' _ _ h => by go_simp; all_goals rfl) (fun d w' _ _ h => At2.keep (by decide) (by decide) h) ?_
  simp only [Act.put, List.setIfInBounds_toArray, List.set_cons_zero, List.set_cons_succ]
  refine InvC.invc_value v4 (fun u hu => by cases hu) rfl (fun d w' _ _ h => by
    have c9 : w'.cell? ⟨bl, 9, none⟩ = some v4 := by
      rcases h.any with rfl | rfl | rfl
      · exact L3C.out
      · exact L4C.out
      · exact hc5'
    go_simp) (fun d w' _ _ h => At2.keep (by decide) (by decide) h) ?_
  simp only [Act.put, List.setIfInBounds_toArray, List.set_cons_zero, List.set_cons_succ]
  refine InvC.invc_value (.int .i64 0) (fun u hu => by cases hu) rfl (fun d w' _ _ h => by go_simp; all_goals rfl) (fun d w' _ _ h => At2.keep (by decide) (by decide) h) ?_
  simp only [Act.put, List.setIfInBounds_toArray, List.set_cons_zero, List.set_cons_succ]
  refine InvC.invc_value (.agg mv.toArray) (fun u hu => by cases hu) rfl (fun d w' _ _ h => by
    have c8 : Blk w' g8 mv 75 := by
      rcases h.any with rfl | rfl | rfl
      · exact M3'.out.drew
      · exact M4'.out
      · exact M5'.out
    exact exec_load rfl rfl c8 Try.underlying75 rfl (by kernel_rfl) hmv4) (fun d w' _ _ h => At2.keep (by decide) (by decide) h) ?_
  simp only [Act.put, List.setIfInBounds_toArray, List.set_cons_zero, List.set_cons_succ]
  refine InvC.invc_value (.agg pv.toArray) (fun u hu => by cases hu) rfl (fun d w' _ _ h => exec_build (vs := [(0, .int .i64 0), (1, .agg mv.toArray)]) rfl rfl BP.out) (fun d w' _ _ h => At2.keep (by decide) (by decide) h) ?_
  simp only [Act.put, List.setIfInBounds_toArray, List.set_cons_zero, List.set_cons_succ]
  refine InvC.invc_world (.slice (some ⟨hcl, 0, none⟩) 1 1) (fun u hu => by cases hu) rfl (fun d w' hd hG h => ⟨w4, by
    obtain ⟨e, _⟩ := h.at_p hd
    subst e
    rw [HH.out, HW4.out]
    exact exec_build_one rfl rfl Try.underlying37 info_pk HP.out (by decide) (by decide), At2.did_p (by decide) hd h rfl⟩) ?_
  simp only [Act.put, List.setIfInBounds_toArray, List.set_cons_zero, List.set_cons_succ]
  refine InvC.invc_world (.slice va fn vc) (fun u hu => by cases hu) rfl (fun d w' hd hG h => ⟨w5, by
    have e := h.at_q hd (hG.of (by kernel_rfl))
    subst e
    exact exec_append _ _ rfl rfl rfl HR5.out, At2.did_q (by decide) hd (hG.of (by kernel_rfl)) rfl⟩) ?_
  simp only [Act.put, List.setIfInBounds_toArray, List.set_cons_zero, List.set_cons_succ]
  refine InvC.invc_value (.pointer (some ⟨bl, 0, none⟩)) (fun u hu => by cases hu) rfl (fun d w' _ _ h => by go_simp; all_goals rfl) (fun d w' _ _ h => At2.keep (by decide) (by decide) h) ?_
  simp only [Act.put, List.setIfInBounds_toArray, List.set_cons_zero, List.set_cons_succ]
  refine InvC.invc_value (.pointer (some ⟨bl, 9, none⟩)) (fun u hu => by cases hu) rfl (fun d w' _ _ h => by go_simp; all_goals rfl) (fun d w' _ _ h => At2.keep (by decide) (by decide) h) ?_
  simp only [Act.put, List.setIfInBounds_toArray, List.set_cons_zero, List.set_cons_succ]
  refine InvC.invc_nil fun w6 hI => ?_
  have e6 := hI.done (by rfl)
  subst e6
  clear L3C L4C M3' M4' M5' BP HP HW4 HH HR5 hmv4
  go_wp2
  go_end0
  exact ⟨rfl, _, (Goes.of_below H0.out B4.out).trans HG5.out⟩
set_option maxHeartbeats 2000000 in
theorem put_none1 (h : LinkAt w bl V A k) (s : Nat) (hfl : k.fl.length < 1024) : Calls Try.prog 26 #[.pointer (some ⟨bl, 0, none⟩), .int .i64 1, .int .u32 (s : Int), .slice none 0 0] w fun e w' => e = .returned (.tuple #[]) ∧ ∃ v', Goes w bl V A w' (upd V 4 v') (k.put 1 s []) := by
  have hlt := h.head.lt
  obtain ⟨B, hB⟩ : ∃ B : List UInt8, B = [] := ⟨_, rfl⟩
  rw [← hB]
  obtain ⟨cm, hcm⟩ : ∃ cm, cm = (k.en 1).come := ⟨_, rfl⟩
  have H0 := Lib.hid h
  have C0 := Lib.hid (fun w' (hb : Below w.heap.size w w') => show w'.cell? ⟨bl, 0, none⟩ = some (.int .u32 (k.ep : Int)) from (h.below hb).cell 0)
  have C1 := Lib.hid (fun w' (hb : Below w.heap.size w w') => show w'.cell? ⟨bl, 7, none⟩ = some (.int .u32 (cm : Int)) from by rw [hcm]; exact (h.below hb).cell 7)
  have HCM := Lib.hid hcm
  have HBN := Lib.hid hB
  obtain ⟨mv0, hmv0⟩ : ∃ mv0, mv0 = mc (⟨k.ep, s, cm, B⟩, .slice none 0 0) := ⟨_, rfl⟩
  have HM := Lib.hid hmv0
  have BM := Lib.hid (show Try.prog.built 75 [(0, .int .u32 (k.ep : Int)), (1, .int .u32 (s : Int)), (2, .int .u32 (cm : Int)), (3, .slice none 0 0)] = some mv0.toArray from by rw [hmv0]; exact built_mk k.ep s cm none 0 0)
  obtain ⟨w1, hw1⟩ : ∃ w1, w1 = w.drew.alloc (.cells #[.int .u32 0, .int .u32 0, .int .u32 0, .slice none 0 0] 75) := ⟨_, rfl⟩
  have HW1 := Lib.hid hw1
  have b1 : Below w.heap.size w w1 := hw1 ▸ ((Below.refl _ _).drew.alloc (Nat.le_refl _) _)
  have B0 := Lib.hid (show Below w.heap.size w w.drew from (Below.refl _ _).drew)
  have B1 := Lib.hid b1
  have Z1 := Lib.hid (show Blk w1 w.heap.size zmk 75 from hw1 ▸ blk_at (w := w.drew) rfl rfl)
  obtain ⟨g8, hg8⟩ : ∃ g8, g8 = w.heap.size := ⟨_, rfl⟩
  have HG8 := Lib.hid hg8
  rw [← hg8] at Z1
  clear h hcm hB hmv0 hw1 b1 hg8
  go_enter Try.func26, Try.ntmps26
  go_upto_region 0 with (fail)
  refine InvL.wp_region_inv_tail (fun d w' => At 15 (fun w' => w' = w.drew) (fun w' => w' = w1) d w') 16 (by kernel_rfl) (by kernel_rfl) ?hI ?_
  case hI => exact At.start (by rfl) rfl
  simp only [List.take_succ_cons, List.take_zero, List.drop_succ_cons, List.drop_zero]
  refine invl_value (.pointer (some ⟨bl, 0, none⟩)) rfl (fun d w' h => by go_simp; all_goals rfl) (fun d w' _ h => At.keep (by decide) id id h) ?_
  simp only [Act.put, List.setIfInBounds_toArray, List.set_cons_zero, List.set_cons_succ]
  refine invl_value (.pointer (some ⟨bl, 0, none⟩)) rfl (fun d w' h => by go_simp; all_goals rfl) (fun d w' _ h => At.keep (by decide) id id h) ?_
  simp only [Act.put, List.setIfInBounds_toArray, List.set_cons_zero, List.set_cons_succ]
  refine invl_value (.pointer (some ⟨bl, 0, none⟩)) rfl (fun d w' h => by go_simp; all_goals rfl) (fun d w' _ h => At.keep (by decide) id id h) ?_
  simp only [Act.put, List.setIfInBounds_toArray, List.set_cons_zero, List.set_cons_succ]
  refine invl_value (.int .u32 (k.ep : Int)) rfl (fun d w' h => by have c0 : w'.cell? ⟨bl, 0, none⟩ = some (.int .u32 (k.ep : Int)) := (by rcases at_or h with rfl | rfl; exact C0.out _ B0.out; exact C0.out _ B1.out); go_simp) (fun d w' _ h => At.keep (by decide) id id h) ?_
  simp only [Act.put, List.setIfInBounds_toArray, List.set_cons_zero, List.set_cons_succ]
  refine invl_value (.int .u32 (s : Int)) rfl (fun d w' h => by go_simp; all_goals rfl) (fun d w' _ h => At.keep (by decide) id id h) ?_
  simp only [Act.put, List.setIfInBounds_toArray, List.set_cons_zero, List.set_cons_succ]
  refine invl_value (.pointer (some ⟨bl, 0, none⟩)) rfl (fun d w' h => by go_simp; all_goals rfl) (fun d w' _ h => At.keep (by decide) id id h) ?_
  simp only [Act.put, List.setIfInBounds_toArray, List.set_cons_zero, List.set_cons_succ]
  refine invl_value (.int .i64 1) rfl (fun d w' h => by go_simp; all_goals rfl) (fun d w' _ h => At.keep (by decide) id id h) ?_
  simp only [Act.put, List.setIfInBounds_toArray, List.set_cons_zero, List.set_cons_succ]
  refine invl_value (.pointer (some ⟨bl, 0, none⟩)) rfl (fun d w' h => by go_simp; all_goals rfl) (fun d w' _ h => At.keep (by decide) id id h) ?_
  simp only [Act.put, List.setIfInBounds_toArray, List.set_cons_zero, List.set_cons_succ]
  refine invl_value (.pointer (some ⟨bl, 1, none⟩)) rfl (fun d w' h => by go_simp; all_goals rfl) (fun d w' _ h => At.keep (by decide) id id h) ?_
  simp only [Act.put, List.setIfInBounds_toArray, List.set_cons_zero, List.set_cons_succ]
  refine invl_value (.pointer (some ⟨bl, 5, none⟩)) rfl (fun d w' h => by go_simp; all_goals rfl) (fun d w' _ h => At.keep (by decide) id id h) ?_
  simp only [Act.put, List.setIfInBounds_toArray, List.set_cons_zero, List.set_cons_succ]
  refine invl_value (.pointer (some ⟨bl, 7, none⟩)) rfl (fun d w' h => by go_simp; all_goals rfl) (fun d w' _ h => At.keep (by decide) id id h) ?_
  simp only [Act.put, List.setIfInBounds_toArray, List.set_cons_zero, List.set_cons_succ]
  refine invl_value (.int .u32 (cm : Int)) rfl (fun d w' h => by have c0 : w'.cell? ⟨bl, 7, none⟩ = some (.int .u32 (cm : Int)) := (by rcases at_or h with rfl | rfl; exact C1.out _ B0.out; exact C1.out _ B1.out); go_simp) (fun d w' _ h => At.keep (by decide) id id h) ?_
  simp only [Act.put, List.setIfInBounds_toArray, List.set_cons_zero, List.set_cons_succ]
  refine invl_value (.slice none 0 0) rfl (fun d w' h => by go_simp; all_goals rfl) (fun d w' _ h => At.keep (by decide) id id h) ?_
  simp only [Act.put, List.setIfInBounds_toArray, List.set_cons_zero, List.set_cons_succ]
  refine invl_call (.slice none 0 0) rfl 25 #[.slice none 0 0] (fun d w' _ => by go_simp) (fun d w' hd h => (clone_none w').mono fun e w'' ⟨he, hw⟩ => ⟨he, hw ▸ At.keep (by decide) id id h⟩) ?_
  simp only [Act.put, List.setIfInBounds_toArray, List.set_cons_zero, List.set_cons_succ]
  refine invl_value (.agg mv0.toArray) rfl (fun d w' h => exec_build (vs := [(0, .int .u32 (k.ep : Int)), (1, .int .u32 (s : Int)), (2, .int .u32 (cm : Int)), (3, .slice none 0 0)]) rfl rfl BM.out) (fun d w' _ h => At.keep (by decide) id id h) ?_
  simp only [Act.put, List.setIfInBounds_toArray, List.set_cons_zero, List.set_cons_succ]
  refine invl_world (.pointer (some ⟨g8, 0, none⟩)) rfl (fun d w' hd h => ⟨w1, by
    have e := h.before hd
    subst e
    rw [HW1.out, HG8.out]
    go_simp
    all_goals rfl, At.now hd rfl⟩) ?_
  simp only [Act.put, List.setIfInBounds_toArray, List.set_cons_zero, List.set_cons_succ]
  refine invl_nil fun w2 hI => ?_
  have e2 := hI.done (by rfl)
  subst e2
  have hmc4 : mv0.length = 4 := by rw [HM.out]; rfl
  have hmc1 : ∀ u ∈ mv0, u.oneCell' = true := by rw [HM.out]; exact mc_one rfl
  refine wpList_store_blk rfl 75 _ _ rfl g8 0 4 rfl 75 zmk mv0 rfl Z1.out (by kernel_rfl) hmc4 (by decide) hmc1 ?_
  intro w3 n3 g3
  rw [put_all _ _ (by rw [hmc4]; rfl)] at n3
  have hg8 : w.heap.size ≤ g8 := by have := HG8.out; omega
  have B3 := Lib.hid (below_grown B1.out g3 B1.out.size hg8)
  have K3 := Lib.hid (H0.out.below B3.out)
  have Y3 := Lib.hid (show Body w3 (reach bl V ++ A) (.slice none 0 0) B from .inl ⟨HBN.out, rfl⟩)
  have M3 := Lib.hid (show Blk w3 g8 (mc (⟨k.ep, s, (k.en 1).come, B⟩, .slice none 0 0)) 75 from by rw [← HCM.out, ← HM.out]; exact n3)
  have G8 := Lib.hid (show ∀ x, (V 4).ownBlock = some x → g8 ≠ x from fun x hx => by have := H0.out.row 4 (by decide) hx; omega)
  clear n3 g3 BM HM C0 C1 hmc4 hmc1 B0 B1 Z1 HW1 HG8 hg8
  go_upto_region 1 with (fail)
  -- the packet goes behind the others
  obtain ⟨mv, hmv⟩ : ∃ mv, mv = mc (⟨k.ep, s, (k.en 1).come, B⟩, .slice none 0 0) := ⟨_, rfl⟩
  obtain ⟨pv, hpv⟩ : ∃ pv, pv = pc (⟨1, ⟨k.ep, s, (k.en 1).come, B⟩⟩, .slice none 0 0) := ⟨_, rfl⟩
  obtain ⟨w4, hw4⟩ : ∃ w4, w4 = w3.drew.alloc (.cells pv.toArray 78) := ⟨_, rfl⟩
  have b4 : Below w3.heap.size w3 w4 := hw4 ▸ ((Below.refl _ _).drew.alloc (Nat.le_refl _) _)
  have K4 := Lib.hid (K3.out.below b4)
  have Y4 := Lib.hid (Y3.out.move (Only.of_below (S := []) b4) (by simp) (fun x hx => .inl hx))
  have Z4 := Lib.hid (show Blk w4 w3.heap.size (pc (⟨1, ⟨k.ep, s, (k.en 1).come, B⟩⟩, .slice none 0 0)) 78 from by rw [hw4, hpv]; exact blk_at (w := w3.drew) rfl rfl)
  obtain ⟨v', w5, hr5, hg5, hc5, hf5, gr5, va, vc, rfl⟩ := K4.out.more ⟨1, ⟨k.ep, s, (k.en 1).come, B⟩⟩ (.slice none 0 0) Y4.out Z4.out hfl
  have HR5 := Lib.hid hr5
  have HG5 := Lib.hid hg5
  have M3' := Lib.hid (show Blk w3 g8 mv 75 from hmv ▸ M3.out)
  have M4' := Lib.hid (M3'.out.below b4 M3'.out.lt)
  have M5' := Lib.hid (M4'.out.grownO gr5 G8.out)
  have BP := Lib.hid (show Try.prog.built 78 [(0, .int .i64 1), (1, .agg mv.toArray)] = some pv.toArray from by rw [hmv, hpv]; exact built_pk 1 ⟨k.ep, s, (k.en 1).come, B⟩ (.slice none 0 0))
  have HP := Lib.hid (show pv.length = 5 from by rw [hpv]; rfl)
  have HW4 := Lib.hid hw4
  have hmv4 : mv.length = 4 := by rw [hmv]; rfl
  have L3C := Lib.hid (show w3.cell? ⟨bl, 9, none⟩ = some (V 4) from K3.out.cell 9)
  have L4C := Lib.hid (show w4.cell? ⟨bl, 9, none⟩ = some (V 4) from K4.out.cell 9)
  have B4 := Lib.hid (B3.out.trans (b4.mono B3.out.size))
  have hc5' : w5.cell? ⟨bl, 9, none⟩ = some (V 4) := hc5
  obtain ⟨v4, hv4⟩ : ∃ v4, v4 = V 4 := ⟨_, rfl⟩
  rw [← hv4] at L3C L4C hc5' HR5
  obtain ⟨hcl, hcl'⟩ : ∃ hcl : Nat, hcl = w3.heap.size := ⟨_, rfl⟩
  have HH := Lib.hid hcl'
  rw [← hcl'] at HR5
  obtain ⟨fn, hfn⟩ : ∃ fn, fn = k.fl.length + 1 := ⟨_, rfl⟩
  rw [← hfn] at HR5 HG5
  clear hr5 hg5 hc5 hmv hw4 hcl' hv4 hpv Z4 K4 Y4 K3 Y3 b4 M3 G8 gr5 hfl hfn
  refine wp_region_gate_tail (fun d w' => At2 8 9 (fun w' => w' = w3.drew) (fun w' => w' = w4) (fun w' => w' = w5) d w') 12 (by kernel_rfl) (by kernel_rfl) ?hI ?_
  case hI => exact At2.start (by rfl) (by rfl) rfl
  simp only [List.take_succ_cons, List.take_zero, List.drop_succ_cons, List.drop_zero]
  refine InvC.invc_value (.pointer (some ⟨bl, 0, none⟩)) (fun u hu => by cases hu) rfl (fun d w' _ _ h => by go_simp; all_goals rfl) (fun d w' _ _ h => At2.keep (by decide) (by decide) h) ?_
  simp only [Act.put, List.setIfInBounds_toArray, List.set_cons_zero, List.set_cons_succ]
  refine InvC.invc_value (.pointer (some ⟨bl, 0, none⟩)) (fun u hu => by cases hu) rfl (fun d w' _ _ h => by go_simp; all_goals rfl) (fun d w' _ _ h => At2.keep (by decide) (by decide) h) ?_
  simp only [Act.put, List.setIfInBounds_toArray, List.set_cons_zero, List.set_cons_succ]
  refine InvC.invc_value (.pointer (some ⟨bl, 0, none⟩)) (fun u hu => by cases hu) rfl (fun d w' _ _ h => by go_simp; all_goals rfl) (fun d w' _ _ h => At2.keep (by decide) (by decide) h) ?_
  simp only [Act.put, List.setIfInBounds_toArray, List.set_cons_zero, List.set_cons_succ]
  refine InvC.invc_value (.pointer (some ⟨bl, 9, none⟩)) (fun u hu => by cases hu) rfl (fun d w' _ _ h => by go_simp; all_goals rfl) (fun d w' _ _ h => At2.keep (by decide) (by decide) h) ?_
  simp only [Act.put, List.setIfInBounds_toArray, List.set_cons_zero, List.set_cons_succ]
  refine InvC.invc_value v4 (fun u hu => by cases hu) rfl (fun d w' _ _ h => by
    have c9 : w'.cell? ⟨bl, 9, none⟩ = some v4 := by
      rcases h.any with rfl | rfl | rfl
      · exact L3C.out
      · exact L4C.out
      · exact hc5'
    go_simp) (fun d w' _ _ h => At2.keep (by decide) (by decide) h) ?_
  simp only [Act.put, List.setIfInBounds_toArray, List.set_cons_zero, List.set_cons_succ]
  refine InvC.invc_value (.int .i64 1) (fun u hu => by cases hu) rfl (fun d w' _ _ h => by go_simp; all_goals rfl) (fun d w' _ _ h => At2.keep (by decide) (by decide) h) ?_
  simp only [Act.put, List.setIfInBounds_toArray, List.set_cons_zero, List.set_cons_succ]
  refine InvC.invc_value (.agg mv.toArray) (fun u hu => by cases hu) rfl (fun d w' _ _ h => by
    have c8 : Blk w' g8 mv 75 := by
      rcases h.any with rfl | rfl | rfl
      · exact M3'.out.drew
      · exact M4'.out
      · exact M5'.out
    exact exec_load rfl rfl c8 Try.underlying75 rfl (by kernel_rfl) hmv4) (fun d w' _ _ h => At2.keep (by decide) (by decide) h) ?_
  simp only [Act.put, List.setIfInBounds_toArray, List.set_cons_zero, List.set_cons_succ]
  refine InvC.invc_value (.agg pv.toArray) (fun u hu => by cases hu) rfl (fun d w' _ _ h => exec_build (vs := [(0, .int .i64 1), (1, .agg mv.toArray)]) rfl rfl BP.out) (fun d w' _ _ h => At2.keep (by decide) (by decide) h) ?_
  simp only [Act.put, List.setIfInBounds_toArray, List.set_cons_zero, List.set_cons_succ]
  refine InvC.invc_world (.slice (some ⟨hcl, 0, none⟩) 1 1) (fun u hu => by cases hu) rfl (fun d w' hd hG h => ⟨w4, by
    obtain ⟨e, _⟩ := h.at_p hd
    subst e
    rw [HH.out, HW4.out]
    exact exec_build_one rfl rfl Try.underlying37 info_pk HP.out (by decide) (by decide), At2.did_p (by decide) hd h rfl⟩) ?_
  simp only [Act.put, List.setIfInBounds_toArray, List.set_cons_zero, List.set_cons_succ]
  refine InvC.invc_world (.slice va fn vc) (fun u hu => by cases hu) rfl (fun d w' hd hG h => ⟨w5, by
    have e := h.at_q hd (hG.of (by kernel_rfl))
    subst e
    exact exec_append _ _ rfl rfl rfl HR5.out, At2.did_q (by decide) hd (hG.of (by kernel_rfl)) rfl⟩) ?_
  simp only [Act.put, List.setIfInBounds_toArray, List.set_cons_zero, List.set_cons_succ]
  refine InvC.invc_value (.pointer (some ⟨bl, 0, none⟩)) (fun u hu => by cases hu) rfl (fun d w' _ _ h => by go_simp; all_goals rfl) (fun d w' _ _ h => At2.keep (by decide) (by decide) h) ?_
  simp only [Act.put, List.setIfInBounds_toArray, List.set_cons_zero, List.set_cons_succ]
  refine InvC.invc_value (.pointer (some ⟨bl, 9, none⟩)) (fun u hu => by cases hu) rfl (fun d w' _ _ h => by go_simp; all_goals rfl) (fun d w' _ _ h => At2.keep (by decide) (by decide) h) ?_
  simp only [Act.put, List.setIfInBounds_toArray, List.set_cons_zero, List.set_cons_succ]
  refine InvC.invc_nil fun w6 hI => ?_
  have e6 := hI.done (by rfl)
  subst e6
  clear L3C L4C M3' M4' M5' BP HP HW4 HH HR5 hmv4
  go_wp2
  go_end0
  exact ⟨rfl, _, (Goes.of_below H0.out B4.out).trans HG5.out⟩
theorem put_any4 (h : LinkAt w bl V A k) (n : Nat) (hn : n < 2) (s : Nat) {S : List Nat} {v : Value} {B : List UInt8} (hb : Body w S v B) (hfl : k.fl.length < 1024) : Calls Try.prog 26 #[.pointer (some ⟨bl, 0, none⟩), .int .i64 (n : Int), .int .u32 (s : Int), v] w fun e w' => e = .returned (.tuple #[]) ∧ ∃ v', Goes w bl V A w' (upd V 4 v') (k.put n s B) := by
  rcases hb with ⟨rfl, rfl⟩ | ⟨g, o, c, rfl, h1, h2, h3, _⟩
  · obtain rfl | rfl : n = 0 ∨ n = 1 := by omega
    · exact put_none0 h s hfl
    · exact put_none1 h s hfl
  · obtain rfl | rfl : n = 0 ∨ n = 1 := by omega
    · exact put_full0 h s _ c _ B rfl h1 h2 h3 hfl
    · exact put_full1 h s _ c _ B rfl h1 h2 h3 hfl
theorem put_any (h : LinkAt w bl V A k) (n : Nat) (hn : n < 2) (s : Nat) {S : List Nat} {v : Value} {B : List UInt8} (hb : Body w S v B) (hfl : k.fl.length < 1024) : Calls Try.prog 26 #[.pointer (some ⟨bl, 0, none⟩), .int .i64 (n : Int), .int .u32 (s : Int), v] w fun e w' => e = .returned (.tuple #[]) ∧ ∃ V', Goes w bl V A w' V' (k.put n s B) := by
  refine (put_any4 h n hn s hb hfl).mono ?_
  rintro e w' ⟨rfl, v', g⟩
  exact ⟨rfl, _, g⟩
end
end Go.Proofs.Ytgnnjinpcdemiaa.Link
/-
  A clone told exactly; three makings one behind the other; appends to a link's rows. Helper text; no statement is proved here.
-/
set_option linter.unusedVariables false
set_option maxRecDepth 20000
set_option linter.unusedSimpArgs false
namespace Go.Proofs.Ytgnnjinpcdemiaa.Link
open Go.RowKit Go.Proofs.Ytgnnjinpcdemiaa.Base Go.Proofs.Ytgnnjinpcdemiaa.Laws Go.Proofs.Ytgnnjinpcdemiaa.Disk Go.Proofs.Ytgnnjinpcdemiaa.Row Go.Proofs.Ytgnnjinpcdemiaa.Flat Go.Proofs.Ytgnnjinpcdemiaa.InvM Go.Proofs.Ytgnnjinpcdemiaa.Inv Go.Proofs.Ytgnnjinpcdemiaa.InvL Go.Proofs.Ytgnnjinpcdemiaa.InvC Go.Proofs.Ytgnnjinpcdemiaa.InvG Go.Proofs.Ytgnnjinpcdemiaa.Codec
def cloneC (w : World) (n : Nat) : Nat := grownCap (w.alloc (.cells #[] 5)) n 0 5
def cloneW (w : World) (n : Nat) (l : List UInt8) : World := ((w.alloc (.cells #[] 5)).alloc (.cells ((bv l).toArray ++ Builtin.zeroCells #[.int .u8 0] (grownCap (w.alloc (.cells #[] 5)) n 0 5 - n)) 5)).drew
theorem clone_exact (ad : Addr) (n c : Nat) (l : List UInt8) (hn0 : 0 < n) (hn : n ≤ 140737488355328) (w : World) (h : Bts w (some ad) n c l) :
    Calls Try.prog 25 #[.slice (some ad) n c] w fun x w' => x = .returned (.slice (some ⟨w.heap.size + 1, 0, none⟩) n (cloneC w n)) ∧ w' = cloneW w n l := by
  have hl := h.1
  have HT := Lib.hid (OwnB.src_bts (bts_alloc h (.cells #[] 5)))
  have hq := fun w' => run_eql_slice_nil' w' ad n c
  clear h
  go_enter Try.func25, Try.ntmps25
  go_wp2_with (first | (at_builtin; refine wpList_append_grow rfl _ _ rfl w.heap.size rfl ad n c (bv l) rfl HT.out hn0 hn ?_))
  have e1 : cloneC w n = grownCap (w.alloc (.cells #[] 5)) n 0 5 := rfl
  have e2 : cloneW w n l = ((w.alloc (.cells #[] 5)).alloc (.cells ((bv l).toArray ++ Builtin.zeroCells #[.int .u8 0] (grownCap (w.alloc (.cells #[] 5)) n 0 5 - n)) 5)).drew := rfl
  rw [← e2, ← e1]
  clear e1 e2
  go_ret
  exact ⟨rfl, rfl⟩
theorem cloneW_is (w : World) (n : Nat) (l : List UInt8) (hl : l.length = n) (hn : n ≤ 140737488355328) : Bts (cloneW w n l) (some ⟨w.heap.size + 1, 0, none⟩) n (cloneC w n) l ∧ Below w.heap.size w (cloneW w n l) ∧ (cloneW w n l).heap.size = w.heap.size + 2 := by
  have h2 := grownCap_ge (w.alloc (.cells #[] 5)) n 0 5
  have h3 := grownCap_le_maxLen (w.alloc (.cells #[] 5)) n 0 5 (by unfold maxLen; omega)
  refine ⟨?_, ?_, ?_⟩
  · exact (show Bts ((w.alloc (.cells #[] 5)).alloc (.cells ((bv l).toArray ++ Builtin.zeroCells #[.int .u8 0] (grownCap (w.alloc (.cells #[] 5)) n 0 5 - n)) 5)).drew _ _ _ _ from bts_grown (w := w.alloc (.cells #[] 5)) (g := w.heap.size + 1) (z := Builtin.zeroCells #[.int .u8 0] (grownCap (w.alloc (.cells #[] 5)) n 0 5 - n)) (by simp) hl h2 h3)
  · exact (((Below.refl w.heap.size w).alloc (Nat.le_refl _) (.cells #[] 5)).alloc (by simp) _).drew
  · show ((w.alloc (.cells #[] 5)).alloc _).heap.size = _
    simp
/-- A, then B behind p, then C behind q, then D behind r -/
def At3 (p q r : Nat) (A B C D : World → Prop) (d : Array Bool) (w : World) : Prop := if d.getD r false = true then d.getD q false = true ∧ d.getD p false = true ∧ D w else At2 p q A B C d w
section
variable {p q r i : Nat} {A B C D : World → Prop} {d : Array Bool} {w w' : World}
theorem At3.keep (h1 : i ≠ p) (h2 : i ≠ q) (h3 : i ≠ r) (h : At3 p q r A B C D d w) : At3 p q r A B C D (d.setIfInBounds i true) w := by
  unfold At3 at *
  rw [getD_set_ne false h3]
  split at h
  · rename_i e
    rw [if_pos e, getD_set_ne false h1, getD_set_ne false h2]
    exact h
  · rename_i e
    rw [if_neg e]
    exact At2.keep h1 h2 h
theorem At3.start (h1 : d.getD p false = false) (h2 : d.getD q false = false) (h3 : d.getD r false = false) (h : A w) : At3 p q r A B C D d w := by
  unfold At3
  rw [if_neg (by rw [h3]; simp)]
  exact At2.start h1 h2 h
theorem At3.two (hd : d.getD p true = false ∨ d.getD q true = false ∨ d.getD r true = false) (h : At3 p q r A B C D d w) : At2 p q A B C d w ∧ d.getD r false = false := by
  unfold At3 at h
  split at h
  · rcases hd with hd | hd | hd <;> have := getD_true_of hd
    · rw [this] at h; simp at h
    · rw [this] at h; simp at h
    · rename_i e; rw [this] at e; cases e
  · rename_i e
    exact ⟨h, by simpa using e⟩
theorem At3.at_p (hd : d.getD p true = false) (h : At3 p q r A B C D d w) : A w := ((h.two (.inl hd)).1.at_p hd).1
theorem At3.did_p (hpq : p ≠ q) (hpr : p ≠ r) (hd : d.getD p true = false) (h : At3 p q r A B C D d w) (h' : B w') : At3 p q r A B C D (d.setIfInBounds p true) w' := by
  obtain ⟨h2, h3⟩ := h.two (.inl hd)
  unfold At3
  rw [getD_set_ne false hpr, if_neg (by rw [h3]; simp)]
  exact h2.did_p hpq hd h'
theorem At3.at_q (hd : d.getD q true = false) (hp : d.getD p false = true) (h : At3 p q r A B C D d w) : B w := (h.two (.inr (.inl hd))).1.at_q hd hp
theorem At3.did_q (hpq : p ≠ q) (hqr : q ≠ r) (hd : d.getD q true = false) (hp : d.getD p false = true) (h : At3 p q r A B C D d w) (h' : C w') : At3 p q r A B C D (d.setIfInBounds q true) w' := by
  obtain ⟨h2, h3⟩ := h.two (.inr (.inl hd))
  unfold At3
  rw [getD_set_ne false hqr, if_neg (by rw [h3]; simp)]
  exact At2.did_q hpq hd hp h'
theorem At3.at_r (hd : d.getD r true = false) (hq : d.getD q false = true) (h : At3 p q r A B C D d w) : C w := (h.two (.inr (.inr hd))).1.done hq
theorem At3.did_r (hpr : p ≠ r) (hqr : q ≠ r) (hd : d.getD r true = false) (hq : d.getD q false = true) (h : At3 p q r A B C D d w) (h' : D w') : At3 p q r A B C D (d.setIfInBounds r true) w' := by
  have h2 := (h.two (.inr (.inr hd))).1
  unfold At2 at h2
  rw [if_pos hq] at h2
  unfold At3
  rw [now hd, if_pos rfl, getD_set_ne false (Ne.symm hpr), getD_set_ne false (Ne.symm hqr)]
  exact ⟨hq, h2.1, h'⟩
theorem At3.done (hd : d.getD r false = true) (h : At3 p q r A B C D d w) : D w := by
  unfold At3 at h
  rw [if_pos hd] at h
  exact h.2.2
theorem At3.any (h : At3 p q r A B C D d w) : A w ∨ B w ∨ C w ∨ D w := by
  unfold At3 at h
  split at h
  · exact .inr (.inr (.inr h.2.2))
  · rcases h.any with h | h | h
    · exact .inl h
    · exact .inr (.inl h)
    · exact .inr (.inr (.inl h))
end
theorem gc_one {p : List UInt8 × Value} (h : p.2.oneCell' = true) : ∀ u ∈ gc p, u.oneCell' = true := by
  intro u hu
  simp only [gc, List.mem_cons, List.not_mem_nil, or_false] at hu
  rw [hu]; exact h
def Lk.bump (k : Lk) (n : Nat) : Lk := k.with n { k.en n with sent := ((k.en n).sent + 1) % 4294967296 }
def Lk.addOpen (k : Lk) (n : Nat) (x : Mk) : Lk := k.with n { k.en n with op := (k.en n).op ++ [x] }
def Lk.addGot (k : Lk) (n : Nat) (B : List UInt8) : Lk := k.with n { k.en n with got := (k.en n).got ++ [B] }
def Lk.send (k : Lk) (n : Nat) (B : List UInt8) : Lk := ((k.bump n).addOpen n ⟨0, ((k.en n).sent + 1) % 4294967296, 0, B⟩).put n (((k.en n).sent + 1) % 4294967296) B
section
variable {w : World} {bl : Nat} {V : Nat → Value} {A : List Nat} {k : Lk}
theorem reach_upd {i : Nat} (hi : i < 5) {v' : Value} (hv : v'.ownBlock = (V i).ownBlock ∨ v'.ownBlock = some w.heap.size ∨ v'.ownBlock = none) : ∀ x ∈ reach bl (upd V i v') ++ A, x ∈ reach bl V ++ A ∨ w.heap.size ≤ x := by
  intro x hx
  rcases List.mem_append.1 hx with hx | hx
  · rcases mem_reach.1 hx with rfl | ⟨j, hj, e⟩
    · exact .inl (List.mem_append_left _ (mem_reach.2 (.inl rfl)))
    · by_cases e4 : j = i
      · subst e4
        rw [upd_self] at e
        rcases hv with e' | e' | e' <;> rw [e'] at e
        · exact .inl (List.mem_append_left _ (mem_reach.2 (.inr ⟨j, hj, e⟩)))
        · cases e; exact .inr (Nat.le_refl _)
        · cases e
      · rw [upd_ne e4] at e
        exact .inl (List.mem_append_left _ (mem_reach.2 (.inr ⟨j, hj, e⟩)))
  · exact .inl (List.mem_append_right _ hx)
/-- a message is open -/
theorem LinkAt.moreOpen (h : LinkAt w bl V A k) (n : Nat) (hn : n < 2) (x : Mk) (y : Value) (hy : Body w (reach bl V ++ A) y x.B) {g : Nat} (hz : Blk w g (mc (x, y)) 75) (hl : (k.en n).op.length < 1024) :
    ∃ v' w', (Builtin.append_ #[50, 50] 50 #[V (2 * n), .slice (some ⟨g, 0, none⟩) 1 1]).run Try.prog w = .ok v' w' ∧ Goes w bl V A (w'.setCell ⟨bl, 1 + 4 * n, none⟩ v') (upd V (2 * n) v') (k.addOpen n x) ∧ w'.cell? ⟨bl, 1 + 4 * n, none⟩ = some (V (2 * n)) ∧ w'.frozen? ⟨bl, 1 + 4 * n, none⟩ = false ∧ w.grownBy w' (V (2 * n)).ownBlock ∧ (∃ a' c', v' = .slice a' ((k.en n).op.length + 1) c') := by
  have hlt := h.head.lt
  obtain ⟨v', w', hr, hrow, hg, hv, hs⟩ := (h.o n hn).append 50 50 (.agg #[.int .u32 0, .int .u32 0, .int .u32 0, .slice none 0 0]) 40 Try.underlying50 info_mk rfl (by decide) x y hy (src_blk hz rfl (mc_one hy.one)) (by omega) (by unfold maxLen; omega) (by omega) (fun g hg => List.mem_append_left _ (mem_reach.2 (.inr ⟨2 * n, by omega, hg⟩)))
  have hhead := h.head.grownO hg (fun x hx => by have := h.row (2 * n) (by omega) hx; omega)
  have hv' : v'.ownBlock = (V (2 * n)).ownBlock ∨ v'.ownBlock = some w.heap.size ∨ v'.ownBlock = none := by rcases hv with e | e; exact .inl e; exact .inr (.inl e)
  refine ⟨v', w', hr, h.turned (2 * n) (by omega) v' (1 + 4 * n) (k.addOpen n x) hg hv' ?_ (fun m hm hne => ?_) (fun m hm _ => ?_) (fun _ => ?_) (fun m hm e => ?_) (fun m hm e => by omega) (fun e => by omega), ?_, hhead.frozen _, hg, hs⟩
  · obtain rfl | rfl : n = 0 ∨ n = 1 := by omega
    · rfl
    · rfl
  · obtain ⟨rfl, rfl⟩ | ⟨rfl, rfl⟩ : (n = 0 ∧ m = 1) ∨ (n = 1 ∧ m = 0) := by omega
    · rfl
    · rfl
  · obtain rfl | rfl : n = 0 ∨ n = 1 := by omega
    · obtain rfl | rfl : m = 0 ∨ m = 1 := by omega
      · rfl
      · rfl
    · obtain rfl | rfl : m = 0 ∨ m = 1 := by omega
      · rfl
      · rfl
  · obtain rfl | rfl : n = 0 ∨ n = 1 := by omega
    · rfl
    · rfl
  · obtain rfl : m = n := by omega
    have e : ((k.addOpen m x).en m).op = (k.en m).op ++ [x] := by
      obtain rfl | rfl : m = 0 ∨ m = 1 := by omega
      · rfl
      · rfl
    rw [e]
    exact hrow _ (reach_upd (by omega) hv')
  · rw [hhead.cell]
    obtain rfl | rfl : n = 0 ∨ n = 1 := by omega
    · rfl
    · rfl
/-- a body has come -/
theorem LinkAt.moreGot (h : LinkAt w bl V A k) (n : Nat) (hn : n < 2) (B : List UInt8) (y : Value) (hy : Body w (reach bl V ++ A) y B) {g : Nat} (hz : Blk w g [y] 27) (hl : ((k.en n).got.length + 1) * 24 ≤ 140737488355328) :
    ∃ v' w', (Builtin.append_ #[42, 42] 42 #[V (2 * n + 1), .slice (some ⟨g, 0, none⟩) 1 1]).run Try.prog w = .ok v' w' ∧ Goes w bl V A (w'.setCell ⟨bl, 4 + 4 * n, none⟩ v') (upd V (2 * n + 1) v') (k.addGot n B) ∧ w'.cell? ⟨bl, 4 + 4 * n, none⟩ = some (V (2 * n + 1)) ∧ w'.frozen? ⟨bl, 4 + 4 * n, none⟩ = false ∧ w.grownBy w' (V (2 * n + 1)).ownBlock ∧ (∃ a' c', v' = .slice a' ((k.en n).got.length + 1) c') := by
  have hlt := h.head.lt
  obtain ⟨v', w', hr, hrow, hg, hv, hs⟩ := (h.g n hn).append 42 42 (.slice none 0 0) 24 Try.underlying42 info_bs rfl (by decide) B y hy (src_blk hz rfl (gc_one hy.one)) hl (by unfold maxLen; omega) (by omega) (fun g hg => List.mem_append_left _ (mem_reach.2 (.inr ⟨2 * n + 1, by omega, hg⟩)))
  have hhead := h.head.grownO hg (fun x hx => by have := h.row (2 * n + 1) (by omega) hx; omega)
  have hv' : v'.ownBlock = (V (2 * n + 1)).ownBlock ∨ v'.ownBlock = some w.heap.size ∨ v'.ownBlock = none := by rcases hv with e | e; exact .inl e; exact .inr (.inl e)
  refine ⟨v', w', hr, h.turned (2 * n + 1) (by omega) v' (4 + 4 * n) (k.addGot n B) hg hv' ?_ (fun m hm _ => ?_) (fun m hm hne => ?_) (fun _ => ?_) (fun m hm e => by omega) (fun m hm e => ?_) (fun e => by omega), ?_, hhead.frozen _, hg, hs⟩
  · obtain rfl | rfl : n = 0 ∨ n = 1 := by omega
    · rfl
    · rfl
  · obtain rfl | rfl : n = 0 ∨ n = 1 := by omega
    · obtain rfl | rfl : m = 0 ∨ m = 1 := by omega
      · rfl
      · rfl
    · obtain rfl | rfl : m = 0 ∨ m = 1 := by omega
      · rfl
      · rfl
  · obtain ⟨rfl, rfl⟩ | ⟨rfl, rfl⟩ : (n = 0 ∧ m = 1) ∨ (n = 1 ∧ m = 0) := by omega
    · rfl
    · rfl
  · obtain rfl | rfl : n = 0 ∨ n = 1 := by omega
    · rfl
    · rfl
  · obtain rfl : m = n := by omega
    have e : ((k.addGot m B).en m).got = (k.en m).got ++ [B] := by
      obtain rfl | rfl : m = 0 ∨ m = 1 := by omega
      · rfl
      · rfl
    rw [e]
    exact hrow _ (reach_upd (by omega) hv')
  · rw [hhead.cell]
    obtain rfl | rfl : n = 0 ∨ n = 1 := by omega
    · rfl
    · rfl
end
end Go.Proofs.Ytgnnjinpcdemiaa.Link
/-
  Calls of a nil link by contract; New. Helper text; no statement is proved here.
-/
set_option linter.unusedVariables false
set_option maxRecDepth 20000
set_option linter.unusedSimpArgs false
namespace Go.Proofs.Ytgnnjinpcdemiaa.Link
open Go.RowKit Go.Proofs.Ytgnnjinpcdemiaa.Base Go.Proofs.Ytgnnjinpcdemiaa.Laws Go.Proofs.Ytgnnjinpcdemiaa.Disk Go.Proofs.Ytgnnjinpcdemiaa.Row Go.Proofs.Ytgnnjinpcdemiaa.Flat Go.Proofs.Ytgnnjinpcdemiaa.InvM
def zpk : List Value := [.int .i64 0, .int .u32 0, .int .u32 0, .int .u32 0, .slice none 0 0]
theorem new_any (w : World) : Calls Try.prog 4 #[] w fun e w' => e = .returned (.pointer (some ⟨w.heap.size, 0, none⟩)) ∧ LinkAt w' w.heap.size (fun _ => .slice none 0 0) [] ⟨0, ⟨[], 0, 0, []⟩, ⟨[], 0, 0, []⟩, []⟩ ∧ Below w.heap.size w w' := by
  have Z := Lib.hid (blk_at (w := w) (g := w.heap.size) (cs := lcells ⟨0, ⟨[], 0, 0, []⟩, ⟨[], 0, 0, []⟩, []⟩ (fun _ => .slice none 0 0)) (t := 55) (arr := #[.int .u32 0, .slice none 0 0, .int .u32 0, .int .u32 0, .slice none 0 0, .slice none 0 0, .int .u32 0, .int .u32 0, .slice none 0 0, .slice none 0 0]) rfl rfl)
  go_enter Try.func4, Try.ntmps4
  go_wp2_with fail
  go_ret
  refine ⟨rfl, ⟨Z.out, fun n hn => ?_, fun n hn => ?_, RowOf.nil, (fun i j _ _ _ g hg => by cases hg), (fun x hx => by cases hx)⟩, (Below.refl _ _).alloc (Nat.le_refl _) _⟩
  · obtain rfl | rfl : n = 0 ∨ n = 1 := by omega
    · exact RowOf.nil
    · exact RowOf.nil
  · obtain rfl | rfl : n = 0 ∨ n = 1 := by omega
    · exact RowOf.nil
    · exact RowOf.nil
theorem send_nil (n : Int) (a : Option Addr) (l c : Nat) (w : World) : Calls Try.prog 7 #[.pointer none, .int .i64 n, .slice a l c] w fun e w' => e = .returned (.int .i64 2) ∧ w = w' := by
  go_enter Try.func7, Try.ntmps7
  go_wp2_with fail
  go_ret
  exact ⟨rfl, rfl⟩
theorem flight_nil (w : World) : Calls Try.prog 8 #[.pointer none] w fun e w' => e = .returned (.slice none 0 0) ∧ w = w' := by
  go_enter Try.func8, Try.ntmps8
  go_wp2_with fail
  go_ret
  exact ⟨rfl, rfl⟩
theorem tick_nil (w : World) : Calls Try.prog 11 #[.pointer none] w fun e w' => e = .returned (.int .i64 0) ∧ w = w' := by
  go_enter Try.func11, Try.ntmps11
  go_wp2_with fail
  go_ret
  exact ⟨rfl, rfl⟩
theorem got_nil (n : Int) (w : World) : Calls Try.prog 13 #[.pointer none, .int .i64 n] w fun e w' => e = .returned (.slice none 0 0) ∧ w = w' := by
  go_enter Try.func13, Try.ntmps13
  go_wp2_with fail
  go_ret
  exact ⟨rfl, rfl⟩
theorem open_nil (n : Int) (w : World) : Calls Try.prog 16 #[.pointer none, .int .i64 n] w fun e w' => e = .returned (.int .i64 0) ∧ w = w' := by
  go_enter Try.func16, Try.ntmps16
  go_wp2_with fail
  go_ret
  exact ⟨rfl, rfl⟩
theorem twin_nil (n : Int) (w : World) : Calls Try.prog 10 #[.pointer none, .int .i64 n] w fun e w' => e = .returned (.int .i64 2) ∧ w = w' := by
  go_enter Try.func10, Try.ntmps10
  go_wp2_with fail
  go_ret
  exact ⟨rfl, rfl⟩
theorem take_nil (n : Int) (w : World) : Calls Try.prog 27 #[.pointer none, .int .i64 n] w fun e w' => e = .returned (.tuple #[.agg zpk.toArray, .bool false]) ∧ Below w.heap.size w w' := by
  have Z := Lib.hid (blk_at (w := w) (g := w.heap.size) (cs := zpk) (t := 78) (arr := #[.int .i64 0, .int .u32 0, .int .u32 0, .int .u32 0, .slice none 0 0]) rfl rfl)
  go_enter Try.func27, Try.ntmps27
  go_upto_region 1 with (fail)
  obtain ⟨w1, hw1⟩ : ∃ w1, w1 = w.alloc (.cells #[.int .i64 0, .int .u32 0, .int .u32 0, .int .u32 0, .slice none 0 0] 78) := ⟨_, rfl⟩
  have L1 := Lib.hid (show Below w.heap.size w w1 from hw1 ▸ ((Below.refl w.heap.size w).alloc (Nat.le_refl _) _))
  rw [← hw1] at Z ⊢
  clear hw1
  go_wp2_with (first | (refine wpList_store_blk rfl 78 _ _ rfl w.heap.size 0 5 rfl 78 zpk zpk rfl Z.out (by kernel_rfl) rfl (by decide) (by decide) ?_; intro w2 z2 g2; have Z2 := Lib.hid (show Blk w2 w.heap.size zpk 78 from z2); have L2 := Lib.hid (below_grown L1.out g2 L1.out.size (Nat.le_refl _)); clear z2 g2))
  exact bodyPost_ret (v := .tuple #[.agg zpk.toArray, .bool false]) (results_cell_two rfl _ _ w.heap.size 78 _ (0, 0) _ _ rfl rfl Z2.out Try.underlying78 rfl (by kernel_rfl)) rfl ⟨rfl, L2.out⟩
theorem deliver_nil (n : Int) (w : World) : Calls Try.prog 12 #[.pointer none, .int .i64 n] w fun e w' => e = .returned (.int .i64 2) ∧ Below w.heap.size w w' := by
  have TN := Lib.hid (take_nil n w)
  go_enter Try.func12, Try.ntmps12
  go_wp2_with fail
  refine TN.out.mono ?_
  rintro e w1 ⟨rfl, hb⟩
  have HB := Lib.hid hb
  have hs := hb.size
  have Z := Lib.hid (blk_at (w := w1) (g := w1.heap.size) (cs := zpk) (t := 78) (arr := #[.int .i64 0, .int .u32 0, .int .u32 0, .int .u32 0, .slice none 0 0]) rfl rfl)
  clear hb TN
  go_wp2_with (first | (refine wpList_store_blk rfl 78 _ _ rfl w1.heap.size 0 5 rfl 78 zpk zpk rfl Z.out (by kernel_rfl) rfl (by decide) (by decide) ?_; intro w2 z2 g2; have L2 := Lib.hid (below_grown ((HB.out.alloc hs _)) g2 (by simp; omega) hs); clear z2 g2))
  go_ret
  exact ⟨rfl, L2.out⟩
theorem drop_nil (n : Int) (w : World) : Calls Try.prog 9 #[.pointer none, .int .i64 n] w fun e w' => e = .returned (.int .i64 2) ∧ Below w.heap.size w w' := by
  have TN := Lib.hid (take_nil n w)
  go_enter Try.func9, Try.ntmps9
  go_wp2_with fail
  refine TN.out.mono ?_
  rintro e w1 ⟨rfl, hb⟩
  have HB := Lib.hid hb
  have hs := hb.size
  have Z := Lib.hid (blk_at (w := w1) (g := w1.heap.size) (cs := zpk) (t := 78) (arr := #[.int .i64 0, .int .u32 0, .int .u32 0, .int .u32 0, .slice none 0 0]) rfl rfl)
  clear hb TN
  go_wp2_with (first | (refine wpList_store_blk rfl 78 _ _ rfl w1.heap.size 0 5 rfl 78 zpk zpk rfl Z.out (by kernel_rfl) rfl (by decide) (by decide) ?_; intro w2 z2 g2; have L2 := Lib.hid (below_grown ((HB.out.alloc hs _)) g2 (by simp; omega) hs); clear z2 g2))
  go_ret
  exact ⟨rfl, L2.out⟩
end Go.Proofs.Ytgnnjinpcdemiaa.Link
