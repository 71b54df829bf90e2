/-
  Laws of the walk that this seat's texts use beside the library's: append of whatever slice onto a row of the call's own. Helper text; no statement is proved here.
-/
import Derived.WalkKit
import Derived.Lib.Hide
import Derived.Deep.RegionLaw
import Derived.Deep.Draws
import Derived.Laws.CopyOwn
set_option linter.unusedVariables false
set_option maxRecDepth 20000
namespace Go.Proofs.Ytfjaoompdleljaa.Laws
open Go.RowKit

/-- what a slice yields: m elements, the cells 'news' -/
def SrcOf (w : World) (a : Option Addr) (m size : Nat) (news : List Value) : Prop :=
  news.length = m * size ∧ (∀ u ∈ news, u.oneCell' = true) ∧ (m = 0 ∨ ∃ ad, a = some ad ∧ ∀ j u, news[j]? = some u → w.cell? (ad.add j) = some u)

theorem SrcOf.same {w w' : World} {a : Option Addr} {m size : Nat} {news : List Value} (h : SrcOf w a m size news) (hk : ∀ ad : Addr, ad.block < w.heap.size → w'.cell? ad = w.cell? ad) : SrcOf w' a m size news := by
  obtain ⟨h1, h2, h3⟩ := h
  refine ⟨h1, h2, ?_⟩
  rcases h3 with h3 | ⟨ad, e, hc⟩
  · exact .inl h3
  · exact .inr ⟨ad, e, fun j u hu => by
      have := hc j u hu
      have hb := World.block_lt_of_cell? w _ this
      rw [hk _ hb]
      exact this⟩

section
variable {P : Program} (w : World)
theorem run_append_nothing (t ty e : TypeId) (i : TypeInfo) (ht : P.underlying t = some (.slice e)) (hi : P.info? e = some i) (base : Nat) (v : Value) (n : Nat) (xs : List Value) (hown : w.ownsRow base e i.size v n xs) (a : Option Addr) (c : Nat) :
    (Builtin.append_ #[t, t] ty #[v, .slice a 0 c]).run P w = .ok v w := by
  rcases hown.2 with ⟨rfl, rfl⟩ | ⟨g, cap, cur, rfl, hbg, hg, hnc, hcm, hcs, htake⟩
  · cases a <;> simp [Builtin.append_, run_underlying ht, sizeOf, typeInfo, hi, Builtin.lenOf, Builtin.firstCells, loadCells, loadCellsFrom]
  · have h : n + 0 ≤ cap := by omega
    cases a <;> simp [Builtin.append_, run_underlying ht, sizeOf, typeInfo, hi, Builtin.lenOf, Builtin.firstCells, loadCells, loadCellsFrom, storeCells, hnc]

theorem run_append_any (base : Nat) (t ty e : TypeId) (i : TypeInfo) (z : Value) (size bytes : Nat) (ht : P.underlying t = some (.slice e)) (hi : P.info? e = some i) (hz : i.zero = some z)
    (hsize : i.size = size) (hby : i.bytes = bytes) (hzs : z.cells.size = size) (hsz : 0 < size)
    (v : Value) (n : Nat) (xs : List Value) (hown : w.ownsRow base e size v n xs)
    (a : Option Addr) (m c : Nat) (news : List Value) (hy : SrcOf w a m size news)
    (hbytes : (n + m) * bytes ≤ 140737488355328) (h63 : n + m ≤ maxLen) (hbase : base ≤ w.heap.size) :
    ∃ v' w', (Builtin.append_ #[t, t] ty #[v, .slice a m c]).run P w = .ok v' w' ∧ w'.ownsRow base e size v' (n + m) (xs ++ news) ∧ w.grownBy w' v.ownBlock := by
  obtain ⟨hl, h1, h2⟩ := hy
  by_cases hm : m = 0
  · subst hm
    obtain rfl : news = [] := List.eq_nil_of_length_eq_zero (by simpa using hl)
    subst hsize
    exact ⟨v, w, run_append_nothing w t ty e i ht hi base v n xs hown a c, by simpa using hown, rfl, rfl, rfl, Nat.le_refl _, fun _ _ _ => rfl⟩
  · rcases h2 with h2 | ⟨ad, rfl, hc⟩
    · exact absurd h2 hm
    · obtain ⟨v', w', hr, h3, h4, _⟩ := run_append_own (P := P) w base t ty e i z size bytes ht hi hz hsize hby hzs hsz v n xs hown ad m c news hl hc h1 h63 hbytes hbase
      exact ⟨v', w', hr, h3, h4⟩

/-- append of whatever slice onto a row of the call's own -/
theorem wpList_append_any {ops : Array Oper} {rest : List Oper} {o : Oper} {a : Act} {Q : Exit → Act → World → Prop} (hgd : o.guard = none) (s x : Operand) (t : TypeId)
    (ho : o.op = .call { callee := .builtin .append, args := #[s, x], argTypes := #[t, t] })
    (base : Nat) (e : TypeId) (z : Value) (size bytes : Nat) (ht : P.underlying t = some (.slice e)) (hi : (P.info? e).map (fun i => (i.zero, i.size, i.bytes)) = some (some z, size, bytes))
    (hzs : z.cells.size = size) (hsz : 0 < size)
    (v : Value) (n : Nat) (xs : List Value) (hs : a.eval s = v) (hown : w.ownsRow base e size v n xs)
    (ad : Option Addr) (m c : Nat) (news : List Value) (hx : a.eval x = .slice ad m c) (hy : SrcOf w ad m size news)
    (hbytes : (n + m) * bytes ≤ 140737488355328) (h63 : n + m ≤ maxLen) (hbase : base ≤ w.heap.size)
    (h : ∀ v' w', w'.ownsRow base e size v' (n + m) (xs ++ news) → w.grownBy w' v.ownBlock → wpList P ops Q rest (a.put o.dst v') w') : wpList P ops Q (o :: rest) a w := by
  obtain ⟨i, hi, hz, hsize, hby⟩ := info_parts hi
  refine wpList_plain hgd fun K hK => ?_
  obtain ⟨v', w', hr, h2, h3⟩ := run_append_any (P := P) w base t o.type e i z size bytes ht hi hz hsize hby hzs hsz v n xs hown ad m c news hy hbytes h63 hbase
  unfold Oper.wp execOp
  simp only [ho, resolve, invoke, builtin, Sem.run_bind, Sem.run_pure, Result.andThen_ok, List.map_toArray, List.map_cons, List.map_nil, hs, hx, hr]
  exact hK _ _ (h v' w' h2 h3)
end

/-- what an owned row of bytes (or any row) is known to hold -/
theorem own_slice {w : World} {base : Nat} {e : TypeId} {size : Nat} {v : Value} {n : Nat} {xs : List Value} (h : w.ownsRow base e size v n xs) (hs : 0 < size) :
    ∃ a cap, v = .slice a n cap ∧ n ≤ cap ∧ cap ≤ maxLen ∧ (n = 0 ∨ ∃ g, a = some ⟨g, 0, none⟩ ∧ base ≤ g ∧ ∀ j u, xs[j]? = some u → w.cell? ⟨g, 0 + j, none⟩ = some u) := by
  rcases h.2 with ⟨rfl, rfl⟩ | ⟨g, cap, cur, rfl, hb, hg, hn, hc, hcs, ht⟩
  · exact ⟨none, 0, rfl, Nat.le_refl _, by unfold maxLen; omega, .inl rfl⟩
  · refine ⟨_, _, rfl, hn, hc, .inr ⟨g, rfl, hb, fun j u hu => ?_⟩⟩
    rw [Nat.zero_add, cell_of_row w g j cur e (0, 0) hg]
    rw [← ht, List.getElem?_take] at hu
    split at hu
    · simpa using hu
    · cases hu
/-! ### blocks -/
/-- block g is a row of cells that is not frozen -/
def Blk (w : World) (g : Nat) (cs : List Value) (t : TypeId) : Prop := w.heap[g]? = some (.cells cs.toArray t (0, 0))
theorem Blk.lt {w : World} {g : Nat} {cs : List Value} {t : TypeId} (h : Blk w g cs t) : g < w.heap.size := (Array.getElem?_eq_some_iff.1 h).1
theorem Blk.cell {w : World} {g : Nat} {cs : List Value} {t : TypeId} (h : Blk w g cs t) (j : Nat) : w.cell? ⟨g, j, none⟩ = cs[j]? := by rw [cell_of_row w g j _ t (0, 0) h]; simp
theorem Blk.frozen {w : World} {g : Nat} {cs : List Value} {t : TypeId} (h : Blk w g cs t) (j : Nat) : w.frozen? ⟨g, j, none⟩ = false := frozen_of_row w g j _ t h
theorem blk_new (w : World) (cs : List Value) (t : TypeId) : Blk (w.alloc (.cells cs.toArray t)) w.heap.size cs t := heap_alloc_new w _
theorem size_alloc (w : World) (o : Obj) : (w.alloc o).heap.size = w.heap.size + 1 := by simp
theorem blk_at {w : World} {cs : List Value} {t : TypeId} {g : Nat} {arr : Array Value} (hg : w.heap.size = g) (ha : cs.toArray = arr) : Blk (w.alloc (.cells arr t)) g cs t := by
  subst hg; subst ha; exact blk_new w cs t
theorem Blk.alloc {w : World} {g : Nat} {cs : List Value} {t : TypeId} (h : Blk w g cs t) (o : Obj) : Blk (w.alloc o) g cs t := (Below.heap_alloc w o g h.lt).trans h
theorem Blk.below {w w' : World} {g : Nat} {cs : List Value} {t : TypeId} {B : Nat} (h : Blk w g cs t) (hb : Below B w w') (hg : g < B) : Blk w' g cs t := (hb.block g hg).trans h
theorem Blk.drewN {w : World} {g : Nat} {cs : List Value} {t : TypeId} (h : Blk w g cs t) (n : Nat) : Blk (w.drewN n) g cs t := h
theorem Blk.drew {w : World} {g : Nat} {cs : List Value} {t : TypeId} (h : Blk w g cs t) : Blk w.drew g cs t := h
theorem Blk.setCell {w : World} {g : Nat} {cs : List Value} {t : TypeId} (h : Blk w g cs t) (i : Nat) (v : Value) : Blk (w.setCell ⟨g, i, none⟩ v) g (cs.set i v) t := by
  have := heap_setCell_same w g i _ t v h
  unfold Blk
  rw [this]
  simp
theorem Blk.setCell_far {w : World} {g : Nat} {cs : List Value} {t : TypeId} (h : Blk w g cs t) {g' : Nat} (hg : g ≠ g') (i : Nat) (v : Value) : Blk (w.setCell ⟨g', i, none⟩ v) g cs t := by
  unfold Blk
  rw [heap_setCell_other w ⟨g', i, none⟩ g v hg]
  exact h
theorem Blk.setRow {w : World} {g : Nat} {cs : List Value} {t : TypeId} (h : Blk w g cs t) (cs' : List Value) : Blk (w.setRow g cs'.toArray) g cs' t := setRow_heap w g _ _ t _ h
theorem Blk.setRow_far {w : World} {g : Nat} {cs : List Value} {t : TypeId} (h : Blk w g cs t) {g' : Nat} (hg : g ≠ g') (cs' : Array Value) : Blk (w.setRow g' cs') g cs t := (setRow_other w g' g cs' hg).trans h
theorem below_drewN {B : Nat} {a w : World} (h : Below B a w) (n : Nat) : Below B a (w.drewN n) := ⟨h.os, h.tape, h.output, h.size, h.block⟩
theorem below_setRow {B g : Nat} {w0 w : World} (hb : Below B w0 w) (hBg : B ≤ g) (cs : Array Value) : Below B w0 (w.setRow g cs) :=
  hb.trans ⟨rfl, rfl, rfl, by simp [World.setRow], fun k hk => setRow_other w g k cs (by omega)⟩
@[simp] theorem size_drewN (w : World) (n : Nat) : (w.drewN n).heap.size = w.heap.size := rfl
theorem set_mid {α : Type} (a b : List α) (x y : α) (k : Nat) (hk : a.length = k) : (a ++ x :: b).set k y = a ++ y :: b := by
  subst hk; simp

/-! ### whole pieces of a block: loaded, stored, copied, built -/
/-- the list with a piece of it written anew -/
def put {α : Type} (cs : List α) (off : Nat) (vs : List α) : List α := cs.take off ++ (vs ++ cs.drop (off + vs.length))
theorem put_len {α : Type} (cs : List α) (off : Nat) (vs : List α) (h : off + vs.length ≤ cs.length) : (put cs off vs).length = cs.length := by simp [put]; omega
theorem put_all {α : Type} (cs vs : List α) (h : vs.length = cs.length) : put cs 0 vs = vs := by simp [put, h]
/-- only block g may have changed, and what is new -/
theorem Blk.grown {w w' : World} {g g' : Nat} {cs : List Value} {t : TypeId} (h : Blk w g cs t) (hg : w.grownBy w' (some g')) (hne : g ≠ g') : Blk w' g cs t :=
  (hg.block g h.lt (by simpa using hne)).trans h
theorem below_grown {B g : Nat} {w0 w w' : World} (hb : Below B w0 w) (hg : w.grownBy w' (some g)) (hB : B ≤ w.heap.size) (hBg : B ≤ g) : Below B w0 w' :=
  hb.grown hg hB (fun k hk => by cases hk; exact hBg)
theorem grown_setRow (w : World) (g : Nat) (cs : Array Value) : w.grownBy (w.setRow g cs) (some g) :=
  ⟨rfl, rfl, rfl, by simp, fun k hk hne => setRow_other w g k cs (fun e => hne (by rw [e]))⟩
theorem grown_trans {w w1 w2 : World} {g : Nat} (h : w.grownBy w1 (some g)) (k : w1.grownBy w2 (some g)) : w.grownBy w2 (some g) :=
  ⟨k.os.trans h.os, k.tape.trans h.tape, k.output.trans h.output, Nat.le_trans h.size k.size, fun i hi hne => (k.block i (Nat.lt_of_lt_of_le hi h.size) hne).trans (h.block i hi hne)⟩

section
variable {P : Program} {w : World}
theorem run_load_blk {g off m : Nat} {t ty : TypeId} {cs : List Value} {d : TypeDesc} (hg : Blk w g cs t) (hu : P.underlying ty = some d) (hd : (match d with | .struct _ | .array _ _ => true | _ => false) = true)
    (hi : (P.info? ty).map (·.size) = some m) (hm : off + m ≤ cs.length) : (loadVar ty ⟨g, off, none⟩).run P w = .ok (.agg ((cs.drop off).take m).toArray) w := by
  have hlen : ((cs.drop off).take m).length = m := by simp; omega
  have hl : (loadCells ⟨g, off, none⟩ m).run P w = .ok ((cs.drop off).take m).toArray w := by
    have := run_loadCells_list (P := P) w ⟨g, off, none⟩ ((cs.drop off).take m) (fun j v hv => by
      rw [Addr.add_lit, hg.cell]
      rw [List.getElem?_take] at hv
      split at hv
      · rwa [List.getElem?_drop] at hv
      · cases hv)
    rwa [hlen] at this
  obtain ⟨i, hi1, hi2⟩ := Option.map_eq_some_iff.1 hi
  have hs : (sizeOf ty).run P w = .ok m w := by simp [sizeOf, typeInfo, hi1, hi2]
  have ha : (isAgg ty).run P w = .ok true w := by
    unfold isAgg
    simp only [Sem.run_bind, run_underlying hu, Result.andThen_ok]
    cases d <;> first | rfl | (simp at hd)
  unfold loadVar
  simp [ha, hs, hl]
theorem wpList_load_blk {ops : Array Oper} {rest : List Oper} {o : Oper} {a : Act} {Q : Exit → Act → World → Prop} (hgd : o.guard = none) (ty : TypeId) (x : Operand) (ho : o.op = .load ty x)
    (g off m : Nat) (hx : a.eval x = .pointer (some ⟨g, off, none⟩)) (t : TypeId) (cs : List Value) (d : TypeDesc) (hg : Blk w g cs t)
    (hu : P.underlying ty = some d) (hd : (match d with | .struct _ | .array _ _ => true | _ => false) = true) (hi : (P.info? ty).map (·.size) = some m) (hm : off + m ≤ cs.length)
    (vs : List Value) (hv : (cs.drop off).take m = vs)
    (h : wpList P ops Q rest (a.put o.dst (.agg vs.toArray)) w) : wpList P ops Q (o :: rest) a w := by
  subst hv
  refine wpList_plain hgd fun K hK => ?_
  unfold Oper.wp execOp
  simp only [ho, hx, Instr.loadAt, Instr.sureAddr, Sem.run_bind, Sem.run_pure, Result.andThen_ok, run_load_blk hg hu hd hi hm]
  exact hK _ _ h

theorem run_store_blk {g off m : Nat} {t ty : TypeId} {cs vs : List Value} (hg : Blk w g cs t) (hi : (P.info? ty).map (·.size) = some m) (hl : vs.length = m) (hm : off + m ≤ cs.length) (h1 : ∀ v ∈ vs, v.oneCell' = true) :
    (storeVar ty ⟨g, off, none⟩ (.agg vs.toArray)).run P w = .ok () (w.setRow g (put cs off vs).toArray) := by
  have hst := run_storeCells_at P g off t vs 0 cs.toArray w hg (by simp; omega) h1
  obtain ⟨i, hi1, hi2⟩ := Option.map_eq_some_iff.1 hi
  have hs : (sizeOf ty).run P w = .ok m w := by simp [sizeOf, typeInfo, hi1, hi2]
  unfold storeVar
  have hc : ¬ (Value.agg vs.toArray).cells.size ≠ m := by simp [Value.cells, hl]
  have e : (cs.toArray.toList.take (off + 0) ++ vs ++ cs.toArray.toList.drop (off + 0 + vs.length)) = put cs off vs := by simp [put]
  rw [e] at hst
  simp only [Sem.run_bind, hs, Result.andThen_ok]
  rw [if_neg hc]
  exact hst
theorem wpList_store_blk {ops : Array Oper} {rest : List Oper} {o : Oper} {a : Act} {Q : Exit → Act → World → Prop} (hgd : o.guard = none) (ty : TypeId) (x y : Operand) (ho : o.op = .store ty x y)
    (g off m : Nat) (hx : a.eval x = .pointer (some ⟨g, off, none⟩)) (t : TypeId) (cs vs : List Value) (hy : a.eval y = .agg vs.toArray) (hg : Blk w g cs t)
    (hi : (P.info? ty).map (·.size) = some m) (hl : vs.length = m) (hm : off + m ≤ cs.length) (h1 : ∀ v ∈ vs, v.oneCell' = true)
    (h : ∀ w', Blk w' g (put cs off vs) t → w.grownBy w' (some g) → wpList P ops Q rest (a.put o.dst undef) w') : wpList P ops Q (o :: rest) a w := by
  refine wpList_plain hgd fun K hK => ?_
  unfold Oper.wp execOp
  simp only [ho, hx, hy, Instr.storeAt, Instr.sureAddr, Sem.run_bind, Sem.run_pure, Result.andThen_ok, run_store_blk hg hi hl hm h1]
  exact hK _ _ (h _ (hg.setRow _) (grown_setRow _ _ _))
theorem wpList_copy_blk {ops : Array Oper} {rest : List Oper} {o : Oper} {a : Act} {Q : Exit → Act → World → Prop} (hgd : o.guard = none) (d s : Operand) (dT sT : TypeId)
    (ho : o.op = .call { callee := .builtin .copy, args := #[d, s], argTypes := #[dT, sT] }) (elem : TypeId) (hu : P.underlying dT = some (.slice elem)) (hsz : (P.info? elem).map (·.size) = some 1)
    (g off dLen dCap : Nat) (ad : Addr) (sLen sCap : Nat) (hd : a.eval d = .slice (some ⟨g, off, none⟩) dLen dCap) (hs : a.eval s = .slice (some ad) sLen sCap)
    (cur : List Value) (t : TypeId) (hg : Blk w g cur t) (cs : List Value) (hn : cs.length = Nat.min sLen dLen)
    (hsrc : ∀ j v, cs[j]? = some v → w.cell? (ad.add j) = some v) (hfit : off + cs.length ≤ cur.length) (h1 : ∀ v ∈ cs, v.oneCell' = true)
    (h : ∀ w', Blk w' g (put cur off cs) t → w.grownBy w' (some g) → wpList P ops Q rest (a.put o.dst (goInt cs.length)) w') : wpList P ops Q (o :: rest) a w :=
  wpList_copy_own hgd d s dT sT ho elem hu hsz g off dLen dCap ad sLen sCap hd hs cur.toArray t hg cs hn hsrc (by simpa using hfit) h1 (by
    have e : (cur.toArray.toList.take off ++ (cs ++ cur.toArray.toList.drop (off + cs.length))) = put cur off cs := by simp [put]
    rw [e]
    exact h _ (hg.setRow _) (grown_setRow _ _ _))
end

theorem fold_put : ∀ (vs : List Value) (off j : Nat) (cs : List Value), off + j + vs.length ≤ cs.length →
    (vs.zipIdx j).foldl (fun (a : Array Value) (x : Value × Nat) => a.setIfInBounds (off + x.2) x.1) cs.toArray = (put cs (off + j) vs).toArray := by
  intro vs
  induction vs with
  | nil => intro off j cs h; simp [put]
  | cons v vs ih =>
    intro off j cs h
    simp only [List.length_cons] at h
    rw [List.zipIdx_cons, List.foldl_cons]
    simp only [List.setIfInBounds_toArray]
    rw [ih off (j + 1) _ (by simp; omega)]
    congr 1
    obtain ⟨A, b, B, hA, rfl⟩ : ∃ A b B, A.length = off + j ∧ cs = A ++ b :: B := by
      refine ⟨cs.take (off + j), cs[off + j]'(by omega), cs.drop (off + j + 1), by rw [List.length_take]; omega, ?_⟩
      rw [← List.drop_eq_getElem_cons, List.take_append_drop]
    rw [set_mid A B b v (off + j) hA]
    unfold put
    rw [← hA]
    have t1 : (A ++ v :: B).take (off + (j + 1)) = A ++ [v] := by
      rw [show off + (j + 1) = A.length + 1 from by omega, List.take_append, List.take_of_length_le (by omega), show A.length + 1 - A.length = 1 from by omega]; rfl
    have t2 : (A ++ v :: B).drop (off + (j + 1) + vs.length) = B.drop vs.length := by
      rw [show off + (j + 1) + vs.length = A.length + (1 + vs.length) from by omega, List.drop_append, List.drop_of_length_le (by omega), show A.length + (1 + vs.length) - A.length = vs.length + 1 from by omega]; rfl
    have t3 : (A ++ b :: B).take A.length = A := by simp
    have t4 : (A ++ b :: B).drop (A.length + (v :: vs).length) = B.drop vs.length := by
      rw [List.length_cons, List.drop_append, List.drop_of_length_le (by omega), show A.length + (vs.length + 1) - A.length = vs.length + 1 from by omega]; rfl
    rw [t1, t2, t3, t4]
    simp

/-- the parts of a built value, one behind the other -/
theorem fill_cons (place : Nat → Option (Nat × Nat)) (cs vs : List Value) (i off : Nat) (v : Value) (rest : List (Nat × Value)) (hp : place i = some (off, vs.length)) (hv : v.cells = vs.toArray) (hl : off + vs.length ≤ cs.length) :
    Instr.fill place cs.toArray ((i, v) :: rest) = Instr.fill place (put cs off vs).toArray rest := by
  unfold Instr.fill
  rw [hp]
  simp only [hv, List.size_toArray]
  rw [if_neg (by simp; omega)]
  have e : (vs.toArray.zipIdx.foldl (fun cs (x : Value × Nat) => match x with | (c, j) => cs.setIfInBounds (off + j) c) cs.toArray) = (put cs off vs).toArray := by
    have := fold_put vs off 0 cs (by omega)
    rw [Nat.add_zero] at this
    rw [← this, ← Array.foldl_toList]
    simp
  rw [e]
  cases rest <;> rfl
/-- one new cell as what is appended -/
theorem src_one {w : World} {v : Value} {t : TypeId} (h1 : v.oneCell' = true) : SrcOf (w.alloc (.cells #[v] t)) (some ⟨w.heap.size, 0, none⟩) 1 1 [v] := by
  refine ⟨rfl, fun u hu => by simp at hu; subst hu; exact h1, .inr ⟨_, rfl, fun j u hu => ?_⟩⟩
  rw [Addr.add_lit, Nat.zero_add, cell_of_row _ _ _ #[v] t (0, 0) (heap_alloc_new w _)]
  cases j with
  | zero => simpa using hu
  | succ j => simp at hu
theorem Blk.grownO {w w' : World} {g : Nat} {row : Option Nat} {cs : List Value} {t : TypeId} (h : Blk w g cs t) (hg : w.grownBy w' row) (hne : ∀ k, row = some k → g ≠ k) : Blk w' g cs t :=
  (hg.block g h.lt (by intro e; exact hne g e.symm rfl)).trans h
/-- a field of a value: a number, or a piece -/
theorem run_field_cell {P : Program} (w : World) {ty : TypeId} {fs : Array Field} {f : Field} {i : Nat} {cs : List Value} {v : Value} {d : TypeDesc} (hu : P.underlying ty = some (.struct fs)) (hf : fs[i]? = some f) (hd : P.underlying f.type = some d) (hn : (match d with | .struct _ | .array _ _ => false | _ => true) = true)
    (hc : cs[f.offset]? = some v) : (Instr.field ty (.agg cs.toArray) i).run P w = .ok v w := by
  have ha : (isAgg f.type).run P w = .ok false w := by
    unfold isAgg
    simp only [Sem.run_bind, run_underlying hd, Result.andThen_ok]
    cases d <;> first | rfl | (simp at hn)
  have hp : (part f.type cs.toArray f.offset).run P w = .ok v w := by
    unfold part
    simp [ha, hc]
  simp [Instr.field, run_underlying hu, hf, asAgg, hp]
theorem run_field_piece {P : Program} (w : World) {ty : TypeId} {fs : Array Field} {f : Field} {i m : Nat} {cs vs : List Value} {d : TypeDesc} (hu : P.underlying ty = some (.struct fs)) (hf : fs[i]? = some f) (hd : P.underlying f.type = some d) (hn : (match d with | .struct _ | .array _ _ => true | _ => false) = true)
    (hi : (P.info? f.type).map (·.size) = some m) (hc : (cs.drop f.offset).take m = vs) : (Instr.field ty (.agg cs.toArray) i).run P w = .ok (.agg vs.toArray) w := by
  have ha : (isAgg f.type).run P w = .ok true w := by
    unfold isAgg
    simp only [Sem.run_bind, run_underlying hd, Result.andThen_ok]
    cases d <;> first | rfl | (simp at hn)
  obtain ⟨it, hi1, hi2⟩ := Option.map_eq_some_iff.1 hi
  have hs : (sizeOf f.type).run P w = .ok m w := by simp [sizeOf, typeInfo, hi1, hi2]
  have e : cs.toArray.extract f.offset (f.offset + m) = vs.toArray := by
    rw [← hc]
    apply Array.ext'
    simp [List.extract_eq_take_drop]
  have hp : (part f.type cs.toArray f.offset).run P w = .ok (.agg vs.toArray) w := by
    unfold part
    simp only [Sem.run_bind, ha, Result.andThen_ok, if_true, hs, Sem.run_pure, e]
  simp [Instr.field, run_underlying hu, hf, asAgg, hp]
/-! ### steps of a region whose order is open -/
section
variable {P : Program} {w : World}
theorem wpStill_load_blk {ops : Array Oper} {rest : List Oper} {o : Oper} {a : Act} {Q : Act → Prop} (hgd : o.guard = none) (ty : TypeId) (x : Operand) (ho : o.op = .load ty x)
    (g off m : Nat) (hx : a.eval x = .pointer (some ⟨g, off, none⟩)) (t : TypeId) (cs : List Value) (d : TypeDesc) (hg : Blk w g cs t)
    (hu : P.underlying ty = some d) (hd : (match d with | .struct _ | .array _ _ => true | _ => false) = true) (hi : (P.info? ty).map (·.size) = some m) (hm : off + m ≤ cs.length)
    (vs : List Value) (hv : (cs.drop off).take m = vs) (h : wpStill P ops w Q rest (a.put o.dst (.agg vs.toArray))) : wpStill P ops w Q (o :: rest) a := by
  subst hv
  refine wpStill_step fun K hK => ?_
  rw [if_pos (by simp [Region.wanted, hgd])]
  unfold Oper.still execOp
  simp only [ho, hx, Instr.loadAt, Instr.sureAddr, Sem.run_bind, Sem.run_pure, Result.andThen_ok, run_load_blk hg hu hd hi hm]
  exact ⟨rfl, hK _ h⟩
theorem wpStill_value {ops : Array Oper} {rest : List Oper} {o : Oper} {a : Act} {Q : Act → Prop} (hgd : o.guard = none) (v : Value) (hr : (execOp a.eval o).run P w = .ok (.value v) w)
    (h : wpStill P ops w Q rest (a.put o.dst v)) : wpStill P ops w Q (o :: rest) a := by
  refine wpStill_step fun K hK => ?_
  rw [if_pos (by simp [Region.wanted, hgd])]
  unfold Oper.still
  rw [hr]
  exact ⟨rfl, hK _ h⟩
theorem wpList_builds {ops : Array Oper} {rest : List Oper} {o : Oper} {a : Act} {Q : Exit → Act → World → Prop} (hgd : o.guard = none) (t : TypeId) (parts : Array (Nat × Operand)) (ho : o.op = .build t parts)
    (vs : List (Nat × Value)) (hx : parts.toList.map (fun (i, x) => (i, a.eval x)) = vs) (cells : Array Value) (hb : P.built t vs = some cells)
    (h : wpList P ops Q rest (a.put o.dst (.agg cells)) w) : wpList P ops Q (o :: rest) a w := by
  refine wpList_plain hgd fun K hK => ?_
  unfold Oper.wp execOp
  simp only [ho]
  have hx' : parts.map (fun (i, x) => (i, a.eval x)) = vs.toArray := by rw [← hx]; apply Array.ext'; simp
  rw [hx']
  simp only [Sem.run_bind, run_build w t vs.toArray cells hb, Result.andThen_ok, Sem.run_pure]
  exact hK _ _ h
end
end Go.Proofs.Ytfjaoompdleljaa.Laws
