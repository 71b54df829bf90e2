/-
  Rows of records beside a memory; what a cut leaves. Helper text; no statement is proved here.
-/
import Derived.Test.YtobblbplanimgaaNv7Nil
import Derived.Test.YtobblbplanimgaaRefPack
set_option linter.unusedVariables false
set_option maxRecDepth 20000
set_option linter.unusedSimpArgs false
namespace Go.Proofs.Ytobblbplanimgaa.Nvram
open Go.RowKit Go.Proofs.Ytobblbplanimgaa.Base Go.Proofs.Ytobblbplanimgaa.Laws Go.Proofs.Ytobblbplanimgaa.Disk Go.Proofs.Ytobblbplanimgaa.Row Go.Proofs.Ytobblbplanimgaa.Codec Go.Proofs.Ytobblbplanimgaa.InvL Go.Proofs.Ytobblbplanimgaa.InvM
/-- what stands behind whole records: nothing, or the beginning of one -/
def Tail (t : List UInt8) : Prop := t = [] ∨ ∃ y : Rc, y.Valid ∧ y.Good ∧ t = y.bytes.take 18
theorem scan_tail {rs : List Rc} {t : List UInt8} (h : ∀ r ∈ rs, r.Valid ∧ r.Good) (ht : Tail t) : scanAll (laidAll rs ++ t) = rs := by
  rcases ht with rfl | ⟨y, hy, gy, rfl⟩
  · rw [List.append_nil]
    exact scan_laid rs h
  · have hl := laidAll_len (fun r hr => (h r hr).1)
    have hy37 := Rc.bytes_len hy
    have h2 : ∀ r ∈ rs ++ [y], r.Valid ∧ r.Good := fun r hr => by
      rcases List.mem_append.1 hr with h1 | h1
      · exact h r h1
      · simp at h1; subst h1; exact ⟨hy, gy⟩
    have := scan_cut (rs ++ [y]) h2 (37 * rs.length + 18) (by rw [laidAll_append, List.length_append, hl]; simp [laidAll, hy37])
    rw [laidAll_append, show (37 * rs.length + 18) / 37 = rs.length from by omega, List.take_left] at this
    have e : laidAll [y] = y.bytes := by simp [laidAll]
    rw [e, ← hl, List.take_append, List.take_of_length_le (by omega), show (laidAll rs).length + 18 - (laidAll rs).length = 18 from by omega] at this
    exact this
theorem tail_len {t : List UInt8} (h : Tail t) : t.length ≤ 18 := by
  rcases h with rfl | ⟨y, hy, gy, rfl⟩
  · simp
  · rw [List.length_take]; omega
theorem laid_one (x : Rc) (rs : List Rc) : laidAll (rs ++ [x]) = laidAll rs ++ x.bytes := by rw [laidAll_append]; simp [laidAll]
theorem ok_no {x : Rc} (h : ¬ x.Good) (w : World) : Calls Try.prog 13 #[.agg x.cells.toArray] w fun e w' => e = .returned (.bool false) ∧ Below w.heap.size w w' := rok_no (v := x.v) (l := x.l) h w
theorem ok_yes {x : Rc} (h : x.Good) (w : World) : Calls Try.prog 13 #[.agg x.cells.toArray] w fun e w' => e = .returned (.bool true) ∧ Below w.heap.size w w' := rok_yes (v := x.v) (l := x.l) h w
/-- records appended to a row beside -/
theorem run_append_rec {w : World} {base : Nat} {vk : Value} {ks : List Rc} {k : Nat} {x : Rc} {g cap : Nat} (hk : k ≤ 2000) (hx : x.Valid) (ho : w.ownsRow base 27 19 vk k (rv ks)) (hb : Blk w g x.cells 27) (hbase : base ≤ w.heap.size) :
    ∃ v' w', (Builtin.append_ #[22, 22] 22 #[vk, .slice (some ⟨g, 0, none⟩) 1 cap]).run Try.prog w = .ok v' w' ∧ w'.ownsRow base 27 19 v' (k + 1) (rv (ks ++ [x])) ∧ w.grownBy w' vk.ownBlock ∧ (v'.ownBlock = vk.ownBlock ∨ v'.ownBlock = some w.heap.size) := by
  have := run_append_any_at (P := Try.prog) w base 22 22 27 (.agg zrec.toArray) 19 40 Try.underlying22 info_rec rfl (by decide) vk k (rv ks) ho (some ⟨g, 0, none⟩) 1 cap x.cells (src_rec hx hb) (by omega) (by unfold maxLen; omega) hbase
  rw [rv_append, rv_one]
  exact this
/-- a row of records is a slice of records -/
theorem own_recs {w : World} {base : Nat} {v : Value} {n : Nat} {rs : List Rc} (hn : rs.length = n) (hv : ∀ r ∈ rs, r.Valid) (h : w.ownsRow base 27 19 v n (rv rs)) : ∃ a cap, v = .slice a n cap ∧ Recs w a n cap rs := recs_own hn hv h
/-- two rows lie apart -/
def Apart (v u : Value) : Prop := ∀ g, v.ownBlock = some g → u.ownBlock ≠ some g
section
variable {w w' : World} {br bm size n sz : Nat} {v v' vk vk' : Value} {B : List UInt8} {xs : List Value} {e : TypeId}
theorem _root_.Go.Proofs.Ytobblbplanimgaa.Nvram.RamAt.drewN (h : RamAt w br bm size v B) (nd : Nat) : RamAt (w.drewN nd) br bm size v B := { h with head := h.head.drewN nd, own := h.own }
theorem blk_ge (h : RamAt w br bm size v B) : br ≤ blkOf v br := by
  unfold blkOf
  cases hv : v.ownBlock with
  | none => exact Nat.le_refl _
  | some g => have := (own_lt h.own hv).1; simp; omega
theorem ram_set (h : RamAt w br bm size v B) {g : Nat} (hg : g < bm) : g ∉ [br, bm, blkOf v br] := by
  have h1 := blk_ge h
  have h2 := h.lt
  simp
  omega
theorem ram_ge (h : RamAt w br bm size v B) {b : Nat} (hb : b ≤ bm) : ∀ x ∈ [br, bm, blkOf v br], b ≤ x := by
  have h1 := blk_ge h
  have h2 := h.lt
  simp
  omega
theorem row_set (h : RamAt w br bm size v B) (hk : w.ownsRow (br + 1) e sz vk n xs) (ha : Apart v vk) : ∀ g, vk.ownBlock = some g → g ∉ [br, bm, blkOf v br] := fun g hg => by
  have h1 := (own_lt hk hg).1
  have h2 := h.lt
  simp only [List.mem_cons, List.not_mem_nil, or_false, not_or]
  refine ⟨by omega, by omega, fun e => ?_⟩
  unfold blkOf at e
  cases hv : v.ownBlock with
  | none => rw [hv] at e; simp at e; omega
  | some g' => rw [hv] at e; simp at e; exact ha g' hv (by rw [hg, e])
theorem apart_after (hk : w.ownsRow (br + 1) e sz vk n xs) (ha : Apart v vk) (ho : ∀ g, v'.ownBlock = some g → v.ownBlock = some g ∨ w.heap.size ≤ g) : Apart v' vk := fun g hg hk2 => by
  rcases ho g hg with h | h
  · exact ha g h hk2
  · have := (own_lt hk hk2).2; omega
theorem apart_row (h : RamAt w br bm size v B) (ha : Apart v vk) (ho : vk'.ownBlock = vk.ownBlock ∨ vk'.ownBlock = some w.heap.size) : Apart v vk' := fun g hg hk2 => by
  rcases ho with h1 | h1
  · exact ha g hg (h1 ▸ hk2)
  · rw [h1] at hk2; cases hk2; have := (own_lt h.own hg).2; omega
theorem only_list {row : Option Nat} (h : w.grownBy w' row) : Only row.toList w w' :=
  ⟨h.os, h.tape, h.output, h.size, fun k hk hn => h.block k hk (by intro e; apply hn; rw [← e]; simp)⟩
theorem ram_row (h : RamAt w br bm size v B) (hk : w.ownsRow (br + 1) e sz vk n xs) (ha : Apart v vk) (hg : w.grownBy w' vk.ownBlock) : RamAt w' br bm size v B :=
  h.only (only_list hg) (by simp; intro e; have := (own_lt hk e).1; omega) (fun g hv => by simp; exact ha g hv)
theorem low_row {cs : List Value} {t : TypeId} {g : Nat} (h : Blk w g cs t) (hk : w.ownsRow (br + 1) e sz vk n xs) (hlt : g ≤ br) (hg : w.grownBy w' vk.ownBlock) : Blk w' g cs t :=
  h.only (only_list hg) (by simp; intro e; have := (own_lt hk e).1; omega)
theorem row_ge (hk : w.ownsRow (br + 1) e sz vk n xs) {b : Nat} (hb : b ≤ br) : ∀ x ∈ vk.ownBlock.toList, b ≤ x := fun x hx => by
  simp at hx
  have := (own_lt hk hx).1
  omega
end
end Go.Proofs.Ytobblbplanimgaa.Nvram
