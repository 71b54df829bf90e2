/-
  Memories by contract: what one holds; new, room, append. Helper text; no statement is proved here.
-/
import Derived.Test.YtobblbplanimgaaRow
import Derived.Test.YtobblbplanimgaaDiskM
import Derived.Test.YtobblbplanimgaaScan
import Derived.StillTailTactics
set_option linter.unusedVariables false
set_option maxRecDepth 20000
set_option linter.unusedSimpArgs false
namespace Go.Proofs.Ytobblbplanimgaa.Nvram
open Go.RowKit Go.Proofs.Ytobblbplanimgaa.Base Go.Proofs.Ytobblbplanimgaa.Laws Go.Proofs.Ytobblbplanimgaa.Disk Go.Proofs.Ytobblbplanimgaa.Row Go.Proofs.Ytobblbplanimgaa.Codec Go.Proofs.Ytobblbplanimgaa.InvL Go.Proofs.Ytobblbplanimgaa.InvM
structure RamAt (w : World) (br bm size : Nat) (v : Value) (B : List UInt8) : Prop where
  head : Blk w br [.pointer (some ⟨bm, 0, none⟩), .int .i64 (size : Int), v] 75
  own : w.ownsRow (br + 1) 5 1 v B.length (bv B)
  lt : bm < br
  lo : 37 ≤ size
  hi : size ≤ 65536
  len : B.length ≤ size
section
variable {w w' : World} {br bm size : Nat} {v : Value} {B : List UInt8} {p : Pow}
theorem RamAt.only {S : List Nat} (h : RamAt w br bm size v B) (ho : Only S w w') (h1 : br ∉ S) (h2 : ∀ g, v.ownBlock = some g → g ∉ S) : RamAt w' br bm size v B :=
  { h with head := h.head.only ho h1, own := own_only h.own ho h2 }
theorem RamAt.below (h : RamAt w br bm size v B) (hb : Below w.heap.size w w') : RamAt w' br bm size v B :=
  h.only (Only.of_below (S := []) hb) (by simp) (by simp)
theorem RamAt.drew (h : RamAt w br bm size v B) : RamAt w.drew br bm size v B := { h with head := h.head.drew, own := h.own }
theorem RamAt.slice (h : RamAt w br bm size v B) : ∃ a cap, v = .slice a B.length cap ∧ Bts w a B.length cap B := OwnB.bts_own rfl h.own
theorem RamAt.c0 (h : RamAt w br bm size v B) : w.cell? ⟨br, 0, none⟩ = some (.pointer (some ⟨bm, 0, none⟩)) := h.head.cell 0
theorem RamAt.c1 (h : RamAt w br bm size v B) : w.cell? ⟨br, 1, none⟩ = some (.int .i64 (size : Int)) := h.head.cell 1
theorem RamAt.c2 (h : RamAt w br bm size v B) : w.cell? ⟨br, 2, none⟩ = some v := h.head.cell 2
/-- the slice's field is written -/
theorem RamAt.put (h : RamAt w br bm size v B) {v' : Value} {B' : List UInt8} (ho : w.ownsRow (br + 1) 5 1 v' B'.length (bv B')) (hl : B'.length ≤ size) : RamAt (w.setCell ⟨br, 2, none⟩ v') br bm size v' B' :=
  { h with
    head := h.head.setCell 2 v'
    own := own_only ho ((Only.refl [br] w).setCell (by simp) _ _) (fun g hg => by have := (own_lt ho hg).1; simp; omega)
    len := hl }
theorem new_ok (n : Nat) (h1 : 37 ≤ n) (h2 : n ≤ 65536) (hm : PowAt w bm p) : Calls Try.prog 10 #[.int .i64 (n : Int), .pointer (some ⟨bm, 0, none⟩)] w fun e w' => e = .returned (.tuple #[.pointer (some ⟨w.heap.size, 0, none⟩), .int .i64 0]) ∧ RamAt w' w.heap.size bm n (.slice none 0 0) [] ∧ Below w.heap.size w w' ∧ w'.heap.size = w.heap.size + 1 := by
  have hlt := hm.lt
  have i1 : (37 : Int) ≤ (n : Int) := by omega
  have i2 : (n : Int) ≤ 65536 := by omega
  have Z := Lib.hid (blk_at (w := w) (g := w.heap.size) (cs := [.pointer (some ⟨bm, 0, none⟩), .int .i64 (n : Int), .slice none 0 0]) (t := 75) (arr := #[.pointer (some ⟨bm, 0, none⟩), .int .i64 (n : Int), .slice none 0 0]) rfl rfl)
  clear hm
  go_enter Try.func10, Try.ntmps10
  go_wp2_with fail
  go_ret2
  exact ⟨rfl, ⟨Z.out, ⟨rfl, .inl ⟨rfl, rfl⟩⟩, hlt, h1, h2, Nat.zero_le _⟩, (Below.refl _ _).alloc (Nat.le_refl _) _, by simp⟩
theorem new_nilm (n : Nat) (h1 : 37 ≤ n) (h2 : n ≤ 65536) (w : World) : Calls Try.prog 10 #[.int .i64 (n : Int), .pointer none] w fun e w' => e = .returned (.tuple #[.pointer none, .int .i64 2]) ∧ w = w' := by
  have i1 : (37 : Int) ≤ (n : Int) := by omega
  have i2 : (n : Int) ≤ 65536 := by omega
  go_enter Try.func10, Try.ntmps10
  go_wp2_with fail
  go_ret2
  exact ⟨rfl, rfl⟩
theorem new_low (n : Int) (h : n < 37 ∨ 65536 < n) (m : Option Addr) (w : World) : Calls Try.prog 10 #[.int .i64 n, .pointer m] w fun e w' => e = .returned (.tuple #[.pointer none, .int .i64 2]) ∧ w = w' := by
  rcases h with h | h
  · go_enter Try.func10, Try.ntmps10
    go_wp2_with fail
    go_ret2
    exact ⟨rfl, rfl⟩
  · have h2 : ¬ n < 37 := by omega
    go_enter Try.func10, Try.ntmps10
    go_wp2_with fail
    go_ret2
    exact ⟨rfl, rfl⟩
theorem used_any (h : RamAt w br bm size v B) : Calls Try.prog 19 #[.pointer (some ⟨br, 0, none⟩)] w fun e w' => e = .returned (.int .i64 (B.length : Nat)) ∧ w = w' := by
  obtain ⟨a, cap, rfl, hb⟩ := h.slice
  have c2 := h.c2
  obtain ⟨n, hn⟩ : ∃ n, n = B.length := ⟨_, rfl⟩
  rw [← hn] at c2 ⊢
  clear h hb hn
  go_enter Try.func19, Try.ntmps19
  go_wp2_with fail
  go_ret
  exact ⟨rfl, rfl⟩
theorem room_any (h : RamAt w br bm size v B) : Calls Try.prog 20 #[.pointer (some ⟨br, 0, none⟩)] w fun e w' => e = .returned (.int .i64 ((size - B.length) / 37 : Nat)) ∧ ∃ nd, w' = w.drewN nd := by
  obtain ⟨a, cap, rfl, hb⟩ := h.slice
  have c1 := h.c1
  have c2 := h.c2
  have hl := h.len
  have hh := h.hi
  obtain ⟨n, hn⟩ : ∃ n, n = B.length := ⟨_, rfl⟩
  rw [← hn] at c2 hl ⊢
  clear h hb hn
  have i0 : (0 : Int) ≤ (size : Int) - (n : Int) := by omega
  have i1 : (size : Int) - (n : Int) ≤ 65536 := by omega
  have e1 : IntKind.i64.wrap ((size : Int) - (n : Int)) = (size : Int) - (n : Int) := Go.IntWalk.i64_in _ (by omega)
  have e2 : ((size : Int) - (n : Int)).tdiv 37 = (((size - n) / 37 : Nat) : Int) := by rw [Int.tdiv_eq_ediv_of_nonneg i0]; omega
  obtain ⟨r, hr⟩ : ∃ r, r = (size - n) / 37 := ⟨_, rfl⟩
  rw [← hr] at e2 ⊢
  have e3 : IntKind.i64.wrap (r : Int) = (r : Int) := Go.IntWalk.i64_in _ (by omega)
  have e4 : ((size : Int) - (n : Int)) / 37 = (r : Int) := by omega
  clear hr
  go_enter Try.func20, Try.ntmps20
  go_upto_region 3 with (fail)
  refine wp_region_still_lit (by kernel_rfl) (by kernel_rfl) ?_
  repeat still_step
  refine wpStill_nil ?_
  go_wp2_with fail
  go_ret
  exact ⟨rfl, 1, rfl⟩
/-- nil memories -/
theorem append_nil (c : Array Value) (w : World) : Calls Try.prog 12 #[.pointer none, .agg c] w fun e w' => e = .returned (.int .i64 2) ∧ Below w.heap.size w w' := by
  go_enter Try.func12, Try.ntmps12
  go_wp2_with fail
  go_ret
  exact ⟨rfl, (Below.refl _ _).alloc (Nat.le_refl _) _⟩
theorem load_nil (a : Option Addr) (n c : Nat) (w : World) : Calls Try.prog 21 #[.pointer none, .slice a n c] w fun e w' => e = .returned (.int .i64 2) ∧ w = w' := by
  go_enter Try.func21, Try.ntmps21
  go_wp2_with fail
  go_ret
  exact ⟨rfl, rfl⟩
theorem records_nil (w : World) : Calls Try.prog 17 #[.pointer none] w fun e w' => e = .returned (.slice none 0 0) ∧ w = w' := by
  go_enter Try.func17, Try.ntmps17
  go_wp2_with fail
  go_ret
  exact ⟨rfl, rfl⟩
theorem used_nil (w : World) : Calls Try.prog 19 #[.pointer none] w fun e w' => e = .returned (.int .i64 0) ∧ w = w' := by
  go_enter Try.func19, Try.ntmps19
  go_wp2_with fail
  go_ret
  exact ⟨rfl, rfl⟩
theorem room_nil (w : World) : Calls Try.prog 20 #[.pointer none] w fun e w' => e = .returned (.int .i64 0) ∧ w = w' := by
  go_enter Try.func20, Try.ntmps20
  go_wp2_with fail
  go_ret
  exact ⟨rfl, rfl⟩
theorem trim_nil (w : World) : Calls Try.prog 18 #[.pointer none] w fun e w' => e = .returned (.tuple #[]) ∧ w = w' := by
  go_enter Try.func18, Try.ntmps18
  go_wp2_with fail
  go_end0
  exact ⟨rfl, rfl⟩
theorem wipe_nil (w : World) : Calls Try.prog 22 #[.pointer none] w fun e w' => e = .returned (.tuple #[]) ∧ w = w' := by
  go_enter Try.func22, Try.ntmps22
  go_wp2_with fail
  go_end0
  exact ⟨rfl, rfl⟩
theorem wipe_any (h : RamAt w br bm size v B) : Calls Try.prog 22 #[.pointer (some ⟨br, 0, none⟩)] w fun e w' => e = .returned (.tuple #[]) ∧ RamAt w' br bm size (.slice none 0 0) [] ∧ Only [br] w w' := by
  have c2 := h.c2
  have f2 := h.head.frozen 2
  have H := Lib.hid (h.put (v' := .slice none 0 0) (B' := []) ⟨rfl, .inl ⟨rfl, rfl⟩⟩ (Nat.zero_le _))
  clear h
  go_enter Try.func22, Try.ntmps22
  go_wp2_with fail
  go_end0
  exact ⟨rfl, H.out, (Only.refl [br] w).setCell (by simp) _ _⟩
/-- the records -/
theorem records_any (h : RamAt w br bm size v B) : Calls Try.prog 17 #[.pointer (some ⟨br, 0, none⟩)] w fun e w' => ∃ r, e = .returned r ∧ w'.ownsRow w.heap.size 27 19 r (scanAll B).length (rv (scanAll B)) ∧ Below w.heap.size w w' := by
  obtain ⟨a, cap, rfl, hb⟩ := h.slice
  have c2 := h.c2
  have hl := h.len
  have hh := h.hi
  have SC := Lib.hid (scan_any a B.length cap B w hb (by omega))
  obtain ⟨n, hn⟩ : ∃ n, n = B.length := ⟨_, rfl⟩
  rw [← hn] at c2 SC
  clear h hb hn hl
  go_enter Try.func17, Try.ntmps17
  go_wp2_with fail
  refine SC.out.mono ?_
  rintro e w1 ⟨r, rfl, ho, hbl⟩
  have HO := Lib.hid ho
  have HB := Lib.hid hbl
  clear ho hbl SC c2
  go_wp2_with fail
  go_ret
  exact ⟨r, rfl, HO.out, HB.out⟩
end
end Go.Proofs.Ytobblbplanimgaa.Nvram
