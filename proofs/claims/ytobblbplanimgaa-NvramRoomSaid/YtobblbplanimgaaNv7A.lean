/-
  The fixed fact of the memories' statements; nil memories. Helper text; no statement is proved here.
-/
import Derived.Test.YtobblbplanimgaaNvLoad
set_option linter.unusedVariables false
set_option maxRecDepth 20000
set_option linter.unusedSimpArgs false
namespace Go.Proofs.Ytobblbplanimgaa.Nvram
open Go.RowKit Go.Proofs.Ytobblbplanimgaa.Base Go.Proofs.Ytobblbplanimgaa.Laws Go.Proofs.Ytobblbplanimgaa.Disk Go.Proofs.Ytobblbplanimgaa.Row Go.Proofs.Ytobblbplanimgaa.Codec Go.Proofs.Ytobblbplanimgaa.InvL Go.Proofs.Ytobblbplanimgaa.InvM
/-- a record with a kind and a place alone -/
def Rc.two (k a : Int) : Rc := ⟨k, 0, a, List.replicate 16 0⟩
theorem two_valid {k a : Int} (hk : I64 k) (ha : I64 a) : (Rc.two k a).Valid := ⟨rfl, by show (0 : Nat) < _; decide, hk, ha⟩
theorem two_built (k a : Int) : Try.prog.built 27 [(0, .int .i64 k), (2, .int .i64 a)] = some (Rc.two k a).cells.toArray := by kernel_rfl
section
variable {w : World} {br bm size : Nat} {v : Value} {B : List UInt8} {p : Pow}
theorem used_at (h : RamAt w br bm size v B) (n : Nat) (hn : B.length = n) (nv : Int) (hv : nv = n) : Calls Try.prog 19 #[.pointer (some ⟨br, 0, none⟩)] w fun e w' => e = .returned (.int .i64 nv) ∧ w = w' := by
  subst hv
  subst hn
  exact used_any h
theorem room_at (h : RamAt w br bm size v B) (n : Nat) (hn : (size - B.length) / 37 = n) (nv : Int) (hv : nv = n) : Calls Try.prog 20 #[.pointer (some ⟨br, 0, none⟩)] w fun e w' => e = .returned (.int .i64 nv) ∧ ∃ nd, w' = w.drewN nd := by
  subst hv
  subst hn
  exact room_any h
theorem new_at (hm : PowAt w bm p) (n : Nat) (h1 : 37 ≤ n) (h2 : n ≤ 65536) (nv : Int) (hv : nv = n) : Calls Try.prog 10 #[.int .i64 nv, .pointer (some ⟨bm, 0, none⟩)] w fun e w' => e = .returned (.tuple #[.pointer (some ⟨w.heap.size, 0, none⟩), .int .i64 0]) ∧ RamAt w' w.heap.size bm n (.slice none 0 0) [] ∧ Below w.heap.size w w' ∧ w'.heap.size = w.heap.size + 1 := by
  subst hv
  exact new_ok n h1 h2 hm
end
set_option maxHeartbeats 1000000 in
theorem awake_any (w : World) : Calls Try.prog 8 #[] w fun e w' => e = .returned (.bool true) ∧ Below w.heap.size w w' := by
  go_enter Try.func8, Try.ntmps8
  go_wp2_with fail
  refine (newmains w).mono ?_
  rintro e w1 ⟨rfl, p1, b1, z1⟩
  have NW := Lib.hid (new_at p1 100 (by decide) (by decide) 100 rfl)
  have P1 := Lib.hid p1
  have B1 := Lib.hid b1
  have hs1 : w.heap.size < w1.heap.size := by omega
  clear p1 b1 z1
  go_wp2_with fail
  refine NW.out.mono ?_
  rintro e w2 ⟨rfl, r2, b2, z2⟩
  have P2 := P1.out.only (Only.of_below (S := []) b2) (by simp)
  have B2 := Lib.hid (B1.out.trans (b2.mono (by omega)))
  have AP := Lib.hid (append_yes (x := Rc.two 1 4) r2 P2 ⟨by decide, by decide⟩ (two_valid (by unfold I64; decide) (by unfold I64; decide)) (by unfold Rc.Good Ok; decide) rfl (by decide) rfl)
  have hs2 := b2.size
  clear r2 P2 b2 z2 NW P1 B1
  go_wp2_with (first | (refine wpList_builds rfl 27 _ rfl [(0, .int .i64 1), (2, .int .i64 4)] rfl _ (two_built 1 4) ?_))
  refine AP.out.mono ?_
  rintro e w3 ⟨rfl, v3, r3, p3, _, o3⟩
  have B3 := Lib.hid (B2.out.trans (o3.below (by omega) (by simp [blkOf, Value.ownBlock]; omega)))
  have US := Lib.hid (used_at r3 37 rfl 37 rfl)
  have RM := Lib.hid (room_at r3 1 rfl 1 rfl)
  clear r3 p3 o3 AP
  go_wp2_with (first | (go_at_call 19; refine US.out.mono ?_; rintro e w' ⟨rfl, rfl⟩))
  refine RM.out.mono ?_
  rintro e w4 ⟨rfl, nd, rfl⟩
  go_wp2_with fail
  go_ret
  exact ⟨rfl, below_drewN B3.out nd⟩
end Go.Proofs.Ytobblbplanimgaa.Nvram
