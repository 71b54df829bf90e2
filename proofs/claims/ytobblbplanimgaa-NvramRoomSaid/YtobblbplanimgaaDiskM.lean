/-
  The power's methods by contract. Helper text; no statement is proved here.
-/
import Derived.Test.YtobblbplanimgaaDisk0
import Derived.Deep.QuietTactic
import Derived.BigQuiet
import Derived.Deep.RegionWith
set_option linter.unusedVariables false
set_option maxRecDepth 20000
set_option linter.unusedSimpArgs false
namespace Go.Proofs.Ytobblbplanimgaa.Disk
open Go.RowKit Go.Proofs.Ytobblbplanimgaa.Base Go.Proofs.Ytobblbplanimgaa.Laws
theorem PowAt.off {w : World} {b : Nat} {p : Pow} (h : PowAt w b p) : w.cell? ⟨b, 0, none⟩ = some (.int .u32 (if p.off then 1 else 0)) := Blk.cell h 0
theorem PowAt.left {w : World} {b : Nat} {p : Pow} (h : PowAt w b p) : w.cell? ⟨b, 1, none⟩ = some (.int .i64 (p.left : Int)) := Blk.cell h 1
theorem PowAt.steps {w : World} {b : Nat} {p : Pow} (h : PowAt w b p) : w.cell? ⟨b, 2, none⟩ = some (.int .i64 (p.steps : Int)) := Blk.cell h 2
theorem PowAt.set_off {w : World} {b : Nat} {p : Pow} (h : PowAt w b p) (x : Bool) : PowAt (w.setCell ⟨b, 0, none⟩ (.int .u32 (if x then 1 else 0))) b ⟨x, p.left, p.steps⟩ := Blk.setCell h 0 _
theorem PowAt.set_left {w : World} {b : Nat} {p : Pow} (h : PowAt w b p) (n : Nat) : PowAt (w.setCell ⟨b, 1, none⟩ (.int .i64 (n : Int))) b ⟨p.off, n, p.steps⟩ := Blk.setCell h 1 _
theorem PowAt.set_steps {w : World} {b : Nat} {p : Pow} (h : PowAt w b p) (n : Nat) : PowAt (w.setCell ⟨b, 2, none⟩ (.int .i64 (n : Int))) b ⟨p.off, p.left, n⟩ := Blk.setCell h 2 _
theorem PowAt.drewN {w : World} {b : Nat} {p : Pow} (h : PowAt w b p) (n : Nat) : PowAt (w.drewN n) b p := h
/-- calls of the library on the power's own cells -/
theorem off_load {w : World} {b : Nat} {p : Pow} (h : PowAt w b p) : Calls Try.prog 32 #[.pointer (some ⟨b, 0, none⟩)] w fun e w' => e = .returned (.bool p.off) ∧ w = w' :=
  bool_load b 0 p.off w h.off
theorem left_load {w : World} {b : Nat} {p : Pow} (h : PowAt w b p) : Calls Try.prog 41 #[.pointer (some ⟨b, 1, none⟩)] w fun e w' => e = .returned (.int .i64 (p.left : Int)) ∧ w = w' :=
  i64_load b 1 _ w h.left
theorem steps_load {w : World} {b : Nat} {p : Pow} (h : PowAt w b p) : Calls Try.prog 41 #[.pointer (some ⟨b, 2, none⟩)] w fun e w' => e = .returned (.int .i64 (p.steps : Int)) ∧ w = w' :=
  i64_load b 2 _ w h.steps
theorem off_store {w : World} {b : Nat} {p : Pow} (h : PowAt w b p) (x : Bool) : Calls Try.prog 36 #[.pointer (some ⟨b, 0, none⟩), .bool x] w fun e w' => e = .returned (.tuple #[]) ∧ PowAt w' b ⟨x, p.left, p.steps⟩ ∧ Only [b] w w' :=
  (bool_store b 0 x _ w h.off (Blk.frozen h 0)).mono fun e w' ⟨h1, n, h2⟩ => by
    subst h2
    exact ⟨h1, h.set_off x, ((Only.refl [b] w).setCell (by simp) _ _).drewN n⟩
theorem left_store {w : World} {b : Nat} {p : Pow} (h : PowAt w b p) (n : Nat) (y : Int) (hy : y = n) : Calls Try.prog 33 #[.pointer (some ⟨b, 1, none⟩), .int .i64 y] w fun e w' => e = .returned (.tuple #[]) ∧ PowAt w' b ⟨p.off, n, p.steps⟩ ∧ Only [b] w w' :=
  (i64_store b 1 y _ w h.left (Blk.frozen h 1)).mono fun e w' ⟨h1, h2⟩ => by
    subst h2
    subst hy
    exact ⟨h1, h.set_left n, (Only.refl [b] w).setCell (by simp) _ _⟩
theorem steps_add {w : World} {b : Nat} {p : Pow} (h : PowAt w b p) (hs : p.steps ≤ 4611686018427387904) : Calls Try.prog 46 #[.pointer (some ⟨b, 2, none⟩), .int .i64 1] w fun e w' => e = .returned (.int .i64 ((p.steps : Int) + 1)) ∧ PowAt w' b ⟨p.off, p.left, p.steps + 1⟩ ∧ Only [b] w w' :=
  (i64_add b 2 _ 1 w h.steps (Blk.frozen h 2) (by omega) (by omega) (by omega) (by omega)).mono fun e w' ⟨h1, h2⟩ => by
    subst h2
    exact ⟨h1, h.set_steps (p.steps + 1), (Only.refl [b] w).setCell (by simp) _ _⟩
/-! ### Mains -/
theorem on_any (b : Nat) (p : Pow) (w : World) (h : PowAt w b p) : Calls Try.prog 14 #[.pointer (some ⟨b, 0, none⟩)] w fun e w' => e = .returned (.bool (!p.off)) ∧ w = w' := by
  have H := Lib.hid (off_load h)
  clear h
  go_enter Try.func14, Try.ntmps14
  go_wp2_with (first | (go_at_call 32; refine H.out.mono ?_; rintro e w' ⟨rfl, rfl⟩))
  go_ret
  exact ⟨rfl, rfl⟩
theorem on_nil (w : World) : Calls Try.prog 14 #[.pointer none] w fun e w' => e = .returned (.bool false) ∧ w = w' := by
  go_enter Try.func14, Try.ntmps14
  go_wp2_with fail
  go_ret
  exact ⟨rfl, rfl⟩
theorem newmains (w : World) : Calls Try.prog 9 #[] w fun e w' => e = .returned (.pointer (some ⟨w.heap.size, 0, none⟩)) ∧ PowAt w' w.heap.size ⟨false, 0, 0⟩ ∧ Below w.heap.size w w' ∧ w'.heap.size = w.heap.size + 1 := by
  have Z := Lib.hid (blk_at (w := w) (g := w.heap.size) (cs := Pow.cells ⟨false, 0, 0⟩) (t := 73) (arr := #[.int .u32 0, .int .i64 0, .int .i64 0]) rfl rfl)
  go_enter Try.func9, Try.ntmps9
  go_wp2_with fail
  go_ret
  exact ⟨rfl, Z.out, (Below.refl _ _).alloc (Nat.le_refl _) _, by simp⟩
theorem steps_any (b : Nat) (p : Pow) (w : World) (h : PowAt w b p) (hp : p.Ok) : Calls Try.prog 30 #[.pointer (some ⟨b, 0, none⟩)] w fun e w' => e = .returned (.int .i64 (p.steps : Int)) ∧ w = w' := by
  have H := Lib.hid (steps_load h)
  obtain ⟨hp1, hp2⟩ := hp
  clear h
  go_enter Try.func30, Try.ntmps30
  go_wp2_with (first | (go_at_call 41; refine H.out.mono ?_; rintro e w' ⟨rfl, rfl⟩))
  go_ret
  exact ⟨rfl, rfl⟩
theorem steps_nil (w : World) : Calls Try.prog 30 #[.pointer none] w fun e w' => e = .returned (.int .i64 0) ∧ w = w' := by
  go_enter Try.func30, Try.ntmps30
  go_wp2_with fail
  go_ret
  exact ⟨rfl, rfl⟩
theorem restore_nil (w : World) : Calls Try.prog 15 #[.pointer none] w fun e w' => e = .returned (.tuple #[]) ∧ w = w' := by
  go_enter Try.func15, Try.ntmps15
  go_wp2_with fail
  go_end0
  exact ⟨rfl, rfl⟩
theorem restore_any (b : Nat) (p : Pow) (w : World) (h : PowAt w b p) : Calls Try.prog 15 #[.pointer (some ⟨b, 0, none⟩)] w fun e w' => e = .returned (.tuple #[]) ∧ PowAt w' b ⟨false, 0, p.steps⟩ ∧ Only [b] w w' := by
  have H := Lib.hid (off_store h false)
  have H2 := Lib.hid (fun w' (h : PowAt w' b ⟨false, p.left, p.steps⟩) => left_store h 0 0 rfl)
  clear h
  go_enter Try.func15, Try.ntmps15
  go_wp2_with fail
  refine H.out.mono ?_
  rintro e w1 ⟨rfl, h1, o1⟩
  have H3 := Lib.hid (H2.out w1 h1)
  have O1 := Lib.hid o1
  clear h1 o1 H H2
  go_wp2_with fail
  refine H3.out.mono ?_
  rintro e w2 ⟨rfl, h2, o2⟩
  have P2 := Lib.hid h2
  have O2 := Lib.hid (O1.out.trans o2)
  clear h2 o2 H3 O1
  go_wp2_with fail
  go_end0
  exact ⟨rfl, P2.out, O2.out⟩
theorem cut_nil (n : Int) (w : World) : Calls Try.prog 11 #[.pointer none, .int .i64 n] w fun e w' => e = .returned (.int .i64 2) ∧ w = w' := by
  go_enter Try.func11, Try.ntmps11
  go_wp2_with fail
  go_ret
  exact ⟨rfl, rfl⟩
theorem cut_low (b : Nat) (n : Int) (w : World) (hn : n < 0) : Calls Try.prog 11 #[.pointer (some ⟨b, 0, none⟩), .int .i64 n] w fun e w' => e = .returned (.int .i64 2) ∧ w = w' := by
  go_enter Try.func11, Try.ntmps11
  go_wp2_with fail
  go_ret
  exact ⟨rfl, rfl⟩
theorem cut_any (b : Nat) (p : Pow) (w : World) (h : PowAt w b p) (n : Nat) (hn : n ≤ 1000000) : Calls Try.prog 11 #[.pointer (some ⟨b, 0, none⟩), .int .i64 (n : Int)] w fun e w' => e = .returned (.int .i64 (if p.off then 4 else 0)) ∧ PowAt w' b (if p.off then p else ⟨p.off, n + 1, p.steps⟩) ∧ Only [b] w w' := by
  have H := Lib.hid (off_load h)
  have H2 := Lib.hid (left_store h (n + 1) ((n : Int) + 1) (by omega))
  have P := Lib.hid h
  have n0 : (0 : Int) ≤ (n : Int) := by omega
  have n1 : (n : Int) ≤ 1000000 := by omega
  clear h hn
  obtain ⟨off, left, steps⟩ := p
  cases off with
  | true =>
    go_enter Try.func11, Try.ntmps11
    go_wp2_with (first | (go_at_call 32; refine H.out.mono ?_; rintro e w' ⟨rfl, rfl⟩))
    go_ret
    exact ⟨rfl, P.out, Only.refl _ _⟩
  | false =>
    go_enter Try.func11, Try.ntmps11
    go_wp2_with (first | (go_at_call 32; refine H.out.mono ?_; rintro e w' ⟨rfl, rfl⟩))
    refine H2.out.mono ?_
    rintro e w1 ⟨rfl, h1, o1⟩
    have P1 := Lib.hid h1
    have O1 := Lib.hid o1
    clear h1 o1
    go_wp2_with fail
    go_ret
    exact ⟨rfl, P1.out, O1.out⟩
theorem step_nil (w : World) : Calls Try.prog 35 #[.pointer none] w fun e w' => e = .returned (.bool false) ∧ w = w' := by
  go_enter Try.func35, Try.ntmps35
  go_wp2_with (first | (go_at_call 14; refine (on_nil _).mono ?_; rintro e w' ⟨rfl, rfl⟩))
  go_ret
  exact ⟨rfl, rfl⟩
theorem step_any (b : Nat) (p : Pow) (w : World) (h : PowAt w b p) (hp : p.Ok) : Calls Try.prog 35 #[.pointer (some ⟨b, 0, none⟩)] w fun e w' => e = .returned (.bool p.step.1) ∧ PowAt w' b p.step.2 ∧ Only [b] w w' := by
  obtain ⟨off, left, steps⟩ := p
  obtain ⟨hp1, hp2⟩ := hp
  simp only at hp1 hp2
  have H := Lib.hid (on_any b _ w h)
  have L := Lib.hid (left_load h)
  have P := Lib.hid h
  clear h
  cases off with
  | true =>
    go_enter Try.func35, Try.ntmps35
    go_wp2_with (first | (go_at_call 14; refine H.out.mono ?_; rintro e w' ⟨rfl, rfl⟩))
    go_ret
    exact ⟨rfl, P.out, Only.refl _ _⟩
  | false =>
    by_cases h0 : left = 0
    · subst h0
      have A := Lib.hid (steps_add P.out hp2)
      go_enter Try.func35, Try.ntmps35
      go_wp2_with (first | (go_at_call 14; refine H.out.mono ?_; rintro e w' ⟨rfl, rfl⟩) | (go_at_call 41; refine L.out.mono ?_; rintro e w' ⟨rfl, rfl⟩))
      refine A.out.mono ?_
      rintro e w1 ⟨rfl, h1, o1⟩
      have P1 := Lib.hid h1
      have O1 := Lib.hid o1
      clear h1 o1
      go_wp2_with fail
      go_ret
      exact ⟨rfl, P1.out, O1.out⟩
    · by_cases h1 : left = 1
      · subst h1
        have A := Lib.hid (left_store P.out 0 0 rfl)
        have A2 := Lib.hid (fun w' (h : PowAt w' b ⟨false, 0, steps⟩) => off_store h true)
        go_enter Try.func35, Try.ntmps35
        go_wp2_with (first | (go_at_call 14; refine H.out.mono ?_; rintro e w' ⟨rfl, rfl⟩) | (go_at_call 41; refine L.out.mono ?_; rintro e w' ⟨rfl, rfl⟩))
        refine A.out.mono ?_
        rintro e w1 ⟨rfl, h1, o1⟩
        have A3 := Lib.hid (A2.out w1 h1)
        have O1 := Lib.hid o1
        clear h1 o1 A A2
        go_wp2_with fail
        refine A3.out.mono ?_
        rintro e w2 ⟨rfl, h2, o2⟩
        have P2 := Lib.hid h2
        have O2 := Lib.hid (O1.out.trans o2)
        clear h2 o2 A3
        go_wp2_with fail
        go_ret
        exact ⟨rfl, P2.out, O2.out⟩
      · have e0 : (((left : Nat) : Int) == 0) = false := by rw [beq_eq_false_iff_ne]; omega
        have e1 : (((left : Nat) : Int) == 1) = false := by rw [beq_eq_false_iff_ne]; omega
        have l1 : (1 : Int) ≤ (left : Int) := by omega
        have hst : Pow.step ⟨false, left, steps⟩ = (true, ⟨false, left - 1, steps + 1⟩) := by simp [Pow.step, h0, h1]
        have ST := Lib.hid hst
        have A := Lib.hid (left_store P.out (left - 1) ((left : Int) - 1) (by omega))
        have A2 := Lib.hid (fun w' (h : PowAt w' b ⟨false, left - 1, steps⟩) => steps_add h hp2)
        clear h0 h1 hst
        go_enter Try.func35, Try.ntmps35
        go_wp2_with (first | (go_at_call 14; refine H.out.mono ?_; rintro e w' ⟨rfl, rfl⟩) | (go_at_call 41; refine L.out.mono ?_; rintro e w' ⟨rfl, rfl⟩))
        refine A.out.mono ?_
        rintro e w1 ⟨rfl, h1, o1⟩
        have A3 := Lib.hid (A2.out w1 h1)
        have O1 := Lib.hid o1
        clear h1 o1 A A2
        go_wp2_with fail
        refine A3.out.mono ?_
        rintro e w2 ⟨rfl, h2, o2⟩
        have P2 := Lib.hid h2
        have O2 := Lib.hid (O1.out.trans o2)
        clear h2 o2 A3
        go_wp2_with fail
        go_ret
        rw [ST.out]
        exact ⟨rfl, P2.out, O2.out⟩
theorem step_at {b : Nat} {p : Pow} {w : World} (h : PowAt w b p) (hp : p.Ok) (r : Bool) (p' : Pow) (hr : p.step = (r, p')) : Calls Try.prog 35 #[.pointer (some ⟨b, 0, none⟩)] w fun e w' => e = .returned (.bool r) ∧ PowAt w' b p' ∧ Only [b] w w' := by
  have := step_any b p w h hp
  rw [hr] at this
  exact this
theorem cut_on {b l s : Nat} {w : World} (h : PowAt w b ⟨false, l, s⟩) (n : Nat) (nv : Int) (hnv : nv = (n : Int)) (hn : n ≤ 1000000) : Calls Try.prog 11 #[.pointer (some ⟨b, 0, none⟩), .int .i64 nv] w fun e w' => e = .returned (.int .i64 0) ∧ PowAt w' b ⟨false, n + 1, s⟩ ∧ Only [b] w w' := by
  subst hnv
  exact cut_any b _ w h n hn
theorem cut_off {b l s : Nat} {w : World} (h : PowAt w b ⟨true, l, s⟩) (n : Nat) (nv : Int) (hnv : nv = (n : Int)) (hn : n ≤ 1000000) : Calls Try.prog 11 #[.pointer (some ⟨b, 0, none⟩), .int .i64 nv] w fun e w' => e = .returned (.int .i64 4) ∧ PowAt w' b ⟨true, l, s⟩ ∧ Only [b] w w' := by
  subst hnv
  exact cut_any b _ w h n hn
theorem on_at {b : Nat} {p : Pow} {w : World} (h : PowAt w b p) (r : Bool) (hr : (!p.off) = r) : Calls Try.prog 14 #[.pointer (some ⟨b, 0, none⟩)] w fun e w' => e = .returned (.bool r) ∧ w = w' := by
  subst hr
  exact on_any b p w h
theorem steps_at {b : Nat} {p : Pow} {w : World} (h : PowAt w b p) (hp : p.Ok) (v : Int) (hv : v = p.steps) : Calls Try.prog 30 #[.pointer (some ⟨b, 0, none⟩)] w fun e w' => e = .returned (.int .i64 v) ∧ w = w' := by
  subst hv
  exact steps_any b p w h hp
end Go.Proofs.Ytobblbplanimgaa.Disk
