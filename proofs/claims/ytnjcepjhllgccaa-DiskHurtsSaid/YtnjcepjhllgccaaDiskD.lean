/-
  Disks: what one holds; new ones. Helper text; no statement is proved here.
-/
import Derived.Test.YtnjcepjhllgccaaDiskM
import Derived.Test.YtnjcepjhllgccaaMakeF
set_option linter.unusedVariables false
set_option linter.unusedSimpArgs false
namespace Go.Proofs.Ytnjcepjhllgccaa.Disk
open Go.RowKit Go.Proofs.Ytnjcepjhllgccaa.Base Go.Proofs.Ytnjcepjhllgccaa.Laws Go.Proofs.Ytnjcepjhllgccaa.Flat
/-- a cell -/
structure Cel where
  d : List UInt8
  s : Nat
  deriving DecidableEq
def Cel.Ok (c : Cel) : Prop := c.d.length = 16 ∧ c.s < 4294967296
def Cel.cells (c : Cel) : List Value := bv c.d ++ [.int .u32 (c.s : Int)]
def Cel.zero : Cel := ⟨List.replicate 16 0, 0⟩
theorem Cel.zero_ok : Cel.zero.Ok := ⟨rfl, by decide⟩
theorem Cel.len {c : Cel} (h : c.Ok) : c.cells.length = 17 := by simp [Cel.cells, bv_len, h.1]
theorem bv_cell (l : List UInt8) : ∀ v ∈ bv l, v.oneCell' = true := fun v hv => by
  unfold bv at hv
  obtain ⟨x, _, rfl⟩ := List.mem_map.1 hv
  rfl
theorem Cel.one (c : Cel) : ∀ v ∈ c.cells, v.oneCell' = true := fun v hv => by
  unfold Cel.cells at hv
  rcases List.mem_append.1 hv with h | h
  · exact bv_cell _ v h
  · simp at h; subst h; rfl
/-- a sector: its cell; can it be read? -/
structure Sec where
  c : Cel
  good : Bool
  deriving DecidableEq
def Sec.cells (s : Sec) : List Value := s.c.cells ++ [.bool s.good]
def Sec.zero : Sec := ⟨Cel.zero, false⟩
theorem Sec.len {s : Sec} (h : s.c.Ok) : s.cells.length = 18 := by simp [Sec.cells, Cel.len h]
theorem Sec.one (s : Sec) : ∀ v ∈ s.cells, v.oneCell' = true := fun v hv => by
  unfold Sec.cells at hv
  rcases List.mem_append.1 hv with h | h
  · exact Cel.one _ v h
  · simp at h; subst h; rfl
/-- a disk: its key, has it failed, its sectors -/
structure Dsk where
  key : Nat
  dead : Bool
  secs : List Sec
structure DiskAt (w : World) (bd bm bs n : Nat) (D : Dsk) : Prop where
  head : Blk w bd [.pointer (some ⟨bm, 0, none⟩), .slice (some ⟨bs, 0, none⟩) n n, .int .u32 (D.key : Int), .bool D.dead] 61
  body : Blk w bs (flat Sec.cells D.secs) 63
  ok : ∀ s ∈ D.secs, s.c.Ok
  len : D.secs.length = n
  key : D.key < 4294967296
  lo : 1 ≤ n
  hi : n ≤ 1024
  ne1 : bd ≠ bm
  ne2 : bs ≠ bm
  ne3 : bs ≠ bd
theorem DiskAt.only {w w' : World} {bd bm bs n : Nat} {D : Dsk} {S : List Nat} (h : DiskAt w bd bm bs n D) (ho : Only S w w') (h1 : bd ∉ S) (h2 : bs ∉ S) : DiskAt w' bd bm bs n D :=
  { h with head := h.head.only ho h1, body := h.body.only ho h2 }
theorem DiskAt.drewN {w : World} {bd bm bs n : Nat} {D : Dsk} (h : DiskAt w bd bm bs n D) (k : Nat) : DiskAt (w.drewN k) bd bm bs n D :=
  { h with head := h.head.drewN k, body := h.body.drewN k }
theorem DiskAt.len18 {w : World} {bd bm bs n : Nat} {D : Dsk} (h : DiskAt w bd bm bs n D) : ∀ s ∈ D.secs, s.cells.length = 18 := fun s hs => Sec.len (h.ok s hs)
/-- the disk with another sector -/
theorem DiskAt.set {w : World} {bd bm bs n : Nat} {k : Nat} {dd : Bool} {ss : List Sec} (h : DiskAt w bd bm bs n ⟨k, dd, ss⟩) {i : Nat} {s : Sec} (hs : s.c.Ok) {w' : World} (hb : Blk w' bs (flat Sec.cells (ss.set i s)) 63) (ho : Only [bs] w w') : DiskAt w' bd bm bs n ⟨k, dd, ss.set i s⟩ :=
  { h with
    head := h.head.only ho (by simpa using Ne.symm h.ne3)
    body := hb
    ok := fun x hx => by
      rcases List.mem_or_eq_of_mem_set hx with h1 | h1
      · exact h.ok x h1
      · subst h1; exact hs
    len := by rw [List.length_set]; exact h.len }
theorem zinfo : (Try.prog.info? 63).map (fun i => (i.zero, i.size, i.bytes)) = some (some (.agg (Sec.cells Sec.zero).toArray), 18, 24) := by kernel_rfl
theorem new_any (n bm : Nat) (p : Pow) (h1 : 1 ≤ n) (h2 : n ≤ 1024) (w : World) (hm : PowAt w bm p) :
    Calls Try.prog 10 #[.int .i64 (n : Int), .pointer (some ⟨bm, 0, none⟩)] w fun e w' => e = .returned (.tuple #[.pointer (some ⟨w.heap.size + 1, 0, none⟩), .int .i64 0]) ∧ DiskAt w' (w.heap.size + 1) bm w.heap.size n ⟨0, false, List.replicate n Sec.zero⟩ ∧ Below w.heap.size w w' := by
  have hlt := hm.lt
  have i1 : (1 : Int) ≤ (n : Int) := by omega
  have i2 : (n : Int) ≤ 1024 := by omega
  clear hm
  go_enter Try.func10, Try.ntmps10
  go_wp2_with (first | (refine wpList_make_flat (f := Sec.cells) (x := Sec.zero) rfl 59 63 _ _ rfl _ 18 24 Try.underlying59 zinfo rfl rfl (by decide) .i64 .i64 n rfl rfl (by omega) (by unfold maxLen; omega) ?_))
  go_ret2
  have B1 : Blk ((w.alloc (.cells (flat Sec.cells (List.replicate n Sec.zero)).toArray 63)).alloc (.cells #[.pointer (some ⟨bm, 0, none⟩), .slice (some ⟨w.heap.size, 0, none⟩) n n, .int .u32 0, .bool false] 61)) (w.heap.size + 1) [.pointer (some ⟨bm, 0, none⟩), .slice (some ⟨w.heap.size, 0, none⟩) n n, .int .u32 0, .bool false] 61 := blk_at (by simp) rfl
  have B2 : Blk ((w.alloc (.cells (flat Sec.cells (List.replicate n Sec.zero)).toArray 63)).alloc (.cells #[.pointer (some ⟨bm, 0, none⟩), .slice (some ⟨w.heap.size, 0, none⟩) n n, .int .u32 0, .bool false] 61)) w.heap.size (flat Sec.cells (List.replicate n Sec.zero)) 63 := (blk_new w _ _).alloc _
  exact ⟨rfl, ⟨B1, B2, fun s hs => by rw [List.eq_of_mem_replicate hs]; exact Cel.zero_ok, by simp, by simp, h1, h2, by omega, by omega, by omega⟩, ((Below.refl _ _).alloc (Nat.le_refl _) _).alloc (by simp) _⟩
theorem new_nil (n : Int) (h1 : 1 ≤ n) (h2 : n ≤ 1024) (w : World) : Calls Try.prog 10 #[.int .i64 n, .pointer none] w fun e w' => e = .returned (.tuple #[.pointer none, .int .i64 2]) ∧ w = w' := by
  go_enter Try.func10, Try.ntmps10
  go_wp2_with fail
  go_ret2
  exact ⟨rfl, rfl⟩
theorem new_low (n : Int) (h1 : n < 1 ∨ 1024 < n) (m : Option Addr) (w : World) : Calls Try.prog 10 #[.int .i64 n, .pointer m] w fun e w' => e = .returned (.tuple #[.pointer none, .int .i64 2]) ∧ w = w' := by
  rcases h1 with h1 | h1
  · go_enter Try.func10, Try.ntmps10
    go_wp2_with fail
    go_ret2
    exact ⟨rfl, rfl⟩
  · have h2 : ¬ n < 1 := by omega
    go_enter Try.func10, Try.ntmps10
    go_wp2_with fail
    go_ret2
    exact ⟨rfl, rfl⟩
section
variable {bd bm bs n : Nat} {D : Dsk} {w : World}
theorem DiskAt.c0 (h : DiskAt w bd bm bs n D) : w.cell? ⟨bd, 0, none⟩ = some (.pointer (some ⟨bm, 0, none⟩)) := h.head.cell 0
theorem DiskAt.c1 (h : DiskAt w bd bm bs n D) : w.cell? ⟨bd, 1, none⟩ = some (.slice (some ⟨bs, 0, none⟩) n n) := h.head.cell 1
theorem DiskAt.c2 (h : DiskAt w bd bm bs n D) : w.cell? ⟨bd, 2, none⟩ = some (.int .u32 (D.key : Int)) := h.head.cell 2
theorem DiskAt.c3 (h : DiskAt w bd bm bs n D) : w.cell? ⟨bd, 3, none⟩ = some (.bool D.dead) := h.head.cell 3
theorem in_yes (h : DiskAt w bd bm bs n D) (i : Nat) (hi : i < n) : Calls Try.prog 29 #[.pointer (some ⟨bd, 0, none⟩), .int .i64 (i : Int)] w fun e w' => e = .returned (.bool true) ∧ w = w' := by
  have c1 := h.c1
  have i0 : (0 : Int) ≤ (i : Int) := by omega
  clear h
  go_enter Try.func29, Try.ntmps29
  go_wp2_with fail
  go_ret
  exact ⟨by simp [hi], rfl⟩
theorem in_nil (i : Int) (w : World) : Calls Try.prog 29 #[.pointer none, .int .i64 i] w fun e w' => e = .returned (.bool false) ∧ w = w' := by
  go_enter Try.func29, Try.ntmps29
  go_wp2_with fail
  go_ret
  exact ⟨rfl, rfl⟩
theorem size_any (h : DiskAt w bd bm bs n D) : Calls Try.prog 24 #[.pointer (some ⟨bd, 0, none⟩)] w fun e w' => e = .returned (.int .i64 (n : Int)) ∧ w = w' := by
  have c1 := h.c1
  clear h
  go_enter Try.func24, Try.ntmps24
  go_wp2_with fail
  go_ret
  exact ⟨rfl, rfl⟩
theorem size_nil (w : World) : Calls Try.prog 24 #[.pointer none] w fun e w' => e = .returned (.int .i64 0) ∧ w = w' := by
  go_enter Try.func24, Try.ntmps24
  go_wp2_with fail
  go_ret
  exact ⟨rfl, rfl⟩
theorem key_any (h : DiskAt w bd bm bs n D) : Calls Try.prog 19 #[.pointer (some ⟨bd, 0, none⟩)] w fun e w' => e = .returned (.int .u32 (D.key : Int)) ∧ w = w' := by
  have c2 := h.c2
  clear h
  go_enter Try.func19, Try.ntmps19
  go_wp2_with fail
  go_ret
  exact ⟨rfl, rfl⟩
theorem key_nil (w : World) : Calls Try.prog 19 #[.pointer none] w fun e w' => e = .returned (.int .u32 0) ∧ w = w' := by
  go_enter Try.func19, Try.ntmps19
  go_wp2_with fail
  go_ret
  exact ⟨rfl, rfl⟩
theorem alive_nil (w : World) : Calls Try.prog 25 #[.pointer none] w fun e w' => e = .returned (.bool false) ∧ w = w' := by
  go_enter Try.func25, Try.ntmps25
  go_wp2_with fail
  go_ret
  exact ⟨rfl, rfl⟩
theorem fail_nil (w : World) : Calls Try.prog 22 #[.pointer none] w fun e w' => e = .returned (.tuple #[]) ∧ w = w' := by
  go_enter Try.func22, Try.ntmps22
  go_wp2_with fail
  go_end0
  exact ⟨rfl, rfl⟩
theorem replace_nil (w : World) : Calls Try.prog 23 #[.pointer none] w fun e w' => e = .returned (.tuple #[]) ∧ w = w' := by
  go_enter Try.func23, Try.ntmps23
  go_wp2_with fail
  go_end0
  exact ⟨rfl, rfl⟩
theorem hurt_nil (i : Int) (w : World) : Calls Try.prog 21 #[.pointer none, .int .i64 i] w fun e w' => e = .returned (.int .i64 2) ∧ w = w' := by
  go_enter Try.func21, Try.ntmps21
  go_wp2_with (first | (go_at_call 29; refine (in_nil _ _).mono ?_; rintro e w' ⟨rfl, rfl⟩))
  go_ret
  exact ⟨rfl, rfl⟩
theorem turn_nil (i k : Int) (w : World) : Calls Try.prog 20 #[.pointer none, .int .i64 i, .int .i64 k] w fun e w' => e = .returned (.int .i64 2) ∧ w = w' := by
  go_enter Try.func20, Try.ntmps20
  go_wp2_with (first | (go_at_call 29; refine (in_nil _ _).mono ?_; rintro e w' ⟨rfl, rfl⟩))
  go_ret
  exact ⟨rfl, rfl⟩
theorem fence_nil (k : Int) (w : World) : Calls Try.prog 18 #[.pointer none, .int .u32 k] w fun e w' => e = .returned (.int .i64 2) ∧ w = w' := by
  go_enter Try.func18, Try.ntmps18
  go_wp2_with fail
  go_ret
  exact ⟨rfl, rfl⟩
theorem write_nil (i k : Int) (a : Option Addr) (m c : Nat) (w : World) : Calls Try.prog 11 #[.pointer none, .int .i64 i, .slice a m c, .int .u32 k] w fun e w' => e = .returned (.tuple #[.int .i64 0, .int .i64 2]) ∧ w = w' := by
  go_enter Try.func11, Try.ntmps11
  go_wp2_with fail
  go_ret2
  exact ⟨rfl, rfl⟩
theorem zcell : Try.prog.built 37 [] = some (Cel.cells Cel.zero).toArray := by kernel_rfl
end
end Go.Proofs.Ytnjcepjhllgccaa.Disk
