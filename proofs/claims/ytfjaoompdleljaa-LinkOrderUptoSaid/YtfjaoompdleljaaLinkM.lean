/-
  Two makings of memory in either order: a message and a clone. Helper text; no statement is proved here.
-/
import Derived.Test.YtfjaoompdleljaaLinkU
import Derived.Test.YtfjaoompdleljaaInvG
import Derived.Lib.SliceRun
set_option linter.unusedVariables false
set_option maxRecDepth 20000
set_option linter.unusedSimpArgs false
namespace Go.Proofs.Ytfjaoompdleljaa.Link
open Go.RowKit Go.Proofs.Ytfjaoompdleljaa.Base Go.Proofs.Ytfjaoompdleljaa.Laws Go.Proofs.Ytfjaoompdleljaa.Inv Go.Proofs.Ytfjaoompdleljaa.InvL Go.Proofs.Ytfjaoompdleljaa.InvC Go.Proofs.Ytfjaoompdleljaa.Codec
/-- the message of noughts -/
def zmk : List Value := [.int .u32 0, .int .u32 0, .int .u32 0, .slice none 0 0]
def cBk (N : Nat) (κ : Bool) : Nat := match κ with | true => N + 1 | false => N
def pBk (N eo : Nat) (κ : Bool) : Nat := match κ with | true => N | false => N + 1 + eo
/-- 22 makes room for the message, 20 clones -/
def MkSt (N D eo n cc p c : Nat) (body : List UInt8) (κ : Bool) (d : Array Bool) (w : World) : Prop :=
  match d.getD p false, d.getD c false with
  | false, false => w.heap.size = N ∧ w.drawn = D
  | true, false => κ = true ∧ Blk w N zmk 71 ∧ w.heap.size = N + 1 ∧ w.drawn = D
  | false, true => κ = false ∧ Bts w (some ⟨N + eo, 0, none⟩) n cc body ∧ w.heap.size = N + 1 + eo
  | true, true => Blk w (pBk N eo κ) zmk 71 ∧ Bts w (some ⟨cBk N κ + eo, 0, none⟩) n cc body
section
variable {N D eo n cc p c : Nat} {body : List UInt8} {κ : Bool} {d : Array Bool} {w w' : World}
theorem MkSt.keep {i : Nat} (h1 : i ≠ p) (h2 : i ≠ c) (h : MkSt N D eo n cc p c body κ d w) : MkSt N D eo n cc p c body κ (d.setIfInBounds i true) w := by
  unfold MkSt at *
  rwa [getD_set_ne false h1, getD_set_ne false h2]
theorem getD_nowk {i : Nat} (h : d.getD i true = false) : (d.setIfInBounds i true).getD i false = true := by
  have hp : i < d.size := by
    rcases Nat.lt_or_ge i d.size with h' | h'
    · exact h'
    · simp [Array.getElem?_eq_none h'] at h
  simp [hp]
theorem MkSt.at_c (hpc : p ≠ c) (hd : d.getD c true = false) (hG : Two p c κ c d) (h : MkSt N D eo n cc p c body κ d w) : w.heap.size = cBk N κ ∧ w.drawn = D := by
  have hd' := getD_true_of hd
  unfold MkSt at h
  rw [hd'] at h
  cases κ with
  | true =>
    have := hG rfl
    rw [this] at h
    exact ⟨h.2.2.1, h.2.2.2⟩
  | false =>
    cases hp : d.getD p false with
    | true => rw [hp] at h; cases h.1
    | false => rw [hp] at h; exact h
theorem MkSt.cloned (hpc : p ≠ c) (hd : d.getD c true = false) (hG : Two p c κ c d) (h : MkSt N D eo n cc p c body κ d w) (hs : w'.heap.size = w.heap.size + 1 + eo) (hb : Bts w' (some ⟨w.heap.size + eo, 0, none⟩) n cc body) (hbl : Below w.heap.size w w') : MkSt N D eo n cc p c body κ (d.setIfInBounds c true) w' := by
  obtain ⟨e1, _⟩ := h.at_c hpc hd hG
  have hd' := getD_true_of hd
  unfold MkSt at *
  rw [getD_nowk hd, getD_set_ne false (Ne.symm hpc)]
  rw [hd'] at h
  rw [e1] at hb hs
  cases κ with
  | true =>
    have := hG rfl
    rw [this] at h ⊢
    exact ⟨h.2.1.below hbl h.2.1.lt, hb⟩
  | false =>
    cases hp : d.getD p false with
    | true => rw [hp] at h; cases h.1
    | false => exact ⟨rfl, hb, hs⟩
theorem MkSt.at_p (hpc : p ≠ c) (hd : d.getD p true = false) (hG : Two p c κ p d) (h : MkSt N D eo n cc p c body κ d w) : w.heap.size = pBk N eo κ := by
  have hd' := getD_true_of hd
  unfold MkSt at h
  rw [hd'] at h
  cases κ with
  | true =>
    cases hp : d.getD c false with
    | true => rw [hp] at h; cases h.1
    | false => rw [hp] at h; exact h.1
  | false =>
    have := hG rfl
    rw [this] at h
    exact h.2.2
theorem MkSt.made (hpc : p ≠ c) (hd : d.getD p true = false) (hG : Two p c κ p d) (h : MkSt N D eo n cc p c body κ d w) (arr : Array Value) (ha : zmk.toArray = arr) : MkSt N D eo n cc p c body κ (d.setIfInBounds p true) (w.alloc (.cells arr 71)) := by
  have e1 := h.at_p hpc hd hG
  have hd' := getD_true_of hd
  have hblk : Blk (w.alloc (.cells arr 71)) (pBk N eo κ) zmk 71 := blk_at e1 ha
  unfold MkSt at *
  rw [getD_nowk hd, getD_set_ne false hpc]
  rw [hd'] at h
  cases κ with
  | true =>
    cases hp : d.getD c false with
    | true => rw [hp] at h; cases h.1
    | false =>
      rw [hp] at h
      exact ⟨rfl, hblk, by simp only [size_alloc]; rw [h.1], h.2⟩
  | false =>
    have := hG rfl
    rw [this] at h ⊢
    exact ⟨hblk, bts_alloc h.2.1 _⟩
theorem MkSt.done (h1 : d.getD p false = true) (h2 : d.getD c false = true) (h : MkSt N D eo n cc p c body κ d w) : Blk w (pBk N eo κ) zmk 71 ∧ Bts w (some ⟨cBk N κ + eo, 0, none⟩) n cc body := by
  unfold MkSt at h
  rwa [h1, h2] at h
end
theorem clone_none (w : World) : Calls Try.prog 33 #[.slice none 0 0] w fun e w' => e = .returned (.slice none 0 0) ∧ w = w' := by
  have hq : ∀ w', (binOp .eql 23 (.slice none 0 0) (.slice none 0 0)).run Try.prog w' = .ok (.bool true) w' := fun w' => Lib.run_eql_slice_nil w' _ _ _ _ _ _ _ Try.underlying23
  go_enter Try.func33, Try.ntmps33
  go_wp2_with fail
  go_ret
  exact ⟨rfl, rfl⟩
theorem built_mk (e s a : Nat) (b : Option Addr) (n c : Nat) : Try.prog.built 71 [(0, .int .u32 (e : Int)), (1, .int .u32 (s : Int)), (2, .int .u32 (a : Int)), (3, .slice b n c)] = some (mc (⟨e, s, a, []⟩, .slice b n c)).toArray := by kernel_rfl
theorem built_pk (f : Nat) (m : Mk) (v : Value) : Try.prog.built 74 [(0, .int .i64 (f : Int)), (1, .agg (mc (m, v)).toArray)] = some (pc (⟨f, m⟩, v)).toArray := by
  cases v <;> kernel_rfl
theorem info_pk : (Try.prog.info? 74).map (fun i => (i.zero, i.size, i.bytes)) = some (some (.agg #[.int .i64 0, .int .u32 0, .int .u32 0, .int .u32 0, .slice none 0 0]), 5, 48) := by kernel_rfl
theorem info_mk : (Try.prog.info? 71).map (fun i => (i.zero, i.size, i.bytes)) = some (some (.agg #[.int .u32 0, .int .u32 0, .int .u32 0, .slice none 0 0]), 4, 40) := by kernel_rfl
theorem info_bs : (Try.prog.info? 23).map (fun i => (i.zero, i.size, i.bytes)) = some (some (.slice none 0 0), 1, 24) := by kernel_rfl
end Go.Proofs.Ytfjaoompdleljaa.Link
