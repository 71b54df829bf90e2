/-
  A link as data, and where it lies. Helper text; no statement is proved here.
-/
import Derived.Test.YtfjaoompdleljaaRow
import Derived.Test.YtfjaoompdleljaaFlat
import Derived.Test.YtfjaoompdleljaaClone
import Derived.Test.YtfjaoompdleljaaInvC
set_option linter.unusedVariables false
set_option maxRecDepth 20000
set_option linter.unusedSimpArgs false
namespace Go.Proofs.Ytfjaoompdleljaa.Link
open Go.RowKit Go.Proofs.Ytfjaoompdleljaa.Base Go.Proofs.Ytfjaoompdleljaa.Laws Go.Proofs.Ytfjaoompdleljaa.Disk Go.Proofs.Ytfjaoompdleljaa.Row Go.Proofs.Ytfjaoompdleljaa.Flat
/-- a message: epoch, number, ack, body -/
structure Mk where
  e : Nat
  s : Nat
  k : Nat
  B : List UInt8
/-- a packet: the end it comes from, the message -/
structure Pk where
  f : Nat
  m : Mk
structure En where
  op : List Mk
  sent : Nat
  come : Nat
  got : List (List UInt8)
structure Lk where
  ep : Nat
  a : En
  b : En
  fl : List Pk
def Lk.en (k : Lk) (n : Nat) : En := if n = 0 then k.a else k.b
def Lk.with (k : Lk) (n : Nat) (e : En) : Lk := if n = 0 then { k with a := e } else { k with b := e }
def Lk.put (k : Lk) (n s : Nat) (B : List UInt8) : Lk := { k with fl := k.fl ++ [⟨n, ⟨k.ep, s, (k.en n).come, B⟩⟩] }
/-- a body that lies in no block of S -/
def Body (w : World) (S : List Nat) (v : Value) (B : List UInt8) : Prop :=
  (B = [] ∧ v = .slice none 0 0) ∨
  ∃ g o c, v = .slice (some ⟨g, o, none⟩) B.length c ∧ 0 < B.length ∧ B.length ≤ 64 ∧ Bts w (some ⟨g, o, none⟩) B.length c B ∧ g ∉ S
theorem bts_only {w w' : World} {T : List Nat} {g o n cap : Nat} {l : List UInt8} (h : Bts w (some ⟨g, o, none⟩) n cap l) (ho : Only T w w') (hg : g ∉ T) : Bts w' (some ⟨g, o, none⟩) n cap l := by
  obtain ⟨q1, q2, q3, q4⟩ := h
  refine ⟨q1, q2, q3, ?_⟩
  rcases q4 with q4 | ⟨gb, og, ea, hc⟩
  · exact .inl q4
  · simp only [Option.some.injEq, Addr.mk.injEq, and_true] at ea
    obtain ⟨rfl, rfl⟩ := ea
    exact .inr ⟨_, _, rfl, fun i u hu => by
      have h0 := hc i u hu
      exact (World.cell?_of_block (w := w) (ho.block g (block_lt_of_cell h0) hg)).trans h0⟩
theorem bts_block {w : World} {g o n cap : Nat} {l : List UInt8} (h : Bts w (some ⟨g, o, none⟩) n cap l) (hn : 0 < n) : g < w.heap.size := by
  obtain ⟨q1, q2, q3, q4⟩ := h
  rcases q4 with q4 | ⟨gb, og, ea, hc⟩
  · omega
  · simp only [Option.some.injEq, Addr.mk.injEq, and_true] at ea
    obtain ⟨rfl, rfl⟩ := ea
    obtain ⟨x, hx⟩ : ∃ x, l[0]? = some x := ⟨_, List.getElem?_eq_getElem (by omega)⟩
    exact block_lt_of_cell (hc 0 x hx)
theorem Body.move {w w' : World} {S S' T : List Nat} {v : Value} {B : List UInt8} (h : Body w S v B) (ho : Only T w w') (hT : ∀ x ∈ T, x ∈ S) (hS : ∀ x ∈ S', x ∈ S ∨ w.heap.size ≤ x) : Body w' S' v B := by
  rcases h with h | ⟨g, o, c, e, h1, h2, h3, h4⟩
  · exact .inl h
  · refine .inr ⟨g, o, c, e, h1, h2, bts_only h3 ho (fun hx => h4 (hT g hx)), fun hx => ?_⟩
    rcases hS g hx with hx | hx
    · exact h4 hx
    · have := bts_block h3 h1
      omega
section
variable {α : Type}
/-- a row of things of m cells, each with a body -/
def RowOf (w : World) (base : Nat) (S : List Nat) (t : TypeId) (m : Nat) (f : α × Value → List Value) (body : α → List UInt8) (v : Value) (xs : List α) : Prop :=
  ∃ ps : List (α × Value), ps.map Prod.fst = xs ∧ w.ownsRow base t m v ps.length (flat f ps) ∧ ∀ p ∈ ps, Body w S p.2 (body p.1)
variable {w w' : World} {base : Nat} {S S' T : List Nat} {t : TypeId} {m : Nat} {f : α × Value → List Value} {body : α → List UInt8} {v : Value} {xs : List α}
theorem RowOf.move (h : RowOf w base S t m f body v xs) (ho : Only T w w') (hT : ∀ x ∈ T, x ∈ S) (hS : ∀ x ∈ S', x ∈ S ∨ w.heap.size ≤ x) (hv : ∀ g, v.ownBlock = some g → g ∉ T) : RowOf w' base S' t m f body v xs := by
  obtain ⟨ps, e, h1, h2⟩ := h
  exact ⟨ps, e, own_only h1 ho hv, fun p hp => (h2 p hp).move ho hT hS⟩
theorem RowOf.nil : RowOf w base S t m f body (.slice none 0 0) ([] : List α) :=
  ⟨[], rfl, ⟨by simp [flat], .inl ⟨rfl, rfl⟩⟩, by simp⟩
theorem RowOf.lt (h : RowOf w base S t m f body v xs) {g : Nat} (hg : v.ownBlock = some g) : base ≤ g ∧ g < w.heap.size := by
  obtain ⟨ps, e, h1, h2⟩ := h
  exact own_lt h1 hg
/-- nothing of it but its row has changed -/
theorem RowOf.grown (h : RowOf w base S t m f body v xs) {row : Option Nat} (hg : w.grownBy w' row) (hT : ∀ x, row = some x → x ∈ S) (hS : ∀ x ∈ S', x ∈ S ∨ w.heap.size ≤ x) (hv : ∀ g, v.ownBlock = some g → row ≠ some g) : RowOf w' base S' t m f body v xs := by
  have ho : Only (row.toList) w w' := ⟨hg.os, hg.tape, hg.output, hg.size, fun k hk hn => hg.block k hk (by intro e; apply hn; rw [← e]; simp)⟩
  exact h.move ho (fun x hx => hT x (by simpa using hx)) hS (fun g hg hx => hv g hg (by simpa using hx))
end
def mc (p : Mk × Value) : List Value := [.int .u32 (p.1.e : Int), .int .u32 (p.1.s : Int), .int .u32 (p.1.k : Int), p.2]
def pc (p : Pk × Value) : List Value := [.int .i64 (p.1.f : Int), .int .u32 (p.1.m.e : Int), .int .u32 (p.1.m.s : Int), .int .u32 (p.1.m.k : Int), p.2]
def gc (p : List UInt8 × Value) : List Value := [p.2]
/-- the blocks that a link may write -/
def reach (bl : Nat) (V : Nat → Value) : List Nat := [bl, blkOf (V 0) bl, blkOf (V 1) bl, blkOf (V 2) bl, blkOf (V 3) bl, blkOf (V 4) bl]
theorem mem_reach {bl : Nat} {V : Nat → Value} {x : Nat} : x ∈ reach bl V ↔ x = bl ∨ ∃ i, i < 5 ∧ (V i).ownBlock = some x := by
  have hb : ∀ i, x = blkOf (V i) bl → x = bl ∨ (V i).ownBlock = some x := fun i e => by
    unfold blkOf at e
    cases h : (V i).ownBlock with
    | none => rw [h] at e; exact .inl e
    | some g => rw [h] at e; exact .inr (by rw [e]; rfl)
  have hb' : ∀ i, (V i).ownBlock = some x → x = blkOf (V i) bl := fun i e => by unfold blkOf; rw [e]; rfl
  constructor
  · intro h
    simp only [reach, List.mem_cons, List.not_mem_nil, or_false] at h
    rcases h with h | h | h | h | h | h
    · exact .inl h
    · exact (hb 0 h).imp id fun e => ⟨0, by decide, e⟩
    · exact (hb 1 h).imp id fun e => ⟨1, by decide, e⟩
    · exact (hb 2 h).imp id fun e => ⟨2, by decide, e⟩
    · exact (hb 3 h).imp id fun e => ⟨3, by decide, e⟩
    · exact (hb 4 h).imp id fun e => ⟨4, by decide, e⟩
  · rintro (rfl | ⟨i, hi, e⟩)
    · simp [reach]
    · have := hb' i e
      simp only [reach, List.mem_cons, List.not_mem_nil, or_false]
      obtain rfl | rfl | rfl | rfl | rfl : i = 0 ∨ i = 1 ∨ i = 2 ∨ i = 3 ∨ i = 4 := by omega
      · exact .inr (.inl this)
      · exact .inr (.inr (.inl this))
      · exact .inr (.inr (.inr (.inl this)))
      · exact .inr (.inr (.inr (.inr (.inl this))))
      · exact .inr (.inr (.inr (.inr (.inr this))))
def lcells (k : Lk) (V : Nat → Value) : List Value :=
  [.int .u32 (k.ep : Int), V 0, .int .u32 (k.a.sent : Int), .int .u32 (k.a.come : Int), V 1, V 2, .int .u32 (k.b.sent : Int), .int .u32 (k.b.come : Int), V 3, V 4]
structure LinkAt (w : World) (bl : Nat) (V : Nat → Value) (A : List Nat) (k : Lk) : Prop where
  head : Blk w bl (lcells k V) 67
  o : ∀ n, n < 2 → RowOf w (bl + 1) (reach bl V ++ A) 71 4 mc (·.B) (V (2 * n)) (k.en n).op
  g : ∀ n, n < 2 → RowOf w (bl + 1) (reach bl V ++ A) 23 1 gc id (V (2 * n + 1)) (k.en n).got
  fl : RowOf w (bl + 1) (reach bl V ++ A) 74 5 pc (·.m.B) (V 4) k.fl
  dist : ∀ i j, i < 5 → j < 5 → i ≠ j → ∀ g, (V i).ownBlock = some g → (V j).ownBlock ≠ some g
  out : ∀ x ∈ A, x < w.heap.size
section
variable {w w' : World} {bl : Nat} {V : Nat → Value} {A : List Nat} {k : Lk}
theorem LinkAt.row (h : LinkAt w bl V A k) (i : Nat) (hi : i < 5) {g : Nat} (hg : (V i).ownBlock = some g) : bl + 1 ≤ g ∧ g < w.heap.size := by
  obtain rfl | rfl | rfl | rfl | rfl : i = 0 ∨ i = 1 ∨ i = 2 ∨ i = 3 ∨ i = 4 := by omega
  · exact (h.o 0 (by decide)).lt hg
  · exact (h.g 0 (by decide)).lt hg
  · exact (h.o 1 (by decide)).lt hg
  · exact (h.g 1 (by decide)).lt hg
  · exact h.fl.lt hg
theorem LinkAt.reach_lt (h : LinkAt w bl V A k) {x : Nat} (hx : x ∈ reach bl V) : bl ≤ x ∧ x < w.heap.size := by
  rcases mem_reach.1 hx with rfl | ⟨i, hi, e⟩
  · exact ⟨Nat.le_refl _, h.head.lt⟩
  · have := h.row i hi e
    omega
/-- the link stands where others write -/
theorem LinkAt.move (h : LinkAt w bl V A k) {T A' : List Nat} (ho : Only T w w') (hT : ∀ x ∈ T, x ∈ A) (hR : ∀ x ∈ T, x ∉ reach bl V) (hA : ∀ x ∈ A', (x ∈ A ∨ w.heap.size ≤ x) ∧ x < w'.heap.size) : LinkAt w' bl V A' k := by
  have h1 : ∀ x ∈ T, x ∈ reach bl V ++ A := fun x hx => List.mem_append_right _ (hT x hx)
  have h2 : ∀ x ∈ reach bl V ++ A', x ∈ reach bl V ++ A ∨ w.heap.size ≤ x := fun x hx => by
    rcases List.mem_append.1 hx with hx | hx
    · exact .inl (List.mem_append_left _ hx)
    · exact (hA x hx).1.imp (List.mem_append_right _) id
  have h3 : ∀ i, i < 5 → ∀ g, (V i).ownBlock = some g → g ∉ T := fun i hi g hg hx => hR g hx (mem_reach.2 (.inr ⟨i, hi, hg⟩))
  exact { head := h.head.only ho fun hx => hR bl hx (mem_reach.2 (.inl rfl)),
          o := fun n hn => (h.o n hn).move ho h1 h2 (h3 _ (by omega)),
          g := fun n hn => (h.g n hn).move ho h1 h2 (h3 _ (by omega)),
          fl := h.fl.move ho h1 h2 (h3 _ (by omega)),
          dist := h.dist,
          out := fun x hx => (hA x hx).2 }
theorem LinkAt.only (h : LinkAt w bl V A k) {T : List Nat} (ho : Only T w w') (hT : ∀ x ∈ T, x ∈ A) (hR : ∀ x ∈ T, x ∉ reach bl V) : LinkAt w' bl V A k :=
  h.move ho hT hR fun x hx => ⟨.inl hx, Nat.lt_of_lt_of_le (h.out x hx) ho.size⟩
theorem LinkAt.below (h : LinkAt w bl V A k) (hb : Below w.heap.size w w') : LinkAt w' bl V A k :=
  h.only (Only.of_below (S := []) hb) (by simp) (by simp)
theorem LinkAt.drewN (h : LinkAt w bl V A k) (n : Nat) : LinkAt (w.drewN n) bl V A k := h.only (T := []) ((Only.refl [] w).drewN n) (by simp) (by simp)
theorem LinkAt.drew (h : LinkAt w bl V A k) : LinkAt w.drew bl V A k := h.only (T := []) (Only.refl [] w).drew (by simp) (by simp)
/-- a link's cell -/
theorem LinkAt.cell (h : LinkAt w bl V A k) (i : Nat) : w.cell? ⟨bl, i, none⟩ = (lcells k V)[i]? := h.head.cell i
/-- what the blocks of V' are, of V -/
def Kin (w : World) (V V' : Nat → Value) : Prop := ∀ i, i < 5 → ∀ g, (V' i).ownBlock = some g → (V i).ownBlock = some g ∨ w.heap.size ≤ g
theorem Kin.refl (w : World) (V : Nat → Value) : Kin w V V := fun i hi g hg => .inl hg
theorem Kin.reach {V' : Nat → Value} (h : Kin w V V') {x : Nat} (hx : x ∈ reach bl V') : x ∈ reach bl V ∨ w.heap.size ≤ x := by
  rcases mem_reach.1 hx with rfl | ⟨i, hi, e⟩
  · exact .inl (mem_reach.2 (.inl rfl))
  · exact (h i hi x e).imp (fun e => mem_reach.2 (.inr ⟨i, hi, e⟩)) id
structure Goes (w : World) (bl : Nat) (V : Nat → Value) (A : List Nat) (w' : World) (V' : Nat → Value) (k' : Lk) : Prop where
  at_ : LinkAt w' bl V' A k'
  only : Only (reach bl V) w w'
  kin : Kin w V V'
theorem Goes.refl (h : LinkAt w bl V A k) : Goes w bl V A w V k := ⟨h, Only.refl _ _, Kin.refl _ _⟩
theorem Goes.trans {w1 w2 : World} {V1 V2 : Nat → Value} {k1 k2 : Lk} (h : Goes w bl V A w1 V1 k1) (h2 : Goes w1 bl V1 A w2 V2 k2) : Goes w bl V A w2 V2 k2 :=
  ⟨h2.at_, ⟨h2.only.os.trans h.only.os, h2.only.tape.trans h.only.tape, h2.only.output.trans h.only.output, Nat.le_trans h.only.size h2.only.size, fun x hx hn =>
    (h2.only.block x (Nat.lt_of_lt_of_le hx h.only.size) fun hm => by
      rcases h.kin.reach hm with e | e
      · exact hn e
      · omega).trans (h.only.block x hx hn)⟩,
   fun i hi g hg => by
    rcases h2.kin i hi g hg with e | e
    · exact h.kin i hi g e
    · exact .inr (Nat.le_trans h.only.size e)⟩
theorem Goes.of_below (h : LinkAt w bl V A k) (hb : Below w.heap.size w w') : Goes w bl V A w' V k := ⟨h.below hb, Only.of_below hb, Kin.refl _ _⟩
theorem Goes.keep {V' : Nat → Value} {k' : Lk} {w2 : World} (h : Goes w bl V A w' V' k') (hb : Below w'.heap.size w' w2) : Goes w bl V A w2 V' k' := h.trans (Goes.of_below h.at_ hb)
end
end Go.Proofs.Ytfjaoompdleljaa.Link
