/-
  What bytes read as a message; the state of a region that clones and makes memory in either order. Helper text; no statement is proved here.
-/
import Derived.Test.YtmmgejlfcehipaaSameMsg
import Derived.Test.YtmmgejlfcehipaaClone
import Derived.Test.YtmmgejlfcehipaaInvC
set_option linter.unusedVariables false
set_option linter.unusedSimpArgs false
namespace Go.Proofs.Ytmmgejlfcehipaa.Codec
open Go.RowKit Go.Proofs.Ytmmgejlfcehipaa.Base Go.Proofs.Ytmmgejlfcehipaa.Laws Go.Proofs.Ytmmgejlfcehipaa.InvC
def fieldOf (l : List UInt8) (i : Nat) : Nat := val ((l.drop i).take 4)
def bodyOf (l : List UInt8) : List UInt8 := (l.drop 13).take (l.length - 17)
theorem fieldOf_lt (l : List UInt8) (i : Nat) : fieldOf l i < 4294967296 := by
  have h := val_lt ((l.drop i).take 4)
  have h2 : (2 : Nat) ^ (8 * ((l.drop i).take 4).length) ≤ 2 ^ 32 := Nat.pow_le_pow_right (by decide) (by rw [List.length_take]; omega)
  have h3 : (2 : Nat) ^ 32 = 4294967296 := by decide
  unfold fieldOf
  omega
theorem bodyOf_len {l : List UInt8} (h : 17 ≤ l.length) : (bodyOf l).length = l.length - 17 := by unfold bodyOf; rw [List.length_take, List.length_drop]; omega
def IsMsg (l : List UInt8) : Prop := 17 ≤ l.length ∧ l.length - 17 ≤ 64 ∧ msgAll (fieldOf l 0) (fieldOf l 4) (fieldOf l 8) (bodyOf l) = l
instance (l : List UInt8) : Decidable (IsMsg l) := by unfold IsMsg; infer_instance
/-- what UnpackMsg answers -/
structure Mg where
  e : Nat
  s : Nat
  a : Nat
  l : List UInt8
def mOut (l : List UInt8) : Mg := if IsMsg l then ⟨fieldOf l 0, fieldOf l 4, fieldOf l 8, bodyOf l⟩ else ⟨0, 0, 0, []⟩
def mErr (l : List UInt8) : Int := if l.length < 17 then 1 else if IsMsg l then 0 else 7
theorem mOut_short {l : List UInt8} (h : l.length < 17) : mOut l = ⟨0, 0, 0, []⟩ ∧ mErr l = 1 := by
  unfold mOut mErr
  rw [if_neg (fun e => by have := e.1; omega), if_pos h]
  exact ⟨rfl, rfl⟩
theorem mOut_no {l : List UInt8} (h : 17 ≤ l.length) (hn : ¬ IsMsg l) : mOut l = ⟨0, 0, 0, []⟩ ∧ mErr l = 7 := by
  unfold mOut mErr
  rw [if_neg hn, if_neg (by omega), if_neg hn]
  exact ⟨rfl, rfl⟩
theorem mOut_yes {l : List UInt8} (h : IsMsg l) : mOut l = ⟨fieldOf l 0, fieldOf l 4, fieldOf l 8, bodyOf l⟩ ∧ mErr l = 0 := by
  unfold mOut mErr
  rw [if_pos h, if_neg (by have := h.1; omega), if_pos h]
  exact ⟨rfl, rfl⟩
theorem msg_parts {e s a : Nat} {l : List UInt8} (he : e < 4294967296) (hs : s < 4294967296) (ha : a < 4294967296) :
    fieldOf (msgAll e s a l) 0 = e ∧ fieldOf (msgAll e s a l) 4 = s ∧ fieldOf (msgAll e s a l) 8 = a ∧ bodyOf (msgAll e s a l) = l := by
  have p4 : (2 : Nat) ^ (8 * 4) = 4294967296 := by decide
  refine ⟨?_, ?_, ?_, ?_⟩
  · unfold fieldOf msgAll msgB
    have e1 : be 4 e ++ be 4 s ++ be 4 a ++ [UInt8.ofNat l.length] ++ l ++ be 4 (Crc.crc (be 4 e ++ be 4 s ++ be 4 a ++ [UInt8.ofNat l.length] ++ l)) = [] ++ (be 4 e ++ (be 4 s ++ be 4 a ++ [UInt8.ofNat l.length] ++ l ++ be 4 (Crc.crc (be 4 e ++ be 4 s ++ be 4 a ++ [UInt8.ofNat l.length] ++ l)))) := by simp [List.append_assoc]
    rw [e1, drop_take_mid (i := 0) _ _ _ rfl (be_len 4 e), val_be 4 e (by omega)]
  · unfold fieldOf msgAll msgB
    have e1 : be 4 e ++ be 4 s ++ be 4 a ++ [UInt8.ofNat l.length] ++ l ++ be 4 (Crc.crc (be 4 e ++ be 4 s ++ be 4 a ++ [UInt8.ofNat l.length] ++ l)) = be 4 e ++ (be 4 s ++ (be 4 a ++ [UInt8.ofNat l.length] ++ l ++ be 4 (Crc.crc (be 4 e ++ be 4 s ++ be 4 a ++ [UInt8.ofNat l.length] ++ l)))) := by simp [List.append_assoc]
    rw [e1, drop_take_mid (i := 4) _ _ _ (be_len 4 e) (be_len 4 s), val_be 4 s (by omega)]
  · unfold fieldOf msgAll msgB
    have e1 : be 4 e ++ be 4 s ++ be 4 a ++ [UInt8.ofNat l.length] ++ l ++ be 4 (Crc.crc (be 4 e ++ be 4 s ++ be 4 a ++ [UInt8.ofNat l.length] ++ l)) = (be 4 e ++ be 4 s) ++ (be 4 a ++ ([UInt8.ofNat l.length] ++ l ++ be 4 (Crc.crc (be 4 e ++ be 4 s ++ be 4 a ++ [UInt8.ofNat l.length] ++ l)))) := by simp [List.append_assoc]
    rw [e1, drop_take_mid (i := 8) _ _ _ (by simp [be_len]) (be_len 4 a), val_be 4 a (by omega)]
  · unfold bodyOf
    rw [msgAll_len, show 17 + l.length - 17 = l.length from by omega]
    unfold msgAll msgB
    have e1 : be 4 e ++ be 4 s ++ be 4 a ++ [UInt8.ofNat l.length] ++ l ++ be 4 (Crc.crc (be 4 e ++ be 4 s ++ be 4 a ++ [UInt8.ofNat l.length] ++ l)) = (be 4 e ++ be 4 s ++ be 4 a ++ [UInt8.ofNat l.length]) ++ (l ++ be 4 (Crc.crc (be 4 e ++ be 4 s ++ be 4 a ++ [UInt8.ofNat l.length] ++ l))) := by simp [List.append_assoc]
    rw [e1, drop_take_mid (i := 13) _ _ _ (by simp [be_len]) rfl]
theorem msg_back {e s a : Nat} {l : List UInt8} (he : e < 4294967296) (hs : s < 4294967296) (ha : a < 4294967296) (hl : l.length ≤ 64) : mOut (msgAll e s a l) = ⟨e, s, a, l⟩ ∧ mErr (msgAll e s a l) = 0 := by
  obtain ⟨e1, e2, e3, e4⟩ := msg_parts (l := l) he hs ha
  have hi : IsMsg (msgAll e s a l) := ⟨by rw [msgAll_len]; omega, by rw [msgAll_len]; omega, by rw [e1, e2, e3, e4]⟩
  obtain ⟨o1, o2⟩ := mOut_yes hi
  rw [e1, e2, e3, e4] at o1
  exact ⟨o1, o2⟩
/-- the message of noughts -/
def zmsg : List Value := [.int .u32 0, .int .u32 0, .int .u32 0, .slice none 0 0]
def cB (N : Nat) (κ : Bool) : Nat := match κ with | true => N + 1 | false => N
def pB (N eo : Nat) (κ : Bool) : Nat := match κ with | true => N | false => N + 1 + eo
/-- 22 makes room for the message, 20 clones -/
def MsgSt (N D eo n cc p c : Nat) (body : List UInt8) (κ : Bool) (d : Array Bool) (w : World) : Prop :=
  match d.getD p false, d.getD c false with
  | false, false => w.heap.size = N ∧ w.drawn = D
  | true, false => κ = true ∧ Blk w N zmsg 43 ∧ w.heap.size = N + 1 ∧ w.drawn = D
  | false, true => κ = false ∧ Bts w (some ⟨N + eo, 0, none⟩) n cc body ∧ w.heap.size = N + 1 + eo
  | true, true => Blk w (pB N eo κ) zmsg 43 ∧ Bts w (some ⟨cB N κ + eo, 0, none⟩) n cc body
section
variable {N D eo n cc p c : Nat} {body : List UInt8} {κ : Bool} {d : Array Bool} {w w' : World}
theorem MsgSt.keep {i : Nat} (h1 : i ≠ p) (h2 : i ≠ c) (h : MsgSt N D eo n cc p c body κ d w) : MsgSt N D eo n cc p c body κ (d.setIfInBounds i true) w := by
  unfold MsgSt at *
  rwa [getD_set_ne false h1, getD_set_ne false h2]
theorem getD_now {i : Nat} (h : d.getD i true = false) : (d.setIfInBounds i true).getD i false = true := by
  have hp : i < d.size := by
    rcases Nat.lt_or_ge i d.size with h' | h'
    · exact h'
    · simp [Array.getElem?_eq_none h'] at h
  simp [hp]
theorem MsgSt.at_c (hpc : p ≠ c) (hd : d.getD c true = false) (hG : Two p c κ c d) (h : MsgSt N D eo n cc p c body κ d w) : w.heap.size = cB N κ ∧ w.drawn = D := by
  have hd' := getD_true_of hd
  unfold MsgSt at h
  rw [hd'] at h
  cases κ with
  | true =>
    have := hG rfl
    rw [this] at h
    exact ⟨h.2.2.1, h.2.2.2⟩
  | false =>
    cases hp : d.getD p false with
    | true => rw [hp] at h; cases h.1
    | false => rw [hp] at h; exact h
theorem MsgSt.cloned (hpc : p ≠ c) (hd : d.getD c true = false) (hG : Two p c κ c d) (h : MsgSt N D eo n cc p c body κ d w) (hs : w'.heap.size = w.heap.size + 1 + eo) (hb : Bts w' (some ⟨w.heap.size + eo, 0, none⟩) n cc body) (hbl : Below w.heap.size w w') : MsgSt N D eo n cc p c body κ (d.setIfInBounds c true) w' := by
  obtain ⟨e1, _⟩ := h.at_c hpc hd hG
  have hd' := getD_true_of hd
  unfold MsgSt at *
  rw [getD_now hd, getD_set_ne false (Ne.symm hpc)]
  rw [hd'] at h
  rw [e1] at hb hs
  cases κ with
  | true =>
    have := hG rfl
    rw [this] at h ⊢
    exact ⟨h.2.1.below hbl h.2.1.lt, hb⟩
  | false =>
    cases hp : d.getD p false with
    | true => rw [hp] at h; cases h.1
    | false => exact ⟨rfl, hb, hs⟩
theorem MsgSt.at_p (hpc : p ≠ c) (hd : d.getD p true = false) (hG : Two p c κ p d) (h : MsgSt N D eo n cc p c body κ d w) : w.heap.size = pB N eo κ := by
  have hd' := getD_true_of hd
  unfold MsgSt at h
  rw [hd'] at h
  cases κ with
  | true =>
    cases hp : d.getD c false with
    | true => rw [hp] at h; cases h.1
    | false => rw [hp] at h; exact h.1
  | false =>
    have := hG rfl
    rw [this] at h
    exact h.2.2
theorem MsgSt.made (hpc : p ≠ c) (hd : d.getD p true = false) (hG : Two p c κ p d) (h : MsgSt N D eo n cc p c body κ d w) (arr : Array Value) (ha : zmsg.toArray = arr) : MsgSt N D eo n cc p c body κ (d.setIfInBounds p true) (w.alloc (.cells arr 43)) := by
  have e1 := h.at_p hpc hd hG
  have hd' := getD_true_of hd
  have hblk : Blk (w.alloc (.cells arr 43)) (pB N eo κ) zmsg 43 := blk_at e1 ha
  unfold MsgSt at *
  rw [getD_now hd, getD_set_ne false hpc]
  rw [hd'] at h
  cases κ with
  | true =>
    cases hp : d.getD c false with
    | true => rw [hp] at h; cases h.1
    | false =>
      rw [hp] at h
      exact ⟨rfl, hblk, by simp only [size_alloc]; rw [h.1], h.2⟩
  | false =>
    have := hG rfl
    rw [this] at h ⊢
    exact ⟨hblk, bts_alloc h.2.1 _⟩
theorem MsgSt.done (h1 : d.getD p false = true) (h2 : d.getD c false = true) (h : MsgSt N D eo n cc p c body κ d w) : Blk w (pB N eo κ) zmsg 43 ∧ Bts w (some ⟨cB N κ + eo, 0, none⟩) n cc body := by
  unfold MsgSt at h
  rwa [h1, h2] at h
end
theorem bts_far {w w' : World} {g o n cap k : Nat} {l : List UInt8} (h : Bts w (some ⟨g, o, none⟩) n cap l) (hg : w.grownBy w' (some k)) (hne : g ≠ k) : Bts w' (some ⟨g, o, none⟩) n cap l := by
  obtain ⟨h1, h2, h3, h4⟩ := h
  refine ⟨h1, h2, h3, ?_⟩
  rcases h4 with h4 | ⟨b, o', e, hc⟩
  · exact .inl h4
  · simp only [Option.some.injEq, Addr.mk.injEq, and_true] at e
    obtain ⟨rfl, rfl⟩ := e
    refine .inr ⟨_, _, rfl, fun i u hu => ?_⟩
    have hcell := hc i u hu
    have hlt := block_lt_of_cell hcell
    have hb := hg.block g hlt (fun e => hne (by injection e with e))
    rw [← hcell]
    exact World.cell?_of_block (w := w) hb
end Go.Proofs.Ytmmgejlfcehipaa.Codec
