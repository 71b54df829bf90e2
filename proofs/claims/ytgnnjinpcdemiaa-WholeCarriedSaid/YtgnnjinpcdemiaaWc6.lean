/-
  Helper texts, joined in build order; no statement is proved here.
-/
import Derived.BigQuiet
import Derived.Deep.QuietTactic
import Derived.Deep.CutBlock
import Derived.Deep.DeepCutAuto
import Derived.Test.YtgnnjinpcdemiaaWc5
/-
  Drop, Twin and Tick of a link that lives; rest; scripts that came in. Helper text; no statement is proved here.
-/
set_option linter.unusedVariables false
set_option maxRecDepth 20000
set_option linter.unusedSimpArgs false
namespace Go.Proofs.Ytgnnjinpcdemiaa.Link
open Go.RowKit Go.Proofs.Ytgnnjinpcdemiaa.Base Go.Proofs.Ytgnnjinpcdemiaa.Laws Go.Proofs.Ytgnnjinpcdemiaa.Disk Go.Proofs.Ytgnnjinpcdemiaa.Row Go.Proofs.Ytgnnjinpcdemiaa.Flat Go.Proofs.Ytgnnjinpcdemiaa.InvM
section
variable {w0 w w' : World} {bl : Nat} {A : List Nat} {k k' : Lk}
theorem lv_flightB (h : Lv w0 bl A k w) (hfl : k.fl.length ≤ 1024) : Calls Try.prog 8 #[.pointer (some ⟨bl, 0, none⟩)] w fun e w' => ∃ a c, e = .returned (.slice a k.fl.length c) ∧ Lv w0 bl A k w' ∧ Below w.heap.size w w' := by
  obtain ⟨V, h1, h2, h3⟩ := h
  refine (flight_any h1 hfl).mono ?_
  rintro e w' ⟨v, rfl, hr, hb⟩
  obtain ⟨ps, e, ho, _⟩ := hr
  obtain ⟨a, c, e1, _⟩ := own_slice ho (by decide)
  exact ⟨a, c, by rw [e1, ← e]; simp, Goes.lv h1 h2 h3 (Goes.of_below h1 hb), hb⟩
theorem Lv.below (h : Lv w0 bl A k w) : Below w0.heap.size w0 w := h.choose_spec.2.1
/-- how many packets are under way, read off the memory -/
def lenF (bl : Nat) (w : World) : Nat := match w.cell? ⟨bl, 9, none⟩ with | some (.slice _ n _) => n | _ => 0
theorem Lv.len (h : Lv w0 bl A k w) : lenF bl w = k.fl.length := by
  obtain ⟨V, h1, _, _⟩ := h
  obtain ⟨a, c, e, _⟩ := h1.slF
  have : w.cell? ⟨bl, 9, none⟩ = some (V 4) := h1.cell 9
  unfold lenF
  rw [this, e]
def Lk.inR (k : Lk) (i : Int) : Prop := 0 ≤ i ∧ i < (k.fl.length : Int)
instance (k : Lk) (i : Int) : Decidable (k.inR i) := inferInstanceAs (Decidable (_ ∧ _))
theorem lv_drop (h : Lv w0 bl A k w) (i : Int) : Calls Try.prog 9 #[.pointer (some ⟨bl, 0, none⟩), .int .i64 i] w fun e w' => e = .returned (.int .i64 (if k.inR i then 0 else 2)) ∧ Lv w0 bl A (if k.inR i then k.less i.toNat else k) w' := by
  obtain ⟨V, h1, h2, h3⟩ := h
  by_cases hi : k.inR i
  · rw [if_pos hi, if_pos hi]
    obtain ⟨n, rfl⟩ := Int.eq_ofNat_of_zero_le hi.1
    have hn : n < k.fl.length := by have := hi.2; omega
    refine (drop_ok h1 n hn).mono ?_
    rintro e w' ⟨rfl, V', g⟩
    exact ⟨rfl, Goes.lv h1 h2 h3 g⟩
  · rw [if_neg hi, if_neg hi]
    have hi' : i < 0 ∨ (k.fl.length : Int) ≤ i := by
      unfold Lk.inR at hi
      omega
    refine (drop_no h1 i hi').mono ?_
    rintro e w' ⟨rfl, hb⟩
    exact ⟨rfl, Goes.lv h1 h2 h3 (Goes.of_below h1 hb)⟩
theorem lv_twin (h : Lv w0 bl A k w) (i : Int) : Calls Try.prog 10 #[.pointer (some ⟨bl, 0, none⟩), .int .i64 i] w fun e w' => e = .returned (.int .i64 (if k.inR i then if k.fl.length < 1024 then 0 else 9 else 2)) ∧ Lv w0 bl A (if k.inR i ∧ k.fl.length < 1024 then k.twin i.toNat else k) w' := by
  obtain ⟨V, h1, h2, h3⟩ := h
  by_cases hi : k.inR i
  · obtain ⟨n, rfl⟩ := Int.eq_ofNat_of_zero_le hi.1
    have hn : n < k.fl.length := by have := hi.2; omega
    by_cases hf : k.fl.length < 1024
    · rw [if_pos hi, if_pos hf, if_pos ⟨hi, hf⟩]
      refine (twin_ok h1 n hn hf).mono ?_
      rintro e w' ⟨rfl, V', g⟩
      exact ⟨rfl, Goes.lv h1 h2 h3 g⟩
    · rw [if_pos hi, if_neg hf, if_neg (fun x => hf x.2)]
      refine (twin_full h1 n hn hf).mono ?_
      rintro e w' ⟨rfl, rfl⟩
      exact ⟨rfl, V, h1, h2, h3⟩
  · rw [if_neg hi, if_neg (fun x => hi x.1)]
    refine (twin_no h1 i (by unfold Lk.inR at hi; omega)).mono ?_
    rintro e w' ⟨rfl, rfl⟩
    exact ⟨rfl, V, h1, h2, h3⟩
theorem lv_tick (h : Lv w0 bl A k w) (hfl : k.fl.length ≤ 1024) (hop : ∀ n, n < 2 → (k.en n).op.length ≤ 256) : Calls Try.prog 11 #[.pointer (some ⟨bl, 0, none⟩)] w fun e w' => e = .returned (.int .i64 ((k.tick.fl.length - k.fl.length : Nat) : Int)) ∧ Lv w0 bl A k.tick w' := by
  obtain ⟨V, h1, h2, h3⟩ := h
  refine (tick_any h1 hfl hop).mono ?_
  rintro e w' ⟨rfl, V', g⟩
  exact ⟨rfl, Goes.lv h1 h2 h3 g⟩
/-- n counted round by 'by' -/
def restI (n b : Int) : Int := if n.tmod b < 0 then n.tmod b + b else n.tmod b
theorem restI_in {n b : Int} (hb : 0 < b) : 0 ≤ restI n b ∧ restI n b < b := by
  unfold restI
  have h1 := Int.tmod_lt_of_pos n hb
  have h2 : -b < n.tmod b := by
    have := Int.tmod_lt_of_pos (-n) hb
    rw [Int.neg_tmod] at this
    omega
  split <;> omega
end
/-- a step of a script -/
structure So where
  k : Int
  n : Int
  B : List UInt8
def oc (p : So × Value) : List Value := [.int .i64 p.1.k, .int .i64 p.1.n, p.2]
/-- a script that came in -/
def Scr (w : World) (a : Option Addr) (len cap : Nat) (l : List So) : Prop :=
  l.length = len ∧ len ≤ cap ∧ cap ≤ maxLen ∧ len ≤ 7036874417767 ∧ (∀ o ∈ l, (-9223372036854775808 ≤ o.k ∧ o.k ≤ 9223372036854775807) ∧ (-9223372036854775808 ≤ o.n ∧ o.n ≤ 9223372036854775807)) ∧
  (len = 0 ∨ ∃ b o, a = some ⟨b, o, none⟩ ∧ ∀ i s, l[i]? = some s → ∃ a' len' cap', (∀ j u, (oc (s, .slice a' len' cap'))[j]? = some u → w.cell? ⟨b, o + i * 3 + j, none⟩ = some u) ∧ Bts w a' len' cap' s.B ∧ len' ≤ 140737488351232)
section
variable {H : Type} {enc : TypeId × Value → H} {base : Nat} {spare : Nat → Bool} {held : Bool} {W : World}
end
end Go.Proofs.Ytgnnjinpcdemiaa.Link
/-
  A link that lives beside blocks of the caller. Helper text; no statement is proved here.
-/
set_option linter.unusedVariables false
set_option maxRecDepth 20000
set_option linter.unusedSimpArgs false
namespace Go.Proofs.Ytgnnjinpcdemiaa.Link
open Go.RowKit Go.Proofs.Ytgnnjinpcdemiaa.Base Go.Proofs.Ytgnnjinpcdemiaa.Laws Go.Proofs.Ytgnnjinpcdemiaa.Disk Go.Proofs.Ytgnnjinpcdemiaa.Row Go.Proofs.Ytgnnjinpcdemiaa.Flat Go.Proofs.Ytgnnjinpcdemiaa.InvM
/-- a link of blocks from bl on; nothing of what was there at first has changed; the blocks R are the caller's, and those of A he may write -/
def Lf (w0 : World) (bl : Nat) (A : List Nat) (R : Nat → Prop) (k : Lk) (w : World) : Prop := ∃ V, LinkAt w bl V A k ∧ (∀ x, R x → x ∉ reach bl V ∧ x < w.heap.size) ∧ (∀ x ∈ A, R x ∧ w0.heap.size ≤ x) ∧ Below w0.heap.size w0 w ∧ w0.heap.size ≤ bl
def Stay (R : Nat → Prop) (w w' : World) : Prop := ∀ x, R x → w'.heap[x]? = w.heap[x]?
section
variable {w0 w w' : World} {bl : Nat} {A A' : List Nat} {R R' : Nat → Prop} {k k' : Lk}
theorem Stay.trans {w2 : World} (h : Stay R w w') (g : Stay R w' w2) : Stay R w w2 := fun x hx => (g x hx).trans (h x hx)
theorem Stay.blk {g : Nat} {cs : List Value} {t : TypeId} (h : Stay R w w') (hg : R g) (hb : Blk w g cs t) : Blk w' g cs t := (h g hg).trans hb
theorem Goes.lf {V V' : Nat → Value} (h : LinkAt w bl V A k) (hR : ∀ x, R x → x ∉ reach bl V ∧ x < w.heap.size) (hA : ∀ x ∈ A, R x ∧ w0.heap.size ≤ x) (hb : Below w0.heap.size w0 w) (hbl : w0.heap.size ≤ bl) (g : Goes w bl V A w' V' k') : Lf w0 bl A R k' w' ∧ Stay R w w' := by
  have h1 := hb.size
  refine ⟨⟨V', g.at_, fun x hx => ⟨fun hm => ?_, Nat.lt_of_lt_of_le (hR x hx).2 g.only.size⟩, hA, hb.trans ⟨g.only.os, g.only.tape, g.only.output, g.only.size, fun x hx => g.only.block x (by omega) fun hm => ?_⟩, hbl⟩, fun x hx => g.only.block x (hR x hx).2 (hR x hx).1⟩
  · rcases g.kin.reach hm with e | e
    · exact (hR x hx).1 e
    · have := (hR x hx).2; omega
  · have := h.reach_lt hm
    omega
theorem Lf.below (h : Lf w0 bl A R k w) : Below w0.heap.size w0 w := h.choose_spec.2.2.2.1
theorem Lf.base (h : Lf w0 bl A R k w) : w0.heap.size ≤ bl := h.choose_spec.2.2.2.2
theorem Lf.lt (h : Lf w0 bl A R k w) {x : Nat} (hx : R x) : x < w.heap.size := (h.choose_spec.2.1 x hx).2
/-- new blocks; they may be the caller's -/
theorem Lf.news (h : Lf w0 bl A R k w) (hb : Below w.heap.size w w') (hR : ∀ x, R' x → (R x ∨ w.heap.size ≤ x) ∧ x < w'.heap.size) (hA : ∀ x ∈ A', (x ∈ A ∨ w.heap.size ≤ x) ∧ R' x) : Lf w0 bl A' R' k w' := by
  obtain ⟨V, h1, h2, h3, h4, h5⟩ := h
  have hs := h4.size
  refine ⟨V, h1.move (T := []) (Only.of_below hb) (by simp) (by simp) (fun x hx => ⟨(hA x hx).1, (hR x (hA x hx).2).2⟩), fun x hx => ⟨fun hm => ?_, (hR x hx).2⟩, fun x hx => ⟨(hA x hx).2, ?_⟩, h4.trans (hb.mono hs), h5⟩
  · rcases (hR x hx).1 with e | e
    · exact (h2 x e).1 hm
    · have := h1.reach_lt hm; omega
  · rcases (hA x hx).1 with e | e
    · exact (h3 x e).2
    · omega
/-- the caller writes blocks of his, and makes new ones -/
theorem Lf.go (h : Lf w0 bl A R k w) {T : List Nat} (ho : Only T w w') (hT : ∀ x ∈ T, x ∈ A) (hR : ∀ x, R' x → (R x ∨ w.heap.size ≤ x) ∧ x < w'.heap.size) (hA : ∀ x ∈ A', (x ∈ A ∨ w.heap.size ≤ x) ∧ R' x) : Lf w0 bl A' R' k w' := by
  obtain ⟨V, h1, h2, h3, h4, h5⟩ := h
  have hs := h4.size
  refine ⟨V, h1.move ho hT (fun x hx => (h2 x (h3 x (hT x hx)).1).1) (fun x hx => ⟨(hA x hx).1, (hR x (hA x hx).2).2⟩), fun x hx => ⟨fun hm => ?_, (hR x hx).2⟩, fun x hx => ⟨(hA x hx).2, ?_⟩, h4.trans ⟨ho.os, ho.tape, ho.output, ho.size, fun x hx => ho.block x (by omega) (fun hm => ?_)⟩, h5⟩
  · rcases (hR x hx).1 with e | e
    · exact (h2 x e).1 hm
    · have := h1.reach_lt hm; omega
  · rcases (hA x hx).1 with e | e
    · exact (h3 x e).2
    · omega
  · have := (h3 x (hT x hm)).2
    omega
/-- the caller writes blocks of his -/
theorem Lf.wrote (h : Lf w0 bl A R k w) {T : List Nat} (ho : Only T w w') (hT : ∀ x ∈ T, x ∈ A) : Lf w0 bl A R k w' := by
  obtain ⟨V, h1, h2, h3, h4, h5⟩ := h
  have hs := h4.size
  refine ⟨V, h1.only ho hT (fun x hx => (h2 x (h3 x (hT x hx)).1).1), fun x hx => ⟨(h2 x hx).1, Nat.lt_of_lt_of_le (h2 x hx).2 ho.size⟩, h3, h4.trans ⟨ho.os, ho.tape, ho.output, ho.size, fun x hx => ho.block x (by omega) (fun hm => ?_)⟩, h5⟩
  have := (h3 x (hT x hm)).2
  omega
theorem lf_new (h : Below w0.heap.size w0 w) : Calls Try.prog 4 #[] w fun e w' => e = .returned (.pointer (some ⟨w.heap.size, 0, none⟩)) ∧ Lf w0 w.heap.size [] (fun _ => False) k0 w' := by
  refine (new_any w).mono ?_
  rintro e w' ⟨rfl, h1, h2⟩
  exact ⟨rfl, _, h1, fun x hx => hx.elim, (by simp), h.trans (h2.mono h.size), h.size⟩
theorem lf_send (h : Lf w0 bl A R k w) (n : Int) (a : Option Addr) (l c : Nat) (B : List UInt8) (hb : Bts w a l c B) (hin : 0 < l → ∀ g o, a = some ⟨g, o, none⟩ → g < w0.heap.size ∨ R g) : Calls Try.prog 7 #[.pointer (some ⟨bl, 0, none⟩), .int .i64 n, .slice a l c] w fun e w' => e = .returned (.int .i64 (k.sendE n l)) ∧ Lf w0 bl A R (k.sends n B) w' ∧ Stay R w w' := by
  obtain ⟨V, h1, h2, h3, h4, h5⟩ := h
  refine (send_any h1 n a l c B hb (fun hl g o e hx => by
    rcases hin hl g o e with h | h
    · have := h1.reach_lt hx; omega
    · exact (h2 g h).1 hx)).mono ?_
  rintro e w' ⟨rfl, V', g⟩
  exact ⟨rfl, Goes.lf h1 h2 h3 h4 h5 g⟩
theorem lf_flight (h : Lf w0 bl A R k w) (hfl : k.fl.length ≤ 1024) : Calls Try.prog 8 #[.pointer (some ⟨bl, 0, none⟩)] w fun e w' => ∃ a c, e = .returned (.slice a k.fl.length c) ∧ Lf w0 bl A R k w' ∧ Below w.heap.size w w' := by
  obtain ⟨V, h1, h2, h3, h4, h5⟩ := h
  refine (flight_any h1 hfl).mono ?_
  rintro e w' ⟨v, rfl, hr, hb⟩
  obtain ⟨ps, e, ho, _⟩ := hr
  obtain ⟨a, c, e1, _⟩ := own_slice ho (by decide)
  exact ⟨a, c, by rw [e1, ← e]; simp, (Goes.lf h1 h2 h3 h4 h5 (Goes.of_below h1 hb)).1, hb⟩
theorem lf_open (h : Lf w0 bl A R k w) (n : Nat) (hn : n < 2) : Calls Try.prog 16 #[.pointer (some ⟨bl, 0, none⟩), .int .i64 (n : Int)] w fun e w' => e = .returned (.int .i64 ((k.en n).op.length : Nat)) ∧ w = w' := by
  obtain ⟨V, h1, _⟩ := h
  exact open_any h1 n hn
theorem lf_deliver (h : Lf w0 bl A R k w) (i : Nat) (hi : i < k.fl.length) (hf : ∀ p ∈ k.fl, p.f < 2) (hg : ∀ n, n < 2 → ((k.en n).got.length + 1) * 24 ≤ 140737488355328) : Calls Try.prog 12 #[.pointer (some ⟨bl, 0, none⟩), .int .i64 (i : Int)] w fun e w' => e = .returned (.int .i64 0) ∧ Lf w0 bl A R (k.dels i) w' ∧ Stay R w w' := by
  obtain ⟨V, h1, h2, h3, h4, h5⟩ := h
  obtain ⟨p, hp⟩ : ∃ p, k.fl[i]? = some p := ⟨_, List.getElem?_eq_getElem hi⟩
  refine (deliver_any h1 i p hp (hf p (List.mem_of_getElem? hp)) hg).mono ?_
  rintro e w' ⟨rfl, V', g⟩
  refine ⟨rfl, ?_⟩
  unfold Lk.dels
  rw [hp]
  exact Goes.lf h1 h2 h3 h4 h5 g
theorem lf_got (h : Lf w0 bl A R k w) (n : Nat) (hn : n < 2) (hg : ((k.en n).got.length + 1) * 24 ≤ 140737488355328) : Calls Try.prog 13 #[.pointer (some ⟨bl, 0, none⟩), .int .i64 (n : Int)] w fun e w' => ∃ v, e = .returned v ∧ Txt w' v (k.en n).got ∧ Lf w0 bl A R k w' ∧ Below w.heap.size w w' := by
  obtain ⟨V, h1, h2, h3, h4, h5⟩ := h
  refine (got_any h1 n hn hg).mono ?_
  rintro e w' ⟨v, rfl, hr, hb⟩
  exact ⟨v, rfl, txt_of_row hr, (Goes.lf h1 h2 h3 h4 h5 (Goes.of_below h1 hb)).1, hb⟩
theorem lf_drop (h : Lf w0 bl A R k w) (i : Int) : Calls Try.prog 9 #[.pointer (some ⟨bl, 0, none⟩), .int .i64 i] w fun e w' => e = .returned (.int .i64 (if k.inR i then 0 else 2)) ∧ Lf w0 bl A R (if k.inR i then k.less i.toNat else k) w' ∧ Stay R w w' := by
  obtain ⟨V, h1, h2, h3, h4, h5⟩ := h
  by_cases hi : k.inR i
  · rw [if_pos hi, if_pos hi]
    obtain ⟨n, rfl⟩ := Int.eq_ofNat_of_zero_le hi.1
    have hn : n < k.fl.length := by have := hi.2; omega
    refine (drop_ok h1 n hn).mono ?_
    rintro e w' ⟨rfl, V', g⟩
    exact ⟨rfl, Goes.lf h1 h2 h3 h4 h5 g⟩
  · rw [if_neg hi, if_neg hi]
    refine (drop_no h1 i (by unfold Lk.inR at hi; omega)).mono ?_
    rintro e w' ⟨rfl, hb⟩
    exact ⟨rfl, Goes.lf h1 h2 h3 h4 h5 (Goes.of_below h1 hb)⟩
theorem lf_twin (h : Lf w0 bl A R k w) (i : Int) : Calls Try.prog 10 #[.pointer (some ⟨bl, 0, none⟩), .int .i64 i] w fun e w' => e = .returned (.int .i64 (if k.inR i then if k.fl.length < 1024 then 0 else 9 else 2)) ∧ Lf w0 bl A R (if k.inR i ∧ k.fl.length < 1024 then k.twin i.toNat else k) w' ∧ Stay R w w' := by
  obtain ⟨V, h1, h2, h3, h4, h5⟩ := h
  by_cases hi : k.inR i
  · obtain ⟨n, rfl⟩ := Int.eq_ofNat_of_zero_le hi.1
    have hn : n < k.fl.length := by have := hi.2; omega
    by_cases hf : k.fl.length < 1024
    · rw [if_pos hi, if_pos hf, if_pos ⟨hi, hf⟩]
      refine (twin_ok h1 n hn hf).mono ?_
      rintro e w' ⟨rfl, V', g⟩
      exact ⟨rfl, Goes.lf h1 h2 h3 h4 h5 g⟩
    · rw [if_pos hi, if_neg hf, if_neg (fun x => hf x.2)]
      refine (twin_full h1 n hn hf).mono ?_
      rintro e w' ⟨rfl, rfl⟩
      exact ⟨rfl, ⟨V, h1, h2, h3, h4, h5⟩, fun x hx => rfl⟩
  · rw [if_neg hi, if_neg (fun x => hi x.1)]
    refine (twin_no h1 i (by unfold Lk.inR at hi; omega)).mono ?_
    rintro e w' ⟨rfl, rfl⟩
    exact ⟨rfl, ⟨V, h1, h2, h3, h4, h5⟩, fun x hx => rfl⟩
theorem lf_tick (h : Lf w0 bl A R k w) (hfl : k.fl.length ≤ 1024) (hop : ∀ n, n < 2 → (k.en n).op.length ≤ 256) : Calls Try.prog 11 #[.pointer (some ⟨bl, 0, none⟩)] w fun e w' => e = .returned (.int .i64 ((k.tick.fl.length - k.fl.length : Nat) : Int)) ∧ Lf w0 bl A R k.tick w' ∧ Stay R w w' := by
  obtain ⟨V, h1, h2, h3, h4, h5⟩ := h
  refine (tick_any h1 hfl hop).mono ?_
  rintro e w' ⟨rfl, V', g⟩
  exact ⟨rfl, Goes.lf h1 h2 h3 h4 h5 g⟩
end
theorem Txt.below {w w' : World} {v : Value} {l : List (List UInt8)} (h : Txt w v l) (hb : Below w.heap.size w w') : Txt w' v l := by
  obtain ⟨a, c, e, h1, h2, h3⟩ := h
  refine ⟨a, c, e, h1, h2, fun i B hB => ?_⟩
  obtain ⟨g, a', c', e1, e2, e3⟩ := h3 i B hB
  exact ⟨g, a', c', e1, (Below.cell hb (p := ⟨g, i, none⟩) (block_lt_of_cell e2)).trans e2, e3.below hb (Nat.le_refl _)⟩
theorem Txt.drewN {w : World} {v : Value} {l : List (List UInt8)} (h : Txt w v l) (n : Nat) : Txt (w.drewN n) v l := h.below ⟨rfl, rfl, rfl, Nat.le_refl _, fun _ _ => rfl⟩
/-- a row of the caller's: slices of bytes that stood there at first -/
def Rws (w0 : World) (base : Nat) (w : World) (v : Value) (L : List (List UInt8)) : Prop := ∃ vals : List Value, w.ownsRow base 27 1 v L.length vals ∧ ∀ (i : Nat) (B : List UInt8), L[i]? = some B → ∃ (a : Option Addr) (c : Nat), vals[i]? = some (Value.slice a B.length c) ∧ Bts w0 a B.length c B
theorem Rws.nil (w0 : World) (base : Nat) (w : World) : Rws w0 base w (.slice none 0 0) [] := ⟨[], ⟨rfl, .inl ⟨rfl, rfl⟩⟩, fun i B hB => by simp at hB⟩
theorem Rws.stay {w0 w w' : World} {base : Nat} {v : Value} {L : List (List UInt8)} {R : Nat → Prop} (h : Rws w0 base w v L) (hs : Stay R w w') (hv : ∀ g, v.ownBlock = some g → R g) : Rws w0 base w' v L := by
  obtain ⟨vals, ⟨hl, h1⟩, h2⟩ := h
  refine ⟨vals, ⟨hl, ?_⟩, h2⟩
  rcases h1 with h1 | ⟨g, cap, cur, rfl, hb, hg, h3⟩
  · exact .inl h1
  · exact .inr ⟨g, cap, cur, rfl, hb, (hs g (hv g rfl)).trans hg, h3⟩
theorem Rws.lt {w0 w : World} {base : Nat} {v : Value} {L : List (List UInt8)} (h : Rws w0 base w v L) {g : Nat} (hg : v.ownBlock = some g) : base ≤ g ∧ g < w.heap.size := by
  obtain ⟨vals, h1, _⟩ := h
  exact own_lt h1 hg
theorem Rws.txt {w0 w : World} {base : Nat} {v : Value} {L : List (List UInt8)} (h : Rws w0 base w v L) (hb : Below w0.heap.size w0 w) : Txt w v L := by
  obtain ⟨vals, ⟨hl, h1⟩, h2⟩ := h
  rcases h1 with ⟨rfl, e⟩ | ⟨g, cap, cur, rfl, hbs, hg, hnc, hcm, hsz, htk⟩
  · have : L = [] := List.eq_nil_of_length_eq_zero e
    subst this
    exact ⟨none, 0, rfl, by unfold maxLen; simp, by simp, fun i B hB => by simp at hB⟩
  · refine ⟨some ⟨g, 0, none⟩, cap, rfl, by omega, hnc, fun i B hB => ?_⟩
    obtain ⟨a, c, e1, e2⟩ := h2 i B hB
    refine ⟨g, a, c, rfl, ?_, e2.below hb (Nat.le_refl _)⟩
    have hi := (List.getElem?_eq_some_iff.1 hB).1
    rw [← htk, List.getElem?_take_of_lt (by omega)] at e1
    rw [cell_of_row w g _ _ _ (0, 0) hg]
    simpa using e1
theorem Rws.append {w0 w : World} {base : Nat} {v : Value} {L : List (List UInt8)} (h : Rws w0 base w v L) (a : Option Addr) (c : Nat) (B : List UInt8) (hB : Bts w0 a B.length c B) {g : Nat} (hz : Blk w g [.slice a B.length c] 27) (hl : (L.length + 1) * 24 ≤ 140737488355328) (hbase : base ≤ w.heap.size) :
    ∃ v' w', (Builtin.append_ #[42, 42] 42 #[v, .slice (some ⟨g, 0, none⟩) 1 1]).run Try.prog w = .ok v' w' ∧ Rws w0 base w' v' (L ++ [B]) ∧ w.grownBy w' v.ownBlock ∧ (v'.ownBlock = v.ownBlock ∨ v'.ownBlock = some w.heap.size) ∧ (∃ a' c', v' = .slice a' (L.length + 1) c') := by
  obtain ⟨vals, h1, h2⟩ := h
  have hlv : vals.length = L.length := by have := h1.1; omega
  obtain ⟨v', w', hr, ho, hg, hv'⟩ := run_append_any_at (P := Try.prog) w base 42 42 27 (.slice none 0 0) 1 24 Try.underlying42 info_bs rfl (by decide) v L.length vals h1 (some ⟨g, 0, none⟩) 1 1 [.slice a B.length c] (src_blk hz rfl (by intro u hu; simp at hu; subst hu; rfl)) hl (by unfold maxLen; omega) hbase
  obtain ⟨a', c', e, _⟩ := own_slice ho (by decide)
  refine ⟨v', w', hr, ⟨vals ++ [.slice a B.length c], by rw [List.length_append]; exact ho, fun i C hC => ?_⟩, hg, hv', a', c', e⟩
  by_cases hi : i < L.length
  · rw [List.getElem?_append_left hi] at hC
    obtain ⟨a1, c1, e1, e2⟩ := h2 i C hC
    exact ⟨a1, c1, by rw [List.getElem?_append_left (by omega)]; exact e1, e2⟩
  · have hi' := (List.getElem?_eq_some_iff.1 hC).1
    rw [List.length_append] at hi'
    simp at hi'
    obtain rfl : i = L.length := by omega
    rw [List.getElem?_append_right (Nat.le_refl _)] at hC
    simp at hC
    subst hC
    exact ⟨a, c, by rw [List.getElem?_append_right (by omega), hlv]; simp, hB⟩
end Go.Proofs.Ytgnnjinpcdemiaa.Link
/-
  A link beside a row of records of the caller; what was sent are those records' bytes. Helper text; no statement is proved here.
-/
set_option linter.unusedVariables false
set_option maxRecDepth 20000
set_option linter.unusedSimpArgs false
namespace Go.Proofs.Ytgnnjinpcdemiaa.Link
open Go.RowKit Go.Proofs.Ytgnnjinpcdemiaa.Base Go.Proofs.Ytgnnjinpcdemiaa.Laws Go.Proofs.Ytgnnjinpcdemiaa.Disk Go.Proofs.Ytgnnjinpcdemiaa.Row Go.Proofs.Ytgnnjinpcdemiaa.Flat Go.Proofs.Ytgnnjinpcdemiaa.InvM
open Go.Proofs.Ytgnnjinpcdemiaa.Codec (Rc Recs rv recV I64 rec37 recOut recErr IsRec recOf)
/-- the caller's block -/
def own1 (v : Value) : List Nat := v.ownBlock.toList
/-- a link, and a row of records beside it -/
structure Ca (w0 : World) (bl : Nat) (k : Lk) (v : Value) (rs : List Rc) (w : World) : Prop where
  lf : Lf w0 bl (own1 v) (fun x => v.ownBlock = some x) k w
  row : w.ownsRow w0.heap.size 35 19 v rs.length (rv rs)
section
variable {w0 w w' : World} {bl : Nat} {k k' : Lk} {v : Value} {rs : List Rc}
theorem own_stay {base : Nat} {e : TypeId} {size n : Nat} {xs : List Value} {R : Nat → Prop} (h : w.ownsRow base e size v n xs) (hs : Stay R w w') (hv : ∀ g, v.ownBlock = some g → R g) : w'.ownsRow base e size v n xs := by
  obtain ⟨hl, h1⟩ := h
  refine ⟨hl, ?_⟩
  rcases h1 with h1 | ⟨g, cap, cur, rfl, hb, hg, h3⟩
  · exact .inl h1
  · exact .inr ⟨g, cap, cur, rfl, hb, (hs g (hv g rfl)).trans hg, h3⟩
theorem Ca.goes (h : Ca w0 bl k v rs w) (hl : Lf w0 bl (own1 v) (fun x => v.ownBlock = some x) k' w' ∧ Stay (fun x => v.ownBlock = some x) w w') : Ca w0 bl k' v rs w' :=
  ⟨hl.1, own_stay h.row hl.2 (fun g hg => hg)⟩
theorem Ca.lt (h : Ca w0 bl k v rs w) {g : Nat} (hg : v.ownBlock = some g) : w0.heap.size ≤ g ∧ g < w.heap.size := own_lt h.row hg
theorem Ca.below (h : Ca w0 bl k v rs w) (hb : Below w.heap.size w w') : Ca w0 bl k v rs w' :=
  ⟨h.lf.news hb (fun x hx => ⟨.inl hx, Nat.lt_of_lt_of_le (h.lt hx).2 hb.size⟩) (fun x hx => ⟨.inl hx, by simpa [own1] using hx⟩), Lay.own_below h.row hb⟩
/-- a body that the caller has just made is sent -/
theorem ca_send (h : Ca w0 bl k v rs w) (hb : Below w.heap.size w w') {g o l c : Nat} {B : List UInt8} (hg : w.heap.size ≤ g) (hg' : g < w'.heap.size) (hB : Bts w' (some ⟨g, o, none⟩) l c B) : Calls Try.prog 7 #[.pointer (some ⟨bl, 0, none⟩), .int .i64 0, .slice (some ⟨g, o, none⟩) l c] w' fun e w'' => e = .returned (.int .i64 (k.sendE 0 l)) ∧ Ca w0 bl (k.sends 0 B) v rs w'' := by
  have hl : Lf w0 bl (own1 v) (fun x => v.ownBlock = some x ∨ x = g) k w' := h.lf.news hb (fun x hx => by
    rcases hx with hx | rfl
    · exact ⟨.inl hx, Nat.lt_of_lt_of_le (h.lt hx).2 hb.size⟩
    · exact ⟨.inr hg, hg'⟩) (fun x hx => ⟨.inl hx, .inl (by simpa [own1] using hx)⟩)
  refine (lf_send hl 0 (some ⟨g, o, none⟩) l c B hB (fun _ g' o' e => by
    simp only [Option.some.injEq, Addr.mk.injEq, and_true] at e
    exact .inr (.inr e.1.symm))).mono ?_
  rintro e w2 ⟨rfl, h1, h2⟩
  have hrow := own_stay (Lay.own_below h.row hb) h2 (fun g hg => .inl hg)
  refine ⟨rfl, h1.news (Below.refl _ _) (fun x hx => ⟨.inl (.inl hx), (own_lt hrow hx).2⟩) (fun x hx => ⟨.inl hx, by simpa [own1] using hx⟩), hrow⟩
/-- behind an append onto the caller's row -/
theorem Ca.append (h : Ca w0 bl k v rs w) {v' : Value} {r : Rc} (ho : w'.ownsRow w0.heap.size 35 19 v' (rs.length + 1) (rv rs ++ r.cells)) (hg : w.grownBy w' v.ownBlock) (hv : v'.ownBlock = v.ownBlock ∨ v'.ownBlock = some w.heap.size) : Ca w0 bl k v' (rs ++ [r]) w' := by
  have hrow : w'.ownsRow w0.heap.size 35 19 v' (rs ++ [r]).length (rv (rs ++ [r])) := by
    rw [List.length_append, Codec.rv_append, Codec.rv_one]
    exact ho
  refine ⟨h.lf.go (T := own1 v) ⟨hg.os, hg.tape, hg.output, hg.size, fun x hx hn => hg.block x hx (fun e => hn (by unfold own1; rw [← e]; simp))⟩ (fun x hx => hx) (fun x hx => ?_) (fun x hx => ?_), hrow⟩
  · refine ⟨?_, (own_lt hrow hx).2⟩
    rcases hv with e | e
    · rw [e] at hx; exact .inl hx
    · rw [e] at hx; cases hx; exact .inr (Nat.le_refl _)
  · have hx' : v'.ownBlock = some x := by simpa [own1] using hx
    refine ⟨?_, hx'⟩
    rcases hv with e | e
    · rw [e] at hx'; exact .inl (by unfold own1; rw [hx']; simp)
    · rw [e] at hx'; cases hx'; exact .inr (Nat.le_refl _)
theorem ca_flight (h : Ca w0 bl k v rs w) (hfl : k.fl.length ≤ 1024) : Calls Try.prog 8 #[.pointer (some ⟨bl, 0, none⟩)] w fun e w' => ∃ a c, e = .returned (.slice a k.fl.length c) ∧ Ca w0 bl k v rs w' := by
  refine (lf_flight h.lf hfl).mono ?_
  rintro e w' ⟨a, c, rfl, h1, h2⟩
  exact ⟨a, c, rfl, h1, Lay.own_below h.row h2⟩
theorem ca_drop (h : Ca w0 bl k v rs w) (i : Int) : Calls Try.prog 9 #[.pointer (some ⟨bl, 0, none⟩), .int .i64 i] w fun e w' => e = .returned (.int .i64 (if k.inR i then 0 else 2)) ∧ Ca w0 bl (if k.inR i then k.less i.toNat else k) v rs w' := by
  refine (lf_drop h.lf i).mono ?_
  rintro e w' ⟨rfl, h1⟩
  exact ⟨rfl, h.goes h1⟩
theorem ca_twin (h : Ca w0 bl k v rs w) (i : Int) : Calls Try.prog 10 #[.pointer (some ⟨bl, 0, none⟩), .int .i64 i] w fun e w' => ∃ x, e = .returned (.int .i64 x) ∧ Ca w0 bl (if k.inR i ∧ k.fl.length < 1024 then k.twin i.toNat else k) v rs w' := by
  refine (lf_twin h.lf i).mono ?_
  rintro e w' ⟨rfl, h1⟩
  exact ⟨_, rfl, h.goes h1⟩
theorem ca_tick (h : Ca w0 bl k v rs w) (hfl : k.fl.length ≤ 1024) (hop : ∀ n, n < 2 → (k.en n).op.length ≤ 256) : Calls Try.prog 11 #[.pointer (some ⟨bl, 0, none⟩)] w fun e w' => ∃ x, e = .returned (.int .i64 x) ∧ Ca w0 bl k.tick v rs w' := by
  refine (lf_tick h.lf hfl hop).mono ?_
  rintro e w' ⟨rfl, h1⟩
  exact ⟨_, rfl, h.goes h1⟩
theorem ca_deliver (h : Ca w0 bl k v rs w) (i : Nat) (hi : i < k.fl.length) (hf : ∀ p ∈ k.fl, p.f < 2) (hg : ∀ n, n < 2 → ((k.en n).got.length + 1) * 24 ≤ 140737488355328) : Calls Try.prog 12 #[.pointer (some ⟨bl, 0, none⟩), .int .i64 (i : Int)] w fun e w' => e = .returned (.int .i64 0) ∧ Ca w0 bl (k.dels i) v rs w' := by
  refine (lf_deliver h.lf i hi hf hg).mono ?_
  rintro e w' ⟨rfl, h1⟩
  exact ⟨rfl, h.goes h1⟩
theorem ca_got (h : Ca w0 bl k v rs w) (n : Nat) (hn : n < 2) (hg : ((k.en n).got.length + 1) * 24 ≤ 140737488355328) : Calls Try.prog 13 #[.pointer (some ⟨bl, 0, none⟩), .int .i64 (n : Int)] w fun e w' => ∃ t, e = .returned t ∧ Txt w' t (k.en n).got ∧ Ca w0 bl k v rs w' := by
  refine (lf_got h.lf n hn hg).mono ?_
  rintro e w' ⟨t, rfl, h1, h2, h3⟩
  exact ⟨t, rfl, h1, h2, Lay.own_below h.row h3⟩
end
/-! ### the plain law -/
/-- what was sent are these records, all of them by end 0 -/
structure Cr (k : Lk) (rs : List Rc) : Prop where
  ok : Ok k (fun n => if n = 0 then rs.map Rc.bytes else [])
  few : rs.length ≤ 60
  val : ∀ r ∈ rs, r.Valid
  good : ∀ r ∈ rs, r.Good
section
variable {k : Lk} {rs : List Rc}
theorem cr_zero : Cr k0 [] := ⟨by
  have := ok_k0
  have e : (fun n : Nat => if n = 0 then ([] : List Rc).map Rc.bytes else []) = fun _ => [] := by funext n; split <;> rfl
  rw [e]; exact this, by simp, by simp, by simp⟩
theorem Cr.f2 (h : Cr k rs) : ∀ p ∈ k.fl, p.f < 2 := fun p hp => (h.ok.fl p hp).1
theorem Cr.opLe (h : Cr k rs) (n : Nat) (hn : n < 2) : (k.en n).op.length ≤ if n = 0 then rs.length else 0 := by
  obtain ⟨a, _, e⟩ := h.ok.op n hn
  rw [e, opens_len, List.length_drop]
  split <;> simp
theorem Cr.gotLe (h : Cr k rs) (n : Nat) (hn : n < 2) : ((k.en n).got.length + 1) * 24 ≤ 140737488355328 := by
  have := h.ok.got (1 - n) (by omega)
  rw [show 1 - (1 - n) = n by omega] at this
  have hf := h.few
  rw [this, List.length_take]
  have : ((if 1 - n = 0 then rs.map Rc.bytes else []) : List (List UInt8)).length ≤ 60 := by split <;> simp; omega
  omega
/-- a record's bytes are sent, or not -/
theorem Cr.send (h : Cr k rs) {r : Rc} (hv : r.Valid) (hg : r.Good) (hl : rs.length < 60) : Cr (k.sends 0 r.bytes) (if k.sendE 0 37 = 0 then rs ++ [r] else rs) := by
  have hb37 := Codec.Rc.bytes_len hv
  unfold Lk.sends
  rw [hb37]
  by_cases hE : k.sendE 0 37 = 0
  · rw [if_pos hE, if_pos hE]
    have hroom : k.fl.length < 1024 ∧ (k.en 0).op.length < 256 := by
      unfold Lk.sendE at hE
      rw [if_neg (by omega)] at hE
      split at hE
      · assumption
      · cases hE
    have hne : r.bytes ≠ [] := fun e => by rw [e] at hb37; cases hb37
    have := h.ok.send 0 r.bytes (by decide) hne hroom.1 hroom.2 (by show (rs.map Rc.bytes).length + 1 < _; rw [List.length_map]; omega)
    have e : put2 (fun n => if n = 0 then rs.map Rc.bytes else []) 0 r.bytes = fun n => if n = 0 then (rs ++ [r]).map Rc.bytes else [] := by
      funext n
      unfold put2
      by_cases hn : n = 0
      · subst hn; simp
      · simp [hn]
    rw [e] at this
    exact ⟨this, by simp; omega, fun q hq => by
      rcases List.mem_append.1 hq with h1 | h1
      · exact h.val q h1
      · simp at h1; subst h1; exact hv, fun q hq => by
      rcases List.mem_append.1 hq with h1 | h1
      · exact h.good q h1
      · simp at h1; subst h1; exact hg⟩
  · rw [if_neg hE, if_neg hE]
    exact h
theorem Cr.dels (h : Cr k rs) (i : Nat) : Cr (k.dels i) rs := ⟨h.ok.dels i, h.few, h.val, h.good⟩
theorem Cr.drop (h : Cr k rs) (i : Int) : Cr (if k.inR i then k.less i.toNat else k) rs := by
  split
  · exact ⟨h.ok.less _, h.few, h.val, h.good⟩
  · exact h
theorem Cr.twin (h : Cr k rs) (i : Int) : Cr (if k.inR i ∧ k.fl.length < 1024 then k.twin i.toNat else k) rs := by
  split
  · rename_i hh
    exact ⟨h.ok.twin _ hh.2, h.few, h.val, h.good⟩
  · exact h
theorem Cr.tick (h : Cr k rs) : Cr k.tick rs := ⟨h.ok.tick, h.few, h.val, h.good⟩
end
end Go.Proofs.Ytgnnjinpcdemiaa.Link
/-
  The walk of the statement of what is carried. Helper text; no statement is proved here.
-/
set_option linter.unusedVariables false
set_option maxRecDepth 20000
set_option linter.unusedSimpArgs false
namespace Go.Proofs.Ytgnnjinpcdemiaa.Link
open Go.RowKit Go.Proofs.Ytgnnjinpcdemiaa.Base Go.Proofs.Ytgnnjinpcdemiaa.Laws Go.Proofs.Ytgnnjinpcdemiaa.Disk Go.Proofs.Ytgnnjinpcdemiaa.Row Go.Proofs.Ytgnnjinpcdemiaa.Flat Go.Proofs.Ytgnnjinpcdemiaa.InvM
open Go.Proofs.Ytgnnjinpcdemiaa.Codec (Rc Recs rv recV I64 rec37 recOut recErr IsRec recOf)
def u16c (x : Nat) : List Value := [.int .u16 (x : Int)]
theorem op1_nil {k : Lk} {S : Nat → List (List UInt8)} (h : Ok k S) (h1 : S 1 = []) : (k.en 1).op = [] := by
  obtain ⟨a, _, e⟩ := h.op 1 (by decide)
  rw [e, h1, List.drop_nil]
  rfl
theorem less_len {k : Lk} {i : Nat} (hi : i < k.fl.length) : (k.less i).fl.length = k.fl.length - 1 := by
  show (k.fl.take i ++ k.fl.drop (i + 1)).length = _
  rw [List.length_append, List.length_take, List.length_drop]
  omega
theorem Ca.len {w0 w : World} {bl : Nat} {k : Lk} {v : Value} {rs : List Rc} (h : Ca w0 bl k v rs w) : lenF bl w = k.fl.length := by
  obtain ⟨V, h1, _⟩ := h.lf
  obtain ⟨a, c, e, _⟩ := h1.slF
  have : w.cell? ⟨bl, 9, none⟩ = some (V 4) := h1.cell 9
  unfold lenF
  rw [this, e]
/-- what was sent by end n -/
def Sr (rs : List Rc) (n : Nat) : List (List UInt8) := if n = 0 then rs.map Rc.bytes else []
theorem pack_good {r : Rc} (hv : r.Valid) (hg : r.Good) (w : World) : Calls Try.prog 6 #[.agg r.cells.toArray] w fun e w' => ∃ g cap, e = .returned (.tuple #[.slice (some ⟨g, 0, none⟩) 37 cap, .int .i64 0]) ∧ w.heap.size ≤ g ∧ Bts w' (some ⟨g, 0, none⟩) 37 cap r.bytes ∧ Below w.heap.size w w' := by
  have hg' : Codec.Ok r.k ((r.a.toNat : Nat) : Int) := by
    have := hg
    unfold Rc.Good Codec.Ok at this
    unfold Codec.Ok
    omega
  have ha : ((r.a.toNat : Nat) : Int) = r.a := by
    have := hg
    unfold Rc.Good Codec.Ok at this
    omega
  have hp := Codec.pack_yes (a := r.a.toNat) hv.1 hv.2.1 hg' w.heap.size w (Nat.le_refl _)
  rw [ha] at hp
  refine hp.mono ?_
  rintro e w' ⟨p, rfl, ho, hb⟩
  obtain ⟨a, cap, rfl, _, _, hz⟩ := own_slice ho (by decide)
  obtain ⟨g, rfl, hg1, _⟩ := hz.resolve_left (by decide)
  obtain ⟨a2, cap2, e2, hbt⟩ := OwnB.bts_own (l := r.bytes) (Codec.Rc.bytes_len hv) ho
  simp only [Value.slice.injEq] at e2
  obtain ⟨rfl, _, rfl⟩ := e2
  exact ⟨g, cap, rfl, hg1, hbt, hb⟩
theorem unpack_good {r : Rc} (hv : r.Valid) (hg : r.Good) (a : Option Addr) (c : Nat) (w : World) (h : Bts w a 37 c r.bytes) : Calls Try.prog 14 #[.slice a 37 c] w fun e w' => e = .returned (.tuple #[.agg r.cells.toArray, .int .i64 0]) ∧ Below w.heap.size w w' := by
  have hg' : Codec.Ok r.k ((r.a.toNat : Nat) : Int) := by
    have := hg
    unfold Rc.Good Codec.Ok at this
    unfold Codec.Ok
    omega
  have ha : ((r.a.toNat : Nat) : Int) = r.a := by
    have := hg
    unfold Rc.Good Codec.Ok at this
    omega
  have hu := Codec.unpack_any a 37 c r.bytes w h
  obtain ⟨_, h1, h2⟩ := Codec.rec_back' (a := r.a.toNat) hv.1 hv.2.1 hg'
  rw [ha] at h1
  have e1 : recOut r.bytes = r.cells := h1
  have e2 : recErr r.bytes = 0 := h2
  rw [e1, e2] at hu
  exact hu
theorem recs_own {w : World} {base : Nat} {v : Value} {rs : List Rc} (h : w.ownsRow base 35 19 v rs.length (rv rs)) (hv : ∀ r ∈ rs, r.Valid) : ∃ a c, v = .slice a rs.length c ∧ Recs w a rs.length c rs := by
  obtain ⟨a, c, rfl, h1, h2, hz⟩ := own_slice h (by decide)
  refine ⟨a, c, rfl, rfl, h1, h2, hv, ?_⟩
  rcases hz with h0 | ⟨g, rfl, _, hc⟩
  · exact .inl h0
  · exact .inr ⟨g, 0, rfl, hc⟩
theorem only_weak' {S T : List Nat} {a b c : World} (h : Only S a b) (k : Only T b c) (hT : ∀ x ∈ T, x ∈ S ∨ a.heap.size ≤ x) : Only S a c := Str.only_weak h k hT
theorem pack_bad {r : Rc} (hv : r.Valid) (hg : ¬ r.Good) (w : World) : Calls Try.prog 6 #[.agg r.cells.toArray] w fun e w' => e = .returned (.tuple #[.slice none 0 0, .int .i64 2]) ∧ Below w.heap.size w w' := Codec.pack_no hv.1 hg w
set_option maxHeartbeats 16000000 in
theorem carried_walk (a : Option Addr) (n cap : Nat) (la : List Rc) (w : World) (hla : Recs w a n cap la) (b : Option Addr) (m c : Nat) (sts : List Nat) (hst : Sl w u16c 1 b m c sts) (hs16 : ∀ x ∈ sts, x < 65536) (hnb : n ≤ 140737488355328) (hmb : m ≤ 140737488355328) :
    Calls Try.prog 3 #[.slice a n cap, .slice b m c] w fun e w' => e = .returned (.bool true) ∧ Below w.heap.size w w' := by
  obtain ⟨h1, h2, h3, h5, h4⟩ := hla
  obtain ⟨g1, g2, g3, g5, g4⟩ := hst
  unfold maxLen at h3 g3
  have HLN := Lib.hid h1
  have HLV := Lib.hid h5
  have HLC := Lib.hid h4
  have GSN := Lib.hid g1
  have GSC := Lib.hid g4
  have GS16 := Lib.hid hs16
  clear h1 h5 h4 g1 g4 g5 hs16
  have NW := Lib.hid (lf_new (Below.refl w.heap.size w))
  go_enter Try.func3, Try.ntmps3
  go_upto_region 4 with (first
    | (go_at_call 4; go_must (refine NW.out.mono ?_; rintro e w1 ⟨rfl, hl⟩; have L1 := Lib.hid hl; clear hl))
    | (go_at_call 5; go_must (refine (Str.wakes_any _).mono ?_; rintro e w2 ⟨rfl, hb2⟩; have B2 := Lib.hid hb2; clear hb2)))
  obtain ⟨bl, hbl⟩ : ∃ bl, bl = w.heap.size := ⟨_, rfl⟩
  have HBL := Lib.hid hbl
  rw [← hbl] at L1 ⊢
  clear hbl NW
  go_upto_region 5 with (fail)
  obtain ⟨w3, hw3⟩ : ∃ w3, w3 = w2.alloc (.cells #[] 35) := ⟨_, rfl⟩
  have s1 := L1.out.below.size
  have s2 := B2.out.size
  have CA0 := Lib.hid (show Ca w bl k0 (.slice (some ⟨w2.heap.size, 0, none⟩) 0 0) [] w3 from by
    have hrow := World.ownsRow_made (e := 35) (size := 19) (base := w.heap.size) w2 #[] 0 (by omega) (Nat.zero_le _) rfl
    rw [← hw3] at hrow
    refine ⟨L1.out.news (w' := w3) (by rw [hw3]; exact B2.out.alloc B2.out.size _) (fun x hx => ?_) (fun x hx => ?_), hrow⟩
    · cases hx
      exact ⟨.inr s2, by rw [hw3]; simp⟩
    · have hx' : x = w2.heap.size := by simpa [own1, Value.ownBlock] using hx
      subst hx'
      exact ⟨.inr s2, rfl⟩)
  obtain ⟨vs0, hvs0⟩ : ∃ vs0, vs0 = Value.slice (some ⟨w2.heap.size, 0, none⟩) 0 0 := ⟨_, rfl⟩
  rw [← hw3, ← hvs0]
  rw [← hvs0] at CA0
  clear hw3 hvs0 s1 s2 L1 B2
  obtain ⟨M, hM⟩ : ∃ M, M = max n m := ⟨_, rfl⟩
  have hMn : n ≤ M := by omega
  have hMm : m ≤ M := by omega
  have HM := Lib.hid hM
  clear hM
  go_wp2_with fail
  go_loopw [6, 7] (fun v i wr => ∃ kk : Nat, ∃ k rs, i = .int .i64 kk ∧ kk ≤ M ∧ Cr k rs ∧ rs.length ≤ kk ∧ Ca w bl k v rs wr) (fun _ i _ => M - (intOf i).toNat)
  case atStart => exact ⟨0, k0, [], rfl, by omega, cr_zero, Nat.le_refl _, CA0.out⟩
  case round =>
    obtain ⟨kk, k, rs, rfl, hkM, hcr, hrk, hca⟩ := hrel
    have CR := Lib.hid hcr
    have HCA := Lib.hid hca
    have HRK := Lib.hid hrk
    clear hcr hrk hca CA0
    by_cases hgo : kk < n ∨ kk < m
    · go_upto_region 6 with (fail)
      go_cut [35] (fun cc wx => cc = .bool true ∧ wx = wr)
      case first =>
        by_cases hkn : kk < n
        · go_wp2_with fail
          go_meet
          case rel => exact ⟨rfl, rfl⟩
        · have hkm : kk < m := by omega
          clear hgo
          go_wp2_with fail
          go_meet
          case rel => exact ⟨rfl, rfl⟩
      case rest =>
        obtain ⟨rfl, rfl⟩ := hcut
        go_upto_region 8 with (fail)
        go_cut [45] (fun cc wx => cc = .bool (decide (kk < n ∧ kk < 60)) ∧ wx = wc)
        case first =>
          by_cases hkn : kk < n
          · by_cases h60 : kk < 60
            · have h60' : (kk : Int) < 60 := by omega
              go_wp2_with fail
              go_meet
              case rel => exact ⟨by simp [hkn, h60], rfl⟩
            · have h60' : ¬ (kk : Int) < 60 := by omega
              go_wp2_with fail
              go_meet
              case rel => exact ⟨by simp [hkn, h60], rfl⟩
          · go_wp2_with fail
            go_meet
            case rel => exact ⟨by simp [hkn], rfl⟩
        case rest =>
          obtain ⟨rfl, rfl⟩ := hcut
          go_upto_if 45 with (fail)
          go_cut [6] (fun v wx => ∃ k rs, Cr k rs ∧ rs.length ≤ kk + 1 ∧ Ca w bl k v rs wx)
          case first =>
            by_cases hy : kk < n ∧ kk < 60
            · rw [decide_eq_true hy]
              obtain ⟨r, hr⟩ : ∃ r, la[kk]? = some r := ⟨_, List.getElem?_eq_getElem (by have := HLN.out; omega)⟩
              have hv := HLV.out r (List.mem_of_getElem? hr)
              obtain ⟨ga, oa, rfl, hc⟩ := HLC.out.resolve_left (by omega)
              have hat := Codec.rec_at HLV.out hc hr
              have XC := Lib.hid (show ∀ (j : Nat) (u : Value), r.cells[j]? = some u → wc.cell? ((⟨ga, oa + kk * 19, none⟩ : Addr).add j) = some u from fun j u hu => by
                have h1 := hat j u hu
                rw [Addr.add_lit] at h1 ⊢
                exact (HCA.out.lf.below.cell (p := ⟨ga, oa + kk * 19 + j, none⟩) (block_lt_of_cell h1)).trans h1)
              have HAT := Lib.hid hat
              have C19 := Lib.hid (Codec.Rc.len hv)
              have HR := Lib.hid hv
              clear hc hr hv hat
              by_cases hg : r.Good
              · have PK := Lib.hid (pack_good HR.out hg wc)
                go_upto_region 10 with (first | (refine wpList_value_g rfl (.agg r.cells.toArray) (exec_load_from (ad := ⟨ga, oa + kk * 19, none⟩) (m := 19) rfl rfl XC.out Try.underlying35 rfl (by kernel_rfl) C19.out) ?_) | (go_at_call 6; go_must (refine PK.out.mono ?_; rintro e w4 ⟨gp, cp, rfl, hgp, hbt, hb4⟩; have BT4 := Lib.hid hbt; have B4 := Lib.hid hb4; clear hbt hb4)))
                have SD := Lib.hid (ca_send HCA.out B4.out hgp (bts_block BT4.out (by decide)) BT4.out)
                have CS := Lib.hid (CR.out.send HR.out hg (by have := HRK.out; omega))
                obtain ⟨E, hE⟩ : ∃ E, E = k.sendE 0 37 := ⟨_, rfl⟩
                rw [← hE] at SD CS
                clear hE PK
                by_cases hE0 : E = 0
                · subst hE0
                  go_upto_region 11 with (go_at_call 7; refine SD.out.mono ?_; rintro e w5 ⟨rfl, hl5⟩; have L5 := Lib.hid hl5; clear hl5 SD)
                  have XC5 := Lib.hid (show ∀ (j : Nat) (u : Value), r.cells[j]? = some u → w5.cell? ((⟨ga, oa + kk * 19, none⟩ : Addr).add j) = some u from fun j u hu => by
                    have h1 := HAT.out j u hu
                    rw [Addr.add_lit] at h1 ⊢
                    exact (L5.out.lf.below.cell (p := ⟨ga, oa + kk * 19 + j, none⟩) (block_lt_of_cell h1)).trans h1)
                  obtain ⟨v', w6, hrun, ho6, hg6, hv6⟩ := run_append_any_at (P := Try.prog) (w5.alloc (.cells r.cells.toArray 35)) w.heap.size 22 22 35 (.agg Codec.zrec.toArray) 19 40 Try.underlying22 Codec.info_rec rfl (by decide) _ rs.length (rv rs) (L5.out.row.alloc _) (some ⟨w5.heap.size, 0, none⟩) 1 1 r.cells (src_blk (blk_at rfl rfl) C19.out (Codec.Rc.one r)) (by have := HRK.out; omega) (by unfold maxLen; have := HRK.out; omega) (by have := L5.out.lf.below.size; rw [size_alloc]; omega)
                  have C6 := Lib.hid (show Ca w bl (k.sends 0 r.bytes) v' (rs ++ [r]) w6 from (L5.out.below ((Below.refl w5.heap.size w5).alloc (Nat.le_refl _) (.cells r.cells.toArray 35))).append ho6 hg6 hv6)
                  have HRUN := Lib.hid hrun
                  clear hrun ho6 hg6 hv6
                  go_wp2_with (first | (refine wpList_value_g rfl (.agg r.cells.toArray) (exec_load_from (ad := ⟨ga, oa + kk * 19, none⟩) (m := 19) rfl rfl XC5.out Try.underlying35 rfl (by kernel_rfl) C19.out) ?_) | (refine Codec.wpList_world_g rfl (.slice (some ⟨w5.heap.size, 0, none⟩) 1 1) (Codec.exec_build_one rfl rfl Try.underlying22 Codec.info_rec C19.out (by decide) (by decide)) ?_) | (at_builtin; go_must (refine Codec.wpList_world_g rfl v' (exec_append _ _ rfl rfl rfl HRUN.out) ?_)))
                  go_meet
                  case rel => exact ⟨_, _, CS.out, by have := HRK.out; simp; omega, C6.out⟩
                · go_wp2_with (go_at_call 7; refine SD.out.mono ?_; rintro e w5 ⟨rfl, hl5⟩; have L5 := Lib.hid hl5; clear hl5 SD)
                  go_meet
                  case rel => exact ⟨_, _, (by have hh := CS.out; rw [if_neg hE0] at hh; exact hh), by have := HRK.out; omega, L5.out⟩
              · have PK := Lib.hid (pack_bad HR.out hg wc)
                go_wp2_with (first | (refine wpList_value_g rfl (.agg r.cells.toArray) (exec_load_from (ad := ⟨ga, oa + kk * 19, none⟩) (m := 19) rfl rfl XC.out Try.underlying35 rfl (by kernel_rfl) C19.out) ?_) | (go_at_call 6; go_must (refine PK.out.mono ?_; rintro e w4 ⟨rfl, hb4⟩; have B4 := Lib.hid hb4; clear hb4)))
                go_meet
                case rel => exact ⟨k, rs, CR.out, by have := HRK.out; omega, HCA.out.below B4.out⟩
            · rw [decide_eq_false hy]
              go_wp2_with fail
              go_meet
              case rel => exact ⟨k, rs, CR.out, by have := HRK.out; omega, HCA.out⟩
          case rest =>
            have hkM1 : kk < M := by omega
            have hMb : M ≤ 140737488355328 := by have := HM.out; omega
            clear HCA CR HRK hgo
            obtain ⟨k, rs, hcr, hrk, hca⟩ := hcut
            have CR := Lib.hid hcr
            have HRK := Lib.hid hrk
            have FL := Lib.hid (ca_flight hca hcr.ok.room)
            obtain ⟨fn, hfn⟩ : ∃ fn, fn = k.fl.length := ⟨_, rfl⟩
            rw [← hfn] at FL
            have HFN := Lib.hid hfn
            have hfr : fn ≤ 1024 := by rw [hfn]; exact hcr.ok.room
            clear hcr hrk hca hfn
            go_upto_region 13 with (go_at_call 8; refine FL.out.mono ?_; rintro e w7 ⟨fa, fc, rfl, hl7⟩; have C7 := Lib.hid hl7; clear hl7 FL)
            go_cut [83] (fun cc wx => cc = .bool (decide (kk < m ∧ kk < 200 ∧ 0 < fn)) ∧ wx = w7)
            case first =>
              by_cases hkm : kk < m
              · by_cases h200 : kk < 200
                · by_cases hf0 : 0 < fn
                  · have h200' : (kk : Int) < 200 := by omega
                    have hf0' : (0 : Int) < fn := by omega
                    go_wp2_with fail
                    go_meet
                    case rel => exact ⟨by simp [hkm, h200, hf0], rfl⟩
                  · have h200' : (kk : Int) < 200 := by omega
                    have hf0' : ¬ (0 : Int) < fn := by omega
                    go_wp2_with fail
                    go_meet
                    case rel => exact ⟨by simp [hkm, h200, hf0], rfl⟩
                · have h200' : ¬ (kk : Int) < 200 := by omega
                  go_wp2_with fail
                  go_meet
                  case rel => exact ⟨by simp [hkm, h200], rfl⟩
              · go_wp2_with fail
                go_meet
                case rel => exact ⟨by simp [hkm], rfl⟩
            case rest =>
              obtain ⟨rfl, hw⟩ := hcut
              subst hw
              by_cases hy : kk < m ∧ kk < 200 ∧ 0 < fn
              · rw [decide_eq_true hy]
                obtain ⟨hkm, hk200, hf0⟩ := hy
                obtain ⟨x, hx⟩ : ∃ x, sts[kk]? = some x := ⟨_, List.getElem?_eq_getElem (by have := GSN.out; omega)⟩
                have hx16 := GS16.out x (List.mem_of_getElem? hx)
                obtain ⟨gb, ob, rfl, hc⟩ := GSC.out.resolve_left (by omega)
                have hxc : wc.cell? ⟨gb, ob + kk, none⟩ = some (.int .u16 (x : Int)) := by
                  have h1 := hc kk (.int .u16 (x : Int)) (by have h0 := flat_get (f := u16c) (m := 1) (fun _ _ => rfl) hx (j := 0) (u := .int .u16 (x : Int)) rfl; simpa using h0)
                  exact (C7.out.lf.below.cell (p := ⟨gb, ob + kk, none⟩) (block_lt_of_cell h1)).trans h1
                clear hx hc
                obtain ⟨qq, hqq⟩ : ∃ qq, qq = x / 8 := ⟨_, rfl⟩
                obtain ⟨yy, hyy⟩ : ∃ yy, yy = x % 8 := ⟨_, rfl⟩
                obtain ⟨rr, hrr⟩ : ∃ rr, rr = qq % fn := ⟨_, rfl⟩
                have hrf : rr < fn := by rw [hrr]; exact Nat.mod_lt _ hf0
                have hy8 : yy < 8 := by omega
                have e1 : Int.tdiv (x : Int) 8 = (qq : Int) := by rw [hqq, Int.tdiv_eq_ediv_of_nonneg (by omega)]; rfl
                have e2 : Int.tmod (qq : Int) (fn : Int) = (rr : Int) := by rw [hrr, Int.tmod_eq_emod_of_nonneg (by omega)]; rfl
                have e3 : Int.tmod (x : Int) 8 = (yy : Int) := by rw [hyy, Int.tmod_eq_emod_of_nonneg (by omega)]; rfl
                have hfz : ¬ (fn : Int) = 0 := by omega
                have hq16 : qq < 65536 := by omega
                have hqw : IntKind.u16.wrap (qq : Int) = (qq : Int) := by rw [IntKind.wrap_u16]; omega
                clear hqq hyy hrr
                go_upto_block 2 with (fail)
                have h8 : yy = 0 ∨ yy = 1 ∨ yy = 2 ∨ yy = 3 ∨ yy = 4 ∨ yy = 5 ∨ yy = 6 ∨ yy = 7 := by omega
                clear e1 e2 e3 hqw hxc
                rcases h8 with rfl | rfl | rfl | rfl | rfl | rfl | rfl | rfl
                · have OPc := Lib.hid (ca_drop C7.out (rr : Int))
                  go_wp2_with (go_at_call 9; refine OPc.out.mono ?_; rintro e w8 ⟨rfl, hl8⟩; have C8 := Lib.hid hl8; clear hl8 OPc)
                  refine ⟨⟨kk + 1, _, rs, by go_num, by omega, CR.out.drop _, HRK.out, C8.out⟩, ?_⟩
                  simp [intOf]; omega
                · have OPc := Lib.hid (ca_drop C7.out (rr : Int))
                  go_wp2_with (go_at_call 9; refine OPc.out.mono ?_; rintro e w8 ⟨rfl, hl8⟩; have C8 := Lib.hid hl8; clear hl8 OPc)
                  refine ⟨⟨kk + 1, _, rs, by go_num, by omega, CR.out.drop _, HRK.out, C8.out⟩, ?_⟩
                  simp [intOf]; omega
                · have OPc := Lib.hid (ca_twin C7.out (rr : Int))
                  go_wp2_with (go_at_call 10; refine OPc.out.mono ?_; rintro e w8 ⟨_, rfl, hl8⟩; have C8 := Lib.hid hl8; clear hl8 OPc)
                  refine ⟨⟨kk + 1, _, rs, by go_num, by omega, CR.out.twin _, HRK.out, C8.out⟩, ?_⟩
                  simp [intOf]; omega
                · have OPc := Lib.hid (ca_tick C7.out CR.out.ok.room CR.out.ok.few)
                  go_wp2_with (go_at_call 11; refine OPc.out.mono ?_; rintro e w8 ⟨_, rfl, hl8⟩; have C8 := Lib.hid hl8; clear hl8 OPc)
                  refine ⟨⟨kk + 1, _, rs, by go_num, by omega, CR.out.tick, HRK.out, C8.out⟩, ?_⟩
                  simp [intOf]; omega
                · have OPc := Lib.hid (ca_deliver C7.out rr (by have := HFN.out; omega) CR.out.f2 CR.out.gotLe)
                  go_wp2_with (go_at_call 12; refine OPc.out.mono ?_; rintro e w8 ⟨rfl, hl8⟩; have C8 := Lib.hid hl8; clear hl8 OPc)
                  refine ⟨⟨kk + 1, _, rs, by go_num, by omega, CR.out.dels _, HRK.out, C8.out⟩, ?_⟩
                  simp [intOf]; omega
                · have OPc := Lib.hid (ca_deliver C7.out rr (by have := HFN.out; omega) CR.out.f2 CR.out.gotLe)
                  go_wp2_with (go_at_call 12; refine OPc.out.mono ?_; rintro e w8 ⟨rfl, hl8⟩; have C8 := Lib.hid hl8; clear hl8 OPc)
                  refine ⟨⟨kk + 1, _, rs, by go_num, by omega, CR.out.dels _, HRK.out, C8.out⟩, ?_⟩
                  simp [intOf]; omega
                · have OPc := Lib.hid (ca_deliver C7.out rr (by have := HFN.out; omega) CR.out.f2 CR.out.gotLe)
                  go_wp2_with (go_at_call 12; refine OPc.out.mono ?_; rintro e w8 ⟨rfl, hl8⟩; have C8 := Lib.hid hl8; clear hl8 OPc)
                  refine ⟨⟨kk + 1, _, rs, by go_num, by omega, CR.out.dels _, HRK.out, C8.out⟩, ?_⟩
                  simp [intOf]; omega
                · have OPc := Lib.hid (ca_deliver C7.out rr (by have := HFN.out; omega) CR.out.f2 CR.out.gotLe)
                  go_wp2_with (go_at_call 12; refine OPc.out.mono ?_; rintro e w8 ⟨rfl, hl8⟩; have C8 := Lib.hid hl8; clear hl8 OPc)
                  refine ⟨⟨kk + 1, _, rs, by go_num, by omega, CR.out.dels _, HRK.out, C8.out⟩, ?_⟩
                  simp [intOf]; omega
              · rw [decide_eq_false hy]
                go_wp2_with fail
                refine ⟨⟨kk + 1, k, rs, by go_num, by omega, CR.out, HRK.out, C7.out⟩, ?_⟩
                simp [intOf]; omega
    · have hkn : ¬ kk < n := fun hh => hgo (.inl hh)
      have hkm : ¬ kk < m := fun hh => hgo (.inr hh)
      have CS := Lib.hid (show (rs.length ≤ 60) from CR.out.few)
      clear hgo
      go_upto_region 24 with (fail)
      go_loopw [] (fun wr => ∃ kd : Lk, Cr kd rs ∧ Ca w bl kd u6 rs wr) (fun wr => lenF bl wr)
      case atStart => exact ⟨k, CR.out, HCA.out⟩
      case round =>
        clear CR HCA
        obtain ⟨kd, hcr, hca⟩ := hrel
        have CR := Lib.hid hcr
        have HCA := Lib.hid hca
        have FL := Lib.hid (ca_flight hca hcr.ok.room)
        obtain ⟨fn, hfn⟩ : ∃ fn, fn = kd.fl.length := ⟨_, rfl⟩
        rw [← hfn] at FL
        have HFN := Lib.hid hfn
        have hfr : fn ≤ 1024 := by rw [hfn]; exact hcr.ok.room
        clear hcr hca hfn
        by_cases hf0 : 0 < fn
        · have hf0' : (0 : Int) < fn := by omega
          go_wp2_with (first | (go_at_call 8; refine FL.out.mono ?_; rintro e w4 ⟨fa, fc, rfl, hl4⟩; have L4 := Lib.hid hl4; have DR := Lib.hid (ca_drop hl4 0); rw [if_pos (show kd.inR 0 from ⟨by decide, by have := HFN.out; omega⟩), if_pos (show kd.inR 0 from ⟨by decide, by have := HFN.out; omega⟩)] at DR; clear hl4 FL) | (go_at_call 9; refine DR.out.mono ?_; rintro e w5 ⟨rfl, hl5⟩; have L5 := Lib.hid hl5; clear hl5 DR))
          have hll : (kd.less 0).fl.length = kd.fl.length - 1 := less_len (by have := HFN.out; omega)
          have CD := CR.out.drop 0
          rw [if_pos (show kd.inR 0 from ⟨by decide, by have := HFN.out; omega⟩)] at CD
          refine ⟨⟨kd.less 0, CD, L5.out⟩, ?_⟩
          rw [L5.out.len, HCA.out.len]
          have := HFN.out
          show (kd.less 0).fl.length < _
          omega
        · have hfz : fn = 0 := by omega
          subst hfz
          have hnil : kd.fl = [] := List.eq_nil_of_length_eq_zero HFN.out.symm
          have TK := Lib.hid (fun (w' : World) (h : Ca w bl kd u6 rs w') => ca_tick h CR.out.ok.room CR.out.ok.few)
          have hop0 : kd.a.op.length ≤ 60 := by
            have := CR.out.opLe 0 (by decide)
            have hf := CR.out.few
            rw [if_pos rfl] at this
            exact Nat.le_trans this hf
          have hop1 : kd.b.op = [] := op1_nil CR.out.ok rfl
          have RU := Lib.hid (CR.out.ok.run (n := 0) (by rw [hnil, hop1]; simp; omega) (by decide))
          have hfl : kd.tick.fl.length ≤ 60 := by
            have f0 := tries_fl kd 0 kd.a.op (by rw [hnil]; simp; omega)
            show ((kd.tries 0 kd.a.op).tries 1 kd.b.op).fl.length ≤ 60
            rw [hop1]
            show (kd.tries 0 kd.a.op).fl.length ≤ 60
            rw [f0, hnil, List.nil_append, List.length_map]
            exact hop0
          have CT := Lib.hid CR.out.tick
          have hwt := (wt_le kd.tick.fl).1
          clear hnil hop0 hop1
          go_upto_region 29 with (first | (go_at_call 8; refine FL.out.mono ?_; rintro e w4 ⟨fa, fc, rfl, hl4⟩; have L4 := Lib.hid hl4; have TK1 := Lib.hid (TK.out _ hl4); clear hl4 FL) | (go_at_call 11; refine TK1.out.mono ?_; rintro e w5 ⟨_, rfl, hl5⟩; have L5 := Lib.hid hl5; clear hl5 TK1))
          go_loopw [12] (fun i wr => ∃ jj : Nat, ∃ k : Lk, i = .int .i64 jj ∧ Cr k rs ∧ Run 0 k (fun n => if n = 0 then rs.map Rc.bytes else []) ∧ wt k.fl + jj ≤ 120 ∧ Ca w bl k u6 rs wr) (fun i _ => 500 - (intOf i).toNat)
          case atStart => exact ⟨0, kd.tick, rfl, CT.out, RU.out, by omega, L5.out⟩
          case round =>
            clear CT RU L5 CR HCA hwt hfl
            obtain ⟨jj, k, rfl, hcr, hru, hjj, hl⟩ := hrel
            have CR := Lib.hid hcr
            have RU := Lib.hid hru
            have HCA := Lib.hid hl
            have hj400 : jj ≤ 120 := by omega
            have HW := Lib.hid hjj
            have FL := Lib.hid (ca_flight hl hcr.ok.room)
            obtain ⟨fq, hfq⟩ : ∃ fq, fq = k.fl.length := ⟨_, rfl⟩
            rw [← hfq] at FL
            have HFQ := Lib.hid hfq
            have hfq200 : fq ≤ 1024 := by rw [hfq]; exact hcr.ok.room
            have hj500 : (jj : Int) < 500 := by omega
            clear hfq hcr hru hl hjj
            by_cases hq0 : 0 < fq
            · have hq0' : (0 : Int) < fq := by omega
              obtain ⟨p, rest, hpr⟩ : ∃ p rest, k.fl = p :: rest := by
                cases hf : k.fl with
                | nil => rw [hf] at HFQ; have := HFQ.out; simp at this; omega
                | cons p rest => exact ⟨p, rest, rfl⟩
              have DV := Lib.hid (fun (w' : World) (h : Ca w bl k u6 rs w') => show Calls Try.prog 12 #[.pointer (some ⟨bl, 0, none⟩), .int .i64 0] w' fun e w'' => e = .returned (.int .i64 0) ∧ Ca w bl (k.dels 0) u6 rs w'' from ca_deliver h 0 (by have := HFQ.out; omega) CR.out.f2 CR.out.gotLe)
              have R2 := Lib.hid (run_dels CR.out.ok (by decide) hpr RU.out)
              have W2 := Lib.hid (wt_dels CR.out.ok hpr)
              clear hpr
              go_wp2_with (first | (go_at_call 8; refine FL.out.mono ?_; rintro e w6 ⟨fa2, fc2, rfl, hl6⟩; have DV1 := Lib.hid (DV.out _ hl6); clear hl6 FL) | (go_at_call 12; refine DV1.out.mono ?_; rintro e w7 ⟨rfl, hl7⟩; have L7 := Lib.hid hl7; clear hl7 DV1))
              refine ⟨⟨jj + 1, k.dels 0, by go_num, CR.out.dels 0, R2.out, by have := W2.out; have := HW.out; omega, L7.out⟩, ?_⟩
              simp [intOf]; omega
            · have hqz : fq = 0 := by omega
              subst hqz
              have hnil : k.fl = [] := List.eq_nil_of_length_eq_zero HFQ.out.symm
              obtain ⟨d1, d2⟩ := CR.out.ok.done (by decide) RU.out hnil
              have D1 := Lib.hid d1
              have D2 := Lib.hid (show (k.en 1).got = rs.map Rc.bytes from d2)
              clear hnil d1 d2 HW RU
              go_upto_region 33 with (go_at_call 8; refine FL.out.mono ?_; rintro e w6 ⟨fa2, fc2, rfl, hl6⟩; have L6 := Lib.hid hl6; clear hl6 FL)
              go_upto_region 34 with (fail)
              obtain ⟨h0, hh0⟩ : ∃ h0, h0 = w6.heap.size := ⟨_, rfl⟩
              obtain ⟨w7, hw7⟩ : ∃ w7, w7 = w6.alloc (.cells #[] 35) := ⟨_, rfl⟩
              have B7 := Lib.hid (show Below w6.heap.size w6 w7 from by rw [hw7]; exact (Below.refl _ _).alloc (Nat.le_refl _) _)
              have C7 := Lib.hid (L6.out.below B7.out)
              have E7 := Lib.hid (show w7.heap[h0]? = some (.cells #[] 35 (0, 0)) from by rw [hw7, hh0]; exact heap_alloc_new w6 _)
              have R7 := Lib.hid (show w7.ownsRow w6.heap.size 35 19 (.slice (some ⟨h0, 0, none⟩) 0 0) 0 [] from by
                rw [hw7, hh0]
                exact World.ownsRow_made (e := 35) (size := 19) (base := w6.heap.size) w6 #[] 0 (Nat.le_refl _) (Nat.zero_le _) rfl)
              rw [← hw7, ← hh0]
              have GT := Lib.hid (lf_got C7.out.lf 1 (by decide) (CR.out.gotLe 1 (by decide)))
              rw [D2.out] at GT
              have hh7 : h0 < w7.heap.size := by rw [hw7, hh0]; simp
              have HH0 := Lib.hid hh0
              clear hw7 hh0
              go_upto_region 35 with (go_at_call 13; refine GT.out.mono ?_; rintro e w8 ⟨tv, rfl, ht, _, hb8⟩; have T8 := Lib.hid ht; have B8 := Lib.hid hb8; clear ht hb8 GT)
              have s6 := B7.out.size
              have s7 := B8.out.size
              have hE8 : w8.heap[h0]? = some (.cells #[] 35 (0, 0)) := by rw [B8.out.block h0 hh7]; exact E7.out
              have NH := Lib.hid (show ∀ (g o : Nat) (u : Value), w8.cell? ⟨g, o, none⟩ = some u → g ≠ h0 from fun g o u hu e => by
                subst e
                rw [cell_of_row w8 g o #[] 35 (0, 0) hE8] at hu
                simp at hu)
              have R8 := Lib.hid (Lay.own_below R7.out B8.out)
              obtain ⟨ta, tc, rfl, _, _, hat⟩ := T8.out
              rw [List.length_map]
              have TA := Lib.hid hat
              have B68 := Lib.hid (B7.out.trans (B8.out.mono s6))
              clear hat T8 hE8 E7 R7 B7 B8 C7 D2
              go_wp2_with fail
              go_loopw [13, 15] (fun gv i wr => ∃ q : Nat, q ≤ rs.length ∧ i = .int .i64 q ∧ wr.ownsRow w6.heap.size 35 19 gv q (rv (rs.take q)) ∧ (∀ g, gv.ownBlock = some g → g = h0 ∨ w8.heap.size ≤ g) ∧ Only [h0] w8 wr) (fun _ i _ => rs.length - (intOf i).toNat)
              case atStart => exact ⟨0, by omega, rfl, R8.out, (fun g hg => by cases hg; exact .inl rfl), Only.refl _ _⟩
              case round =>
                obtain ⟨q, hq, rfl, hown, hblk, honly⟩ := hrel
                have HO := Lib.hid hown
                have HK := Lib.hid hblk
                have HN := Lib.hid honly
                have s8 := honly.size
                have hcs : rs.length ≤ 60 := CS.out
                clear hown hblk honly
                by_cases hqn : q < rs.length
                · obtain ⟨r, hr⟩ : ∃ r, rs[q]? = some r := ⟨_, List.getElem?_eq_getElem hqn⟩
                  have hv := CR.out.val r (List.mem_of_getElem? hr)
                  have hg := CR.out.good r (List.mem_of_getElem? hr)
                  obtain ⟨gt, a', c', hta, hcell, hbt⟩ := TA.out q r.bytes (by rw [List.getElem?_map, hr]; rfl)
                  rw [Codec.Rc.bytes_len hv] at hcell hbt
                  subst hta
                  have hgt : gt ≠ h0 := NH.out gt q _ hcell
                  obtain ⟨gb, ob, rfl⟩ : ∃ gb ob, a' = some ⟨gb, ob, none⟩ := by
                    obtain ⟨_, _, _, h1 | ⟨g, o, e, _⟩⟩ := hbt
                    · omega
                    · exact ⟨g, o, e⟩
                  have hgb : gb ≠ h0 := by
                    obtain ⟨h1, _, _, h2 | ⟨g, o, e, hc⟩⟩ := hbt
                    · omega
                    · simp only [Option.some.injEq, Addr.mk.injEq, and_true] at e
                      obtain ⟨rfl, rfl⟩ := e
                      exact NH.out _ _ _ (hc 0 _ (List.getElem?_eq_getElem (by rw [h1]; decide)))
                  have hcr : wr.cell? ⟨gt, q, none⟩ = some (.slice (some ⟨gb, ob, none⟩) 37 c') := by
                    rw [Par.cell_only HN.out (block_lt_of_cell hcell) (by simpa using hgt)]
                    exact hcell
                  have UP := Lib.hid (unpack_good hv hg (some ⟨gb, ob, none⟩) c' wr (bts_only hbt HN.out (by simpa using hgb)))
                  have HT := Lib.hid (show rv (rs.take (q + 1)) = rv (rs.take q) ++ r.cells from by rw [take_snoc _ _ _ hr, Codec.rv_append, Codec.rv_one])
                  have C19 := Lib.hid (Codec.Rc.len hv)
                  clear hr hv hg hcell hbt
                  go_upto_region 39 with (first
                    | (go_at_call 14; go_must (refine UP.out.mono ?_; rintro e w10 ⟨rfl, hb10⟩; have B10 := Lib.hid hb10; clear hb10))
                    | (refine wpList_store_blk rfl 35 _ _ rfl w10.heap.size 0 19 rfl 35 Codec.zrec r.cells rfl (blk_at rfl rfl) (by kernel_rfl) C19.out (by decide) (Codec.Rc.one r) ?_; intro w11 z11 g11; rw [put_all _ _ (by rw [C19.out]; rfl)] at z11; have Z11 := Lib.hid z11; have B11 := Lib.hid (below_grown ((Below.refl w10.heap.size w10).alloc (Nat.le_refl _) _) g11 (by simp) (Nat.le_refl _)); clear z11 g11))
                  have s10 := B10.out.size
                  have s11 := B11.out.size
                  have BR := Lib.hid (B10.out.trans (B11.out.mono s10))
                  have hlast := HO.out
                  obtain ⟨v', w12, hrun, ho12, hg12, hv12⟩ := run_append_any_at (P := Try.prog) (w11.alloc (.cells r.cells.toArray 35)) w6.heap.size 22 22 35 (.agg Codec.zrec.toArray) 19 40 Try.underlying22 Codec.info_rec rfl (by decide) _ q (rv (rs.take q)) ((Lay.own_below hlast BR.out).alloc _) (some ⟨w11.heap.size, 0, none⟩) 1 1 r.cells (src_blk (blk_at rfl rfl) C19.out (Codec.Rc.one r)) (by have := CS.out; omega) (by unfold maxLen; have := CS.out; omega) (by rw [size_alloc]; omega)
                  rw [← HT.out] at ho12
                  have O12 := Lib.hid ho12
                  have RUN := Lib.hid hrun
                  have hon : Only [blkOf u13 w11.heap.size] wr w12 := ((Only.of_below BR.out).trans (Only.of_below ((Below.refl w11.heap.size w11).alloc (Nat.le_refl _) (.cells r.cells.toArray 35)))).trans (only_grown (d := w11.heap.size) hg12)
                  have N12 := Lib.hid (only_weak' HN.out hon (fun x hx => by
                    simp only [List.mem_singleton] at hx
                    subst hx
                    unfold blkOf
                    cases hvb : u13.ownBlock with
                    | none => right; simp; omega
                    | some gv =>
                      rcases HK.out gv hvb with e | e
                      · left; simp [e]
                      · right; simpa using e))
                  have K12 := Lib.hid (show ∀ g, v'.ownBlock = some g → g = h0 ∨ w8.heap.size ≤ g from fun g hg => by
                    rcases hv12 with e | e
                    · rw [e] at hg; exact HK.out g hg
                    · rw [e] at hg; cases hg; right; rw [size_alloc]; omega)
                  clear hrun ho12 hg12 hv12 hlast hon
                  go_wp2_with (first
                    | (refine wpList_load_blk rfl 35 _ rfl w10.heap.size 0 19 rfl 35 _ _ Z11.out Try.underlying35 rfl (by kernel_rfl) (by rw [C19.out]; omega) r.cells (by rw [List.drop_zero, List.take_of_length_le (by rw [C19.out]; omega)]) ?_)
                    | (refine Codec.wpList_world_g rfl (.slice (some ⟨w11.heap.size, 0, none⟩) 1 1) (Codec.exec_build_one rfl rfl Try.underlying22 Codec.info_rec C19.out (by decide) (by decide)) ?_)
                    | (at_builtin; go_must (refine Codec.wpList_world_g rfl v' (exec_append _ _ rfl rfl rfl RUN.out) ?_)))
                  go_roundw
                  case rel => exact ⟨q + 1, by omega, by go_num, O12.out, K12.out, N12.out⟩
                  case measure => simp [intOf]; omega
                · obtain rfl : q = rs.length := by omega
                  have ho := HO.out
                  rw [List.take_of_length_le (Nat.le_refl _)] at ho
                  obtain ⟨ga, gc, rfl, hrg⟩ := recs_own ho CR.out.val
                  have hbe : Below w6.heap.size w6 wr := B68.out.trans (HN.out.below (by omega) (fun x hx => by simp only [List.mem_singleton] at hx; have := HH0.out; omega))
                  have CE := Lib.hid (L6.out.below hbe)
                  obtain ⟨sa, sc, rfl, hrs⟩ := recs_own CE.out.row CR.out.val
                  have SM := Lib.hid (Codec.same_recs ga rs.length gc rs sa rs.length sc rs wr hrg hrs)
                  rw [decide_eq_true rfl] at SM
                  have OP := Lib.hid (fun nd => lf_open (CE.out.below (below_drewN (Below.refl wr.heap.size wr) nd)).lf 0 (by decide))
                  rw [D1.out] at OP
                  have LB := Lib.hid CE.out.lf.below
                  clear ho hrg hrs hbe
                  go_wp2_with (first
                    | (go_at_call 15; go_must (refine SM.out.mono ?_; rintro e w9 ⟨rfl, nd, rfl⟩))
                    | (go_at_call 16; go_must (refine (OP.out nd).mono ?_; rintro e w9 ⟨rfl, hw9⟩; subst hw9)))
                  go_ret
                  exact ⟨rfl, below_drewN LB.out nd⟩
end Go.Proofs.Ytgnnjinpcdemiaa.Link
/-
  WholeCarried of arguments that came in. Helper text; no statement is proved here.
-/
set_option linter.unusedVariables false
set_option maxRecDepth 20000
set_option linter.unusedSimpArgs false
namespace Go.Proofs.Ytgnnjinpcdemiaa.Link
open Go.RowKit Go.Proofs.Ytgnnjinpcdemiaa.Base Go.Proofs.Ytgnnjinpcdemiaa.Laws Go.Proofs.Ytgnnjinpcdemiaa.Flat
open Go.Proofs.Ytgnnjinpcdemiaa.Codec (Rc Recs rv recV I64)
section
variable {H : Type} {enc : TypeId × Value → H} {base : Nat} {spare : Nat → Bool} {held : Bool} {W : World}
theorem rv_flat : ∀ l : List Rc, rv l = flat Rc.cells l
  | [] => rfl
  | r :: l => by rw [flat_cons, ← rv_flat l]; rfl
theorem recs_lf {a : Option Addr} {len cap : Nat} (h : Opens.LfOk enc Try.prog W base spare held (.slice 35) (.slice a len cap)) : ∃ rs, Recs W a len cap rs ∧ len * 40 ≤ 140737488355328 := by
  obtain ⟨l, ⟨h1, h2, h3, h4, h5⟩, hok, hb⟩ := sl_in (f := Rc.cells) (m := 19) (Ok := Rc.Valid) (by decide) Codec.leavesRec Codec.cellsRec (fun cs hcs hf => by
    obtain ⟨k, v, a, l, hl16, hv, hk, ha, rfl⟩ := Codec.rec_in hcs rfl hf
    exact ⟨⟨k, v, a, l⟩, rfl, hl16, hv, hk, ha⟩) h
  have hbo : Try.prog.bytesOf 35 = 40 := by kernel_rfl
  rw [hbo] at hb
  exact ⟨l, ⟨h1, h2, h3, hok, by rw [rv_flat]; exact h5⟩, by unfold reachBytes at hb; omega⟩
theorem u16_lf {a : Option Addr} {len cap : Nat} (h : Opens.LfOk enc Try.prog W base spare held (.slice 39) (.slice a len cap)) : ∃ l, Sl W u16c 1 a len cap l ∧ (∀ x ∈ l, x < 65536) ∧ len * 2 ≤ 140737488355328 := by
  obtain ⟨l, hs, hok, hb⟩ := sl_in (f := u16c) (m := 1) (Ok := fun x => x < 65536) (ks := [.int .u16]) (by decide) (by kernel_rfl) (by kernel_rfl) (fun cs hcs hf => by
    obtain ⟨k, c1, rfl, hk, h1⟩ := hf.int
    obtain ⟨x, hx, rfl⟩ := Opens.wf_u16 hk
    have : c1 = [] := by
      simp at hcs
      exact hcs
    subst this
    exact ⟨x, rfl, hx⟩) h
  have hbo : Try.prog.bytesOf 39 = 2 := by kernel_rfl
  rw [hbo] at hb
  exact ⟨l, hs, hok, by unfold reachBytes at hb; omega⟩
theorem carried_in (a : Option Addr) (n ca : Nat) (lf : Opens.LfOk enc Try.prog W base spare held (.slice 35) (.slice a n ca)) (b : Option Addr) (m cb : Nat) (lg : Opens.LfOk enc Try.prog W base spare held (.slice 39) (.slice b m cb)) : Calls Try.prog 3 #[.slice a n ca, .slice b m cb] W fun e w' => e = .returned (.bool true) ∧ Below W.heap.size W w' := by
  obtain ⟨rs, hr, hn⟩ := recs_lf lf
  obtain ⟨sts, hs, h16, hm⟩ := u16_lf lg
  exact carried_walk a n ca rs W hr b m cb sts hs h16 (by omega) (by omega)
end
end Go.Proofs.Ytgnnjinpcdemiaa.Link
