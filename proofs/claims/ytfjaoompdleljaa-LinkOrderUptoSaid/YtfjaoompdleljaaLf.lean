/-
  A link that lives beside blocks of the caller. Helper text; no statement is proved here.
-/
import Derived.Test.YtfjaoompdleljaaLv2
import Derived.BigQuiet
import Derived.Deep.QuietTactic
set_option linter.unusedVariables false
set_option maxRecDepth 20000
set_option linter.unusedSimpArgs false
namespace Go.Proofs.Ytfjaoompdleljaa.Link
open Go.RowKit Go.Proofs.Ytfjaoompdleljaa.Base Go.Proofs.Ytfjaoompdleljaa.Laws Go.Proofs.Ytfjaoompdleljaa.Disk Go.Proofs.Ytfjaoompdleljaa.Row Go.Proofs.Ytfjaoompdleljaa.Flat Go.Proofs.Ytfjaoompdleljaa.InvM
/-- a link of blocks from bl on; nothing of what was there at first has changed; the blocks R are the caller's, and those of A he may write -/
def Lf (w0 : World) (bl : Nat) (A : List Nat) (R : Nat → Prop) (k : Lk) (w : World) : Prop := ∃ V, LinkAt w bl V A k ∧ (∀ x, R x → x ∉ reach bl V ∧ x < w.heap.size) ∧ (∀ x ∈ A, R x ∧ w0.heap.size ≤ x) ∧ Below w0.heap.size w0 w ∧ w0.heap.size ≤ bl
def Stay (R : Nat → Prop) (w w' : World) : Prop := ∀ x, R x → w'.heap[x]? = w.heap[x]?
section
variable {w0 w w' : World} {bl : Nat} {A A' : List Nat} {R R' : Nat → Prop} {k k' : Lk}
theorem Stay.trans {w2 : World} (h : Stay R w w') (g : Stay R w' w2) : Stay R w w2 := fun x hx => (g x hx).trans (h x hx)
theorem Stay.blk {g : Nat} {cs : List Value} {t : TypeId} (h : Stay R w w') (hg : R g) (hb : Blk w g cs t) : Blk w' g cs t := (h g hg).trans hb
theorem Goes.lf {V V' : Nat → Value} (h : LinkAt w bl V A k) (hR : ∀ x, R x → x ∉ reach bl V ∧ x < w.heap.size) (hA : ∀ x ∈ A, R x ∧ w0.heap.size ≤ x) (hb : Below w0.heap.size w0 w) (hbl : w0.heap.size ≤ bl) (g : Goes w bl V A w' V' k') : Lf w0 bl A R k' w' ∧ Stay R w w' := by
  have h1 := hb.size
  refine ⟨⟨V', g.at_, fun x hx => ⟨fun hm => ?_, Nat.lt_of_lt_of_le (hR x hx).2 g.only.size⟩, hA, hb.trans ⟨g.only.os, g.only.tape, g.only.output, g.only.size, fun x hx => g.only.block x (by omega) fun hm => ?_⟩, hbl⟩, fun x hx => g.only.block x (hR x hx).2 (hR x hx).1⟩
  · rcases g.kin.reach hm with e | e
    · exact (hR x hx).1 e
    · have := (hR x hx).2; omega
  · have := h.reach_lt hm
    omega
theorem Lf.below (h : Lf w0 bl A R k w) : Below w0.heap.size w0 w := h.choose_spec.2.2.2.1
theorem Lf.base (h : Lf w0 bl A R k w) : w0.heap.size ≤ bl := h.choose_spec.2.2.2.2
theorem Lf.lt (h : Lf w0 bl A R k w) {x : Nat} (hx : R x) : x < w.heap.size := (h.choose_spec.2.1 x hx).2
/-- new blocks; they may be the caller's -/
theorem Lf.news (h : Lf w0 bl A R k w) (hb : Below w.heap.size w w') (hR : ∀ x, R' x → (R x ∨ w.heap.size ≤ x) ∧ x < w'.heap.size) (hA : ∀ x ∈ A', (x ∈ A ∨ w.heap.size ≤ x) ∧ R' x) : Lf w0 bl A' R' k w' := by
  obtain ⟨V, h1, h2, h3, h4, h5⟩ := h
  have hs := h4.size
  refine ⟨V, h1.move (T := []) (Only.of_below hb) (by simp) (by simp) (fun x hx => ⟨(hA x hx).1, (hR x (hA x hx).2).2⟩), fun x hx => ⟨fun hm => ?_, (hR x hx).2⟩, fun x hx => ⟨(hA x hx).2, ?_⟩, h4.trans (hb.mono hs), h5⟩
  · rcases (hR x hx).1 with e | e
    · exact (h2 x e).1 hm
    · have := h1.reach_lt hm; omega
  · rcases (hA x hx).1 with e | e
    · exact (h3 x e).2
    · omega
/-- the caller writes blocks of his, and makes new ones -/
theorem Lf.go (h : Lf w0 bl A R k w) {T : List Nat} (ho : Only T w w') (hT : ∀ x ∈ T, x ∈ A) (hR : ∀ x, R' x → (R x ∨ w.heap.size ≤ x) ∧ x < w'.heap.size) (hA : ∀ x ∈ A', (x ∈ A ∨ w.heap.size ≤ x) ∧ R' x) : Lf w0 bl A' R' k w' := by
  obtain ⟨V, h1, h2, h3, h4, h5⟩ := h
  have hs := h4.size
  refine ⟨V, h1.move ho hT (fun x hx => (h2 x (h3 x (hT x hx)).1).1) (fun x hx => ⟨(hA x hx).1, (hR x (hA x hx).2).2⟩), fun x hx => ⟨fun hm => ?_, (hR x hx).2⟩, fun x hx => ⟨(hA x hx).2, ?_⟩, h4.trans ⟨ho.os, ho.tape, ho.output, ho.size, fun x hx => ho.block x (by omega) (fun hm => ?_)⟩, h5⟩
  · rcases (hR x hx).1 with e | e
    · exact (h2 x e).1 hm
    · have := h1.reach_lt hm; omega
  · rcases (hA x hx).1 with e | e
    · exact (h3 x e).2
    · omega
  · have := (h3 x (hT x hm)).2
    omega
/-- the caller writes blocks of his -/
theorem Lf.wrote (h : Lf w0 bl A R k w) {T : List Nat} (ho : Only T w w') (hT : ∀ x ∈ T, x ∈ A) : Lf w0 bl A R k w' := by
  obtain ⟨V, h1, h2, h3, h4, h5⟩ := h
  have hs := h4.size
  refine ⟨V, h1.only ho hT (fun x hx => (h2 x (h3 x (hT x hx)).1).1), fun x hx => ⟨(h2 x hx).1, Nat.lt_of_lt_of_le (h2 x hx).2 ho.size⟩, h3, h4.trans ⟨ho.os, ho.tape, ho.output, ho.size, fun x hx => ho.block x (by omega) (fun hm => ?_)⟩, h5⟩
  have := (h3 x (hT x hm)).2
  omega
theorem lf_new (h : Below w0.heap.size w0 w) : Calls Try.prog 10 #[] w fun e w' => e = .returned (.pointer (some ⟨w.heap.size, 0, none⟩)) ∧ Lf w0 w.heap.size [] (fun _ => False) k0 w' := by
  refine (new_any w).mono ?_
  rintro e w' ⟨rfl, h1, h2⟩
  exact ⟨rfl, _, h1, fun x hx => hx.elim, (by simp), h.trans (h2.mono h.size), h.size⟩
theorem lf_send (h : Lf w0 bl A R k w) (n : Int) (a : Option Addr) (l c : Nat) (B : List UInt8) (hb : Bts w a l c B) (hin : 0 < l → ∀ g o, a = some ⟨g, o, none⟩ → g < w0.heap.size ∨ R g) : Calls Try.prog 11 #[.pointer (some ⟨bl, 0, none⟩), .int .i64 n, .slice a l c] w fun e w' => e = .returned (.int .i64 (k.sendE n l)) ∧ Lf w0 bl A R (k.sends n B) w' ∧ Stay R w w' := by
  obtain ⟨V, h1, h2, h3, h4, h5⟩ := h
  refine (send_any h1 n a l c B hb (fun hl g o e hx => by
    rcases hin hl g o e with h | h
    · have := h1.reach_lt hx; omega
    · exact (h2 g h).1 hx)).mono ?_
  rintro e w' ⟨rfl, V', g⟩
  exact ⟨rfl, Goes.lf h1 h2 h3 h4 h5 g⟩
theorem lf_flight (h : Lf w0 bl A R k w) (hfl : k.fl.length ≤ 1024) : Calls Try.prog 12 #[.pointer (some ⟨bl, 0, none⟩)] w fun e w' => ∃ a c, e = .returned (.slice a k.fl.length c) ∧ Lf w0 bl A R k w' ∧ Below w.heap.size w w' := by
  obtain ⟨V, h1, h2, h3, h4, h5⟩ := h
  refine (flight_any h1 hfl).mono ?_
  rintro e w' ⟨v, rfl, hr, hb⟩
  obtain ⟨ps, e, ho, _⟩ := hr
  obtain ⟨a, c, e1, _⟩ := own_slice ho (by decide)
  exact ⟨a, c, by rw [e1, ← e]; simp, (Goes.lf h1 h2 h3 h4 h5 (Goes.of_below h1 hb)).1, hb⟩
theorem lf_open (h : Lf w0 bl A R k w) (n : Nat) (hn : n < 2) : Calls Try.prog 14 #[.pointer (some ⟨bl, 0, none⟩), .int .i64 (n : Int)] w fun e w' => e = .returned (.int .i64 ((k.en n).op.length : Nat)) ∧ w = w' := by
  obtain ⟨V, h1, _⟩ := h
  exact open_any h1 n hn
theorem lf_deliver (h : Lf w0 bl A R k w) (i : Nat) (hi : i < k.fl.length) (hf : ∀ p ∈ k.fl, p.f < 2) (hg : ∀ n, n < 2 → ((k.en n).got.length + 1) * 24 ≤ 140737488355328) : Calls Try.prog 15 #[.pointer (some ⟨bl, 0, none⟩), .int .i64 (i : Int)] w fun e w' => e = .returned (.int .i64 0) ∧ Lf w0 bl A R (k.dels i) w' ∧ Stay R w w' := by
  obtain ⟨V, h1, h2, h3, h4, h5⟩ := h
  obtain ⟨p, hp⟩ : ∃ p, k.fl[i]? = some p := ⟨_, List.getElem?_eq_getElem hi⟩
  refine (deliver_any h1 i p hp (hf p (List.mem_of_getElem? hp)) hg).mono ?_
  rintro e w' ⟨rfl, V', g⟩
  refine ⟨rfl, ?_⟩
  unfold Lk.dels
  rw [hp]
  exact Goes.lf h1 h2 h3 h4 h5 g
theorem lf_got (h : Lf w0 bl A R k w) (n : Nat) (hn : n < 2) (hg : ((k.en n).got.length + 1) * 24 ≤ 140737488355328) : Calls Try.prog 16 #[.pointer (some ⟨bl, 0, none⟩), .int .i64 (n : Int)] w fun e w' => ∃ v, e = .returned v ∧ Txt w' v (k.en n).got ∧ Lf w0 bl A R k w' ∧ Below w.heap.size w w' := by
  obtain ⟨V, h1, h2, h3, h4, h5⟩ := h
  refine (got_any h1 n hn hg).mono ?_
  rintro e w' ⟨v, rfl, hr, hb⟩
  exact ⟨v, rfl, txt_of_row hr, (Goes.lf h1 h2 h3 h4 h5 (Goes.of_below h1 hb)).1, hb⟩
theorem lf_drop (h : Lf w0 bl A R k w) (i : Int) : Calls Try.prog 20 #[.pointer (some ⟨bl, 0, none⟩), .int .i64 i] w fun e w' => e = .returned (.int .i64 (if k.inR i then 0 else 2)) ∧ Lf w0 bl A R (if k.inR i then k.less i.toNat else k) w' ∧ Stay R w w' := by
  obtain ⟨V, h1, h2, h3, h4, h5⟩ := h
  by_cases hi : k.inR i
  · rw [if_pos hi, if_pos hi]
    obtain ⟨n, rfl⟩ := Int.eq_ofNat_of_zero_le hi.1
    have hn : n < k.fl.length := by have := hi.2; omega
    refine (drop_ok h1 n hn).mono ?_
    rintro e w' ⟨rfl, V', g⟩
    exact ⟨rfl, Goes.lf h1 h2 h3 h4 h5 g⟩
  · rw [if_neg hi, if_neg hi]
    refine (drop_no h1 i (by unfold Lk.inR at hi; omega)).mono ?_
    rintro e w' ⟨rfl, hb⟩
    exact ⟨rfl, Goes.lf h1 h2 h3 h4 h5 (Goes.of_below h1 hb)⟩
theorem lf_twin (h : Lf w0 bl A R k w) (i : Int) : Calls Try.prog 22 #[.pointer (some ⟨bl, 0, none⟩), .int .i64 i] w fun e w' => e = .returned (.int .i64 (if k.inR i then if k.fl.length < 1024 then 0 else 9 else 2)) ∧ Lf w0 bl A R (if k.inR i ∧ k.fl.length < 1024 then k.twin i.toNat else k) w' ∧ Stay R w w' := by
  obtain ⟨V, h1, h2, h3, h4, h5⟩ := h
  by_cases hi : k.inR i
  · obtain ⟨n, rfl⟩ := Int.eq_ofNat_of_zero_le hi.1
    have hn : n < k.fl.length := by have := hi.2; omega
    by_cases hf : k.fl.length < 1024
    · rw [if_pos hi, if_pos hf, if_pos ⟨hi, hf⟩]
      refine (twin_ok h1 n hn hf).mono ?_
      rintro e w' ⟨rfl, V', g⟩
      exact ⟨rfl, Goes.lf h1 h2 h3 h4 h5 g⟩
    · rw [if_pos hi, if_neg hf, if_neg (fun x => hf x.2)]
      refine (twin_full h1 n hn hf).mono ?_
      rintro e w' ⟨rfl, rfl⟩
      exact ⟨rfl, ⟨V, h1, h2, h3, h4, h5⟩, fun x hx => rfl⟩
  · rw [if_neg hi, if_neg (fun x => hi x.1)]
    refine (twin_no h1 i (by unfold Lk.inR at hi; omega)).mono ?_
    rintro e w' ⟨rfl, rfl⟩
    exact ⟨rfl, ⟨V, h1, h2, h3, h4, h5⟩, fun x hx => rfl⟩
theorem lf_tick (h : Lf w0 bl A R k w) (hfl : k.fl.length ≤ 1024) (hop : ∀ n, n < 2 → (k.en n).op.length ≤ 256) : Calls Try.prog 18 #[.pointer (some ⟨bl, 0, none⟩)] w fun e w' => e = .returned (.int .i64 ((k.tick.fl.length - k.fl.length : Nat) : Int)) ∧ Lf w0 bl A R k.tick w' ∧ Stay R w w' := by
  obtain ⟨V, h1, h2, h3, h4, h5⟩ := h
  refine (tick_any h1 hfl hop).mono ?_
  rintro e w' ⟨rfl, V', g⟩
  exact ⟨rfl, Goes.lf h1 h2 h3 h4 h5 g⟩
end
theorem Txt.below {w w' : World} {v : Value} {l : List (List UInt8)} (h : Txt w v l) (hb : Below w.heap.size w w') : Txt w' v l := by
  obtain ⟨a, c, e, h1, h2, h3⟩ := h
  refine ⟨a, c, e, h1, h2, fun i B hB => ?_⟩
  obtain ⟨g, a', c', e1, e2, e3⟩ := h3 i B hB
  exact ⟨g, a', c', e1, (Below.cell hb (p := ⟨g, i, none⟩) (block_lt_of_cell e2)).trans e2, e3.below hb (Nat.le_refl _)⟩
theorem Txt.drewN {w : World} {v : Value} {l : List (List UInt8)} (h : Txt w v l) (n : Nat) : Txt (w.drewN n) v l := h.below ⟨rfl, rfl, rfl, Nat.le_refl _, fun _ _ => rfl⟩
/-- a row of the caller's: slices of bytes that stood there at first -/
def Rws (w0 : World) (base : Nat) (w : World) (v : Value) (L : List (List UInt8)) : Prop := ∃ vals : List Value, w.ownsRow base 23 1 v L.length vals ∧ ∀ (i : Nat) (B : List UInt8), L[i]? = some B → ∃ (a : Option Addr) (c : Nat), vals[i]? = some (Value.slice a B.length c) ∧ Bts w0 a B.length c B
theorem Rws.nil (w0 : World) (base : Nat) (w : World) : Rws w0 base w (.slice none 0 0) [] := ⟨[], ⟨rfl, .inl ⟨rfl, rfl⟩⟩, fun i B hB => by simp at hB⟩
theorem Rws.stay {w0 w w' : World} {base : Nat} {v : Value} {L : List (List UInt8)} {R : Nat → Prop} (h : Rws w0 base w v L) (hs : Stay R w w') (hv : ∀ g, v.ownBlock = some g → R g) : Rws w0 base w' v L := by
  obtain ⟨vals, ⟨hl, h1⟩, h2⟩ := h
  refine ⟨vals, ⟨hl, ?_⟩, h2⟩
  rcases h1 with h1 | ⟨g, cap, cur, rfl, hb, hg, h3⟩
  · exact .inl h1
  · exact .inr ⟨g, cap, cur, rfl, hb, (hs g (hv g rfl)).trans hg, h3⟩
theorem Rws.lt {w0 w : World} {base : Nat} {v : Value} {L : List (List UInt8)} (h : Rws w0 base w v L) {g : Nat} (hg : v.ownBlock = some g) : base ≤ g ∧ g < w.heap.size := by
  obtain ⟨vals, h1, _⟩ := h
  exact own_lt h1 hg
theorem Rws.txt {w0 w : World} {base : Nat} {v : Value} {L : List (List UInt8)} (h : Rws w0 base w v L) (hb : Below w0.heap.size w0 w) : Txt w v L := by
  obtain ⟨vals, ⟨hl, h1⟩, h2⟩ := h
  rcases h1 with ⟨rfl, e⟩ | ⟨g, cap, cur, rfl, hbs, hg, hnc, hcm, hsz, htk⟩
  · have : L = [] := List.eq_nil_of_length_eq_zero e
    subst this
    exact ⟨none, 0, rfl, by unfold maxLen; simp, by simp, fun i B hB => by simp at hB⟩
  · refine ⟨some ⟨g, 0, none⟩, cap, rfl, by omega, hnc, fun i B hB => ?_⟩
    obtain ⟨a, c, e1, e2⟩ := h2 i B hB
    refine ⟨g, a, c, rfl, ?_, e2.below hb (Nat.le_refl _)⟩
    have hi := (List.getElem?_eq_some_iff.1 hB).1
    rw [← htk, List.getElem?_take_of_lt (by omega)] at e1
    rw [cell_of_row w g _ _ _ (0, 0) hg]
    simpa using e1
theorem Rws.append {w0 w : World} {base : Nat} {v : Value} {L : List (List UInt8)} (h : Rws w0 base w v L) (a : Option Addr) (c : Nat) (B : List UInt8) (hB : Bts w0 a B.length c B) {g : Nat} (hz : Blk w g [.slice a B.length c] 23) (hl : (L.length + 1) * 24 ≤ 140737488355328) (hbase : base ≤ w.heap.size) :
    ∃ v' w', (Builtin.append_ #[22, 22] 22 #[v, .slice (some ⟨g, 0, none⟩) 1 1]).run Try.prog w = .ok v' w' ∧ Rws w0 base w' v' (L ++ [B]) ∧ w.grownBy w' v.ownBlock ∧ (v'.ownBlock = v.ownBlock ∨ v'.ownBlock = some w.heap.size) ∧ (∃ a' c', v' = .slice a' (L.length + 1) c') := by
  obtain ⟨vals, h1, h2⟩ := h
  have hlv : vals.length = L.length := by have := h1.1; omega
  obtain ⟨v', w', hr, ho, hg, hv'⟩ := run_append_any_at (P := Try.prog) w base 22 22 23 (.slice none 0 0) 1 24 Try.underlying22 info_bs rfl (by decide) v L.length vals h1 (some ⟨g, 0, none⟩) 1 1 [.slice a B.length c] (src_blk hz rfl (by intro u hu; simp at hu; subst hu; rfl)) hl (by unfold maxLen; omega) hbase
  obtain ⟨a', c', e, _⟩ := own_slice ho (by decide)
  refine ⟨v', w', hr, ⟨vals ++ [.slice a B.length c], by rw [List.length_append]; exact ho, fun i C hC => ?_⟩, hg, hv', a', c', e⟩
  by_cases hi : i < L.length
  · rw [List.getElem?_append_left hi] at hC
    obtain ⟨a1, c1, e1, e2⟩ := h2 i C hC
    exact ⟨a1, c1, by rw [List.getElem?_append_left (by omega)]; exact e1, e2⟩
  · have hi' := (List.getElem?_eq_some_iff.1 hC).1
    rw [List.length_append] at hi'
    simp at hi'
    obtain rfl : i = L.length := by omega
    rw [List.getElem?_append_right (Nat.le_refl _)] at hC
    simp at hC
    subst hC
    exact ⟨a, c, by rw [List.getElem?_append_right (by omega), hlv]; simp, hB⟩
/-- SameTexts of the reference -/
theorem texts_any (va vb : Value) (la lb : List (List UInt8)) (w : World) (ha : Txt w va la) (hb : Txt w vb lb) : Calls Try.prog 19 #[va, vb] w fun e w' => e = .returned (.bool (decide (la = lb))) ∧ ∃ nd, w' = w.drewN nd := by
  obtain ⟨a, ca, rfl, h1, h2, h3⟩ := ha
  obtain ⟨b, cb, rfl, g1, g2, g3⟩ := hb
  unfold maxLen at h1 g1
  obtain ⟨n, hn⟩ : ∃ n, n = la.length := ⟨_, rfl⟩
  obtain ⟨m, hm⟩ : ∃ m, m = lb.length := ⟨_, rfl⟩
  rw [← hn] at h1 h2 ⊢
  rw [← hm] at g1 g2 ⊢
  have HA := Lib.hid h3
  have HB := Lib.hid g3
  have HN := Lib.hid hn
  have HM := Lib.hid hm
  clear h3 g3 hn hm
  by_cases hnm : n = m
  · subst hnm
    go_enter Try.func19, Try.ntmps19
    go_wp2
    go_loopw [5] (fun i wr => ∃ k nd : Nat, k ≤ n ∧ i = .int .i64 k ∧ la.take k = lb.take k ∧ wr = w.drewN nd) (fun i _ => n - (intOf i).toNat)
    case atStart => exact ⟨0, 0, by omega, rfl, rfl, rfl⟩
    case round =>
      obtain ⟨k, nd, hk, rfl, ht, rfl⟩ := hrel
      have HT := Lib.hid ht
      clear ht
      by_cases hkn : k < n
      · obtain ⟨x, hx⟩ : ∃ x, la[k]? = some x := ⟨_, List.getElem?_eq_getElem (by have := HN.out; omega)⟩
        obtain ⟨y, hy⟩ : ∃ y, lb[k]? = some y := ⟨_, List.getElem?_eq_getElem (by have := HM.out; omega)⟩
        obtain ⟨g, xa, xc, rfl, xcell, xb⟩ := HA.out k x hx
        obtain ⟨g', ya, yc, rfl, ycell, yb⟩ := HB.out k y hy
        have X1 := Lib.hid (take_snoc la k x hx)
        have Y1 := Lib.hid (take_snoc lb k y hy)
        have XG := Lib.hid hx
        have YG := Lib.hid hy
        have SM := Lib.hid (show ∀ q : Nat, Calls Try.prog 17 #[.slice xa x.length xc, .slice ya y.length yc] (w.drewN (nd + q)) fun e w' => e = .returned (.bool (decide (x = y))) ∧ ∃ n, w' = w.drewN (nd + n) from fun q =>
          (Same.same_any xa x.length xc x ya y.length yc y (w.drewN (nd + q)) (xb.below ⟨rfl, rfl, rfl, Nat.le_refl _, fun _ _ => rfl⟩ (Nat.le_refl _)) (yb.below ⟨rfl, rfl, rfl, Nat.le_refl _, fun _ _ => rfl⟩ (Nat.le_refl _))).mono (by
            rintro e w' ⟨rfl, m, rfl⟩
            exact ⟨rfl, q + m, by rw [World.drewN_drewN, Nat.add_assoc]⟩))
        obtain ⟨xl, hxl⟩ : ∃ xl, xl = x.length := ⟨_, rfl⟩
        obtain ⟨yl, hyl⟩ : ∃ yl, yl = y.length := ⟨_, rfl⟩
        rw [← hxl] at xcell SM
        rw [← hyl] at ycell SM
        clear hx hy xb yb hxl hyl
        by_cases hxy : x = y
        · have ED := Lib.hid (show decide (x = y) = true from decide_eq_true hxy)
          rw [ED.out] at SM
          clear ED
          go_wp2
          go_quiet (first | (go_at_call 17; exact SM.out _))
          go_wp2
          go_roundw
          case rel => exact ⟨k + 1, nd + nq, by omega, by go_num, by rw [X1.out, Y1.out, HT.out, hxy], rfl⟩
          case measure => simp [intOf]; omega
        · rw [decide_eq_false hxy] at SM
          go_wp2
          go_quiet (first | (go_at_call 17; exact SM.out _))
          go_wp2
          go_ret
          refine ⟨ret_bool (decide_eq_false fun e => hxy ?_).symm, nd + nq, by first | rfl | exact World.drewN_drewN ..⟩
          have := XG.out
          rw [e, YG.out] at this
          exact (Option.some.inj this).symm
      · go_wp2
        go_ret
        exact ⟨ret_bool (decide_eq_true (Same.take_eq_of (by have := HN.out; have := HM.out; omega) (by have := HN.out; omega) HT.out)).symm, _, rfl⟩
  · have HNE := Lib.hid (show la ≠ lb from fun e => by subst e; exact hnm (HN.out.trans HM.out.symm))
    go_enter Try.func19, Try.ntmps19
    go_wp2
    go_ret
    exact ⟨ret_bool (decide_eq_false HNE.out).symm, 0, rfl⟩
end Go.Proofs.Ytfjaoompdleljaa.Link
