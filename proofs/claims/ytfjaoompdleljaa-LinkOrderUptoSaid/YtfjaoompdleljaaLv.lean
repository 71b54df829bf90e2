/-
  A link that lives, beside what was there when the call began. Helper text; no statement is proved here.
-/
import Derived.Test.YtfjaoompdleljaaLinkSd
import Derived.Test.YtfjaoompdleljaaLinkDv
import Derived.Test.YtfjaoompdleljaaLinkAw
import Derived.Test.YtfjaoompdleljaaPcs
import Derived.Test.YtfjaoompdleljaaSame
set_option linter.unusedVariables false
set_option maxRecDepth 20000
set_option linter.unusedSimpArgs false
namespace Go.Proofs.Ytfjaoompdleljaa.Link
open Go.RowKit Go.Proofs.Ytfjaoompdleljaa.Base Go.Proofs.Ytfjaoompdleljaa.Laws Go.Proofs.Ytfjaoompdleljaa.Disk Go.Proofs.Ytfjaoompdleljaa.Row Go.Proofs.Ytfjaoompdleljaa.Flat Go.Proofs.Ytfjaoompdleljaa.InvM
/-- a link of blocks from bl on, and nothing of what was there has changed -/
def Lv (w0 : World) (bl : Nat) (A : List Nat) (k : Lk) (w : World) : Prop := ∃ V, LinkAt w bl V A k ∧ Below w0.heap.size w0 w ∧ w0.heap.size ≤ bl
section
variable {w0 w w' : World} {bl : Nat} {A : List Nat} {k k' : Lk}
theorem Goes.lv {V V' : Nat → Value} (h : LinkAt w bl V A k) (hb : Below w0.heap.size w0 w) (hbl : w0.heap.size ≤ bl) (g : Goes w bl V A w' V' k') : Lv w0 bl A k' w' := by
  have h1 := hb.size
  refine ⟨V', g.at_, hb.trans ⟨g.only.os, g.only.tape, g.only.output, g.only.size, fun x hx => g.only.block x (by omega) fun hm => ?_⟩, hbl⟩
  have := h.reach_lt hm
  omega
theorem Lv.goesB (h : Lv w0 bl A k w) (hb : Below w.heap.size w w') : Lv w0 bl A k w' := by
  obtain ⟨V, h1, h2, h3⟩ := h
  exact Goes.lv h1 h2 h3 (Goes.of_below h1 hb)
theorem lv_new (h : Below w0.heap.size w0 w) : Calls Try.prog 10 #[] w fun e w' => e = .returned (.pointer (some ⟨w.heap.size, 0, none⟩)) ∧ Lv w0 w.heap.size [] k0 w' := by
  refine (new_any w).mono ?_
  rintro e w' ⟨rfl, h1, h2⟩
  exact ⟨rfl, _, h1, h.trans (h2.mono h.size), h.size⟩
theorem lv_send (h : Lv w0 bl A k w) (n : Int) (a : Option Addr) (l c : Nat) (B : List UInt8) (hb : Bts w a l c B) (hin : 0 < l → ∀ g o, a = some ⟨g, o, none⟩ → g < w0.heap.size) : Calls Try.prog 11 #[.pointer (some ⟨bl, 0, none⟩), .int .i64 n, .slice a l c] w fun e w' => e = .returned (.int .i64 (k.sendE n l)) ∧ Lv w0 bl A (k.sends n B) w' := by
  obtain ⟨V, h1, h2, h3⟩ := h
  refine (send_any h1 n a l c B hb (fun hl g o e hx => by have := h1.reach_lt hx; have := hin hl g o e; omega)).mono ?_
  rintro e w' ⟨rfl, V', g⟩
  exact ⟨rfl, Goes.lv h1 h2 h3 g⟩
theorem lv_flight (h : Lv w0 bl A k w) (hfl : k.fl.length ≤ 1024) : Calls Try.prog 12 #[.pointer (some ⟨bl, 0, none⟩)] w fun e w' => ∃ a c, e = .returned (.slice a k.fl.length c) ∧ Lv w0 bl A k w' := by
  obtain ⟨V, h1, h2, h3⟩ := h
  refine (flight_any h1 hfl).mono ?_
  rintro e w' ⟨v, rfl, hr, hb⟩
  obtain ⟨ps, e, ho, _⟩ := hr
  obtain ⟨a, c, e1, _⟩ := own_slice ho (by decide)
  exact ⟨a, c, by rw [e1, ← e]; simp, Goes.lv h1 h2 h3 (Goes.of_below h1 hb)⟩
theorem lv_open (h : Lv w0 bl A k w) (n : Nat) (hn : n < 2) : Calls Try.prog 14 #[.pointer (some ⟨bl, 0, none⟩), .int .i64 (n : Int)] w fun e w' => e = .returned (.int .i64 ((k.en n).op.length : Nat)) ∧ w = w' := by
  obtain ⟨V, h1, h2, h3⟩ := h
  exact open_any h1 n hn
theorem lv_renew (h : Lv w0 bl A k w) (e : Nat) : Calls Try.prog 13 #[.pointer (some ⟨bl, 0, none⟩), .int .u32 (e : Int)] w fun x w' => x = .returned (.int .i64 (if e ≤ k.ep then 2 else 0)) ∧ Lv w0 bl A (if e ≤ k.ep then k else k.renew e) w' := by
  obtain ⟨V, h1, h2, h3⟩ := h
  by_cases he : e ≤ k.ep
  · rw [if_pos he, if_pos he]
    refine (renew_no h1 e he).mono ?_
    rintro e w' ⟨rfl, rfl⟩
    exact ⟨rfl, V, h1, h2, h3⟩
  · rw [if_neg he, if_neg he]
    refine (renew_ok h1 e (by omega)).mono ?_
    rintro e w' ⟨rfl, V', g⟩
    exact ⟨rfl, Goes.lv h1 h2 h3 g⟩
def Lk.dels (k : Lk) (i : Nat) : Lk := match k.fl[i]? with | some p => (k.less i).comes p | none => k
theorem lv_deliver (h : Lv w0 bl A k w) (i : Nat) (hi : i < k.fl.length) (hf : ∀ p ∈ k.fl, p.f < 2) (hg : ∀ n, n < 2 → ((k.en n).got.length + 1) * 24 ≤ 140737488355328) : Calls Try.prog 15 #[.pointer (some ⟨bl, 0, none⟩), .int .i64 (i : Int)] w fun e w' => e = .returned (.int .i64 0) ∧ Lv w0 bl A (k.dels i) w' := by
  obtain ⟨V, h1, h2, h3⟩ := h
  obtain ⟨p, hp⟩ : ∃ p, k.fl[i]? = some p := ⟨_, List.getElem?_eq_getElem hi⟩
  refine (deliver_any h1 i p hp (hf p (List.mem_of_getElem? hp)) hg).mono ?_
  rintro e w' ⟨rfl, V', g⟩
  refine ⟨rfl, ?_⟩
  unfold Lk.dels
  rw [hp]
  exact Goes.lv h1 h2 h3 g
/-- a slice of bodies, each readable -/
def Txt (w : World) (v : Value) (l : List (List UInt8)) : Prop := ∃ a c, v = .slice a l.length c ∧ l.length ≤ maxLen ∧ l.length ≤ c ∧ ∀ i B, l[i]? = some B → ∃ g a' c', a = some ⟨g, 0, none⟩ ∧ w.cell? ⟨g, i, none⟩ = some (.slice a' B.length c') ∧ Bts w a' B.length c' B
theorem txt_of_row {base : Nat} {S : List Nat} {v : Value} {l : List (List UInt8)} (h : RowOf w base S 23 1 gc id v l) : Txt w v l := by
  obtain ⟨ps, e, ho, hb⟩ := h
  have hlen : ps.length = l.length := by rw [← e]; simp
  rcases ho.2 with ⟨e1, e2⟩ | ⟨g, cap, cur, e1, hbs, hg, hnc, hcm, hsz, htk⟩
  · have : l = [] := List.eq_nil_of_length_eq_zero (by omega)
    subst this
    exact ⟨none, 0, e1, by unfold maxLen; simp, by simp, fun i B hB => by simp at hB⟩
  · refine ⟨some ⟨g, 0, none⟩, cap, by rw [e1, hlen], by omega, by omega, fun i B hB => ?_⟩
    obtain ⟨g', c, y, e2, _, hc, hy⟩ := (show RowOf w base S 23 1 gc id v l from ⟨ps, e, ho, hb⟩).at_ (fun _ => rfl) i B hB
    rw [e1, hlen] at e2
    cases e2
    obtain ⟨a', c', rfl, hbt, _⟩ := hy.slice
    have := hc 0 _ rfl
    exact ⟨g, a', c', rfl, by simpa using this, hbt⟩
theorem lv_got (h : Lv w0 bl A k w) (n : Nat) (hn : n < 2) (hg : ((k.en n).got.length + 1) * 24 ≤ 140737488355328) : Calls Try.prog 16 #[.pointer (some ⟨bl, 0, none⟩), .int .i64 (n : Int)] w fun e w' => ∃ v, e = .returned v ∧ Txt w' v (k.en n).got ∧ Lv w0 bl A k w' := by
  obtain ⟨V, h1, h2, h3⟩ := h
  refine (got_any h1 n hn hg).mono ?_
  rintro e w' ⟨v, rfl, hr, hb⟩
  exact ⟨v, rfl, txt_of_row hr, Goes.lv h1 h2 h3 (Goes.of_below h1 hb)⟩
end
end Go.Proofs.Ytfjaoompdleljaa.Link
