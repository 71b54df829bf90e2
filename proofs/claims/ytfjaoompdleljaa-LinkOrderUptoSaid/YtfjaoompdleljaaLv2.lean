/-
  Drop, Twin and Tick of a link that lives; rest; scripts that came in. Helper text; no statement is proved here.
-/
import Derived.Test.YtfjaoompdleljaaLkRun
set_option linter.unusedVariables false
set_option maxRecDepth 20000
set_option linter.unusedSimpArgs false
namespace Go.Proofs.Ytfjaoompdleljaa.Link
open Go.RowKit Go.Proofs.Ytfjaoompdleljaa.Base Go.Proofs.Ytfjaoompdleljaa.Laws Go.Proofs.Ytfjaoompdleljaa.Disk Go.Proofs.Ytfjaoompdleljaa.Row Go.Proofs.Ytfjaoompdleljaa.Flat Go.Proofs.Ytfjaoompdleljaa.InvM
section
variable {w0 w w' : World} {bl : Nat} {A : List Nat} {k k' : Lk}
theorem lv_flightB (h : Lv w0 bl A k w) (hfl : k.fl.length ≤ 1024) : Calls Try.prog 12 #[.pointer (some ⟨bl, 0, none⟩)] w fun e w' => ∃ a c, e = .returned (.slice a k.fl.length c) ∧ Lv w0 bl A k w' ∧ Below w.heap.size w w' := by
  obtain ⟨V, h1, h2, h3⟩ := h
  refine (flight_any h1 hfl).mono ?_
  rintro e w' ⟨v, rfl, hr, hb⟩
  obtain ⟨ps, e, ho, _⟩ := hr
  obtain ⟨a, c, e1, _⟩ := own_slice ho (by decide)
  exact ⟨a, c, by rw [e1, ← e]; simp, Goes.lv h1 h2 h3 (Goes.of_below h1 hb), hb⟩
theorem Lv.below (h : Lv w0 bl A k w) : Below w0.heap.size w0 w := h.choose_spec.2.1
/-- how many packets are under way, read off the memory -/
def lenF (bl : Nat) (w : World) : Nat := match w.cell? ⟨bl, 9, none⟩ with | some (.slice _ n _) => n | _ => 0
theorem Lv.len (h : Lv w0 bl A k w) : lenF bl w = k.fl.length := by
  obtain ⟨V, h1, _, _⟩ := h
  obtain ⟨a, c, e, _⟩ := h1.slF
  have : w.cell? ⟨bl, 9, none⟩ = some (V 4) := h1.cell 9
  unfold lenF
  rw [this, e]
def Lk.inR (k : Lk) (i : Int) : Prop := 0 ≤ i ∧ i < (k.fl.length : Int)
instance (k : Lk) (i : Int) : Decidable (k.inR i) := inferInstanceAs (Decidable (_ ∧ _))
theorem lv_drop (h : Lv w0 bl A k w) (i : Int) : Calls Try.prog 20 #[.pointer (some ⟨bl, 0, none⟩), .int .i64 i] w fun e w' => e = .returned (.int .i64 (if k.inR i then 0 else 2)) ∧ Lv w0 bl A (if k.inR i then k.less i.toNat else k) w' := by
  obtain ⟨V, h1, h2, h3⟩ := h
  by_cases hi : k.inR i
  · rw [if_pos hi, if_pos hi]
    obtain ⟨n, rfl⟩ := Int.eq_ofNat_of_zero_le hi.1
    have hn : n < k.fl.length := by have := hi.2; omega
    refine (drop_ok h1 n hn).mono ?_
    rintro e w' ⟨rfl, V', g⟩
    exact ⟨rfl, Goes.lv h1 h2 h3 g⟩
  · rw [if_neg hi, if_neg hi]
    have hi' : i < 0 ∨ (k.fl.length : Int) ≤ i := by
      unfold Lk.inR at hi
      omega
    refine (drop_no h1 i hi').mono ?_
    rintro e w' ⟨rfl, hb⟩
    exact ⟨rfl, Goes.lv h1 h2 h3 (Goes.of_below h1 hb)⟩
theorem lv_twin (h : Lv w0 bl A k w) (i : Int) : Calls Try.prog 22 #[.pointer (some ⟨bl, 0, none⟩), .int .i64 i] w fun e w' => e = .returned (.int .i64 (if k.inR i then if k.fl.length < 1024 then 0 else 9 else 2)) ∧ Lv w0 bl A (if k.inR i ∧ k.fl.length < 1024 then k.twin i.toNat else k) w' := by
  obtain ⟨V, h1, h2, h3⟩ := h
  by_cases hi : k.inR i
  · obtain ⟨n, rfl⟩ := Int.eq_ofNat_of_zero_le hi.1
    have hn : n < k.fl.length := by have := hi.2; omega
    by_cases hf : k.fl.length < 1024
    · rw [if_pos hi, if_pos hf, if_pos ⟨hi, hf⟩]
      refine (twin_ok h1 n hn hf).mono ?_
      rintro e w' ⟨rfl, V', g⟩
      exact ⟨rfl, Goes.lv h1 h2 h3 g⟩
    · rw [if_pos hi, if_neg hf, if_neg (fun x => hf x.2)]
      refine (twin_full h1 n hn hf).mono ?_
      rintro e w' ⟨rfl, rfl⟩
      exact ⟨rfl, V, h1, h2, h3⟩
  · rw [if_neg hi, if_neg (fun x => hi x.1)]
    refine (twin_no h1 i (by unfold Lk.inR at hi; omega)).mono ?_
    rintro e w' ⟨rfl, rfl⟩
    exact ⟨rfl, V, h1, h2, h3⟩
theorem lv_tick (h : Lv w0 bl A k w) (hfl : k.fl.length ≤ 1024) (hop : ∀ n, n < 2 → (k.en n).op.length ≤ 256) : Calls Try.prog 18 #[.pointer (some ⟨bl, 0, none⟩)] w fun e w' => e = .returned (.int .i64 ((k.tick.fl.length - k.fl.length : Nat) : Int)) ∧ Lv w0 bl A k.tick w' := by
  obtain ⟨V, h1, h2, h3⟩ := h
  refine (tick_any h1 hfl hop).mono ?_
  rintro e w' ⟨rfl, V', g⟩
  exact ⟨rfl, Goes.lv h1 h2 h3 g⟩
/-- n counted round by 'by' -/
def restI (n b : Int) : Int := if n.tmod b < 0 then n.tmod b + b else n.tmod b
theorem restI_in {n b : Int} (hb : 0 < b) : 0 ≤ restI n b ∧ restI n b < b := by
  unfold restI
  have h1 := Int.tmod_lt_of_pos n hb
  have h2 : -b < n.tmod b := by
    have := Int.tmod_lt_of_pos (-n) hb
    rw [Int.neg_tmod] at this
    omega
  split <;> omega
theorem rest_any (n b : Int) (hn : -9223372036854775808 ≤ n) (hn' : n ≤ 9223372036854775807) (hb : 0 < b) (hb' : b ≤ 9223372036854775807) (w : World) : Calls Try.prog 21 #[.int .i64 n, .int .i64 b] w fun e w' => e = .returned (.int .i64 (restI n b)) ∧ w = w' := by
  have hb0 : b ≠ 0 := by omega
  have h1 := Int.tmod_lt_of_pos n hb
  have h2 : -b < n.tmod b := by
    have := Int.tmod_lt_of_pos (-n) hb
    rw [Int.neg_tmod] at this
    omega
  by_cases hc : n.tmod b < 0
  · have e : restI n b = n.tmod b + b := if_pos hc
    rw [e]
    have hw : wrap64 (n.tmod b + b) = n.tmod b + b := by unfold wrap64; omega
    clear e
    go_enter Try.func21, Try.ntmps21
    go_wp2_with fail
    go_ret
    exact ⟨rfl, rfl⟩
  · have e : restI n b = n.tmod b := if_neg hc
    rw [e]
    clear e
    go_enter Try.func21, Try.ntmps21
    go_wp2_with fail
    go_ret
    exact ⟨rfl, rfl⟩
end
/-- a step of a script -/
structure So where
  k : Int
  n : Int
  B : List UInt8
def oc (p : So × Value) : List Value := [.int .i64 p.1.k, .int .i64 p.1.n, p.2]
/-- a script that came in -/
def Scr (w : World) (a : Option Addr) (len cap : Nat) (l : List So) : Prop :=
  l.length = len ∧ len ≤ cap ∧ cap ≤ maxLen ∧ len ≤ 7036874417767 ∧ (∀ o ∈ l, (-9223372036854775808 ≤ o.k ∧ o.k ≤ 9223372036854775807) ∧ (-9223372036854775808 ≤ o.n ∧ o.n ≤ 9223372036854775807)) ∧
  (len = 0 ∨ ∃ b o, a = some ⟨b, o, none⟩ ∧ ∀ i s, l[i]? = some s → ∃ a' len' cap', (∀ j u, (oc (s, .slice a' len' cap'))[j]? = some u → w.cell? ⟨b, o + i * 3 + j, none⟩ = some u) ∧ Bts w a' len' cap' s.B ∧ len' ≤ 140737488351232)
section
variable {H : Type} {enc : TypeId × Value → H} {base : Nat} {spare : Nat → Bool} {held : Bool} {W : World}
theorem scr_in {a : Option Addr} {len cap : Nat} (h : Opens.LfOk enc Try.prog W base spare held (.slice 44) (.slice a len cap)) : ∃ l, Scr W a len cap l := by
  obtain ⟨l, ⟨h1, h2, h3, h4, h5⟩, hok, hb⟩ := sl_in (f := oc) (m := 3) (Ok := fun p => (((-9223372036854775808 ≤ p.1.k ∧ p.1.k ≤ 9223372036854775807) ∧ (-9223372036854775808 ≤ p.1.n ∧ p.1.n ≤ 9223372036854775807))) ∧ ∃ a l c, p.2 = .slice a l c ∧ Bts W a l c p.1.B ∧ l ≤ 140737488351232) (ks := [.int .i64, .int .i64, .slice 5]) (by decide) (by kernel_rfl) (by kernel_rfl) (fun cs hcs hf => by
    obtain ⟨k, c1, rfl, hk, hf⟩ := hf.int
    obtain ⟨n, c2, rfl, hn, hf⟩ := hf.int
    obtain ⟨c, cs', rfl, hc, _⟩ := hf.next
    obtain rfl : cs' = [] := List.eq_nil_of_length_eq_zero (by simpa using hcs)
    have hk' : -9223372036854775808 ≤ k ∧ k ≤ 9223372036854775807 := Opens.wf_i64 hk
    have hn' : -9223372036854775808 ≤ n ∧ n ≤ 9223372036854775807 := Opens.wf_i64 hn
    rcases hc with rfl | ⟨a', l', c', rfl, hr⟩
    · exact ⟨(⟨k, n, []⟩, .slice none 0 0), rfl, ⟨hk', hn'⟩, none, 0, 0, rfl, ⟨rfl, Nat.le_refl _, by unfold maxLen; omega, .inl rfl⟩, by omega⟩
    · obtain ⟨u, hu, hl⟩ := bytes_in (a := some a') (len := l') (cap := c') (.inr ⟨a', l', c', rfl, hr⟩)
      exact ⟨(⟨k, n, u⟩, .slice (some a') l' c'), rfl, ⟨hk', hn'⟩, some a', l', c', rfl, hu, hl⟩) h
  have hbo : Try.prog.bytesOf 44 = 40 := by kernel_rfl
  rw [hbo] at hb
  refine ⟨l.map Prod.fst, by simp [h1], h2, h3, by unfold reachBytes at hb; omega, fun o ho => ?_, ?_⟩
  · obtain ⟨p, hp, rfl⟩ := List.mem_map.1 ho
    exact (hok p hp).1
  rcases h5 with h5 | ⟨b, o, rfl, hc⟩
  · exact .inl h5
  · refine .inr ⟨b, o, rfl, fun i s hs => ?_⟩
    rw [List.getElem?_map] at hs
    obtain ⟨q, hq, rfl⟩ := Option.map_eq_some_iff.1 hs
    obtain ⟨_, a', l', c', e, hb', hl'⟩ := hok q (List.mem_of_getElem? hq)
    refine ⟨a', l', c', fun j u hu => ?_, hb', hl'⟩
    rw [Nat.add_assoc]
    exact hc (i * 3 + j) u (flat_get (m := 3) (f := oc) (fun x _ => rfl) hq (by rw [← e] at hu; exact hu))
end
end Go.Proofs.Ytfjaoompdleljaa.Link
