/-
  slices.DeleteFunc of messages by contract. Helper text; no statement is proved here.
-/
import Derived.Test.YtfjaoompdleljaaLinkDr
set_option linter.unusedVariables false
set_option maxRecDepth 20000
set_option linter.unusedSimpArgs false
namespace Go.Proofs.Ytfjaoompdleljaa.Link
open Go.RowKit Go.Proofs.Ytfjaoompdleljaa.Base Go.Proofs.Ytfjaoompdleljaa.Laws Go.Proofs.Ytfjaoompdleljaa.Disk Go.Proofs.Ytfjaoompdleljaa.Row Go.Proofs.Ytfjaoompdleljaa.Flat Go.Proofs.Ytfjaoompdleljaa.InvM
theorem acked_any (w : World) (m : Mk) (v : Value) (hv : v.oneCell' = true) (pb : Nat) (p : Pk) (y : Value) (hp : Blk w pb (pc (p, y)) 74) : Calls Try.prog 37 #[.agg (mc (m, v)).toArray, .pointer (some ⟨pb, 0, none⟩)] w fun e w' => e = .returned (.bool (decide (m.s ≤ p.m.k))) ∧ Below w.heap.size w w' := by
  have c3 : w.cell? ⟨pb, 3, none⟩ = some (.int .u32 (p.m.k : Int)) := hp.cell 3
  have hlt := hp.lt
  clear hp
  go_enter Try.func37, Try.ntmps37
  go_upto_region 1 with (fail)
  obtain ⟨w1, hw1⟩ : ∃ w1, w1 = w.alloc (.cells (mc (m, v)).toArray 71) := ⟨_, rfl⟩
  have c1 : w1.cell? ⟨w.heap.size, 1, none⟩ = some (.int .u32 (m.s : Int)) := by
    have h : Blk w1 w.heap.size (mc (m, v)) 71 := by rw [hw1]; exact blk_at rfl rfl
    exact h.cell 1
  have b1 : Below w.heap.size w w1 := hw1 ▸ ((Below.refl w.heap.size w).alloc (Nat.le_refl _) _)
  have c3' : w1.cell? ⟨pb, 3, none⟩ = some (.int .u32 (p.m.k : Int)) := (Below.cell b1 (p := ⟨pb, 3, none⟩) hlt).trans c3
  rw [← hw1]
  clear hw1 c3
  have B1 := Lib.hid b1
  clear b1
  go_wp2_with fail
  go_ret
  exact ⟨rfl, B1.out⟩
/-- is it kept? -/
def kept (K : Nat) (q : Mk × Value) : Bool := decide (K < q.1.s)
def Cl (pb : Nat) : Value := .func (.func 37) #[] #[.pointer (some ⟨pb, 0, none⟩)]
theorem index_any (w : World) (pb : Nat) (p : Pk) (y : Value) (hp : Blk w pb (pc (p, y)) 74) (ps : List (Mk × Value)) (a : Option Addr) (n c : Nat) (hn : n = ps.length) (hc : ∀ i q, ps[i]? = some q → ∃ g, a = some ⟨g, 0, none⟩ ∧ g < w.heap.size ∧ ∀ j u, (mc q)[j]? = some u → w.cell? ⟨g, i * 4 + j, none⟩ = some u) (h1 : ∀ q ∈ ps, q.2.oneCell' = true) (hm : n ≤ maxLen) :
    Calls Try.prog 43 #[.slice a n c, Cl pb] w fun e w' => ((e = .returned (.int .i64 (-1)) ∧ ps.all (kept p.m.k) = true) ∨ ∃ i : Nat, ∃ q, e = .returned (.int .i64 (i : Int)) ∧ ps[i]? = some q ∧ kept p.m.k q = false ∧ (ps.take i).all (kept p.m.k) = true) ∧ Below w.heap.size w w' := by
  unfold maxLen at hm
  have HP := Lib.hid hp
  have HN := Lib.hid hn
  have HC := Lib.hid hc
  have H1 := Lib.hid h1
  have hlt := hp.lt
  clear hp hn hc h1
  unfold Cl
  go_enter Try.func43, Try.ntmps43
  go_wp2
  go_loopw [8] (fun i wr => ∃ k : Nat, k ≤ n ∧ i = .int .i64 k ∧ (ps.take k).all (kept p.m.k) = true ∧ Below w.heap.size w wr) (fun i _ => n - (intOf i).toNat)
  case atStart => exact ⟨0, by omega, rfl, by simp, Below.refl _ _⟩
  case round =>
    obtain ⟨k, hk, rfl, ht, hb⟩ := hrel
    have HT := Lib.hid ht
    have HB := Lib.hid hb
    have hs := hb.size
    clear ht hb
    by_cases hkn : k < n
    · obtain ⟨q, hq⟩ : ∃ q, ps[k]? = some q := ⟨_, List.getElem?_eq_getElem (by have := HN.out; omega)⟩
      obtain ⟨g, rfl, hg, hcq⟩ := HC.out k q hq
      have HQ := Lib.hid hq
      obtain ⟨mv, hmv⟩ : ∃ mv, mv = mc q := ⟨_, rfl⟩
      have HMV := Lib.hid hmv
      have LD := Lib.hid (show ∀ j v, mv[j]? = some v → wr.cell? ((⟨g, k * 4, none⟩ : Addr).add j) = some v from fun j v hj => by
        rw [Addr.add_lit]
        exact (Below.cell HB.out (p := ⟨g, k * 4 + j, none⟩) hg).trans (hcq j v (by rw [← hmv]; exact hj)))
      have M4 := Lib.hid (show mv.length = 4 by rw [hmv]; rfl)
      clear hq hcq hmv
      go_wp2_with (first | (refine wpList_value_g rfl (.agg mv.toArray) (exec_load_from rfl rfl LD.out Try.underlying71 rfl (by kernel_rfl) M4.out) ?_))
      have AK := acked_any wr q.1 q.2 (H1.out q (List.mem_of_getElem? HQ.out)) pb p y (HP.out.below HB.out hlt)
      rw [show mc (q.1, q.2) = mv from HMV.out.symm] at AK
      refine AK.mono ?_
      rintro e w2 ⟨rfl, hb2⟩
      have HB2 := Lib.hid (HB.out.trans (hb2.mono hs))
      clear hb2 AK
      by_cases hle : q.1.s ≤ p.m.k
      · go_wp2_with fail
        go_ret
        exact ⟨.inr ⟨k, q, rfl, HQ.out, by unfold kept; exact decide_eq_false (by omega), HT.out⟩, HB2.out⟩
      · go_wp2_with fail
        go_roundw
        case rel => exact ⟨k + 1, by omega, by go_num, by rw [take_snoc ps k q HQ.out, List.all_append, HT.out]; simp [kept]; omega, HB2.out⟩
        case measure => simp [intOf]; omega
    · go_wp2_with fail
      go_ret
      refine ⟨.inl ⟨rfl, ?_⟩, HB.out⟩
      have := HT.out
      rwa [List.take_of_length_le (by have := HN.out; omega)] at this
end Go.Proofs.Ytfjaoompdleljaa.Link
