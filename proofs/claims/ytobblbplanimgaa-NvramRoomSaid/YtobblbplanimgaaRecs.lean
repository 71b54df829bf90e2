/-
  Rows of records. Helper text; no statement is proved here.
-/
import Derived.Test.YtobblbplanimgaaRecIn
import Derived.Test.YtobblbplanimgaaInvM
import Derived.Test.YtobblbplanimgaaBulk
set_option linter.unusedVariables false
set_option maxRecDepth 20000
set_option linter.unusedSimpArgs false
namespace Go.Proofs.Ytobblbplanimgaa.Codec
open Go.RowKit Go.Proofs.Ytobblbplanimgaa.Base Go.Proofs.Ytobblbplanimgaa.Laws Go.Proofs.Ytobblbplanimgaa.InvM
/-- a record -/
structure Rc where
  k : Int
  v : Nat
  a : Int
  l : List UInt8
  deriving DecidableEq
def Rc.cells (r : Rc) : List Value := recV r.k r.v r.a r.l
def Rc.p (r : Rc) : List (IntKind × Int) := recP r.k r.v r.a r.l
def Rc.Valid (r : Rc) : Prop := r.l.length = 16 ∧ r.v < 18446744073709551616 ∧ I64 r.k ∧ I64 r.a
theorem Rc.len {r : Rc} (h : r.Valid) : r.cells.length = 19 := recV_len _ _ _ _ h.1
theorem Rc.one (r : Rc) : ∀ u ∈ r.cells, u.oneCell' = true := recV_one _ _ _ _
theorem map_u8_inj : ∀ {l m : List UInt8}, (l.map fun b => ((IntKind.u8, (b.toNat : Int)) : IntKind × Int)) = m.map (fun b => (.u8, (b.toNat : Int))) → l = m
  | [], [], _ => rfl
  | p :: l, q :: m, h => by
    simp only [List.map_cons, List.cons.injEq, Prod.mk.injEq, true_and] at h
    rw [UInt8.toNat_inj.1 (show p.toNat = q.toNat by omega), map_u8_inj h.2]
  | [], _ :: _, h => by simp at h
  | _ :: _, [], h => by simp at h
theorem Rc.p_inj {r q : Rc} (h : r.p = q.p) : r = q := by
  obtain ⟨k, v, a, l⟩ := r
  obtain ⟨k', v', a', l'⟩ := q
  unfold Rc.p recP at h
  simp only [List.cons_append, List.nil_append, List.cons.injEq, Prod.mk.injEq, true_and] at h
  obtain ⟨h1, h2, h3, h4⟩ := h
  have := map_u8_inj h4
  subst h1
  subst h3
  subst this
  obtain rfl : v = v' := by omega
  rfl
theorem Rc.eq {r q : Rc} (h : r.Valid) (g : q.Valid) (w : World) : (Op.equalIn 10000 27 (.agg r.cells.toArray) (.agg q.cells.toArray)).run Try.prog w = .ok (decide (r = q)) w := by
  obtain ⟨h1, h2, h3, h4⟩ := h
  obtain ⟨g1, g2, g3, g4⟩ := g
  have := rec_eq h1 g1 h3 h2 h4 g3 g2 g4 w
  unfold Rc.cells
  rw [this]
  congr 1
  by_cases e : r = q
  · subst e; simp
  · rw [decide_eq_false e, decide_eq_false (p := recP r.k r.v r.a r.l = recP q.k q.v q.a q.l) (fun e2 => e (Rc.p_inj e2))]
/-- the cells of records, one behind the other -/
def rv : List Rc → List Value
  | [] => []
  | r :: rs => r.cells ++ rv rs
theorem rv_append (rs qs : List Rc) : rv (rs ++ qs) = rv rs ++ rv qs := by
  induction rs with
  | nil => rfl
  | cons r rs ih => simp [rv, ih]
theorem rv_one (r : Rc) : rv [r] = r.cells := by simp [rv]
theorem rv_cells : ∀ (rs : List Rc), ∀ u ∈ rv rs, u.oneCell' = true
  | [], u, h => by simp [rv] at h
  | r :: rs, u, h => by
    rcases List.mem_append.1 h with h | h
    · exact Rc.one r u h
    · exact rv_cells rs u h
theorem rv_len : ∀ {rs : List Rc}, (∀ r ∈ rs, r.Valid) → (rv rs).length = rs.length * 19
  | [], _ => rfl
  | r :: rs, h => by
    rw [rv, List.length_append, Rc.len (h r (by simp)), rv_len (fun q hq => h q (by simp [hq])), List.length_cons]
    omega
theorem rv_get : ∀ {rs : List Rc}, (∀ r ∈ rs, r.Valid) → ∀ (i : Nat) (r : Rc), rs[i]? = some r → ∀ (j : Nat) (u : Value), r.cells[j]? = some u → (rv rs)[i * 19 + j]? = some u
  | [], _, i, r, h, j, u, hu => by simp at h
  | q :: rs, hv, i, r, h, j, u, hu => by
    have hq := Rc.len (hv q (by simp))
    cases i with
    | zero =>
      simp at h
      subst h
      rw [rv, Nat.zero_mul, Nat.zero_add, List.getElem?_append_left (List.getElem?_eq_some_iff.1 hu).1]
      exact hu
    | succ i =>
      rw [rv, List.getElem?_append_right (by omega), hq, show (i + 1) * 19 + j - 19 = i * 19 + j from by omega]
      exact rv_get (fun q hq => hv q (by simp [hq])) i r (by simpa using h) j u hu
/-- a slice of records reads as a list -/
def Recs (w : World) (a : Option Addr) (n cap : Nat) (rs : List Rc) : Prop :=
  rs.length = n ∧ n ≤ cap ∧ cap ≤ maxLen ∧ (∀ r ∈ rs, r.Valid) ∧ (n = 0 ∨ ∃ b o, a = some ⟨b, o, none⟩ ∧ ∀ j u, (rv rs)[j]? = some u → w.cell? ⟨b, o + j, none⟩ = some u)
theorem Recs.below {w w' : World} {a : Option Addr} {n cap : Nat} {rs : List Rc} (h : Recs w a n cap rs) {B : Nat} (hb : Below B w w') (hB : w.heap.size ≤ B) : Recs w' a n cap rs := by
  obtain ⟨h1, h2, h3, h5, h4⟩ := h
  refine ⟨h1, h2, h3, h5, ?_⟩
  rcases h4 with h4 | ⟨b, o, e, hc⟩
  · exact .inl h4
  · exact .inr ⟨b, o, e, fun j u hu => (hb.cell (p := ⟨b, o + j, none⟩) (Nat.lt_of_lt_of_le (block_lt_of_cell (hc j u hu)) hB)).trans (hc j u hu)⟩
theorem Recs.src {w : World} {a : Option Addr} {n cap : Nat} {rs : List Rc} (h : Recs w a n cap rs) : SrcOf w a n 19 (rv rs) := by
  obtain ⟨h1, _, _, h5, h4⟩ := h
  refine ⟨by rw [rv_len h5, h1], rv_cells rs, ?_⟩
  rcases h4 with h4 | ⟨b, o, e, hc⟩
  · exact .inl h4
  · exact .inr ⟨_, e, fun j u hu => by rw [Addr.add_lit]; exact hc j u hu⟩
theorem recs_own {w : World} {base : Nat} {e : TypeId} {v : Value} {n : Nat} {rs : List Rc} (hn : rs.length = n) (hv : ∀ r ∈ rs, r.Valid) (h : w.ownsRow base e 19 v n (rv rs)) : ∃ a cap, v = .slice a n cap ∧ Recs w a n cap rs := by
  obtain ⟨a, cap, rfl, h1, h2, h3⟩ := own_slice h (by decide)
  refine ⟨a, cap, rfl, hn, h1, h2, hv, ?_⟩
  rcases h3 with h3 | ⟨g, rfl, _, hc⟩
  · exact .inl h3
  · exact .inr ⟨g, 0, rfl, fun j u hu => hc j u hu⟩
theorem info_rec : (Try.prog.info? 27).map (fun i => (i.zero, i.size, i.bytes)) = some (some (.agg zrec.toArray), 19, 40) := by kernel_rfl
/-- one new block as what is appended -/
theorem src_rec {w : World} {r : Rc} (hv : r.Valid) {t : TypeId} {g : Nat} (h : Blk w g r.cells t) : SrcOf w (some ⟨g, 0, none⟩) 1 19 r.cells := by
  refine ⟨by rw [Rc.len hv], Rc.one r, .inr ⟨_, rfl, fun j u hu => ?_⟩⟩
  rw [Addr.add_lit, Nat.zero_add, h.cell]
  exact hu
section
variable {H : Type} {enc : TypeId × Value → H} {base : Nat} {spare : Nat → Bool} {held : Bool} {W : World}
theorem leavesRec : Opens.leaves Try.prog 8 27 = some ([.int .i64, .int .u64, .int .i64] ++ List.replicate 16 (.int .u8)) := by kernel_rfl
theorem cellsRec : Try.prog.cellsOf 27 = 19 := by kernel_rfl
/-- records that came in -/
theorem recs_elems {ad : Addr} {len cap : Nat} (hl : len ≤ cap) (hm : cap ≤ maxLen) (hq : ∀ i, i < len → ∃ cs n y, W.cells? base (ad.add (i * Try.prog.cellsOf 27)) (Try.prog.cellsOf 27) = some cs ∧ DataW.trod enc Try.prog W base spare held n 27 cs = some y ∧ ∀ m ∈ y.1.weights Try.prog 27, m ≤ reachBytes) :
    ∃ rs, Recs W (some ad) len cap rs := by
  rw [cellsRec] at hq
  obtain ⟨rs, hrl, hrs⟩ := Opens.choose_list (q := fun i (r : Rc) => r.Valid ∧ ∀ j u, r.cells[j]? = some u → W.cell? ((ad.add (i * 19)).add j) = some u) len fun i hi => by
    obtain ⟨cs, n, y, h1, h2, h3⟩ := hq i hi
    have hf := Opens.fits_of_trod 8 _ _ leavesRec n cs y h2 h3
    obtain ⟨hb, hcl, hc⟩ := World.cells?_some h1
    obtain ⟨k, v, a, l, hl16, hv, hk, ha, rfl⟩ := rec_in hcl rfl hf
    exact ⟨⟨k, v, a, l⟩, ⟨hl16, hv, hk, ha⟩, fun j u hu => by
      have hj := (List.getElem?_eq_some_iff.1 hu).1
      have hlen : (recV k v a l).length = 19 := recV_len _ _ _ _ hl16
      have hj2 : j < 19 := by
        have : (Rc.cells ⟨k, v, a, l⟩).length = 19 := hlen
        omega
      have := hc j hj2
      rw [this]
      exact hu⟩
  have hval : ∀ r ∈ rs, r.Valid := fun r hr => by
    obtain ⟨i, hi⟩ := List.mem_iff_getElem?.1 hr
    exact (hrs i r hi).1
  refine ⟨rs, hrl, hl, hm, hval, ?_⟩
  by_cases h0 : len = 0
  · exact .inl h0
  · obtain ⟨r0, hr0⟩ : ∃ u, rs[0]? = some u := ⟨rs[0]'(by omega), List.getElem?_eq_getElem (by omega)⟩
    have hc0 := (hrs 0 r0 hr0).2 0 (.int .i64 r0.k) rfl
    have hs := World.cell?_spot hc0
    obtain ⟨b, o, sp⟩ := ad
    have hsp : sp = none := by simpa [Addr.add] using hs
    subst hsp
    refine .inr ⟨b, o, rfl, fun j u hu => ?_⟩
    have hj := (List.getElem?_eq_some_iff.1 hu).1
    rw [rv_len hval] at hj
    have hi : j / 19 < rs.length := by omega
    obtain ⟨r, hr⟩ : ∃ r, rs[j / 19]? = some r := ⟨_, List.getElem?_eq_getElem hi⟩
    obtain ⟨hrv, hcells⟩ := hrs _ r hr
    have hm19 : j % 19 < r.cells.length := by rw [Rc.len hrv]; omega
    have hg : r.cells[j % 19]? = some (r.cells[j % 19]'hm19) := List.getElem?_eq_getElem hm19
    have e := rv_get hval _ r hr _ _ hg
    rw [show j / 19 * 19 + j % 19 = j from by omega, hu] at e
    have := hcells _ _ hg
    rw [← Option.some.inj e] at this
    simp only [Addr.add_lit] at this
    rw [show o + j = o + j / 19 * 19 + j % 19 from by omega]
    exact this
theorem recs_in {a : Option Addr} {len cap : Nat} {d : DataW H} {p : List MemPlace} (h : DataW.Trod enc Try.prog W base spare held 22 (.slice a len cap) d p) (hw : ∀ m ∈ d.weights Try.prog 22, m ≤ reachBytes) :
    ∃ rs, Recs W a len cap rs ∧ len ≤ Rows.uptoBulk d := by
  rcases Bulk.open_elems Try.underlying22 h hw with ⟨rfl, rfl, rfl⟩ | ⟨ad, elems, rest, rfl, rfl, hel, hl, hm, _, hq⟩
  · exact ⟨[], ⟨rfl, by omega, by unfold maxLen; omega, by simp, .inl rfl⟩, by simp⟩
  · obtain ⟨rs, hrs⟩ := recs_elems (ad := ad) hl hm (fun i hi => by
      obtain ⟨cs, n, y, h1, h2, h3, h4⟩ := hq i hi
      exact ⟨cs, n, y, h1, h2, h4⟩)
    refine ⟨rs, hrs, ?_⟩
    have := Bulk.length_le elems
    simp only [Rows.uptoBulk]
    omega
end
end Go.Proofs.Ytobblbplanimgaa.Codec
