/-
  The state of a region that makes an empty array, appends to it and makes a cell in any order. Helper text; no statement is proved here.
-/
import Derived.Test.YtmmgejlfcehipaaMsgPlain
import Derived.Test.YtmmgejlfcehipaaInvD
set_option linter.unusedVariables false
set_option linter.unusedSimpArgs false
namespace Go.Proofs.Ytmmgejlfcehipaa.Codec
open Go.RowKit Go.Proofs.Ytmmgejlfcehipaa.Base Go.Proofs.Ytmmgejlfcehipaa.Laws Go.Proofs.Ytmmgejlfcehipaa.InvC
theorem exec_append_any {ρ : Operand → Value} {w : World} {o : Oper} (s x : Operand) (ho : o.op = .call { callee := .builtin .append, args := #[s, x], argTypes := #[27, 27] }) (g : Nat) (hs : ρ s = .slice (some ⟨g, 0, none⟩) 0 0) (ad : Addr) (m c : Nat) (hx : ρ x = .slice (some ad) m c) (l : List UInt8) (hb : Bts w (some ad) m c l) (hm : m ≤ 140737488355328) (w0 : World) (ht : w.tape = w0.tape) (hd : w.drawn = w0.drawn) :
    ∃ w', (execOp ρ o).run Try.prog w = .ok (.value (.slice (some ⟨if m = 0 then g else w.heap.size, 0, none⟩) m (cloneCap w0 m))) w' ∧ w'.heap.size = w.heap.size + cloneOff m ∧ Bts w' (some ⟨if m = 0 then g else w.heap.size, 0, none⟩) m (cloneCap w0 m) l ∧ Below w.heap.size w w' := by
  obtain ⟨i, hi, hz, hsize, hby⟩ := info_parts OwnB.infou8
  have hl := hb.1
  by_cases h0 : m = 0
  · subst h0
    obtain rfl : l = [] := List.eq_nil_of_length_eq_zero hl
    refine ⟨w, ?_, rfl, ⟨rfl, Nat.le_refl _, by unfold cloneCap maxLen; simp, .inl rfl⟩, Below.refl _ _⟩
    have hr : (Builtin.append_ #[27, 27] o.type #[.slice (some ⟨g, 0, none⟩) 0 0, .slice (some ad) 0 c]).run Try.prog w = .ok (.slice (some ⟨g, 0, none⟩) 0 0) w := by
      simp [Builtin.append_, run_underlying Try.underlying27, sizeOf, typeInfo, hi, Builtin.lenOf, Builtin.firstCells, loadCells, loadCellsFrom, storeCells]
    unfold execOp
    simp only [ho, resolve, invoke, builtin, Sem.run_bind, Sem.run_pure, Result.andThen_ok, List.map_toArray, List.map_cons, List.map_nil, hs, hx, hr]
    rfl
  · have hy := OwnB.src_bts hb
    obtain ⟨hl', h1, h2⟩ := hy
    rcases h2 with h2 | ⟨ad', e, hc⟩
    · omega
    obtain rfl := Option.some.inj e
    have hr := run_append_grow (P := Try.prog) w 27 o.type 5 i (.int .u8 0) Try.underlying27 hi hz ⟨g, 0, none⟩ 0 0 [] (by simp) (fun j u hu => by simp at hu) ad m c (bv l) (by rw [hl', hsize]) hc (by omega) (by omega) (by rw [hby]; exact growslice_fits (by omega) (by omega))
    simp only [Nat.zero_add] at hr
    have e1 : grownCap w m 0 5 = cloneCap w0 m := by unfold cloneCap; rw [if_neg h0, grownCap_same ht hd]
    have e2 : cloneOff m = 1 := if_neg h0
    rw [if_neg h0, e2, ← e1]
    have hs2 : (w.drew.alloc (.cells (#[] ++ (bv l).toArray ++ Builtin.zeroCells (Value.int .u8 0).cells (grownCap w m 0 5 - m)) 5)).heap.size = w.heap.size + 1 := by simp
    refine ⟨_, ?_, hs2, ?_, ?_⟩
    · unfold execOp
      simp only [ho, resolve, invoke, builtin, Sem.run_bind, Sem.run_pure, Result.andThen_ok, List.map_toArray, List.map_cons, List.map_nil, hs, hx, hr]
    · have := bts_grown (w := w.drew) (g := w.heap.size) (n := m) (cp := grownCap w m 0 5) (l := l) (z := Builtin.zeroCells (Value.int .u8 0).cells (grownCap w m 0 5 - m)) rfl hl (grownCap_ge w m 0 5) (grownCap_le_maxLen w m 0 5 (by unfold maxLen; omega))
      simpa using this
    · exact (Below.refl w.heap.size w).drew.alloc (Nat.le_refl _) _
theorem exec_append_k {ρ : Operand → Value} {w : World} {o : Oper} {J : World → Prop} (s x : Operand) (ho : o.op = .call { callee := .builtin .append, args := #[s, x], argTypes := #[27, 27] }) (g : Nat) (hs : ρ s = .slice (some ⟨g, 0, none⟩) 0 0) (ad : Addr) (m c : Nat) (hx : ρ x = .slice (some ad) m c) (l : List UInt8) (hb : Bts w (some ad) m c l) (hm : m ≤ 140737488355328) (w0 : World) (ht : w.tape = w0.tape) (hd : w.drawn = w0.drawn) (vo cc : Nat) (hvo : (if m = 0 then g else w.heap.size) = vo) (hcc : cc = cloneCap w0 m)
    (h : ∀ w', w'.heap.size = w.heap.size + cloneOff m → Bts w' (some ⟨vo, 0, none⟩) m cc l → Below w.heap.size w w' → J w') : ∃ w', (execOp ρ o).run Try.prog w = .ok (.value (.slice (some ⟨vo, 0, none⟩) m cc)) w' ∧ J w' := by
  obtain ⟨w', e1, e2, e3, e4⟩ := exec_append_any s x ho g hs ad m c hx l hb hm w0 ht hd
  rw [hvo, ← hcc] at e1 e3
  exact ⟨w', e1, h w' e2 e3 e4⟩
/-- where the empty array lies, where the cell, where the bytes -/
def eD (N : Nat) (κ : Th) : Nat := match κ with | .a => N + 1 | _ => N
def pD (N eo : Nat) (κ : Th) : Nat := match κ with | .a => N | .b => N + 1 | .c => N + 1 + eo
def cD (N : Nat) (κ : Th) (n : Nat) : Nat := if n = 0 then eD N κ else match κ with | .c => N + 1 | _ => N + 2
/-- 17 makes the cell, 9 the empty array, 15 appends -/
def MsgD (N D n cc p c1 c2 : Nat) (body : List UInt8) (κ : Th) (d : Array Bool) (w : World) : Prop :=
  match d.getD p false, d.getD c1 false, d.getD c2 false with
  | false, false, false => w.heap.size = N ∧ w.drawn = D
  | true, false, false => κ = .a ∧ Blk w N zmsg 43 ∧ w.heap.size = N + 1 ∧ w.drawn = D
  | false, true, false => κ ≠ .a ∧ w.heap.size = N + 1 ∧ w.drawn = D
  | true, true, false => κ ≠ .c ∧ Blk w (pD N (cloneOff n) κ) zmsg 43 ∧ w.heap.size = N + 2 ∧ w.drawn = D
  | false, true, true => κ = .c ∧ Bts w (some ⟨cD N κ n, 0, none⟩) n cc body ∧ w.heap.size = N + 1 + cloneOff n
  | true, true, true => Blk w (pD N (cloneOff n) κ) zmsg 43 ∧ Bts w (some ⟨cD N κ n, 0, none⟩) n cc body
  | _, false, true => False
section
variable {N D n cc p c1 c2 : Nat} {body : List UInt8} {κ : Th} {d : Array Bool} {w w' : World}
theorem MsgD.keep {i : Nat} (h1 : i ≠ p) (h2 : i ≠ c1) (h3 : i ≠ c2) (h : MsgD N D n cc p c1 c2 body κ d w) : MsgD N D n cc p c1 c2 body κ (d.setIfInBounds i true) w := by
  unfold MsgD at *
  rwa [getD_set_ne false h1, getD_set_ne false h2, getD_set_ne false h3]
theorem MsgD.start (h1 : d.getD p false = false) (h2 : d.getD c1 false = false) (h3 : d.getD c2 false = false) : MsgD N D n cc p c1 c2 body κ d w ↔ w.heap.size = N ∧ w.drawn = D := by
  unfold MsgD
  rw [h1, h2, h3]
theorem MsgD.mid (h1 : d.getD p false = false) (h2 : d.getD c1 false = true) (h3 : d.getD c2 false = false) : MsgD N D n cc p c1 c2 body .b d w ↔ MsgD N D n cc p c1 c2 body .c d w := by
  unfold MsgD
  rw [h1, h2, h3]
  simp
theorem MsgD.done (h1 : d.getD p false = true) (h2 : d.getD c1 false = true) (h3 : d.getD c2 false = true) (h : MsgD N D n cc p c1 c2 body κ d w) : Blk w (pD N (cloneOff n) κ) zmsg 43 ∧ Bts w (some ⟨cD N κ n, 0, none⟩) n cc body := by
  unfold MsgD at h
  rwa [h1, h2, h3] at h
theorem MsgD.at_p (hd : d.getD p true = false) (hG : GateW p c1 c2 κ p d) (h : MsgD N D n cc p c1 c2 body κ d w) : w.heap.size = pD N (cloneOff n) κ := by
  have hd' := getD_true_of hd
  unfold MsgD at h
  rw [hd'] at h
  rcases h1 : d.getD c1 false with _ | _ <;> rcases h2 : d.getD c2 false with _ | _ <;> rw [h1, h2] at h <;> cases κ <;> simp only [pD] <;> first
    | exact Th.noConfusion h.1
    | exact h.1
    | exact h.2.1
    | exact h.2.2
    | exact h.elim
    | exact absurd rfl h.1
    | (have := hG.1.1 rfl; rw [h1] at this; cases this; done)
    | (have := hG.1 rfl; rw [h2] at this; cases this; done)
theorem MsgD.made (h12 : p ≠ c1) (h13 : p ≠ c2) (hd : d.getD p true = false) (hG : GateW p c1 c2 κ p d) (h : MsgD N D n cc p c1 c2 body κ d w) (arr : Array Value) (ha : zmsg.toArray = arr) : MsgD N D n cc p c1 c2 body κ (d.setIfInBounds p true) (w.alloc (.cells arr 43)) := by
  have e1 := h.at_p hd hG
  have hd' := getD_true_of hd
  have hblk : Blk (w.alloc (.cells arr 43)) (pD N (cloneOff n) κ) zmsg 43 := blk_at e1 ha
  have hz : (w.alloc (.cells arr 43)).heap.size = w.heap.size + 1 := by simp
  have hdr : (w.alloc (.cells arr 43)).drawn = w.drawn := rfl
  unfold MsgD at *
  rw [getD_now hd, getD_set_ne false h12, getD_set_ne false h13, hz, hdr]
  rw [hd'] at h
  rcases h1 : d.getD c1 false with _ | _ <;> rcases h2 : d.getD c2 false with _ | _ <;> rw [h1, h2] at h
  · cases κ with
    | a => exact ⟨rfl, hblk, by have := h.1; omega, h.2⟩
    | b => have := hG.1.1 rfl; rw [h1] at this; cases this
    | c => have := hG.1 rfl; rw [h2] at this; cases this
  · exact h.elim
  · obtain ⟨h3, h4, h5⟩ := h
    refine ⟨fun e => ?_, hblk, by omega, h5⟩
    subst e
    have := hG.1 rfl
    rw [h2] at this
    cases this
  · exact ⟨hblk, bts_alloc h.2.1 _⟩
theorem MsgD.at_1 (hd : d.getD c1 true = false) (hG : GateW p c1 c2 κ c1 d) (h : MsgD N D n cc p c1 c2 body κ d w) : w.heap.size = eD N κ := by
  have hd' := getD_true_of hd
  unfold MsgD at h
  rw [hd'] at h
  rcases h1 : d.getD p false with _ | _ <;> rcases h2 : d.getD c2 false with _ | _ <;> rw [h1, h2] at h <;> cases κ <;> simp only [eD] <;> first
    | exact Th.noConfusion h.1
    | exact h.1
    | exact h.2.2.1
    | exact h.elim
    | (have := hG.1 rfl; rw [h1] at this; cases this; done)
theorem MsgD.empty (h12 : p ≠ c1) (h23 : c1 ≠ c2) (hd : d.getD c1 true = false) (hG : GateW p c1 c2 κ c1 d) (h : MsgD N D n cc p c1 c2 body κ d w) (ob : Obj) : MsgD N D n cc p c1 c2 body κ (d.setIfInBounds c1 true) (w.alloc ob) := by
  have hd' := getD_true_of hd
  have hz : (w.alloc ob).heap.size = w.heap.size + 1 := by simp
  have hdr : (w.alloc ob).drawn = w.drawn := rfl
  unfold MsgD at *
  rw [getD_now hd, getD_set_ne false (Ne.symm h12), getD_set_ne false h23, hz, hdr]
  rw [hd'] at h
  rcases h1 : d.getD p false with _ | _ <;> rcases h2 : d.getD c2 false with _ | _ <;> rw [h1, h2] at h
  · refine ⟨fun e => ?_, by have := h.1; omega, h.2⟩
    subst e
    have := hG.1 rfl
    rw [h1] at this
    cases this
  · exact h.elim
  · obtain ⟨rfl, h3, h4, h5⟩ := h
    exact ⟨(fun e => by cases e), h3.alloc _, by omega, h5⟩
  · exact h.elim
theorem MsgD.at_2 (hd : d.getD c2 true = false) (hG : GateW p c1 c2 κ c2 d) (h : MsgD N D n cc p c1 c2 body κ d w) : (if n = 0 then eD N κ else w.heap.size) = cD N κ n ∧ w.drawn = D := by
  have hd' := getD_true_of hd
  have g1 := hG.2 rfl
  unfold MsgD at h
  rw [hd', g1] at h
  unfold cD
  rcases h1 : d.getD p false with _ | _ <;> rw [h1] at h <;> cases κ <;> first
    | exact Th.noConfusion h.1
    | exact absurd rfl h.1
    | (have := hG.1.2 rfl; rw [h1] at this; cases this; done)
    | exact ⟨by rw [h.2.2.1], h.2.2.2⟩
    | exact ⟨by rw [h.2.1], h.2.2⟩
    | exact absurd rfl h.1
    | (have := hG.1.2 rfl; rw [h1] at this; cases this; done)
theorem MsgD.cloned (h13 : p ≠ c2) (h23 : c1 ≠ c2) (hd : d.getD c2 true = false) (hG : GateW p c1 c2 κ c2 d) (h : MsgD N D n cc p c1 c2 body κ d w) (hs : w'.heap.size = w.heap.size + cloneOff n) (hb : Bts w' (some ⟨cD N κ n, 0, none⟩) n cc body) (hbl : Below w.heap.size w w') : MsgD N D n cc p c1 c2 body κ (d.setIfInBounds c2 true) w' := by
  have hd' := getD_true_of hd
  have g1 := hG.2 rfl
  unfold MsgD at *
  rw [getD_now hd, getD_set_ne false (Ne.symm h13), getD_set_ne false (Ne.symm h23), g1]
  rw [hd', g1] at h
  rcases h1 : d.getD p false with _ | _ <;> rw [h1] at h <;> cases κ <;> first
    | exact Th.noConfusion h.1
    | exact absurd rfl h.1
    | (have := hG.1.2 rfl; rw [h1] at this; cases this; done)
    | exact ⟨h.2.1.below hbl h.2.1.lt, hb⟩
    | exact ⟨rfl, hb, by have := h.2.1; omega⟩
    | exact absurd rfl h.1
    | (have := hG.1.2 rfl; rw [h1] at this; cases this; done)
end
end Go.Proofs.Ytmmgejlfcehipaa.Codec
