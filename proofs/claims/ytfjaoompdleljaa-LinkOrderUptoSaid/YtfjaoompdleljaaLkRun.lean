/-
  The plain law of a link: what is sent again comes, and is acknowledged. Helper text; no statement is proved here.
-/
import Derived.Test.YtfjaoompdleljaaLkPlain
set_option linter.unusedVariables false
set_option maxRecDepth 20000
set_option linter.unusedSimpArgs false
namespace Go.Proofs.Ytfjaoompdleljaa.Link
variable {k : Lk} {S : Nat → List (List UInt8)} {n : Nat}
/-- how far an end comes that has come to c, if all this is delivered to it in its order -/
def far (n : Nat) : Nat → List Pk → Nat
  | c, [] => c
  | c, p :: fl => far n (if p.f = n ∧ p.m.B ≠ [] ∧ p.m.s = c + 1 then c + 1 else c) fl
theorem far_app (n c : Nat) (A B : List Pk) : far n c (A ++ B) = far n (far n c A) B := by
  induction A generalizing c with
  | nil => rfl
  | cons p A ih => exact ih _
theorem far_none {c : Nat} {fl : List Pk} (h : ∀ p ∈ fl, ¬ (p.f = n ∧ p.m.B ≠ [])) : far n c fl = c := by
  induction fl generalizing c with
  | nil => rfl
  | cons p fl ih =>
    show far n (if _ then _ else _) fl = c
    rw [if_neg (fun e => h p (List.mem_cons_self ..) ⟨e.1, e.2.1⟩)]
    exact ih (fun q hq => h q (List.mem_cons_of_mem _ hq))
theorem far_le {c L : Nat} {fl : List Pk} (h : ∀ p ∈ fl, p.f = n → p.m.B ≠ [] → p.m.s ≤ L) (hc : c ≤ L) : c ≤ far n c fl ∧ far n c fl ≤ L := by
  induction fl generalizing c with
  | nil => exact ⟨Nat.le_refl _, hc⟩
  | cons p fl ih =>
    show c ≤ far n (if _ then _ else _) fl ∧ far n (if _ then _ else _) fl ≤ L
    have h' := fun q hq => h q (List.mem_cons_of_mem _ hq)
    split
    · rename_i e
      have := h p (List.mem_cons_self ..) e.1 e.2.1
      have := ih h' (show c + 1 ≤ L by omega)
      exact ⟨by omega, this.2⟩
    · exact ih h' hc
theorem far_opens (e q : Nat) : ∀ (l : List (List UInt8)) (a c : Nat), (∀ B ∈ l, B ≠ []) → a ≤ c → far n c ((opens a l).map fun m => (⟨n, ⟨e, m.s, q, m.B⟩⟩ : Pk)) = max c (a + l.length)
  | [], a, c, _, h => by simp only [opens, List.map_nil, far, List.length_nil]; omega
  | B :: r, a, c, hB, h => by
    show far n (if n = n ∧ B ≠ [] ∧ a + 1 = c + 1 then c + 1 else c) ((opens (a + 1) r).map fun m => (⟨n, ⟨e, m.s, q, m.B⟩⟩ : Pk)) = _
    have h1 := hB B (List.mem_cons_self ..)
    have h2 := fun C hC => hB C (List.mem_cons_of_mem _ hC)
    by_cases e1 : a = c
    · rw [if_pos ⟨rfl, h1, by omega⟩, far_opens e q r (a + 1) (c + 1) h2 (by omega), List.length_cons]
      omega
    · rw [if_neg (fun x => e1 (by have := x.2.2; omega)), far_opens e q r (a + 1) c h2 (by omega), List.length_cons]
      omega
/-- all that end n has sent will have come, and be acknowledged, when what is under way is delivered in its order -/
def Run (n : Nat) (k : Lk) (S : Nat → List (List UInt8)) : Prop :=
  far n (k.en (1 - n)).come k.fl = (S n).length ∧
  ((k.en n).op = [] ∨ (∃ p ∈ k.fl, p.f = n ∧ p.m.B ≠ []) ∨ (∃ p ∈ k.fl, p.f = 1 - n ∧ p.m.k = (S n).length))
def wt (fl : List Pk) : Nat := (fl.map fun p => if p.m.B = [] then 1 else 2).sum
theorem wt_app (A B : List Pk) : wt (A ++ B) = wt A + wt B := by unfold wt; rw [List.map_append, List.sum_append]
theorem wt_le (fl : List Pk) : wt fl ≤ 2 * fl.length ∧ fl.length ≤ wt fl := by
  induction fl with
  | nil => exact ⟨Nat.le_refl _, Nat.le_refl _⟩
  | cons p fl ih =>
    have e : wt (p :: fl) = (if p.m.B = [] then 1 else 2) + wt fl := rfl
    rw [e, List.length_cons]
    split <;> omega
theorem ackd_en (k : Lk) (n K j : Nat) (hn : n < 2) (hj : j < 2) : ((k.ackd n K).en j).come = (k.en j).come ∧ ((k.ackd n K).en j).op = if j = n then (k.en n).op.filter (fun x => decide (K < x.s)) else (k.en j).op := by
  rcases two hn with rfl | rfl <;> rcases two hj with rfl | rfl <;> exact ⟨rfl, rfl⟩
theorem handed_en (k : Lk) (n : Nat) (m : Mk) (j : Nat) (hn : n < 2) (hj : j < 2) (hs : (k.en n).come + 1 < 4294967296) : ((k.handed n m).en j).come = (if j = n ∧ m.s = (k.en n).come + 1 then (k.en n).come + 1 else (k.en j).come) ∧ ((k.handed n m).en j).op = (k.en j).op := by
  have hmod : ((k.en n).come + 1) % 4294967296 = (k.en n).come + 1 := Nat.mod_eq_of_lt hs
  have hc : ∀ j, j < 2 → (((k.come1 n).addGot n m.B).en j).come = (if j = n then ((k.en n).come + 1) % 4294967296 else (k.en j).come) ∧ (((k.come1 n).addGot n m.B).en j).op = (k.en j).op := fun j hj => by
    rcases two hn with rfl | rfl <;> rcases two hj with rfl | rfl <;> exact ⟨rfl, rfl⟩
  unfold Lk.handed
  by_cases h : m.s = ((k.en n).come + 1) % 4294967296
  · rw [if_pos h, (hc j hj).1, (hc j hj).2, hmod]
    rw [hmod] at h
    refine ⟨?_, rfl⟩
    by_cases e : j = n
    · rw [if_pos e, if_pos ⟨e, h⟩]
    · rw [if_neg e, if_neg (fun x => e x.1)]
  · rw [if_neg h]
    refine ⟨?_, rfl⟩
    rw [hmod] at h
    rw [if_neg (fun x => h x.2)]
theorem Ok.dels0 (h : Ok k S) {p : Pk} {rest : List Pk} (hp : k.fl = p :: rest) : k.dels 0 = if p.m.B = [] then (k.less 0).ackd (1 - p.f) p.m.k else (((k.less 0).ackd (1 - p.f) p.m.k).handed (1 - p.f) p.m).put (1 - p.f) 0 [] := by
  have h0 := h.fl p (by rw [hp]; exact List.mem_cons_self ..)
  have hl : (k.less 0).fl = rest := by show k.fl.take 0 ++ k.fl.drop 1 = rest; rw [hp]; rfl
  unfold Lk.dels
  rw [show k.fl[0]? = some p by rw [hp]; rfl]
  show (k.less 0).comes p = _
  unfold Lk.comes
  rw [if_pos (show p.m.e = (k.less 0).ep from h0.2.1.trans h.ep.symm)]
  by_cases hB : p.m.B = []
  · rw [if_pos hB, if_pos hB]
  · rw [if_neg hB, if_neg hB]
    have hr := h.room
    rw [hp, List.length_cons] at hr
    refine if_pos ?_
    rw [(handed_keep _ _ _).1, ackd_fl, hl]
    omega
theorem run_dels {k : Lk} (h : Ok k S) (hn : n < 2) {p : Pk} {rest : List Pk} (hp : k.fl = p :: rest) (hr : Run n k S) : Run n (k.dels 0) S := by
  obtain ⟨f1, f2, f3, f4⟩ := h.fl p (by rw [hp]; exact List.mem_cons_self ..)
  have hl : (k.less 0).fl = rest := by show k.fl.take 0 ++ k.fl.drop 1 = rest; rw [hp]; rfl
  obtain ⟨r1, r2⟩ := hr
  rw [hp] at r1 r2
  have hto : 1 - p.f < 2 := by omega
  have hnil : ∀ K, (S n).length ≤ K → (k.en n).op.filter (fun x => decide (K < x.s)) = [] := fun K hK => by
    rw [List.filter_eq_nil_iff]
    intro m hm
    obtain ⟨i, e1, e2⟩ := h.op_mem n hn m hm
    have := (List.getElem?_eq_some_iff.1 e1).1
    simp only [decide_eq_true_eq]
    omega
  rw [h.dels0 hp]
  by_cases hB : p.m.B = []
  · rw [if_pos hB]
    unfold Run
    rw [ackd_fl, hl, (ackd_en _ _ _ _ hto (show 1 - n < 2 by omega)).1, (ackd_en _ _ _ _ hto hn).2]
    refine ⟨?_, ?_⟩
    · rw [← r1]
      show _ = far n (if _ then _ else _) rest
      rw [if_neg (fun x => x.2.1 hB)]
      rfl
    · rcases r2 with e | ⟨q, hq, e1, e2⟩ | ⟨q, hq, e1, e2⟩
      · refine .inl ?_
        have e' : ((k.less 0).en n).op = [] := e
        split
        · rename_i x; rw [← x, e']; rfl
        · exact e'
      · rcases List.mem_cons.1 hq with rfl | hq
        · exact absurd hB e2
        · exact .inr (.inl ⟨q, hq, e1, e2⟩)
      · rcases List.mem_cons.1 hq with rfl | hq
        · refine .inl ?_
          have x : n = 1 - q.f := by omega
          rw [if_pos x, ← x]
          exact hnil _ (by omega)
        · exact .inr (.inr ⟨q, hq, e1, e2⟩)
  · rw [if_neg hB]
    obtain ⟨k1, hk1⟩ : ∃ k1, k1 = (k.less 0).ackd (1 - p.f) p.m.k := ⟨_, rfl⟩
    have hc1 : ∀ j, j < 2 → (k1.en j).come = (k.en j).come := fun j hj => by rw [hk1]; exact (ackd_en _ _ _ _ hto hj).1
    have ho1 : ∀ j, j < 2 → (k1.en j).op = if j = 1 - p.f then (k.en (1 - p.f)).op.filter (fun x => decide (p.m.k < x.s)) else (k.en j).op := fun j hj => by rw [hk1]; exact (ackd_en _ _ _ _ hto hj).2
    have hsm : (k1.en (1 - p.f)).come + 1 < 4294967296 := by
      rw [hc1 _ hto]
      have := h.come p.f f1
      have := h.small p.f f1
      omega
    rw [← hk1]
    have hen : ∀ j, j < 2 → (((k1.handed (1 - p.f) p.m).put (1 - p.f) 0 []).en j).come = (if j = 1 - p.f ∧ p.m.s = (k.en (1 - p.f)).come + 1 then (k.en (1 - p.f)).come + 1 else (k.en j).come) ∧ (((k1.handed (1 - p.f) p.m).put (1 - p.f) 0 []).en j).op = (k1.en j).op := fun j hj => by
      have := handed_en k1 (1 - p.f) p.m j hto hj hsm
      rw [hc1 _ hto, hc1 _ hj] at this
      exact this
    have hfl : ((k1.handed (1 - p.f) p.m).put (1 - p.f) 0 []).fl = rest ++ [⟨1 - p.f, ⟨(k1.handed (1 - p.f) p.m).ep, 0, ((k1.handed (1 - p.f) p.m).en (1 - p.f)).come, []⟩⟩] := by
      show (k1.handed (1 - p.f) p.m).fl ++ _ = _
      rw [(handed_keep _ _ _).1, hk1, ackd_fl, hl]
    obtain ⟨ak, hak⟩ : ∃ ak, ak = (⟨1 - p.f, ⟨(k1.handed (1 - p.f) p.m).ep, 0, ((k1.handed (1 - p.f) p.m).en (1 - p.f)).come, []⟩⟩ : Pk) := ⟨_, rfl⟩
    rw [← hak] at hfl
    have hakB : ak.m.B = [] := by rw [hak]
    have hfar : ∀ c, far n c (rest ++ [ak]) = far n c rest := fun c => by
      rw [far_app]
      show (if _ then _ else _) = _
      rw [if_neg (fun x => x.2.1 hakB)]
    unfold Run
    rw [hfl, (hen (1 - n) (by omega)).1, (hen n hn).2, hfar]
    by_cases hd : p.f = n
    · subst hd
      refine ⟨?_, ?_⟩
      · rw [← r1]
        show far p.f _ rest = far p.f (if _ then _ else _) rest
        congr 1
        by_cases hs : p.m.s = (k.en (1 - p.f)).come + 1
        · rw [if_pos ⟨rfl, hs⟩, if_pos ⟨rfl, hB, hs⟩]
        · rw [if_neg (fun x => hs x.2), if_neg (fun x => hs x.2.2)]
      · rw [ho1 _ hn, if_neg (by omega)]
        by_cases hx : ∃ q ∈ rest, q.f = p.f ∧ q.m.B ≠ []
        · obtain ⟨q, hq, e⟩ := hx
          exact .inr (.inl ⟨q, List.mem_append_left _ hq, e⟩)
        · refine .inr (.inr ⟨ak, List.mem_append_right _ (List.mem_singleton.2 rfl), by rw [hak], ?_⟩)
          have hcome : ak.m.k = (if p.m.s = (k.en (1 - p.f)).come + 1 then (k.en (1 - p.f)).come + 1 else (k.en (1 - p.f)).come) := by
            rw [hak]
            show ((k1.handed (1 - p.f) p.m).en (1 - p.f)).come = _
            rw [(handed_en k1 (1 - p.f) p.m (1 - p.f) hto hto hsm).1, hc1 _ hto]
            by_cases hs : p.m.s = (k.en (1 - p.f)).come + 1
            · rw [if_pos ⟨rfl, hs⟩, if_pos hs]
            · rw [if_neg (fun x => hs x.2), if_neg hs]
          have e1 : far p.f (if p.f = p.f ∧ p.m.B ≠ [] ∧ p.m.s = (k.en (1 - p.f)).come + 1 then (k.en (1 - p.f)).come + 1 else (k.en (1 - p.f)).come) rest = (S p.f).length := r1
          rw [far_none (fun q hq e => hx ⟨q, hq, e⟩)] at e1
          rw [hcome, ← e1]
          by_cases hs : p.m.s = (k.en (1 - p.f)).come + 1
          · rw [if_pos hs, if_pos ⟨rfl, hB, hs⟩]
          · rw [if_neg hs, if_neg (fun x => hs x.2.2)]
    · refine ⟨?_, ?_⟩
      · rw [← r1]
        show far n _ rest = far n (if _ then _ else _) rest
        rw [if_neg (fun x => by have := x.1; omega), if_neg (fun x => hd x.1)]
      · rw [ho1 _ hn, if_pos (by omega), show 1 - p.f = n by omega]
        rcases r2 with e | ⟨q, hq, e1, e2⟩ | ⟨q, hq, e1, e2⟩
        · exact .inl (by rw [e]; rfl)
        · rcases List.mem_cons.1 hq with rfl | hq
          · exact absurd e1 hd
          · exact .inr (.inl ⟨q, List.mem_append_left _ hq, e1, e2⟩)
        · rcases List.mem_cons.1 hq with rfl | hq
          · exact .inl (hnil _ (by omega))
          · exact .inr (.inr ⟨q, List.mem_append_left _ hq, e1, e2⟩)
theorem wt_dels (h : Ok k S) {p : Pk} {rest : List Pk} (hp : k.fl = p :: rest) : wt (k.dels 0).fl < wt k.fl := by
  have hl : (k.less 0).fl = rest := by show k.fl.take 0 ++ k.fl.drop 1 = rest; rw [hp]; rfl
  rw [h.dels0 hp, hp]
  have e : wt (p :: rest) = (if p.m.B = [] then 1 else 2) + wt rest := rfl
  rw [e]
  by_cases hB : p.m.B = []
  · rw [if_pos hB, if_pos hB, ackd_fl, hl]; omega
  · rw [if_neg hB, if_neg hB]
    show wt ((((k.less 0).ackd (1 - p.f) p.m.k).handed (1 - p.f) p.m).fl ++ _) < _
    rw [(handed_keep _ _ _).1, ackd_fl, hl, wt_app]
    show wt rest + 1 < _
    omega
theorem tries_fl (k : Lk) (n : Nat) (ms : List Mk) (h : k.fl.length + ms.length ≤ 1024) : (k.tries n ms).fl = k.fl ++ ms.map fun m => (⟨n, ⟨k.ep, m.s, (k.en n).come, m.B⟩⟩ : Pk) := by
  induction ms generalizing k with
  | nil => simp [Lk.tries]
  | cons m ms ih =>
    rw [List.length_cons] at h
    have e : k.tries n (m :: ms) = (k.put n m.s m.B).tries n ms := by
      show (k.try1 n m).tries n ms = _
      rw [show k.try1 n m = k.put n m.s m.B from if_pos (by omega)]
    have hl : (k.put n m.s m.B).fl.length = k.fl.length + 1 := by show (k.fl ++ [_]).length = _; simp
    rw [e, ih _ (by omega)]
    show (k.fl ++ [_]) ++ _ = _
    rw [List.append_assoc]
    rfl
/-- behind Tick, with room, all runs -/
theorem Ok.run (h : Ok k S) (hl : k.fl.length + k.a.op.length + k.b.op.length ≤ 1024) (hn : n < 2) : Run n k.tick S := by
  have t0 := tries_en k 0 k.a.op
  have f0 := tries_fl k 0 k.a.op (by omega)
  have f1 := tries_fl (k.tries 0 k.a.op) 1 k.b.op (by rw [f0, List.length_append, List.length_map]; omega)
  have t1 := tries_en (k.tries 0 k.a.op) 1 k.b.op
  have hen : ∀ j, j < 2 → k.tick.en j = k.en j := fun j hj => by
    rcases two hj with rfl | rfl
    · exact t1.2.1.trans t0.2.1
    · exact t1.2.2.1.trans t0.2.2.1
  have hfl : k.tick.fl = k.fl ++ (k.a.op.map fun m => (⟨0, ⟨k.ep, m.s, k.a.come, m.B⟩⟩ : Pk)) ++ (k.b.op.map fun m => (⟨1, ⟨k.ep, m.s, k.b.come, m.B⟩⟩ : Pk)) := by
    show ((k.tries 0 k.a.op).tries 1 k.b.op).fl = _
    rw [f1, f0, t0.1]
    show _ ++ List.map (fun (m : Mk) => (⟨1, ⟨k.ep, m.s, (k.tries 0 k.a.op).b.come, m.B⟩⟩ : Pk)) _ = _
    rw [t0.2.2.1]
    rfl
  have hpk : ∀ p ∈ k.fl, p.f = n → p.m.B ≠ [] → p.m.s ≤ (S n).length := fun p hp e hB => by
    obtain ⟨_, _, _, h4⟩ := h.fl p hp
    obtain ⟨i, e1, e2⟩ := h4.resolve_left hB
    rw [e] at e1
    have := (List.getElem?_eq_some_iff.1 e1).1
    omega
  obtain ⟨a, ha, hop⟩ := h.op n hn
  have hcm := h.come n hn
  have hfar := far_le hpk hcm
  have hbody : ∀ B ∈ (S n).drop a, B ≠ [] := fun B hB => h.body n hn B (List.mem_of_mem_drop hB)
  have hdl : ((S n).drop a).length = (S n).length - a := List.length_drop ..
  unfold Run
  rw [hen (1 - n) (by omega), hen n hn, hfl]
  refine ⟨?_, ?_⟩
  · rw [far_app, far_app]
    rcases two hn with rfl | rfl
    · rw [far_none (n := 0) (fl := k.b.op.map _) (fun p hp e => by
        obtain ⟨m, _, rfl⟩ := List.mem_map.1 hp
        exact absurd e.1 (by show ¬ (1 = 0); decide))]
      rw [show k.a.op = _ from hop, far_opens _ _ _ _ _ hbody (by omega)]
      omega
    · rw [far_none (n := 1) (fl := k.a.op.map _) (fun p hp e => by
        obtain ⟨m, _, rfl⟩ := List.mem_map.1 hp
        exact absurd e.1 (by show ¬ (0 = 1); decide))]
      rw [show k.b.op = _ from hop, far_opens _ _ _ _ _ hbody (by omega)]
      omega
  · cases ho : (k.en n).op with
    | nil => exact .inl rfl
    | cons m ms =>
      refine .inr (.inl ?_)
      obtain ⟨i, e1, e2⟩ := h.op_mem n hn m (by rw [ho]; exact List.mem_cons_self ..)
      have hmB := h.body n hn _ (List.mem_of_getElem? e1)
      rcases two hn with rfl | rfl
      · refine ⟨⟨0, ⟨k.ep, m.s, k.a.come, m.B⟩⟩, List.mem_append_left _ (List.mem_append_right _ (List.mem_map.2 ⟨m, ?_, rfl⟩)), rfl, hmB⟩
        rw [show k.a.op = m :: ms from ho]; exact List.mem_cons_self ..
      · refine ⟨⟨1, ⟨k.ep, m.s, k.b.come, m.B⟩⟩, List.mem_append_right _ (List.mem_map.2 ⟨m, ?_, rfl⟩), rfl, hmB⟩
        rw [show k.b.op = m :: ms from ho]; exact List.mem_cons_self ..
theorem Ok.done (h : Ok k S) (hn : n < 2) (hr : Run n k S) (hf : k.fl = []) : (k.en n).op = [] ∧ (k.en (1 - n)).got = S n := by
  obtain ⟨r1, r2⟩ := hr
  rw [hf] at r1 r2
  refine ⟨?_, ?_⟩
  · rcases r2 with e | ⟨p, hp, _⟩ | ⟨p, hp, _⟩
    · exact e
    · cases hp
    · cases hp
  · rw [h.got n hn, show (k.en (1 - n)).come = (S n).length from r1, List.take_length]
end Go.Proofs.Ytfjaoompdleljaa.Link
