/-
  The plain law of a link in one epoch: what comes is a beginning of what was sent. Helper text; no statement is proved here.
-/
import Derived.Test.YtfjaoompdleljaaLinkTick
import Derived.Test.YtfjaoompdleljaaLinkTwin
set_option linter.unusedVariables false
set_option maxRecDepth 20000
set_option linter.unusedSimpArgs false
namespace Go.Proofs.Ytfjaoompdleljaa.Link
/-- messages from number i on -/
def opens : Nat → List (List UInt8) → List Mk
  | _, [] => []
  | i, B :: r => ⟨0, i + 1, 0, B⟩ :: opens (i + 1) r
theorem opens_len (i : Nat) (l : List (List UInt8)) : (opens i l).length = l.length := by
  induction l generalizing i with
  | nil => rfl
  | cons B r ih => simp [opens, ih]
theorem opens_snoc (i : Nat) (l : List (List UInt8)) (B : List UInt8) : opens i (l ++ [B]) = opens i l ++ [⟨0, i + l.length + 1, 0, B⟩] := by
  induction l generalizing i with
  | nil => rfl
  | cons C r ih =>
    simp only [List.cons_append, opens, ih, List.length_cons]
    rw [show i + 1 + r.length + 1 = i + (r.length + 1) + 1 by omega]
theorem opens_mem {i : Nat} {l : List (List UInt8)} {m : Mk} (h : m ∈ opens i l) : ∃ j, l[j]? = some m.B ∧ m.s = i + j + 1 := by
  induction l generalizing i with
  | nil => cases h
  | cons B r ih =>
    rcases List.mem_cons.1 h with rfl | h
    · exact ⟨0, rfl, rfl⟩
    · obtain ⟨j, h1, h2⟩ := ih h
      exact ⟨j + 1, h1, by omega⟩
theorem opens_filter (K i : Nat) (l : List (List UInt8)) : (opens i l).filter (fun m => decide (K < m.s)) = opens (max i K) (l.drop (K - i)) := by
  induction l generalizing i with
  | nil => simp [opens]
  | cons B r ih =>
    by_cases h : K < i + 1
    · have e1 : max i K = i := by omega
      have e2 : K - i = 0 := by omega
      rw [e1, e2, List.drop_zero]
      show List.filter _ (⟨0, i + 1, 0, B⟩ :: opens (i + 1) r) = _
      rw [List.filter_cons_of_pos (by simpa using h), ih]
      have e3 : max (i + 1) K = i + 1 := by omega
      have e4 : K - (i + 1) = 0 := by omega
      rw [e3, e4, List.drop_zero]
      rfl
    · show List.filter _ (⟨0, i + 1, 0, B⟩ :: opens (i + 1) r) = _
      rw [List.filter_cons_of_neg (by simpa using h), ih]
      have e3 : max (i + 1) K = max i K := by omega
      have e4 : K - i = (K - (i + 1)) + 1 := by omega
      rw [e3, e4, List.drop_succ_cons]
/-- what holds of a link of which epoch 0 stands, and of what was sent -/
structure Ok (k : Lk) (S : Nat → List (List UInt8)) : Prop where
  ep : k.ep = 0
  sent : ∀ n, n < 2 → (k.en n).sent = (S n).length
  got : ∀ n, n < 2 → (k.en (1 - n)).got = (S n).take (k.en (1 - n)).come
  come : ∀ n, n < 2 → (k.en (1 - n)).come ≤ (S n).length
  op : ∀ n, n < 2 → ∃ a, a ≤ (k.en (1 - n)).come ∧ (k.en n).op = opens a ((S n).drop a)
  fl : ∀ p ∈ k.fl, p.f < 2 ∧ p.m.e = 0 ∧ p.m.k ≤ (k.en p.f).come ∧ (p.m.B = [] ∨ ∃ i, (S p.f)[i]? = some p.m.B ∧ p.m.s = i + 1)
  small : ∀ n, n < 2 → (S n).length < 4294967295
  body : ∀ n, n < 2 → ∀ B ∈ S n, B ≠ []
  room : k.fl.length ≤ 1024
  few : ∀ n, n < 2 → (k.en n).op.length ≤ 256
def put2 (S : Nat → List (List UInt8)) (n : Nat) (B : List UInt8) : Nat → List (List UInt8) := fun i => if i = n then S i ++ [B] else S i
variable {k : Lk} {S : Nat → List (List UInt8)}
theorem two {n : Nat} (h : n < 2) : n = 0 ∨ n = 1 := by omega
theorem ok_k0 : Ok k0 (fun _ => []) where
  ep := rfl
  sent n hn := by rcases two hn with rfl | rfl <;> rfl
  got n hn := by rcases two hn with rfl | rfl <;> rfl
  come n hn := by rcases two hn with rfl | rfl <;> exact Nat.le_refl _
  op n hn := by rcases two hn with rfl | rfl <;> exact ⟨0, Nat.le_refl _, rfl⟩
  fl p hp := by cases hp
  small n hn := by simp
  body n hn B hB := by cases hB
  room := by decide
  few n hn := by rcases two hn with rfl | rfl <;> decide
theorem with_ep (k : Lk) (n : Nat) (e : En) : (k.with n e).ep = k.ep := by unfold Lk.with; split <;> rfl
theorem with_fl (k : Lk) (n : Nat) (e : En) : (k.with n e).fl = k.fl := by unfold Lk.with; split <;> rfl
theorem ackd_ep (k : Lk) (n K : Nat) : (k.ackd n K).ep = k.ep := with_ep ..
theorem ackd_fl (k : Lk) (n K : Nat) : (k.ackd n K).fl = k.fl := with_fl ..
theorem sent_ep (k : Lk) (n : Nat) (m : Mk) : ((k.bump n).addOpen n m).ep = k.ep := (with_ep ..).trans (with_ep ..)
theorem sent_fl (k : Lk) (n : Nat) (m : Mk) : ((k.bump n).addOpen n m).fl = k.fl := (with_fl ..).trans (with_fl ..)
theorem took_ep (k : Lk) (n : Nat) (B : List UInt8) : ((k.come1 n).addGot n B).ep = k.ep := (with_ep ..).trans (with_ep ..)
theorem took_fl (k : Lk) (n : Nat) (B : List UInt8) : ((k.come1 n).addGot n B).fl = k.fl := (with_fl ..).trans (with_fl ..)
theorem Ok.acks (h : Ok k S) (n : Nat) (hn : n < 2) (K : Nat) (hK : K ≤ (k.en (1 - n)).come) : Ok (k.ackd n K) S := by
  have hen : ∀ m, m < 2 → ((k.ackd n K).en m).sent = (k.en m).sent ∧ ((k.ackd n K).en m).come = (k.en m).come ∧ ((k.ackd n K).en m).got = (k.en m).got := fun m hm => by
    rcases two hn with rfl | rfl <;> rcases two hm with rfl | rfl <;> exact ⟨rfl, rfl, rfl⟩
  have hop : ∀ m, m < 2 → ((k.ackd n K).en m).op = if m = n then (k.en n).op.filter (fun x => decide (K < x.s)) else (k.en m).op := fun m hm => by
    rcases two hn with rfl | rfl <;> rcases two hm with rfl | rfl <;> rfl
  refine { ep := (ackd_ep ..).trans h.ep, sent := fun m hm => (hen m hm).1.trans (h.sent m hm), got := fun m hm => ?_, come := fun m hm => ?_, op := fun m hm => ?_, fl := fun p hp => ?_, small := h.small, body := h.body, room := by rw [ackd_fl]; exact h.room, few := fun m hm => ?_ }
  · rw [(hen (1 - m) (by omega)).2.1, (hen (1 - m) (by omega)).2.2]; exact h.got m hm
  · rw [(hen (1 - m) (by omega)).2.1]; exact h.come m hm
  · rw [(hen (1 - m) (by omega)).2.1, hop m hm]
    obtain ⟨a, h1, h2⟩ := h.op m hm
    by_cases e : m = n
    · subst e
      rw [if_pos rfl, h2, opens_filter, List.drop_drop]
      exact ⟨max a K, by omega, by rw [show a + (K - a) = max a K by omega]⟩
    · rw [if_neg e]; exact ⟨a, h1, h2⟩
  · rw [ackd_fl] at hp
    obtain ⟨h1, h2, h3, h4⟩ := h.fl p hp
    exact ⟨h1, h2, by rw [(hen p.f h1).2.1]; exact h3, h4⟩
  · rw [hop m hm]
    by_cases e : m = n
    · rw [if_pos e]; exact Nat.le_trans (List.length_filter_le ..) (h.few n hn)
    · rw [if_neg e]; exact h.few m hm
theorem Ok.flight (h : Ok k S) (fl : List Pk) (hf : ∀ p ∈ fl, p.f < 2 ∧ p.m.e = 0 ∧ p.m.k ≤ (k.en p.f).come ∧ (p.m.B = [] ∨ ∃ i, (S p.f)[i]? = some p.m.B ∧ p.m.s = i + 1)) (hl : fl.length ≤ 1024) : Ok { k with fl := fl } S :=
  { ep := h.ep, sent := h.sent, got := h.got, come := h.come, op := h.op, fl := hf, small := h.small, body := h.body, room := hl, few := h.few }
theorem Ok.less (h : Ok k S) (i : Nat) : Ok (k.less i) S := by
  refine h.flight _ (fun p hp => ?_) ?_
  · rcases List.mem_append.1 hp with hp | hp
    · exact h.fl p (List.mem_of_mem_take hp)
    · exact h.fl p (List.mem_of_mem_drop hp)
  · have := h.room
    rw [List.length_append, List.length_take, List.length_drop]
    omega
theorem Ok.puts (h : Ok k S) (n s : Nat) (B : List UInt8) (hn : n < 2) (hl : k.fl.length < 1024) (hB : B = [] ∨ ∃ i, (S n)[i]? = some B ∧ s = i + 1) : Ok (k.put n s B) S := by
  refine h.flight _ (fun p hp => ?_) (by rw [List.length_append]; simp; omega)
  rcases List.mem_append.1 hp with hp | hp
  · exact h.fl p hp
  · obtain rfl := List.mem_singleton.1 hp
    exact ⟨hn, h.ep, Nat.le_refl _, hB⟩
theorem Ok.twin (h : Ok k S) (i : Nat) (hl : k.fl.length < 1024) : Ok (k.twin i) S := by
  unfold Lk.twin
  cases hp : k.fl[i]? with
  | none => exact h
  | some p =>
    refine h.flight _ (fun q hq => ?_) (by rw [List.length_append]; simp; omega)
    rcases List.mem_append.1 hq with hq | hq
    · exact h.fl q hq
    · obtain rfl := List.mem_singleton.1 hq
      exact h.fl _ (List.mem_of_getElem? hp)
theorem Ok.send (h : Ok k S) (n : Nat) (B : List UInt8) (hn : n < 2) (hB : B ≠ []) (hl : k.fl.length < 1024) (ho : (k.en n).op.length < 256) (hs : (S n).length + 1 < 4294967295) : Ok (k.send n B) (put2 S n B) := by
  have hsn := h.sent n hn
  have hmod : ((k.en n).sent + 1) % 4294967296 = (S n).length + 1 := by rw [hsn]; exact Nat.mod_eq_of_lt (by omega)
  unfold Lk.send
  rw [hmod]
  have hen : ∀ m, m < 2 → (((k.bump n).addOpen n ⟨0, (S n).length + 1, 0, B⟩).en m).come = (k.en m).come ∧ (((k.bump n).addOpen n ⟨0, (S n).length + 1, 0, B⟩).en m).got = (k.en m).got := fun m hm => by
    rcases two hn with rfl | rfl <;> rcases two hm with rfl | rfl <;> exact ⟨rfl, rfl⟩
  have hst : ∀ m, m < 2 → (((k.bump n).addOpen n ⟨0, (S n).length + 1, 0, B⟩).en m).sent = if m = n then ((k.en n).sent + 1) % 4294967296 else (k.en m).sent := fun m hm => by
    rcases two hn with rfl | rfl <;> rcases two hm with rfl | rfl <;> rfl
  have hop : ∀ m, m < 2 → (((k.bump n).addOpen n ⟨0, (S n).length + 1, 0, B⟩).en m).op = if m = n then (k.en n).op ++ [⟨0, (S n).length + 1, 0, B⟩] else (k.en m).op := fun m hm => by
    rcases two hn with rfl | rfl <;> rcases two hm with rfl | rfl <;> rfl
  have hpre : ∀ m i C, (S m)[i]? = some C → (put2 S n B m)[i]? = some C := fun m i C hC => by
    unfold put2
    split
    · rw [List.getElem?_append_left (List.getElem?_eq_some_iff.1 hC).1]; exact hC
    · exact hC
  have hlen : ∀ m, (put2 S n B m).length = if m = n then (S n).length + 1 else (S m).length := fun m => by
    unfold put2
    split
    · rename_i e; subst e; simp
    · rfl
  have H : Ok ((k.bump n).addOpen n ⟨0, (S n).length + 1, 0, B⟩) (put2 S n B) := by
    refine { ep := (sent_ep ..).trans h.ep, sent := fun m hm => ?_, got := fun m hm => ?_, come := fun m hm => ?_, op := fun m hm => ?_, fl := fun p hp => ?_, small := fun m hm => ?_, body := fun m hm C hC => ?_, room := by rw [sent_fl]; exact h.room, few := fun m hm => ?_ }
    · rw [hst m hm, hlen, hmod]
      split
      · rfl
      · exact h.sent m hm
    · rw [(hen (1 - m) (by omega)).1, (hen (1 - m) (by omega)).2, h.got m hm]
      unfold put2
      split
      · rw [List.take_append_of_le_length (h.come m hm)]
      · rfl
    · rw [(hen (1 - m) (by omega)).1, hlen]
      have := h.come m hm
      split
      · rename_i e; subst e; omega
      · exact this
    · rw [(hen (1 - m) (by omega)).1, hop m hm]
      obtain ⟨a, h1, h2⟩ := h.op m hm
      refine ⟨a, h1, ?_⟩
      have hc := h.come m hm
      unfold put2
      split
      · rename_i e
        subst e
        rw [h2, List.drop_append_of_le_length (by omega), opens_snoc, List.length_drop, show a + ((S m).length - a) + 1 = (S m).length + 1 by omega]
      · exact h2
    · rw [sent_fl] at hp
      obtain ⟨h1, h2, h3, h4⟩ := h.fl p hp
      refine ⟨h1, h2, by rw [(hen p.f h1).1]; exact h3, h4.imp id ?_⟩
      rintro ⟨i, e1, e2⟩
      exact ⟨i, hpre _ i _ e1, e2⟩
    · rw [hlen]
      split
      · exact hs
      · exact h.small m hm
    · unfold put2 at hC
      split at hC
      · rcases List.mem_append.1 hC with hC | hC
        · exact h.body m hm C hC
        · obtain rfl := List.mem_singleton.1 hC; exact hB
      · exact h.body m hm C hC
    · rw [hop m hm]
      split
      · rw [List.length_append]; simp; omega
      · exact h.few m hm
  refine H.puts n _ B hn (by rw [sent_fl]; exact hl) (.inr ⟨(S n).length, ?_, rfl⟩)
  unfold put2
  rw [if_pos rfl]
  simp
theorem Ok.handed (h : Ok k S) (n : Nat) (hn : n < 2) (m : Mk) (hB : ∃ i, (S (1 - n))[i]? = some m.B ∧ m.s = i + 1) : Ok (k.handed n m) S := by
  unfold Lk.handed
  split
  · rename_i hs
    obtain ⟨i, h1, h2⟩ := hB
    have hc := h.come (1 - n) (by omega)
    have hsm := h.small (1 - n) (by omega)
    rw [show 1 - (1 - n) = n by omega] at hc
    have hmod : ((k.en n).come + 1) % 4294967296 = (k.en n).come + 1 := Nat.mod_eq_of_lt (by omega)
    rw [hmod] at hs
    obtain rfl : i = (k.en n).come := by omega
    have hil := (List.getElem?_eq_some_iff.1 h1).1
    have hen : ∀ j, j < 2 → (((k.come1 n).addGot n m.B).en j).sent = (k.en j).sent ∧ (((k.come1 n).addGot n m.B).en j).op = (k.en j).op := fun j hj => by
      rcases two hn with rfl | rfl <;> rcases two hj with rfl | rfl <;> exact ⟨rfl, rfl⟩
    have hco : ∀ j, j < 2 → (((k.come1 n).addGot n m.B).en j).come = if j = n then ((k.en n).come + 1) % 4294967296 else (k.en j).come := fun j hj => by
      rcases two hn with rfl | rfl <;> rcases two hj with rfl | rfl <;> rfl
    have hgo : ∀ j, j < 2 → (((k.come1 n).addGot n m.B).en j).got = if j = n then (k.en n).got ++ [m.B] else (k.en j).got := fun j hj => by
      rcases two hn with rfl | rfl <;> rcases two hj with rfl | rfl <;> rfl
    have hle : ∀ j, j < 2 → (k.en j).come ≤ (((k.come1 n).addGot n m.B).en j).come := fun j hj => by
      rw [hco j hj]
      split
      · rename_i e; subst e; omega
      · exact Nat.le_refl _
    refine { ep := (took_ep ..).trans h.ep, sent := fun j hj => (hen j hj).1.trans (h.sent j hj), got := fun j hj => ?_, come := fun j hj => ?_, op := fun j hj => ?_, fl := fun p hp => ?_, small := h.small, body := h.body, room := by rw [took_fl]; exact h.room, few := fun j hj => by rw [(hen j hj).2]; exact h.few j hj }
    · rw [hco _ (by omega), hgo _ (by omega)]
      split
      · rename_i e
        subst e
        rw [h.got j hj, hmod]
        rw [show 1 - (1 - j) = j by omega] at h1
        rw [List.take_add_one, h1]
        rfl
      · exact h.got j hj
    · rw [hco _ (by omega)]
      split
      · rename_i e
        subst e
        rw [show 1 - (1 - j) = j by omega] at hil
        omega
      · exact h.come j hj
    · obtain ⟨a, e1, e2⟩ := h.op j hj
      exact ⟨a, Nat.le_trans e1 (hle _ (by omega)), by rw [(hen j hj).2]; exact e2⟩
    · rw [took_fl] at hp
      obtain ⟨e1, e2, e3, e4⟩ := h.fl p hp
      exact ⟨e1, e2, Nat.le_trans e3 (hle _ e1), e4⟩
  · exact h
theorem Ok.answer (h : Ok k S) (n : Nat) (hn : n < 2) : Ok (k.answer n) S := by
  unfold Lk.answer
  split
  · rename_i hl; exact h.puts n 0 [] hn hl (.inl rfl)
  · exact h
theorem handed_keep (k : Lk) (n : Nat) (m : Mk) : (k.handed n m).fl = k.fl ∧ (k.handed n m).ep = k.ep := by
  unfold Lk.handed
  split
  · exact ⟨took_fl .., took_ep ..⟩
  · exact ⟨rfl, rfl⟩
theorem Ok.comes (h : Ok k S) (p : Pk) (hf : p.f < 2) (hk : p.m.k ≤ (k.en p.f).come) (hb : p.m.B = [] ∨ ∃ i, (S p.f)[i]? = some p.m.B ∧ p.m.s = i + 1) : Ok (k.comes p) S := by
  unfold Lk.comes
  have ha := h.acks (1 - p.f) (by omega) p.m.k (by rw [show 1 - (1 - p.f) = p.f by omega]; exact hk)
  split
  · split
    · exact ha
    · rename_i hB
      exact (ha.handed (1 - p.f) (by omega) p.m (by rw [show 1 - (1 - p.f) = p.f by omega]; exact hb.resolve_left hB)).answer (1 - p.f) (by omega)
  · exact h
theorem Ok.dels (h : Ok k S) (i : Nat) : Ok (k.dels i) S := by
  unfold Lk.dels
  cases hp : k.fl[i]? with
  | none => exact h
  | some p =>
    obtain ⟨h1, h2, h3, h4⟩ := h.fl p (List.mem_of_getElem? hp)
    exact (h.less i).comes p h1 h3 h4
theorem Ok.tries (h : Ok k S) (n : Nat) (hn : n < 2) (ms : List Mk) (hm : ∀ m ∈ ms, ∃ i, (S n)[i]? = some m.B ∧ m.s = i + 1) : Ok (k.tries n ms) S := by
  unfold Lk.tries
  induction ms generalizing k with
  | nil => exact h
  | cons m ms ih =>
    refine ih ?_ (fun x hx => hm x (List.mem_cons_of_mem _ hx))
    show Ok (k.try1 n m) S
    by_cases hl : k.fl.length < 1024
    · rw [show k.try1 n m = k.put n m.s m.B from if_pos hl]
      exact h.puts n _ _ hn hl (.inr (hm m (List.mem_cons_self ..)))
    · rw [show k.try1 n m = k from if_neg hl]
      exact h
theorem Ok.op_mem (h : Ok k S) (n : Nat) (hn : n < 2) : ∀ m ∈ (k.en n).op, ∃ i, (S n)[i]? = some m.B ∧ m.s = i + 1 := by
  intro m hm
  obtain ⟨a, h1, h2⟩ := h.op n hn
  rw [h2] at hm
  obtain ⟨j, e1, e2⟩ := opens_mem hm
  rw [List.getElem?_drop] at e1
  exact ⟨a + j, e1, e2⟩
theorem Ok.tick (h : Ok k S) : Ok k.tick S := (h.tries 0 (by decide) _ (h.op_mem 0 (by decide))).tries 1 (by decide) _ (h.op_mem 1 (by decide))
end Go.Proofs.Ytfjaoompdleljaa.Link
