/-
  A clone told exactly; three makings one behind the other; appends to a link's rows. Helper text; no statement is proved here.
-/
import Derived.Test.YtfjaoompdleljaaLinkPut
set_option linter.unusedVariables false
set_option maxRecDepth 20000
set_option linter.unusedSimpArgs false
namespace Go.Proofs.Ytfjaoompdleljaa.Link
open Go.RowKit Go.Proofs.Ytfjaoompdleljaa.Base Go.Proofs.Ytfjaoompdleljaa.Laws Go.Proofs.Ytfjaoompdleljaa.Disk Go.Proofs.Ytfjaoompdleljaa.Row Go.Proofs.Ytfjaoompdleljaa.Flat Go.Proofs.Ytfjaoompdleljaa.InvM Go.Proofs.Ytfjaoompdleljaa.Inv Go.Proofs.Ytfjaoompdleljaa.InvL Go.Proofs.Ytfjaoompdleljaa.InvC Go.Proofs.Ytfjaoompdleljaa.InvG Go.Proofs.Ytfjaoompdleljaa.Codec
def cloneC (w : World) (n : Nat) : Nat := grownCap (w.alloc (.cells #[] 5)) n 0 5
def cloneW (w : World) (n : Nat) (l : List UInt8) : World := ((w.alloc (.cells #[] 5)).alloc (.cells ((bv l).toArray ++ Builtin.zeroCells #[.int .u8 0] (grownCap (w.alloc (.cells #[] 5)) n 0 5 - n)) 5)).drew
theorem clone_exact (ad : Addr) (n c : Nat) (l : List UInt8) (hn0 : 0 < n) (hn : n ≤ 140737488355328) (w : World) (h : Bts w (some ad) n c l) :
    Calls Try.prog 33 #[.slice (some ad) n c] w fun x w' => x = .returned (.slice (some ⟨w.heap.size + 1, 0, none⟩) n (cloneC w n)) ∧ w' = cloneW w n l := by
  have hl := h.1
  have HT := Lib.hid (OwnB.src_bts (bts_alloc h (.cells #[] 5)))
  have hq := fun w' => run_eql_slice_nil' w' ad n c
  clear h
  go_enter Try.func33, Try.ntmps33
  go_wp2_with (first | (at_builtin; refine wpList_append_grow rfl _ _ rfl w.heap.size rfl ad n c (bv l) rfl HT.out hn0 hn ?_))
  have e1 : cloneC w n = grownCap (w.alloc (.cells #[] 5)) n 0 5 := rfl
  have e2 : cloneW w n l = ((w.alloc (.cells #[] 5)).alloc (.cells ((bv l).toArray ++ Builtin.zeroCells #[.int .u8 0] (grownCap (w.alloc (.cells #[] 5)) n 0 5 - n)) 5)).drew := rfl
  rw [← e2, ← e1]
  clear e1 e2
  go_ret
  exact ⟨rfl, rfl⟩
theorem cloneW_is (w : World) (n : Nat) (l : List UInt8) (hl : l.length = n) (hn : n ≤ 140737488355328) : Bts (cloneW w n l) (some ⟨w.heap.size + 1, 0, none⟩) n (cloneC w n) l ∧ Below w.heap.size w (cloneW w n l) ∧ (cloneW w n l).heap.size = w.heap.size + 2 := by
  have h2 := grownCap_ge (w.alloc (.cells #[] 5)) n 0 5
  have h3 := grownCap_le_maxLen (w.alloc (.cells #[] 5)) n 0 5 (by unfold maxLen; omega)
  refine ⟨?_, ?_, ?_⟩
  · exact (show Bts ((w.alloc (.cells #[] 5)).alloc (.cells ((bv l).toArray ++ Builtin.zeroCells #[.int .u8 0] (grownCap (w.alloc (.cells #[] 5)) n 0 5 - n)) 5)).drew _ _ _ _ from bts_grown (w := w.alloc (.cells #[] 5)) (g := w.heap.size + 1) (z := Builtin.zeroCells #[.int .u8 0] (grownCap (w.alloc (.cells #[] 5)) n 0 5 - n)) (by simp) hl h2 h3)
  · exact (((Below.refl w.heap.size w).alloc (Nat.le_refl _) (.cells #[] 5)).alloc (by simp) _).drew
  · show ((w.alloc (.cells #[] 5)).alloc _).heap.size = _
    simp
/-- A, then B behind p, then C behind q, then D behind r -/
def At3 (p q r : Nat) (A B C D : World → Prop) (d : Array Bool) (w : World) : Prop := if d.getD r false = true then d.getD q false = true ∧ d.getD p false = true ∧ D w else At2 p q A B C d w
section
variable {p q r i : Nat} {A B C D : World → Prop} {d : Array Bool} {w w' : World}
theorem At3.keep (h1 : i ≠ p) (h2 : i ≠ q) (h3 : i ≠ r) (h : At3 p q r A B C D d w) : At3 p q r A B C D (d.setIfInBounds i true) w := by
  unfold At3 at *
  rw [getD_set_ne false h3]
  split at h
  · rename_i e
    rw [if_pos e, getD_set_ne false h1, getD_set_ne false h2]
    exact h
  · rename_i e
    rw [if_neg e]
    exact At2.keep h1 h2 h
theorem At3.start (h1 : d.getD p false = false) (h2 : d.getD q false = false) (h3 : d.getD r false = false) (h : A w) : At3 p q r A B C D d w := by
  unfold At3
  rw [if_neg (by rw [h3]; simp)]
  exact At2.start h1 h2 h
theorem At3.two (hd : d.getD p true = false ∨ d.getD q true = false ∨ d.getD r true = false) (h : At3 p q r A B C D d w) : At2 p q A B C d w ∧ d.getD r false = false := by
  unfold At3 at h
  split at h
  · rcases hd with hd | hd | hd <;> have := getD_true_of hd
    · rw [this] at h; simp at h
    · rw [this] at h; simp at h
    · rename_i e; rw [this] at e; cases e
  · rename_i e
    exact ⟨h, by simpa using e⟩
theorem At3.at_p (hd : d.getD p true = false) (h : At3 p q r A B C D d w) : A w := ((h.two (.inl hd)).1.at_p hd).1
theorem At3.did_p (hpq : p ≠ q) (hpr : p ≠ r) (hd : d.getD p true = false) (h : At3 p q r A B C D d w) (h' : B w') : At3 p q r A B C D (d.setIfInBounds p true) w' := by
  obtain ⟨h2, h3⟩ := h.two (.inl hd)
  unfold At3
  rw [getD_set_ne false hpr, if_neg (by rw [h3]; simp)]
  exact h2.did_p hpq hd h'
theorem At3.at_q (hd : d.getD q true = false) (hp : d.getD p false = true) (h : At3 p q r A B C D d w) : B w := (h.two (.inr (.inl hd))).1.at_q hd hp
theorem At3.did_q (hpq : p ≠ q) (hqr : q ≠ r) (hd : d.getD q true = false) (hp : d.getD p false = true) (h : At3 p q r A B C D d w) (h' : C w') : At3 p q r A B C D (d.setIfInBounds q true) w' := by
  obtain ⟨h2, h3⟩ := h.two (.inr (.inl hd))
  unfold At3
  rw [getD_set_ne false hqr, if_neg (by rw [h3]; simp)]
  exact At2.did_q hpq hd hp h'
theorem At3.at_r (hd : d.getD r true = false) (hq : d.getD q false = true) (h : At3 p q r A B C D d w) : C w := (h.two (.inr (.inr hd))).1.done hq
theorem At3.did_r (hpr : p ≠ r) (hqr : q ≠ r) (hd : d.getD r true = false) (hq : d.getD q false = true) (h : At3 p q r A B C D d w) (h' : D w') : At3 p q r A B C D (d.setIfInBounds r true) w' := by
  have h2 := (h.two (.inr (.inr hd))).1
  unfold At2 at h2
  rw [if_pos hq] at h2
  unfold At3
  rw [now hd, if_pos rfl, getD_set_ne false (Ne.symm hpr), getD_set_ne false (Ne.symm hqr)]
  exact ⟨hq, h2.1, h'⟩
theorem At3.done (hd : d.getD r false = true) (h : At3 p q r A B C D d w) : D w := by
  unfold At3 at h
  rw [if_pos hd] at h
  exact h.2.2
theorem At3.any (h : At3 p q r A B C D d w) : A w ∨ B w ∨ C w ∨ D w := by
  unfold At3 at h
  split at h
  · exact .inr (.inr (.inr h.2.2))
  · rcases h.any with h | h | h
    · exact .inl h
    · exact .inr (.inl h)
    · exact .inr (.inr (.inl h))
end
theorem gc_one {p : List UInt8 × Value} (h : p.2.oneCell' = true) : ∀ u ∈ gc p, u.oneCell' = true := by
  intro u hu
  simp only [gc, List.mem_cons, List.not_mem_nil, or_false] at hu
  rw [hu]; exact h
def Lk.bump (k : Lk) (n : Nat) : Lk := k.with n { k.en n with sent := ((k.en n).sent + 1) % 4294967296 }
def Lk.addOpen (k : Lk) (n : Nat) (x : Mk) : Lk := k.with n { k.en n with op := (k.en n).op ++ [x] }
def Lk.addGot (k : Lk) (n : Nat) (B : List UInt8) : Lk := k.with n { k.en n with got := (k.en n).got ++ [B] }
def Lk.send (k : Lk) (n : Nat) (B : List UInt8) : Lk := ((k.bump n).addOpen n ⟨0, ((k.en n).sent + 1) % 4294967296, 0, B⟩).put n (((k.en n).sent + 1) % 4294967296) B
section
variable {w : World} {bl : Nat} {V : Nat → Value} {A : List Nat} {k : Lk}
theorem reach_upd {i : Nat} (hi : i < 5) {v' : Value} (hv : v'.ownBlock = (V i).ownBlock ∨ v'.ownBlock = some w.heap.size ∨ v'.ownBlock = none) : ∀ x ∈ reach bl (upd V i v') ++ A, x ∈ reach bl V ++ A ∨ w.heap.size ≤ x := by
  intro x hx
  rcases List.mem_append.1 hx with hx | hx
  · rcases mem_reach.1 hx with rfl | ⟨j, hj, e⟩
    · exact .inl (List.mem_append_left _ (mem_reach.2 (.inl rfl)))
    · by_cases e4 : j = i
      · subst e4
        rw [upd_self] at e
        rcases hv with e' | e' | e' <;> rw [e'] at e
        · exact .inl (List.mem_append_left _ (mem_reach.2 (.inr ⟨j, hj, e⟩)))
        · cases e; exact .inr (Nat.le_refl _)
        · cases e
      · rw [upd_ne e4] at e
        exact .inl (List.mem_append_left _ (mem_reach.2 (.inr ⟨j, hj, e⟩)))
  · exact .inl (List.mem_append_right _ hx)
/-- a message is open -/
theorem LinkAt.moreOpen (h : LinkAt w bl V A k) (n : Nat) (hn : n < 2) (x : Mk) (y : Value) (hy : Body w (reach bl V ++ A) y x.B) {g : Nat} (hz : Blk w g (mc (x, y)) 71) (hl : (k.en n).op.length < 1024) :
    ∃ v' w', (Builtin.append_ #[48, 48] 48 #[V (2 * n), .slice (some ⟨g, 0, none⟩) 1 1]).run Try.prog w = .ok v' w' ∧ Goes w bl V A (w'.setCell ⟨bl, 1 + 4 * n, none⟩ v') (upd V (2 * n) v') (k.addOpen n x) ∧ w'.cell? ⟨bl, 1 + 4 * n, none⟩ = some (V (2 * n)) ∧ w'.frozen? ⟨bl, 1 + 4 * n, none⟩ = false ∧ w.grownBy w' (V (2 * n)).ownBlock ∧ (∃ a' c', v' = .slice a' ((k.en n).op.length + 1) c') := by
  have hlt := h.head.lt
  obtain ⟨v', w', hr, hrow, hg, hv, hs⟩ := (h.o n hn).append 48 48 (.agg #[.int .u32 0, .int .u32 0, .int .u32 0, .slice none 0 0]) 40 Try.underlying48 info_mk rfl (by decide) x y hy (src_blk hz rfl (mc_one hy.one)) (by omega) (by unfold maxLen; omega) (by omega) (fun g hg => List.mem_append_left _ (mem_reach.2 (.inr ⟨2 * n, by omega, hg⟩)))
  have hhead := h.head.grownO hg (fun x hx => by have := h.row (2 * n) (by omega) hx; omega)
  have hv' : v'.ownBlock = (V (2 * n)).ownBlock ∨ v'.ownBlock = some w.heap.size ∨ v'.ownBlock = none := by rcases hv with e | e; exact .inl e; exact .inr (.inl e)
  refine ⟨v', w', hr, h.turned (2 * n) (by omega) v' (1 + 4 * n) (k.addOpen n x) hg hv' ?_ (fun m hm hne => ?_) (fun m hm _ => ?_) (fun _ => ?_) (fun m hm e => ?_) (fun m hm e => by omega) (fun e => by omega), ?_, hhead.frozen _, hg, hs⟩
  · obtain rfl | rfl : n = 0 ∨ n = 1 := by omega
    · rfl
    · rfl
  · obtain ⟨rfl, rfl⟩ | ⟨rfl, rfl⟩ : (n = 0 ∧ m = 1) ∨ (n = 1 ∧ m = 0) := by omega
    · rfl
    · rfl
  · obtain rfl | rfl : n = 0 ∨ n = 1 := by omega
    · obtain rfl | rfl : m = 0 ∨ m = 1 := by omega
      · rfl
      · rfl
    · obtain rfl | rfl : m = 0 ∨ m = 1 := by omega
      · rfl
      · rfl
  · obtain rfl | rfl : n = 0 ∨ n = 1 := by omega
    · rfl
    · rfl
  · obtain rfl : m = n := by omega
    have e : ((k.addOpen m x).en m).op = (k.en m).op ++ [x] := by
      obtain rfl | rfl : m = 0 ∨ m = 1 := by omega
      · rfl
      · rfl
    rw [e]
    exact hrow _ (reach_upd (by omega) hv')
  · rw [hhead.cell]
    obtain rfl | rfl : n = 0 ∨ n = 1 := by omega
    · rfl
    · rfl
/-- a body has come -/
theorem LinkAt.moreGot (h : LinkAt w bl V A k) (n : Nat) (hn : n < 2) (B : List UInt8) (y : Value) (hy : Body w (reach bl V ++ A) y B) {g : Nat} (hz : Blk w g [y] 23) (hl : ((k.en n).got.length + 1) * 24 ≤ 140737488355328) :
    ∃ v' w', (Builtin.append_ #[22, 22] 22 #[V (2 * n + 1), .slice (some ⟨g, 0, none⟩) 1 1]).run Try.prog w = .ok v' w' ∧ Goes w bl V A (w'.setCell ⟨bl, 4 + 4 * n, none⟩ v') (upd V (2 * n + 1) v') (k.addGot n B) ∧ w'.cell? ⟨bl, 4 + 4 * n, none⟩ = some (V (2 * n + 1)) ∧ w'.frozen? ⟨bl, 4 + 4 * n, none⟩ = false ∧ w.grownBy w' (V (2 * n + 1)).ownBlock ∧ (∃ a' c', v' = .slice a' ((k.en n).got.length + 1) c') := by
  have hlt := h.head.lt
  obtain ⟨v', w', hr, hrow, hg, hv, hs⟩ := (h.g n hn).append 22 22 (.slice none 0 0) 24 Try.underlying22 info_bs rfl (by decide) B y hy (src_blk hz rfl (gc_one hy.one)) hl (by unfold maxLen; omega) (by omega) (fun g hg => List.mem_append_left _ (mem_reach.2 (.inr ⟨2 * n + 1, by omega, hg⟩)))
  have hhead := h.head.grownO hg (fun x hx => by have := h.row (2 * n + 1) (by omega) hx; omega)
  have hv' : v'.ownBlock = (V (2 * n + 1)).ownBlock ∨ v'.ownBlock = some w.heap.size ∨ v'.ownBlock = none := by rcases hv with e | e; exact .inl e; exact .inr (.inl e)
  refine ⟨v', w', hr, h.turned (2 * n + 1) (by omega) v' (4 + 4 * n) (k.addGot n B) hg hv' ?_ (fun m hm _ => ?_) (fun m hm hne => ?_) (fun _ => ?_) (fun m hm e => by omega) (fun m hm e => ?_) (fun e => by omega), ?_, hhead.frozen _, hg, hs⟩
  · obtain rfl | rfl : n = 0 ∨ n = 1 := by omega
    · rfl
    · rfl
  · obtain rfl | rfl : n = 0 ∨ n = 1 := by omega
    · obtain rfl | rfl : m = 0 ∨ m = 1 := by omega
      · rfl
      · rfl
    · obtain rfl | rfl : m = 0 ∨ m = 1 := by omega
      · rfl
      · rfl
  · obtain ⟨rfl, rfl⟩ | ⟨rfl, rfl⟩ : (n = 0 ∧ m = 1) ∨ (n = 1 ∧ m = 0) := by omega
    · rfl
    · rfl
  · obtain rfl | rfl : n = 0 ∨ n = 1 := by omega
    · rfl
    · rfl
  · obtain rfl : m = n := by omega
    have e : ((k.addGot m B).en m).got = (k.en m).got ++ [B] := by
      obtain rfl | rfl : m = 0 ∨ m = 1 := by omega
      · rfl
      · rfl
    rw [e]
    exact hrow _ (reach_upd (by omega) hv')
  · rw [hhead.cell]
    obtain rfl | rfl : n = 0 ∨ n = 1 := by omega
    · rfl
    · rfl
end
end Go.Proofs.Ytfjaoompdleljaa.Link
