/-
  What is acknowledged leaves the open messages. Helper text; no statement is proved here.
-/
import Derived.Test.YtfjaoompdleljaaLinkDg
set_option linter.unusedVariables false
set_option maxRecDepth 20000
set_option linter.unusedSimpArgs false
namespace Go.Proofs.Ytfjaoompdleljaa.Link
open Go.RowKit Go.Proofs.Ytfjaoompdleljaa.Base Go.Proofs.Ytfjaoompdleljaa.Laws Go.Proofs.Ytfjaoompdleljaa.Disk Go.Proofs.Ytfjaoompdleljaa.Row Go.Proofs.Ytfjaoompdleljaa.Flat Go.Proofs.Ytfjaoompdleljaa.InvM
def Lk.ackd (k : Lk) (n K : Nat) : Lk := k.with n { k.en n with op := (k.en n).op.filter (fun m => decide (K < m.s)) }
def Lk.come1 (k : Lk) (n : Nat) : Lk := k.with n { k.en n with come := ((k.en n).come + 1) % 4294967296 }
def Lk.handed (k : Lk) (n : Nat) (m : Mk) : Lk := if m.s = ((k.en n).come + 1) % 4294967296 then (k.come1 n).addGot n m.B else k
def Lk.answer (k : Lk) (n : Nat) : Lk := if k.fl.length < 1024 then k.put n 0 [] else k
def Lk.comes (k : Lk) (p : Pk) : Lk :=
  if p.m.e = k.ep then
    if p.m.B = [] then k.ackd (1 - p.f) p.m.k else ((k.ackd (1 - p.f) p.m.k).handed (1 - p.f) p.m).answer (1 - p.f)
  else k
section
variable {w : World} {bl : Nat} {V : Nat → Value} {A : List Nat} {k : Lk}
theorem LinkAt.acked (h : LinkAt w bl V A k) (n : Nat) (hn : n < 2) {pb : Nat} {p : Pk} {y : Value} (hp : Blk w pb (pc (p, y)) 74) (hpb : pb ∉ reach bl V) :
    Calls Try.prog 36 #[V (2 * n), Cl pb] w fun e w' => ∃ v' : Value, e = .returned v' ∧ Goes w bl V A (w'.setCell ⟨bl, 1 + 4 * n, none⟩ v') (upd V (2 * n) v') (k.ackd n p.m.k) ∧ w'.cell? ⟨bl, 1 + 4 * n, none⟩ = some (V (2 * n)) ∧ w'.frozen? ⟨bl, 1 + 4 * n, none⟩ = false ∧ w.grownBy w' (V (2 * n)).ownBlock := by
  obtain ⟨ps, e, h1, h2⟩ := h.o n hn
  refine (deletefunc_any w (bl + 1) pb p y hp ps (V (2 * n)) h1 (fun q hq => (h2 q hq).one) (fun g hg e => hpb (mem_reach.2 (.inr ⟨2 * n, by omega, by rw [hg, e]⟩)))).mono ?_
  rintro e' w' ⟨v', rfl, ho, hg, hvb⟩
  have hhead := h.head.grownO hg (fun x hx => by have := h.row (2 * n) (by omega) hx; omega)
  have hin : ∀ x, (V (2 * n)).ownBlock = some x → x ∈ reach bl V ++ A := fun x hx => List.mem_append_left _ (mem_reach.2 (.inr ⟨2 * n, by omega, hx⟩))
  have hon : Only (V (2 * n)).ownBlock.toList w w' := ⟨hg.os, hg.tape, hg.output, hg.size, fun k hk hn => hg.block k hk (by intro e; apply hn; rw [← e]; simp)⟩
  have hmap : (ps.filter (kept p.m.k)).map Prod.fst = ((k.en n).op.filter (fun m => decide (p.m.k < m.s))) := by
    rw [← e, List.filter_map]
    rfl
  refine ⟨v', rfl, h.turned (2 * n) (by omega) v' (1 + 4 * n) (k.ackd n p.m.k) hg (.inl hvb) ?_ (fun m hm hne => ?_) (fun m hm _ => ?_) (fun _ => ?_) (fun m hm e => ?_) (fun m hm e => by omega) (fun e => by omega), ?_, hhead.frozen _, hg⟩
  · obtain rfl | rfl : n = 0 ∨ n = 1 := by omega
    · rfl
    · rfl
  · obtain ⟨rfl, rfl⟩ | ⟨rfl, rfl⟩ : (n = 0 ∧ m = 1) ∨ (n = 1 ∧ m = 0) := by omega
    · rfl
    · rfl
  · obtain rfl | rfl : n = 0 ∨ n = 1 := by omega
    · obtain rfl | rfl : m = 0 ∨ m = 1 := by omega
      · rfl
      · rfl
    · obtain rfl | rfl : m = 0 ∨ m = 1 := by omega
      · rfl
      · rfl
  · obtain rfl | rfl : n = 0 ∨ n = 1 := by omega
    · rfl
    · rfl
  · obtain rfl : m = n := by omega
    have e2 : ((k.ackd m p.m.k).en m).op = (k.en m).op.filter (fun x => decide (p.m.k < x.s)) := by
      obtain rfl | rfl : m = 0 ∨ m = 1 := by omega
      · rfl
      · rfl
    rw [e2]
    exact ⟨_, hmap, ho, fun q hq => (h2 q (List.mem_filter.1 hq).1).move hon (fun x hx => hin x (by simpa using hx)) (reach_upd (by omega) (.inl hvb))⟩
  · rw [hhead.cell]
    obtain rfl | rfl : n = 0 ∨ n = 1 := by omega
    · rfl
    · rfl
end
end Go.Proofs.Ytfjaoompdleljaa.Link
