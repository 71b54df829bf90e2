/-
  What unlike things pack to: contracts. Helper text; no statement is proved here.
-/
import Derived.Test.YtmmgejlfcehipaaCodecMsgs
import Derived.Test.YtmmgejlfcehipaaSupIn
import Derived.Test.YtmmgejlfcehipaaRcPack
set_option linter.unusedVariables false
set_option linter.unusedSimpArgs false
namespace Go.Proofs.Ytmmgejlfcehipaa.Codec
open Go.RowKit Go.Proofs.Ytmmgejlfcehipaa.Base Go.Proofs.Ytmmgejlfcehipaa.Laws Go.Proofs.Ytmmgejlfcehipaa.InvM Go.Proofs.Ytmmgejlfcehipaa.Lay Go.Proofs.Ytmmgejlfcehipaa.Inv
/-- what packing answered: just these bytes, or a refusal -/
def Px (w : World) (v : Value) (er : Int) (n : Nat) (B : List UInt8) (G : Prop) : Prop :=
  (er = 0 ∧ G ∧ ∃ a cap, v = .slice a n cap ∧ Bts w a n cap B) ∨ (¬ er = 0 ∧ v = .slice none 0 0)
theorem Px.below {w w' : World} {v : Value} {er : Int} {n : Nat} {B : List UInt8} {G : Prop} (h : Px w v er n B G) (hb : Below w.heap.size w w') : Px w' v er n B G := by
  rcases h with ⟨h1, h2, a, cap, h3, h4⟩ | h
  · exact .inl ⟨h1, h2, a, cap, h3, h4.below hb (Nat.le_refl _)⟩
  · exact .inr h
theorem px_rec {r : Rc} (hv : r.Valid) (w : World) : Calls Try.prog 11 #[.agg r.cells.toArray] w fun e w' => ∃ v er, e = .returned (.tuple #[v, .int .i64 er]) ∧ Px w' v er 37 r.bytes r.Good ∧ Below w.heap.size w w' := by
  by_cases hg : r.Good
  · refine (rc_pack_yes hv hg w.heap.size w (Nat.le_refl _)).mono ?_
    rintro e w' ⟨p, he, ho, hb⟩
    obtain ⟨a, cap, rfl, hbt⟩ := OwnB.bts_own (Rc.bytes_len hv) ho
    exact ⟨_, 0, he, .inl ⟨rfl, hg, a, cap, rfl, hbt⟩, hb⟩
  · exact (rc_pack_no hv hg w).mono fun e w' ⟨he, hb⟩ => ⟨_, 2, he, .inr ⟨by decide, rfl⟩, hb⟩
theorem px_sup {x : Su} (hv : x.Valid) (w : World) : Calls Try.prog 23 #[.agg x.cells.toArray] w fun e w' => ∃ v er, e = .returned (.tuple #[v, .int .i64 er]) ∧ Px w' v er 45 x.bytes x.Good ∧ Below w.heap.size w w' := by
  by_cases hg : x.Good
  · refine (packsuper_yes hg hv.2.2.2.2.1 hv.2.2.2.2.2.1 w).mono ?_
    rintro e w' ⟨p, he, ho, hb⟩
    obtain ⟨a, cap, rfl, hbt⟩ := OwnB.bts_own (Su.bytes_len x) ho
    exact ⟨_, 0, he, .inl ⟨rfl, hg, a, cap, rfl, hbt⟩, hb⟩
  · by_cases hso : Sound x.d x.c x.s
    · exact (packsuper_arg hso (fun h => hg ⟨hso, h⟩) w).mono fun e w' ⟨he, hb⟩ => ⟨_, 2, he, .inr ⟨by decide, rfl⟩, hb⟩
    · exact (packsuper_form hso w).mono fun e w' ⟨he, hb⟩ => ⟨_, 1, he, .inr ⟨by decide, rfl⟩, hb⟩
theorem px_msg {e s a : Nat} (he : e < 4294967296) (hs : s < 4294967296) (ha : a < 4294967296) {b : Option Addr} {n cb : Nat} {l : List UInt8} (w : World) (h : Bts w b n cb l) : Calls Try.prog 19 #[.agg #[.int .u32 (e : Int), .int .u32 (s : Int), .int .u32 (a : Int), .slice b n cb]] w fun x w' => ∃ v er, x = .returned (.tuple #[v, .int .i64 er]) ∧ Px w' v er (17 + n) (msgAll e s a l) True ∧ Below w.heap.size w w' := by
  by_cases hn : n ≤ 64
  · refine (packmsg_yes e s a he hs ha b n cb l w h hn).mono ?_
    rintro x w' ⟨p, hx, ho, hb⟩
    obtain ⟨pa, cap, rfl, hbt⟩ := OwnB.bts_own (by rw [msgAll_len, h.1]) ho
    exact ⟨_, 0, hx, .inl ⟨rfl, trivial, pa, cap, rfl, hbt⟩, hb⟩
  · exact (packmsg_no e s a b n cb (by omega) w).mono fun x w' ⟨hx, hb⟩ => ⟨_, 2, hx, .inr ⟨by decide, rfl⟩, hb⟩
theorem rec_bytes_iff {r q : Rc} (hr : r.Valid) (hq : q.Valid) (gr : r.Good) (gq : q.Good) : decide (r.bytes = q.bytes) = decide (r = q) := by
  by_cases e : r = q
  · rw [decide_eq_true e, decide_eq_true (by rw [e])]
  · refine (decide_eq_false fun h => e ?_).trans (decide_eq_false e).symm
    have h1 := (Rc.back hr gr []).2.1
    have h2 := (Rc.back hq gq []).2.1
    rw [h] at h1
    rw [← h1, h2]
theorem sup_bytes_iff {x y : Su} (hx : x.Valid) (hy : y.Valid) (gx : x.Good) (gy : y.Good) : decide (x.bytes = y.bytes) = decide (x = y) := by
  by_cases e : x = y
  · rw [decide_eq_true e, decide_eq_true (by rw [e])]
  · refine (decide_eq_false fun h => e ?_).trans (decide_eq_false e).symm
    have h1 := (sup_back gx hx.2.2.2.2.1 hx.2.2.2.2.2.1).1
    have h2 := (sup_back gy hy.2.2.2.2.1 hy.2.2.2.2.2.1).1
    rw [h] at h1
    rw [← h1, h2]
theorem msg_bytes_iff {e s a e' s' a' : Nat} {l l' : List UInt8} (he : e < 4294967296) (hs : s < 4294967296) (ha : a < 4294967296) (he' : e' < 4294967296) (hs' : s' < 4294967296) (ha' : a' < 4294967296) : decide (msgAll e s a l = msgAll e' s' a' l') = decide (e = e' ∧ s = s' ∧ a = a' ∧ l = l') := by
  by_cases q : e = e' ∧ s = s' ∧ a = a' ∧ l = l'
  · obtain ⟨rfl, rfl, rfl, rfl⟩ := q
    simp
  · refine (decide_eq_false fun h => q ?_).trans (decide_eq_false q).symm
    obtain ⟨p1, p2, p3, p4⟩ := msg_parts (l := l) he hs ha
    obtain ⟨q1, q2, q3, q4⟩ := msg_parts (l := l') he' hs' ha'
    rw [h] at p1 p2 p3 p4
    exact ⟨p1.symm.trans q1, p2.symm.trans q2, p3.symm.trans q3, p4.symm.trans q4⟩
/-- a record's bytes are no superblock -/
theorem px_rec_sup {w : World} {v : Value} {er : Int} {r : Rc} (hr : r.Valid) (h : Px w v er 37 r.bytes r.Good) : Calls Try.prog 25 #[v] w fun e w' => e = .returned (.tuple #[.agg zsup.toArray, .int .i64 1]) ∧ Below w.heap.size w w' := by
  rcases h with ⟨_, _, a, cap, rfl, hb⟩ | ⟨_, rfl⟩
  · have := unpacksuper_any a 37 cap r.bytes w hb
    rwa [(sOut_short (by rw [Rc.bytes_len hr]; decide)).1, (sOut_short (by rw [Rc.bytes_len hr]; decide)).2] at this
  · have := unpacksuper_any none 0 0 [] w (bts_none w)
    rwa [(sOut_short (by decide)).1, (sOut_short (by decide)).2] at this
theorem sup_no_rec (x : Su) : ¬ IsRec x.bytes := fun h => by
  have h1 := h.2.1.1.2
  have e : kindOf x.bytes = 82 := by
    unfold kindOf Su.bytes Su.b41 rave
    rfl
  rw [e] at h1
  omega
theorem px_sup_rec {w : World} {v : Value} {er : Int} {x : Su} (h : Px w v er 45 x.bytes x.Good) : ∃ k : Int, (er = 0 → k = 7) ∧ Calls Try.prog 15 #[v] w fun e w' => e = .returned (.tuple #[.agg zrec.toArray, .int .i64 k]) ∧ Below w.heap.size w w' := by
  rcases h with ⟨_, _, a, cap, rfl, hb⟩ | ⟨h0, rfl⟩
  · refine ⟨7, fun _ => rfl, ?_⟩
    have := unpack_any a 45 cap x.bytes w hb
    rwa [(out_no (by rw [Su.bytes_len]; decide) (sup_no_rec x)).1, (out_no (by rw [Su.bytes_len]; decide) (sup_no_rec x)).2] at this
  · refine ⟨1, fun e => absurd e h0, ?_⟩
    have := unpack_any none 0 0 [] w (bts_none w)
    rwa [(out_short (by decide)).1, (out_short (by decide)).2] at this
end Go.Proofs.Ytmmgejlfcehipaa.Codec
