/-
  What PackSuper lays down, UnpackSuper reads; '==' on superblocks; superblocks that came in. Helper text; no statement is proved here.
-/
import Derived.Test.YtmmgejlfcehipaaUnpackSuper
import Derived.Test.YtmmgejlfcehipaaRecIn
set_option linter.unusedVariables false
set_option linter.unusedSimpArgs false
namespace Go.Proofs.Ytmmgejlfcehipaa.Codec
open Go.RowKit Go.Proofs.Ytmmgejlfcehipaa.Base Go.Proofs.Ytmmgejlfcehipaa.Laws Go.Proofs.Ytmmgejlfcehipaa.Lay
def Su.Valid (x : Su) : Prop := I64 x.d ∧ I64 x.c ∧ I64 x.s ∧ I64 x.k ∧ x.arr < 4294967296 ∧ x.seq < 18446744073709551616 ∧ I64 x.m
theorem sup_back {x : Su} (h : x.Good) (ha : x.arr < 4294967296) (hs : x.seq < 18446744073709551616) : supOf x.bytes = x ∧ IsSup x.bytes := by
  have key : supOf x.bytes = x := by
    obtain ⟨d, c, s, k, arr, seq, m⟩ := x
    obtain ⟨⟨⟨d1, d2⟩, ⟨c1, c2⟩, ⟨s1, s2⟩⟩, ⟨k1, k2⟩, ⟨m1, m2⟩⟩ := h
    simp only at *
    have hm : c * s ≤ 8 * 64 := Int.mul_le_mul (by omega) (by omega) (by omega) (by omega)
    have p2 : (2 : Nat) ^ (8 * 2) = 65536 := by decide
    have p4 : (2 : Nat) ^ (8 * 4) = 4294967296 := by decide
    have p8 : (2 : Nat) ^ (8 * 8) = 18446744073709551616 := by decide
    obtain ⟨tl, htl⟩ : ∃ tl, tl = be 4 (Crc.crc (Su.b41 ⟨d, c, s, k, arr, seq, m⟩)) := ⟨_, rfl⟩
    have e : Su.bytes ⟨d, c, s, k, arr, seq, m⟩ = rave ++ (be 2 d.toNat ++ (be 2 c.toNat ++ (be 2 s.toNat ++ (be 2 k.toNat ++ (be 4 arr ++ (be 8 seq ++ (be 8 m.toNat ++ (OwnB.zs 9 ++ tl)))))))) := by
      unfold Su.bytes
      rw [← htl]
      unfold Su.b41
      simp only [List.append_assoc]
    rw [e]
    unfold supOf
    have hr : rave.length = 4 := rfl
    have e4 : (List.drop 4 (rave ++ (be 2 d.toNat ++ (be 2 c.toNat ++ (be 2 s.toNat ++ (be 2 k.toNat ++ (be 4 arr ++ (be 8 seq ++ (be 8 m.toNat ++ (OwnB.zs 9 ++ tl)))))))))).take 2 = be 2 d.toNat := drop_take_mid (i := 4) _ _ _ rfl (be_len _ _)
    have e6 : (List.drop 6 (rave ++ (be 2 d.toNat ++ (be 2 c.toNat ++ (be 2 s.toNat ++ (be 2 k.toNat ++ (be 4 arr ++ (be 8 seq ++ (be 8 m.toNat ++ (OwnB.zs 9 ++ tl)))))))))).take 2 = be 2 c.toNat := by
      have := drop_take_mid (i := 6) (n := 2) (rave ++ be 2 d.toNat) (be 2 c.toNat) (be 2 s.toNat ++ (be 2 k.toNat ++ (be 4 arr ++ (be 8 seq ++ (be 8 m.toNat ++ (OwnB.zs 9 ++ tl)))))) (by simp [be_len, rave]) (be_len _ _)
      simpa only [List.append_assoc] using this
    have e8 : (List.drop 8 (rave ++ (be 2 d.toNat ++ (be 2 c.toNat ++ (be 2 s.toNat ++ (be 2 k.toNat ++ (be 4 arr ++ (be 8 seq ++ (be 8 m.toNat ++ (OwnB.zs 9 ++ tl)))))))))).take 2 = be 2 s.toNat := by
      have := drop_take_mid (i := 8) (n := 2) (rave ++ be 2 d.toNat ++ be 2 c.toNat) (be 2 s.toNat) (be 2 k.toNat ++ (be 4 arr ++ (be 8 seq ++ (be 8 m.toNat ++ (OwnB.zs 9 ++ tl))))) (by simp [be_len, rave]) (be_len _ _)
      simpa only [List.append_assoc] using this
    have e10 : (List.drop 10 (rave ++ (be 2 d.toNat ++ (be 2 c.toNat ++ (be 2 s.toNat ++ (be 2 k.toNat ++ (be 4 arr ++ (be 8 seq ++ (be 8 m.toNat ++ (OwnB.zs 9 ++ tl)))))))))).take 2 = be 2 k.toNat := by
      have := drop_take_mid (i := 10) (n := 2) (rave ++ be 2 d.toNat ++ be 2 c.toNat ++ be 2 s.toNat) (be 2 k.toNat) (be 4 arr ++ (be 8 seq ++ (be 8 m.toNat ++ (OwnB.zs 9 ++ tl)))) (by simp [be_len, rave]) (be_len _ _)
      simpa only [List.append_assoc] using this
    have e12 : (List.drop 12 (rave ++ (be 2 d.toNat ++ (be 2 c.toNat ++ (be 2 s.toNat ++ (be 2 k.toNat ++ (be 4 arr ++ (be 8 seq ++ (be 8 m.toNat ++ (OwnB.zs 9 ++ tl)))))))))).take 4 = be 4 arr := by
      have := drop_take_mid (i := 12) (n := 4) (rave ++ be 2 d.toNat ++ be 2 c.toNat ++ be 2 s.toNat ++ be 2 k.toNat) (be 4 arr) (be 8 seq ++ (be 8 m.toNat ++ (OwnB.zs 9 ++ tl))) (by simp [be_len, rave]) (be_len _ _)
      simpa only [List.append_assoc] using this
    have e16 : (List.drop 16 (rave ++ (be 2 d.toNat ++ (be 2 c.toNat ++ (be 2 s.toNat ++ (be 2 k.toNat ++ (be 4 arr ++ (be 8 seq ++ (be 8 m.toNat ++ (OwnB.zs 9 ++ tl)))))))))).take 8 = be 8 seq := by
      have := drop_take_mid (i := 16) (n := 8) (rave ++ be 2 d.toNat ++ be 2 c.toNat ++ be 2 s.toNat ++ be 2 k.toNat ++ be 4 arr) (be 8 seq) (be 8 m.toNat ++ (OwnB.zs 9 ++ tl)) (by simp [be_len, rave]) (be_len _ _)
      simpa only [List.append_assoc] using this
    have e24 : (List.drop 24 (rave ++ (be 2 d.toNat ++ (be 2 c.toNat ++ (be 2 s.toNat ++ (be 2 k.toNat ++ (be 4 arr ++ (be 8 seq ++ (be 8 m.toNat ++ (OwnB.zs 9 ++ tl)))))))))).take 8 = be 8 m.toNat := by
      have := drop_take_mid (i := 24) (n := 8) (rave ++ be 2 d.toNat ++ be 2 c.toNat ++ be 2 s.toNat ++ be 2 k.toNat ++ be 4 arr ++ be 8 seq) (be 8 m.toNat) (OwnB.zs 9 ++ tl) (by simp [be_len, rave]) (be_len _ _)
      simpa only [List.append_assoc] using this
    rw [e4, e6, e8, e10, e12, e16, e24, val_be 2 _ (by omega), val_be 2 _ (by omega), val_be 2 _ (by omega), val_be 2 _ (by omega), val_be 4 _ (by omega), val_be 8 _ (by omega), val_be 8 _ (by omega)]
    have hw : IntKind.i64.wrap ((m.toNat : Nat) : Int) = m := by rw [IntKind.wrap_i64]; omega
    rw [hw]
    congr 1 <;> omega
  refine ⟨key, ?_⟩
  have hb := Su.bytes_len x
  unfold IsSup
  rw [key]
  exact ⟨hb, h, rfl⟩
theorem sup_out {x : Su} (h : x.Good) (ha : x.arr < 4294967296) (hs : x.seq < 18446744073709551616) : sOut x.bytes = x ∧ sErr x.bytes = 0 := by
  obtain ⟨h1, h2⟩ := sup_back h ha hs
  obtain ⟨o1, o2⟩ := sOut_yes h2
  rw [h1] at o1
  exact ⟨o1, o2⟩
def Su.p (x : Su) : List (IntKind × Int) := [(.i64, x.d), (.i64, x.c), (.i64, x.s), (.i64, x.k), (.u32, (x.arr : Int)), (.u64, (x.seq : Int)), (.i64, x.m)]
theorem Su.p_val (x : Su) : x.p.map Eq.val = x.cells := rfl
theorem Su.p_inj {x y : Su} (h : x.p = y.p) : x = y := by
  obtain ⟨d, c, s, k, arr, seq, m⟩ := x
  obtain ⟨d', c', s', k', arr', seq', m'⟩ := y
  simp only [Su.p, List.cons.injEq, Prod.mk.injEq, true_and, and_true] at h
  obtain ⟨h1, h2, h3, h4, h5, h6, h7⟩ := h
  have : arr = arr' := by omega
  have : seq = seq' := by omega
  simp_all
theorem Su.wf {x : Su} (h : x.Valid) : ∀ p ∈ x.p, (Eq.lit p).wf = true := by
  intro p hp
  obtain ⟨h1, h2, h3, h4, h5, h6, h7⟩ := h
  unfold I64 at *
  simp only [Su.p, List.mem_cons, List.not_mem_nil, or_false] at hp
  rcases hp with rfl | rfl | rfl | rfl | rfl | rfl | rfl <;> simp only [Eq.lit, Lit.wf, IntKind.min, IntKind.max, IntKind.signed, IntKind.bits, Bool.and_eq_true, decide_eq_true_eq] <;> simp <;> omega
theorem Su.eq {x y : Su} (h : x.Valid) (g : y.Valid) (w : World) : (Op.equalIn 10000 52 (.agg x.cells.toArray) (.agg y.cells.toArray)).run Try.prog w = .ok (decide (x = y)) w := by
  have := Eq.run_eq_flat (P := Try.prog) (t := 52) (ks := [.i64, .i64, .i64, .i64, .u32, .u64, .i64]) (l := x.p) (m := y.p) 6 (by kernel_rfl) (by kernel_rfl) (by kernel_rfl) rfl rfl (Su.wf h) (Su.wf g) w
  rw [Su.p_val, Su.p_val] at this
  have hd : decide (x.p = y.p) = decide (x = y) := by
    by_cases e : x = y
    · rw [decide_eq_true e, decide_eq_true (by rw [e])]
    · rw [decide_eq_false e, decide_eq_false (fun e2 => e (Su.p_inj e2))]
  rw [this, hd]
section
variable {H : Type} {enc : TypeId × Value → H} {P : Program} {base : Nat} {spare : Nat → Bool} {held : Bool} {W : World}
theorem sup_in {c : List Value} (hl : c.length = 7) (h : Opens.Fits enc P W base spare held [.int .i64, .int .i64, .int .i64, .int .i64, .int .u32, .int .u64, .int .i64] c) : ∃ x : Su, x.Valid ∧ c = x.cells := by
  obtain ⟨d, c1, rfl, hd, h1⟩ := h.int
  obtain ⟨c', c2, rfl, hc, h2⟩ := h1.int
  obtain ⟨s, c3, rfl, hs, h3⟩ := h2.int
  obtain ⟨k, c4, rfl, hk, h4⟩ := h3.int
  obtain ⟨arr, c5, rfl, ha, h5⟩ := h4.int
  obtain ⟨seq, c6, rfl, hq, h6⟩ := h5.int
  obtain ⟨m, c7, rfl, hm, h7⟩ := h6.int
  obtain rfl : c7 = [] := List.eq_nil_of_length_eq_zero (by simpa using hl)
  obtain ⟨a', ha', rfl⟩ := Opens.wf_u32 ha
  obtain ⟨q', hq', rfl⟩ := Opens.wf_u64 hq
  exact ⟨⟨d, c', s, k, a', q', m⟩, ⟨Opens.wf_i64 hd, Opens.wf_i64 hc, Opens.wf_i64 hs, Opens.wf_i64 hk, ha', hq', Opens.wf_i64 hm⟩, rfl⟩
end
end Go.Proofs.Ytmmgejlfcehipaa.Codec
