/-
  The walk of the statement that all arrives. Helper text; no statement is proved here.
-/
import Derived.Test.YtfjaoompdleljaaLv2
set_option linter.unusedVariables false
set_option maxRecDepth 20000
set_option linter.unusedSimpArgs false
namespace Go.Proofs.Ytfjaoompdleljaa.Link
open Go.RowKit Go.Proofs.Ytfjaoompdleljaa.Base Go.Proofs.Ytfjaoompdleljaa.Laws Go.Proofs.Ytfjaoompdleljaa.Disk Go.Proofs.Ytfjaoompdleljaa.Row Go.Proofs.Ytfjaoompdleljaa.Flat Go.Proofs.Ytfjaoompdleljaa.InvM
theorem op1_nil {k : Lk} {S : Nat → List (List UInt8)} (h : Ok k S) (h1 : S 1 = []) : (k.en 1).op = [] := by
  obtain ⟨a, _, e⟩ := h.op 1 (by decide)
  rw [e, h1, List.drop_nil]
  rfl
theorem Ok.opLe {k : Lk} {S : Nat → List (List UInt8)} (h : Ok k S) (n : Nat) (hn : n < 2) : (k.en n).op.length ≤ (S n).length := by
  obtain ⟨a, _, e⟩ := h.op n hn
  rw [e, opens_len, List.length_drop]
  omega
theorem Ok.gotLe {k : Lk} {S : Nat → List (List UInt8)} (h : Ok k S) (n : Nat) (hn : n < 2) : (k.en n).got.length ≤ (S (1 - n)).length := by
  have := h.got (1 - n) (by omega)
  rw [show 1 - (1 - n) = n by omega] at this
  rw [this, List.length_take]
  omega
theorem dels_len {k : Lk} {i : Nat} (hi : i < k.fl.length) : (k.dels i).fl.length ≤ k.fl.length := by
  have hl : (k.less i).fl.length = k.fl.length - 1 := by
    show (k.fl.take i ++ k.fl.drop (i + 1)).length = _
    rw [List.length_append, List.length_take, List.length_drop]
    omega
  unfold Lk.dels
  cases hp : k.fl[i]? with
  | none => exact Nat.le_refl _
  | some p =>
    show ((k.less i).comes p).fl.length ≤ _
    unfold Lk.comes
    split
    · split
      · rw [ackd_fl]; omega
      · unfold Lk.answer
        split
        · show ((((k.less i).ackd (1 - p.f) p.m.k).handed (1 - p.f) p.m).fl ++ [_]).length ≤ _
          rw [(handed_keep _ _ _).1, ackd_fl, List.length_append]
          simp; omega
        · rw [(handed_keep _ _ _).1, ackd_fl]; omega
    · omega
theorem less_len {k : Lk} {i : Nat} (hi : i < k.fl.length) : (k.less i).fl.length = k.fl.length - 1 := by
  show (k.fl.take i ++ k.fl.drop (i + 1)).length = _
  rw [List.length_append, List.length_take, List.length_drop]
  omega
/-- up to t steps have been done; only end 0 sends -/
def Arr (k : Lk) (S : Nat → List (List UInt8)) (t : Nat) : Prop := Ok k S ∧ S 1 = [] ∧ (S 0).length ≤ t ∧ k.fl.length ≤ t
theorem arr_send {k : Lk} {S : Nat → List (List UInt8)} {t : Nat} (h : Arr k S t) (ht : t ≤ 200) (B : List UInt8) : ∃ S', Arr (k.sends 0 B) S' (t + 1) ∧ (S' 0).length = (S 0).length + if k.sendE 0 B.length = 0 then 1 else 0 := by
  obtain ⟨h1, h2, h3, h4⟩ := h
  by_cases hE : k.sendE 0 B.length = 0
  · unfold Lk.sends
    rw [if_pos hE, if_pos hE]
    have hB : B ≠ [] := fun e => by
      subst e
      unfold Lk.sendE at hE
      rw [if_pos (by simp)] at hE
      omega
    have hr : k.fl.length < 1024 ∧ (k.en 0).op.length < 256 := ⟨by omega, by have := h1.opLe 0 (by decide); omega⟩
    refine ⟨put2 S 0 B, ⟨h1.send 0 B (by decide) hB hr.1 hr.2 (by omega), ?_, ?_, ?_⟩, ?_⟩
    · show (if (1 : Nat) = 0 then _ else S 1) = []; rw [if_neg (by decide), h2]
    · show (if (0 : Nat) = 0 then S 0 ++ [B] else _).length ≤ _; rw [if_pos rfl, List.length_append]; simp; omega
    · show (((k.bump 0).addOpen 0 _).fl ++ [_]).length ≤ _; rw [sent_fl, List.length_append]; simp; omega
    · show (if (0 : Nat) = 0 then S 0 ++ [B] else _).length = _; rw [if_pos rfl, List.length_append]; rfl
  · unfold Lk.sends
    rw [if_neg hE, if_neg hE]
    exact ⟨S, ⟨h1, h2, by omega, by omega⟩, rfl⟩
theorem Arr.got {k : Lk} {S : Nat → List (List UInt8)} {t : Nat} (h : Arr k S t) (ht : t ≤ 200) (n : Nat) (hn : n < 2) : ((k.en n).got.length + 1) * 24 ≤ 140737488355328 := by
  obtain ⟨h1, h2, h3, h4⟩ := h
  have := h1.gotLe n hn
  have e : (S (1 - n)).length ≤ 200 := by
    rcases two hn with rfl | rfl
    · rw [show 1 - 0 = 1 from rfl, h2]; simp
    · show (S 0).length ≤ 200; omega
  omega
theorem Arr.f2 {k : Lk} {S : Nat → List (List UInt8)} {t : Nat} (h : Arr k S t) : ∀ p ∈ k.fl, p.f < 2 := fun p hp => (h.1.fl p hp).1
theorem Arr.mono {k : Lk} {S : Nat → List (List UInt8)} {t u : Nat} (h : Arr k S t) (ht : t ≤ u) : Arr k S u := ⟨h.1, h.2.1, Nat.le_trans h.2.2.1 ht, Nat.le_trans h.2.2.2 ht⟩
set_option maxHeartbeats 8000000 in
theorem arrives_walk (a : Option Addr) (n cap : Nat) (os : List So) (w : World) (h : Scr w a n cap os) (b : Option Addr) (m c : Nat) (ps : List (List UInt8)) (hB : Pcs w b m c ps) :
    Calls Try.prog 5 #[.slice a n cap, .slice b m c] w fun e w' => e = .returned (.bool true) ∧ Below w.heap.size w w' := by
  obtain ⟨h1, h2, h3, h4, h5, h6⟩ := h
  obtain ⟨g1, g2, g3, g4, g5⟩ := hB
  unfold maxLen at h3 g3
  have HSC := Lib.hid h6
  have HN := Lib.hid h1
  have HR := Lib.hid h5
  have GPC := Lib.hid g5
  have GN := Lib.hid g1
  clear h6 h1 h5 g5 g1
  go_enter Try.func5, Try.ntmps5
  go_wp2_with (first | (go_at_call 9; refine (awake_any w).mono ?_; rintro e w1 ⟨rfl, hb1⟩; have NW := Lib.hid (lv_new hb1); clear hb1) | (go_at_call 10; refine NW.out.mono ?_; rintro e w2 ⟨rfl, hl⟩; have L2 := Lib.hid hl; clear hl NW))
  obtain ⟨bl, hbl⟩ : ∃ bl, bl = w1.heap.size := ⟨_, rfl⟩
  rw [← hbl] at L2 ⊢
  clear hbl
  go_loopw [7, 6] (fun i sn wr => ∃ kk sent : Nat, ∃ k : Lk, ∃ S, kk ≤ n ∧ kk ≤ 100 ∧ i = .int .i64 kk ∧ sn = .int .i64 sent ∧ sent = (S 0).length ∧ Arr k S kk ∧ Lv w bl [] k wr) (fun i _ _ => n - (intOf i).toNat)
  case atStart => exact ⟨0, 0, k0, fun _ => [], by omega, by omega, rfl, rfl, rfl, ⟨ok_k0, rfl, Nat.le_refl _, Nat.le_refl _⟩, L2.out⟩
  case round =>
    obtain ⟨kk, sent, k, S, hk, hk100, rfl, rfl, hsent, har, hl⟩ := hrel
    have AR := Lib.hid har
    have HL := Lib.hid hl
    have HS := Lib.hid hsent
    have hs200 : sent ≤ 100 := by have := har.2.2.1; omega
    clear har hl hsent
    by_cases hkn : kk < n ∧ kk < 100
    · obtain ⟨hkn, hk1⟩ := hkn
      obtain ⟨o, ho⟩ : ∃ o, os[kk]? = some o := ⟨_, List.getElem?_eq_getElem (by have := HN.out; omega)⟩
      obtain ⟨g, off, rfl, hc⟩ := HSC.out.resolve_left (by omega)
      obtain ⟨a', l', c', hcell, hbt, hl'⟩ := hc kk o ho
      have hrg := HR.out o (List.mem_of_getElem? ho)
      have hlv := HL.out
      obtain ⟨V, hA, hBel, hbl⟩ := HL.out
      have hg : g < w.heap.size := block_lt_of_cell (hcell 0 _ rfl)
      obtain ⟨ov, hov⟩ : ∃ ov, ov = oc (o, .slice a' l' c') := ⟨_, rfl⟩
      have HOV := Lib.hid hov
      have LD := Lib.hid (show ∀ j v, ov[j]? = some v → wr.cell? ((⟨g, off + kk * 3, none⟩ : Addr).add j) = some v from fun j v hj => by
        rw [Addr.add_lit]
        exact (Below.cell hBel (p := ⟨g, off + kk * 3 + j, none⟩) hg).trans (hcell j v (by rw [← hov]; exact hj)))
      have O3 := Lib.hid (show ov.length = 3 by rw [hov]; rfl)
      have O1 := Lib.hid (show ∀ u ∈ ov, u.oneCell' = true by
        rw [hov]; intro u hu
        simp only [oc, List.mem_cons, List.not_mem_nil, or_false] at hu
        rcases hu with rfl | rfl | rfl <;> rfl)
      have Z2 := Lib.hid (blk_at (w := wr) (g := wr.heap.size) (cs := [.int .i64 0, .int .i64 0, .slice none 0 0]) (t := 44) (arr := #[.int .i64 0, .int .i64 0, .slice none 0 0]) rfl rfl)
      have HBT := Lib.hid hbt
      clear ho hc hcell hA hBel hbl hg hov hlv hbt
      go_upto_region 9 with (first | (refine wpList_value_g rfl (.agg ov.toArray) (exec_load_from rfl rfl LD.out Try.underlying44 rfl (by kernel_rfl) O3.out) ?_) | (refine wpList_store_blk rfl 44 _ _ rfl wr.heap.size 0 3 rfl 44 [.int .i64 0, .int .i64 0, .slice none 0 0] ov rfl Z2.out (by kernel_rfl) O3.out (by decide) O1.out ?_; intro w3 z3 g3; have Z3 := Lib.hid z3; have G3 := Lib.hid g3; clear z3 g3))
      have B3 := Lib.hid (below_grown ((Below.refl wr.heap.size wr).alloc (Nat.le_refl _) _) G3.out (by simp) (Nat.le_refl _))
      obtain ⟨pb, hpb⟩ : ∃ pb, pb = wr.heap.size := ⟨_, rfl⟩
      have P6 := Lib.hid (show Blk w3 pb (oc (o, .slice a' l' c')) 44 from by have := Z3.out; rw [put_all _ _ (by rw [O3.out]; rfl), ← hpb, HOV.out] at this; exact this)
      have L3 := Lib.hid (HL.out.goesB B3.out)
      rw [← hpb]
      clear Z3 Z2 LD G3 hpb
      simp only [Act.put]
      have FL := Lib.hid (lv_flightB L3.out (by have := AR.out.2.2.2; omega))
      obtain ⟨fn, hfn⟩ : ∃ fn, fn = k.fl.length := ⟨_, rfl⟩
      rw [← hfn] at FL
      have HFN := Lib.hid hfn
      have hf100 : fn ≤ 100 := by rw [hfn]; have := AR.out.2.2.2; omega
      clear hfn
      go_upto_region 10 with (go_at_call 12; refine FL.out.mono ?_; rintro e w4 ⟨fa, fc, rfl, hl4, hb4⟩; have L4 := Lib.hid hl4; have P64 := Lib.hid (P6.out.below hb4 P6.out.lt); clear hl4 hb4 FL)
      have q0 : w4.cell? ⟨pb, 0, none⟩ = some (.int .i64 o.k) := P64.out.cell 0
      have q1 : w4.cell? ⟨pb, 1, none⟩ = some (.int .i64 o.n) := P64.out.cell 1
      have q2 : w4.cell? ⟨pb, 2, none⟩ = some (.slice a' l' c') := P64.out.cell 2
      clear P6 P64
      by_cases k1 : o.k = 1
      · obtain ⟨S', hS', hlen⟩ := arr_send AR.out (by omega) o.B
        have SD := Lib.hid (lv_send L4.out 0 a' l' c' o.B (HBT.out.below L4.out.below (Nat.le_refl _)) (fun hl g o e => by subst e; exact bts_block HBT.out hl))
        have hBl : o.B.length = l' := HBT.out.1
        rw [hBl] at hlen
        have AS := Lib.hid hS'
        obtain ⟨E, hE⟩ : ∃ E, E = k.sendE 0 l' := ⟨_, rfl⟩
        rw [← hE] at SD hlen
        rw [k1] at q0
        have HLN := Lib.hid hlen
        clear hS' hBl hlen hE
        by_cases hE0 : E = 0
        · subst hE0
          go_wp2_with (go_at_call 11; refine SD.out.mono ?_; rintro e w5 ⟨rfl, hl5⟩; have L5 := Lib.hid hl5; clear hl5 SD)
          refine ⟨⟨kk + 1, sent + 1, k.sends 0 o.B, S', by omega, by omega, by go_num, by go_num, by rw [HLN.out, HS.out]; rfl, AS.out, L5.out⟩, ?_⟩
          simp [intOf]; omega
        · go_wp2_with (go_at_call 11; refine SD.out.mono ?_; rintro e w5 ⟨rfl, hl5⟩; have L5 := Lib.hid hl5; clear hl5 SD)
          refine ⟨⟨kk + 1, sent, k.sends 0 o.B, S', by omega, by omega, by go_num, by go_num, by rw [HLN.out, HS.out, if_neg hE0]; rfl, AS.out, L5.out⟩, ?_⟩
          simp [intOf]; omega
      by_cases k3 : o.k = 3
      · have DR := Lib.hid (lv_drop L4.out o.n)
        rw [k3] at q0
        clear k1
        have AD : Arr (if k.inR o.n then k.less o.n.toNat else k) S (kk + 1) := by
          split
          · rename_i hi
            refine ⟨AR.out.1.less _, AR.out.2.1, by have := AR.out.2.2.1; omega, ?_⟩
            rw [less_len (by have := hi.1; have := hi.2; omega)]
            have := AR.out.2.2.2; omega
          · exact AR.out.mono (by omega)
        have AD := Lib.hid AD
        go_wp2_with (go_at_call 20; refine DR.out.mono ?_; rintro e w5 ⟨rfl, hl5⟩; have L5 := Lib.hid hl5; clear hl5 DR)
        refine ⟨⟨kk + 1, sent, _, S, by omega, by omega, by go_num, rfl, HS.out, AD.out, L5.out⟩, ?_⟩
        simp [intOf]; omega
      by_cases k27 : o.k = 2 ∨ o.k = 7
      · by_cases hf0 : 0 < fn
        · have hin := restI_in (n := o.n) (b := (fn : Int)) (by omega)
          obtain ⟨r, hr⟩ := Int.eq_ofNat_of_zero_le hin.1
          have hrl : r < k.fl.length := by have := HFN.out; omega
          have RS := Lib.hid (rest_any o.n (fn : Int) hrg.2.1 hrg.2.2 (by omega) (by omega) w4)
          rw [hr] at RS
          have DV := Lib.hid (lv_deliver L4.out r hrl AR.out.f2 (AR.out.got (by omega)))
          have AD := Lib.hid (show Arr (k.dels r) S (kk + 1) from ⟨AR.out.1.dels r, AR.out.2.1, by have := AR.out.2.2.1; omega, by have := dels_len hrl; have := AR.out.2.2.2; omega⟩)
          clear hin hr hrl hrg
          rcases k27 with k2 | k7
          · rw [k2] at q0
            clear k1 k3
            go_wp2_with (first | (go_at_call 21; refine RS.out.mono ?_; intro e w' hh; have he := hh.1; have hw := hh.2; subst he; subst w'; clear hh) | (go_at_call 15; refine DV.out.mono ?_; rintro e w5 ⟨rfl, hl5⟩; have L5 := Lib.hid hl5; clear hl5 DV))
            refine ⟨⟨kk + 1, sent, _, S, by omega, by omega, by go_num, rfl, HS.out, AD.out, L5.out⟩, ?_⟩
            simp [intOf]; omega
          · rw [k7] at q0
            clear k1 k3
            go_wp2_with (first | (go_at_call 21; refine RS.out.mono ?_; intro e w' hh; have he := hh.1; have hw := hh.2; subst he; subst w'; clear hh) | (go_at_call 15; refine DV.out.mono ?_; rintro e w5 ⟨rfl, hl5⟩; have L5 := Lib.hid hl5; clear hl5 DV))
            refine ⟨⟨kk + 1, sent, _, S, by omega, by omega, by go_num, rfl, HS.out, AD.out, L5.out⟩, ?_⟩
            simp [intOf]; omega
        · have hf0' : fn = 0 := by omega
          subst hf0'
          rcases k27 with k2 | k7
          · rw [k2] at q0
            clear k1 k3
            go_wp2_with fail
            refine ⟨⟨kk + 1, sent, k, S, by omega, by omega, by go_num, rfl, HS.out, AR.out.mono (by omega), L4.out⟩, ?_⟩
            simp [intOf]; omega
          · rw [k7] at q0
            clear k1 k3
            go_wp2_with fail
            refine ⟨⟨kk + 1, sent, k, S, by omega, by omega, by go_num, rfl, HS.out, AR.out.mono (by omega), L4.out⟩, ?_⟩
            simp [intOf]; omega
      · have k2 : ¬ o.k = 2 := fun e => k27 (.inl e)
        have k7 : ¬ o.k = 7 := fun e => k27 (.inr e)
        clear k27
        go_wp2_with fail
        refine ⟨⟨kk + 1, sent, k, S, by omega, by omega, by go_num, rfl, HS.out, AR.out.mono (by omega), L4.out⟩, ?_⟩
        simp [intOf]; omega
    · rcases (by omega : ¬ kk < n ∨ (kk < n ∧ ¬ kk < 100)) with hx | ⟨hx, hy⟩
      all_goals
        clear hkn
        go_upto_region 20 with (fail)
        go_wp2_with fail
        go_loopw [10, 6] (fun i sn wr => ∃ jj sent : Nat, ∃ k : Lk, ∃ S, jj ≤ m ∧ jj ≤ 50 ∧ i = .int .i64 jj ∧ sn = .int .i64 sent ∧ sent = (S 0).length ∧ Arr k S (100 + jj) ∧ Lv w bl [] k wr) (fun i _ _ => m - (intOf i).toNat)
        case atStart => exact ⟨0, sent, k, S, by omega, by omega, rfl, rfl, HS.out, AR.out.mono (by omega), HL.out⟩
        case round =>
          clear HS AR HL hs200
          obtain ⟨jj, sent, k, S, hj, hj50, rfl, rfl, hsent, har, hl⟩ := hrel
          have AR := Lib.hid har
          have HL := Lib.hid hl
          have HS := Lib.hid hsent
          have hs200 : sent ≤ 150 := by have := har.2.2.1; omega
          clear har hl hsent
          by_cases hjn : jj < m ∧ jj < 50
          · obtain ⟨hjn, hj1⟩ := hjn
            obtain ⟨p, hp⟩ : ∃ p, ps[jj]? = some p := ⟨_, List.getElem?_eq_getElem (by have := GN.out; omega)⟩
            obtain ⟨g, off, rfl, hc⟩ := GPC.out.resolve_left (by omega)
            obtain ⟨a', l', c', hcell, hbt, hl'⟩ := hc jj p hp
            have q1 : wr.cell? ⟨g, off + jj, none⟩ = some (.slice a' l' c') := (Below.cell HL.out.below (p := ⟨g, off + jj, none⟩) (block_lt_of_cell hcell)).trans hcell
            have SD := Lib.hid (lv_send HL.out 0 a' l' c' p (hbt.below HL.out.below (Nat.le_refl _)) (fun hl g o e => by subst e; exact bts_block hbt hl))
            obtain ⟨S', hS', hlen⟩ := arr_send AR.out (by omega) p
            have hBl : p.length = l' := hbt.1
            rw [hBl] at hlen
            have AS := Lib.hid hS'
            obtain ⟨E, hE⟩ : ∃ E, E = k.sendE 0 l' := ⟨_, rfl⟩
            rw [← hE] at SD hlen
            have HLN := Lib.hid hlen
            clear hc hcell hbt hp hS' hBl hlen hE
            by_cases hE0 : E = 0
            · subst hE0
              go_wp2_with (go_at_call 11; refine SD.out.mono ?_; rintro e w5 ⟨rfl, hl5⟩; have L5 := Lib.hid hl5; clear hl5 SD)
              refine ⟨⟨jj + 1, sent + 1, k.sends 0 p, S', by omega, by omega, by go_num, by go_num, by rw [HLN.out, HS.out]; rfl, AS.out, L5.out⟩, ?_⟩
              simp [intOf]; omega
            · go_wp2_with (go_at_call 11; refine SD.out.mono ?_; rintro e w5 ⟨rfl, hl5⟩; have L5 := Lib.hid hl5; clear hl5 SD)
              refine ⟨⟨jj + 1, sent, k.sends 0 p, S', by omega, by omega, by go_num, by go_num, by rw [HLN.out, HS.out, if_neg hE0]; rfl, AS.out, L5.out⟩, ?_⟩
              simp [intOf]; omega
          · rcases (by omega : ¬ jj < m ∨ (jj < m ∧ ¬ jj < 50)) with hu | ⟨hu, hv⟩
            all_goals
              clear hjn
              have AR0 := Lib.hid (AR.out.mono (show 100 + jj ≤ 200 by omega))
              go_upto_region 25 with (fail)
              go_loopw [] (fun wr => ∃ k : Lk, sent = (S 0).length ∧ Arr k S 200 ∧ Lv w bl [] k wr) (fun wr => lenF bl wr)
              case atStart => exact ⟨k, HS.out, AR0.out, HL.out⟩
              case round =>
                clear AR0 AR HL
                obtain ⟨kd, hsd, hard, hld⟩ := hrel
                have AR := Lib.hid hard
                have HL := Lib.hid hld
                have FL := Lib.hid (lv_flight hld (by have := hard.2.2.2; omega))
                obtain ⟨fn, hfn⟩ : ∃ fn, fn = kd.fl.length := ⟨_, rfl⟩
                rw [← hfn] at FL
                have HFN := Lib.hid hfn
                have hf200 : fn ≤ 200 := by rw [hfn]; have := hard.2.2.2; omega
                clear hsd hard hld hfn
                by_cases hf0 : 0 < fn
                · have hf0' : (0 : Int) < fn := by omega
                  go_wp2_with (first | (go_at_call 12; refine FL.out.mono ?_; rintro e w4 ⟨fa, fc, rfl, hl4⟩; have L4 := Lib.hid hl4; have DR := Lib.hid (lv_drop hl4 0); rw [if_pos (show kd.inR 0 from ⟨by decide, by have := HFN.out; omega⟩), if_pos (show kd.inR 0 from ⟨by decide, by have := HFN.out; omega⟩)] at DR; clear hl4 FL) | (go_at_call 20; refine DR.out.mono ?_; rintro e w5 ⟨rfl, hl5⟩; have L5 := Lib.hid hl5; clear hl5 DR))
                  have hll : (kd.less 0).fl.length = kd.fl.length - 1 := less_len (by have := HFN.out; omega)
                  refine ⟨⟨kd.less 0, HS.out, ⟨AR.out.1.less 0, AR.out.2.1, AR.out.2.2.1, by have := AR.out.2.2.2; omega⟩, L5.out⟩, ?_⟩
                  rw [L5.out.len, HL.out.len]
                  have := HFN.out
                  show (kd.less 0).fl.length < _
                  omega
                · have hfz : fn = 0 := by omega
                  subst hfz
                  have hnil : kd.fl = [] := List.eq_nil_of_length_eq_zero HFN.out.symm
                  have TK := Lib.hid (show ∀ w', Lv w bl [] kd w' → Calls Try.prog 18 #[.pointer (some ⟨bl, 0, none⟩)] w' fun e w'' => e = .returned (.int .i64 ((kd.tick.fl.length - kd.fl.length : Nat) : Int)) ∧ Lv w bl [] kd.tick w'' from fun w' h => lv_tick h (by have := AR.out.2.2.2; omega) AR.out.1.few)
                  have hop0 : kd.a.op.length ≤ 200 := Nat.le_trans (AR.out.1.opLe 0 (by decide)) AR.out.2.2.1
                  have hop1 : kd.b.op = [] := op1_nil AR.out.1 AR.out.2.1
                  have RU := Lib.hid (AR.out.1.run (n := 0) (by rw [hnil, hop1]; simp; omega) (by decide))
                  have OT := Lib.hid AR.out.1.tick
                  have hfl : kd.tick.fl.length ≤ 200 := by
                    have f0 := tries_fl kd 0 kd.a.op (by rw [hnil]; simp; omega)
                    show ((kd.tries 0 kd.a.op).tries 1 kd.b.op).fl.length ≤ 200
                    rw [hop1]
                    show (kd.tries 0 kd.a.op).fl.length ≤ 200
                    rw [f0, hnil, List.nil_append, List.length_map]
                    exact hop0
                  have ART := Lib.hid (show Arr kd.tick S 200 from ⟨OT.out, AR.out.2.1, AR.out.2.2.1, hfl⟩)
                  have hwt := (wt_le kd.tick.fl).1
                  obtain ⟨tn, htn⟩ : ∃ tn, tn = kd.tick.fl.length - kd.fl.length := ⟨_, rfl⟩
                  rw [← htn] at TK
                  clear hnil hop0 hop1 htn
                  go_wp2_with (first | (go_at_call 12; refine FL.out.mono ?_; rintro e w4 ⟨fa, fc, rfl, hl4⟩; have L4 := Lib.hid hl4; have TK1 := Lib.hid (TK.out _ hl4); clear hl4 FL) | (go_at_call 18; refine TK1.out.mono ?_; rintro e w5 ⟨rfl, hl5⟩; have L5 := Lib.hid hl5; clear hl5 TK TK1))
                  go_loopw [11] (fun i wr => ∃ jj : Nat, ∃ k : Lk, i = .int .i64 jj ∧ Arr k S 200 ∧ Run 0 k S ∧ wt k.fl + jj ≤ 400 ∧ Lv w bl [] k wr) (fun i _ => 1000 - (intOf i).toNat)
                  case atStart => exact ⟨0, kd.tick, rfl, ART.out, RU.out, by omega, L5.out⟩
                  case round =>
                    clear ART RU OT L5 AR HL hwt hfl
                    obtain ⟨jj, k, rfl, har, hru, hjj, hl⟩ := hrel
                    have AR := Lib.hid har
                    have RU := Lib.hid hru
                    have HL := Lib.hid hl
                    have hj400 : jj ≤ 400 := by omega
                    have HW := Lib.hid hjj
                    have FL := Lib.hid (lv_flight hl (by have := har.2.2.2; omega))
                    obtain ⟨fq, hfq⟩ : ∃ fq, fq = k.fl.length := ⟨_, rfl⟩
                    rw [← hfq] at FL
                    have HFQ := Lib.hid hfq
                    have hfq200 : fq ≤ 200 := by rw [hfq]; have := har.2.2.2; omega
                    clear hfq har hru hl hjj
                    by_cases hq0 : 0 < fq
                    · have hq0' : (0 : Int) < fq := by omega
                      obtain ⟨p, rest, hpr⟩ : ∃ p rest, k.fl = p :: rest := by
                        cases hf : k.fl with
                        | nil => rw [hf] at HFQ; have := HFQ.out; simp at this; omega
                        | cons p rest => exact ⟨p, rest, rfl⟩
                      have DV := Lib.hid (show ∀ w', Lv w bl [] k w' → Calls Try.prog 15 #[.pointer (some ⟨bl, 0, none⟩), .int .i64 0] w' fun e w'' => e = .returned (.int .i64 0) ∧ Lv w bl [] (k.dels 0) w'' from fun w' h => lv_deliver h 0 (by have := HFQ.out; omega) AR.out.f2 (AR.out.got (by omega)))
                      have R2 := Lib.hid (run_dels AR.out.1 (by decide) hpr RU.out)
                      have W2 := Lib.hid (wt_dels AR.out.1 hpr)
                      clear hpr
                      go_wp2_with (first | (go_at_call 12; refine FL.out.mono ?_; rintro e w6 ⟨fa2, fc2, rfl, hl6⟩; have DV1 := Lib.hid (DV.out _ hl6); clear hl6 FL) | (go_at_call 15; refine DV1.out.mono ?_; rintro e w7 ⟨rfl, hl7⟩; have L7 := Lib.hid hl7; clear hl7 DV DV1))
                      refine ⟨⟨jj + 1, k.dels 0, by go_num, ⟨AR.out.1.dels 0, AR.out.2.1, AR.out.2.2.1, Nat.le_trans (dels_len (by have := HFQ.out; omega)) AR.out.2.2.2⟩, R2.out, by have := W2.out; have := HW.out; omega, L7.out⟩, ?_⟩
                      simp [intOf]; omega
                    · have hqz : fq = 0 := by omega
                      subst hqz
                      have hnil : k.fl = [] := List.eq_nil_of_length_eq_zero HFQ.out.symm
                      obtain ⟨d1, d2⟩ := AR.out.1.done (by decide) RU.out hnil
                      have d2' : (k.en 1).got.length = sent := by rw [show (k.en 1).got = S 0 from d2]; exact HS.out.symm
                      have GT := Lib.hid (show ∀ w', Lv w bl [] k w' → Calls Try.prog 16 #[.pointer (some ⟨bl, 0, none⟩), .int .i64 1] w' fun e w'' => ∃ a c, e = .returned (.slice a sent c) ∧ Lv w bl [] k w'' from fun w' h => (lv_got h 1 (by decide) (AR.out.got (by omega) 1 (by decide))).mono (by
                        rintro e w'' ⟨v, rfl, ⟨a, c, hv, _⟩, hl⟩
                        exact ⟨a, c, by rw [hv, d2'], hl⟩))
                      have OP := Lib.hid (show ∀ w', Lv w bl [] k w' → Calls Try.prog 14 #[.pointer (some ⟨bl, 0, none⟩), .int .i64 0] w' fun e w'' => e = .returned (.int .i64 0) ∧ w' = w'' from fun w' h => (lv_open h 0 (by decide)).mono (by
                        rintro e w'' ⟨rfl, rfl⟩
                        exact ⟨by rw [d1]; rfl, rfl⟩))
                      have FL2 := Lib.hid (show ∀ w', Lv w bl [] k w' → Calls Try.prog 12 #[.pointer (some ⟨bl, 0, none⟩)] w' fun e w'' => ∃ a c, e = .returned (.slice a 0 c) ∧ Lv w bl [] k w'' from fun w' h => (lv_flight h (by rw [hnil]; decide)).mono (by
                        rintro e w'' ⟨a, c, rfl, hl⟩
                        exact ⟨a, c, by rw [hnil]; rfl, hl⟩))
                      clear hnil d1 d2 d2' HW RU
                      go_upto_region 34 with (go_at_call 12; refine FL.out.mono ?_; rintro e w6 ⟨fa2, fc2, rfl, hl6⟩; have GT1 := Lib.hid (GT.out _ hl6); clear hl6 FL)
                      go_wp2_with (first | (go_at_call 16; refine GT1.out.mono ?_; rintro e w7 ⟨ga, gc, rfl, hl7⟩; have L7 := Lib.hid hl7; have OP1 := Lib.hid (OP.out _ hl7); have FL3 := Lib.hid (FL2.out _ hl7); clear hl7) | (go_at_call 14; refine OP1.out.mono ?_; intro e w' hh; have he := hh.1; have hw := hh.2; subst he; subst w'; clear hh) | (go_at_call 12; refine FL3.out.mono ?_; rintro e w8 ⟨fa3, fc3, rfl, hl8⟩; have L8 := Lib.hid hl8; clear hl8))
                      go_ret
                      exact ⟨rfl, L8.out.below⟩
section
variable {H : Type} {enc : TypeId × Value → H} {base : Nat} {spare : Nat → Bool} {held : Bool} {W : World}
theorem arrives_in (a : Option Addr) (n ca : Nat) (lf : Opens.LfOk enc Try.prog W base spare held (.slice 44) (.slice a n ca)) (b : Option Addr) (m cb : Nat) (lg : Opens.LfOk enc Try.prog W base spare held (.slice 23) (.slice b m cb)) : Calls Try.prog 5 #[.slice a n ca, .slice b m cb] W fun e w' => e = .returned (.bool true) ∧ Below W.heap.size W w' := by
  obtain ⟨os, ho⟩ := scr_in lf
  obtain ⟨ps, hp⟩ := pcs_in lg
  exact arrives_walk a n ca os W ho b m cb ps hp
end
end Go.Proofs.Ytfjaoompdleljaa.Link
