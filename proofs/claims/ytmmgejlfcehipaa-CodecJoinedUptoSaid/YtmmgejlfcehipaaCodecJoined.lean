/-
  The walk of CodecJoined. Helper text; no statement is proved here.
-/
import Derived.Test.YtmmgejlfcehipaaScan
import Derived.Test.YtmmgejlfcehipaaSameRecs
import Derived.Test.YtmmgejlfcehipaaAwake4
import Derived.Test.YtmmgejlfcehipaaRefPack
set_option linter.unusedVariables false
set_option linter.unusedSimpArgs false
namespace Go.Proofs.Ytmmgejlfcehipaa.Codec
open Go.RowKit Go.Proofs.Ytmmgejlfcehipaa.Base Go.Proofs.Ytmmgejlfcehipaa.Laws Go.Proofs.Ytmmgejlfcehipaa.InvM
theorem rc_pack_yes {r : Rc} (hv : r.Valid) (hg : r.Good) (base : Nat) (w : World) (hb : base ≤ w.heap.size) : Calls Try.prog 11 #[.agg r.cells.toArray] w fun e w' => ∃ p, e = .returned (.tuple #[p, .int .i64 0]) ∧ w'.ownsRow base 5 1 p 37 (bv r.bytes) ∧ Below base w w' := by
  obtain ⟨k, v, a, l⟩ := r
  obtain ⟨hl, hv, hk, ha⟩ := hv
  have h0 : 0 ≤ a := hg.2.1
  obtain ⟨n, rfl⟩ : ∃ n : Nat, a = n := ⟨a.toNat, by omega⟩
  exact pack_yes (k := k) (v := v) (a := n) (l := l) hl hv hg base w hb
theorem rc_pack_no {r : Rc} (hv : r.Valid) (hg : ¬ r.Good) (w : World) : Calls Try.prog 11 #[.agg r.cells.toArray] w fun e w' => e = .returned (.tuple #[.slice none 0 0, .int .i64 2]) ∧ Below w.heap.size w w' :=
  pack_no (k := r.k) (v := r.v) (a := r.a) (l := r.l) hv.1 hg w
theorem rc_rpack_yes {r : Rc} (hv : r.Valid) (hg : r.Good) (w : World) : Calls Try.prog 12 #[.agg r.cells.toArray] w fun e w' => ∃ p, e = .returned (.tuple #[p, .int .i64 0]) ∧ w'.ownsRow w.heap.size 5 1 p 37 (bv r.bytes) ∧ Below w.heap.size w w' := by
  obtain ⟨k, v, a, l⟩ := r
  obtain ⟨hl, hv, hk, ha⟩ := hv
  have h0 : 0 ≤ a := hg.2.1
  obtain ⟨n, rfl⟩ : ∃ n : Nat, a = n := ⟨a.toNat, by omega⟩
  exact rpack_yes (k := k) (v := v) (a := n) (l := l) hl hv hg w
theorem rc_rpack_no {r : Rc} (hv : r.Valid) (hg : ¬ r.Good) (w : World) : Calls Try.prog 12 #[.agg r.cells.toArray] w fun e w' => e = .returned (.tuple #[.slice none 0 0, .int .i64 2]) ∧ Below w.heap.size w w' :=
  rpack_no (k := r.k) (v := r.v) (a := r.a) (l := r.l) hv.1 hg w
/-- the records that can be packed -/
def good (rs : List Rc) : List Rc := rs.filter fun r => decide r.Good
theorem good_snoc_yes {rs : List Rc} {r : Rc} (h : r.Good) : good (rs ++ [r]) = good rs ++ [r] := by unfold good; rw [List.filter_append]; simp [h]
theorem good_snoc_no {rs : List Rc} {r : Rc} (h : ¬ r.Good) : good (rs ++ [r]) = good rs := by unfold good; rw [List.filter_append]; simp [h]
theorem good_len (rs : List Rc) : (good rs).length ≤ rs.length := List.length_filter_le _ _
theorem good_all {rs : List Rc} (h : ∀ r ∈ rs, r.Valid) : ∀ r ∈ good rs, r.Valid ∧ r.Good := fun r hr => by
  unfold good at hr
  rw [List.mem_filter] at hr
  exact ⟨h r hr.1, of_decide_eq_true hr.2⟩
theorem own_apart {w : World} {b b' : Nat} {e e' : TypeId} {s s' : Nat} {v v' : Value} {n n' : Nat} {xs xs' : List Value} (h : w.ownsRow b e s v n xs) (g : w.ownsRow b' e' s' v' n' xs') (hne : e ≠ e') : v.ownBlock = none ∨ v.ownBlock ≠ v'.ownBlock := by
  rcases h.2 with ⟨rfl, _⟩ | ⟨g1, cap, cur, rfl, _, hg, _⟩
  · exact .inl rfl
  · refine .inr fun e => ?_
    rcases g.2 with ⟨rfl, _⟩ | ⟨g2, cap2, cur2, rfl, _, hg2, _⟩
    · simp [Value.ownBlock] at e
    · simp only [Value.ownBlock, Option.some.injEq] at e
      subst e
      rw [hg] at hg2
      simp only [Option.some.injEq, Obj.cells.injEq] at hg2
      exact hne hg2.2.1
theorem take_rs {rs : List Rc} (h : ∀ r ∈ rs, r.Valid) (k : Nat) : ∀ r ∈ rs.take k, r.Valid := fun r hr => h r (List.mem_of_mem_take hr)
set_option maxRecDepth 4000 in
set_option maxHeartbeats 4000000 in
theorem joined_walk (a : Option Addr) (n ca : Nat) (la : List Rc) (b : Option Addr) (m cb : Nat) (lb : List Rc) (w : World) (ha : Recs w a n ca la) (hb : Recs w b m cb lb) (hs : n + m ≤ 1048576) :
    Calls Try.prog 5 #[.slice a n ca, .slice b m cb] w fun e w' => e = .returned (.bool true) ∧ Below w.heap.size w w' := by
  have HA := Lib.hid ha
  have HB := Lib.hid hb
  have HW := Lib.hid awake_any
  have hca := ha.2.2.1
  have hcb := hb.2.2.1
  have hnca := ha.2.1
  have hmcb := hb.2.1
  unfold maxLen at hca hcb
  clear ha hb
  go_enter Try.func5, Try.ntmps5
  go_wp2_with fail
  refine (HW.out _).mono ?_
  rintro e w1 ⟨rfl, hb1⟩
  have L1 := Lib.hid hb1
  have hs1 := hb1.size
  have A1 := Lib.hid (HA.out.below hb1 (Nat.le_refl _))
  have B1 := Lib.hid (HB.out.below hb1 (Nat.le_refl _))
  have hmade := World.ownsRow_made (e := 26) (size := 19) (base := w.heap.size) w1 #[] 0 hs1 (Nat.zero_le _) rfl
  have M1 := Lib.hid hmade
  have SA := Lib.hid ((A1.out.below (B := w1.heap.size) ((Below.refl _ _).alloc (Nat.le_refl _) (.cells #[] 26)) (Nat.le_refl _)).src)
  clear hb1 hmade
  go_wp2_with (first | (at_builtin; refine wpList_append_any _ rfl _ _ 36 rfl w.heap.size 26 (.agg zrec.toArray) 19 40 Try.underlying36 info_rec rfl (by decide) _ 0 [] rfl M1.out a n ca (rv la) rfl SA.out ?c1 ?c2 ?c3 ?_))
  case c1 => omega
  case c2 => unfold maxLen; omega
  case c3 => simp only [size_alloc]; omega
  intro v1 w2 ho2 hg2
  have L2 := Lib.hid ((L1.out.alloc hs1 _).grown hg2 (by simp only [size_alloc]; omega) (fun q hq => (M1.out.lt q hq).1))
  have O2 := Lib.hid ho2
  have hs2 := L2.out.size
  have SB := Lib.hid ((HB.out.below L2.out (Nat.le_refl _)).src)
  clear ho2 hg2 M1 SA A1 B1 L1
  go_wp2_with (first | (at_builtin; refine wpList_append_any _ rfl _ _ 36 rfl w.heap.size 26 (.agg zrec.toArray) 19 40 Try.underlying36 info_rec rfl (by decide) _ _ _ rfl O2.out b m cb (rv lb) rfl SB.out ?d1 ?d2 ?d3 ?_))
  case d1 => omega
  case d2 => unfold maxLen; omega
  case d3 => omega
  intro v2 w3 ho3 hg3
  have L3 := Lib.hid (L2.out.grown hg3 hs2 (fun q hq => (O2.out.lt q hq).1))
  rw [← rv_append] at ho3
  have hvl : ∀ r ∈ la ++ lb, r.Valid := fun r hr => by
    rcases List.mem_append.1 hr with h | h
    · exact HA.out.2.2.2.1 r h
    · exact HB.out.2.2.2.1 r h
  have hll : (la ++ lb).length = n + m := by rw [List.length_append, HA.out.1, HB.out.1]
  obtain ⟨lst, hlst⟩ : ∃ lst, lst = la ++ lb := ⟨_, rfl⟩
  rw [← hlst] at ho3 hvl hll
  obtain ⟨va, vcap, rfl, hrecs⟩ := recs_own hll hvl ho3
  obtain ⟨N, hN⟩ : ∃ N, N = n + m := ⟨_, rfl⟩
  rw [← hN] at hs hll hrecs ⊢
  have R3 := Lib.hid hrecs
  have hs3 := L3.out.size
  have HVL := Lib.hid hvl
  have hvc := hrecs.2.1
  have hvm := hrecs.2.2.1
  unfold maxLen at hvm
  clear ho3 hg3 O2 SB L2 hlst hrecs HA HB hN hvl
  have MB := Lib.hid (World.ownsRow_made (e := 5) (size := 1) (base := w3.heap.size) w3 #[] 0 (Nat.le_refl _) (Nat.zero_le _) rfl)
  have MC := Lib.hid (World.ownsRow_made (e := 26) (size := 19) (base := w3.heap.size) (w3.alloc (.cells #[] 5)) #[] 0 (by simp only [size_alloc]; omega) (Nat.zero_le _) rfl)
  go_wp2
  go_loopw [6, 7, 8] (fun x y i wr => ∃ k : Nat, k ≤ N ∧ i = .int .i64 (k : Nat) ∧ wr.ownsRow w3.heap.size 5 1 x (37 * (good (lst.take k)).length) (bv (laidAll (good (lst.take k)))) ∧ wr.ownsRow w3.heap.size 26 19 y (good (lst.take k)).length (rv (good (lst.take k))) ∧ Below w3.heap.size w3 wr) (fun _ _ i _ => N - (intOf i).toNat)
  case atStart =>
    have m2 := MC.out
    simp only [size_alloc] at m2
    exact ⟨0, by omega, rfl, MB.out.alloc _, m2, ((Below.refl _ _).alloc (Nat.le_refl _) _).alloc (by simp only [size_alloc]; omega) _⟩
  case round =>
    obtain ⟨k, hk, rfl, ho1, ho2, hb⟩ := hrel
    have P := Lib.hid ho1
    have W := Lib.hid ho2
    have LB := Lib.hid hb
    have hsr := hb.size
    have hgl := good_len (lst.take k)
    have htk : (lst.take k).length = k := by rw [List.length_take]; omega
    rw [htk] at hgl
    clear ho1 ho2 hb MB MC
    by_cases hkN : k < N
    · obtain ⟨r, hr⟩ : ∃ r, lst[k]? = some r := ⟨_, List.getElem?_eq_getElem (by omega)⟩
      have hrv := HVL.out r (List.mem_of_getElem? hr)
      rcases R3.out.2.2.2.2 with h0 | ⟨pb, po, rfl, hc⟩
      · omega
      have XC := Lib.hid (fun (w' : World) (hb : Below w3.heap.size w3 w') (j : Nat) (u : Value) (hu : r.cells[j]? = some u) => (hb.cell (p := (⟨pb, po + k * 19, none⟩ : Addr).add j) (by have := block_lt_of_cell (rec_at HVL.out hc hr j u hu); simpa [Addr.add] using this)).trans (rec_at HVL.out hc hr j u hu))
      have HT := Lib.hid (take_snoc lst k r hr)
      have hr19 := Rc.len hrv
      have RV := Lib.hid hrv
      clear hr hc
      obtain ⟨g, hgd⟩ : ∃ g, g = good (lst.take k) := ⟨_, rfl⟩
      by_cases hg : r.Good
      · have HP := Lib.hid (rc_pack_yes hrv hg wr.heap.size wr (Nat.le_refl _))
        have HGS := Lib.hid (show good (lst.take (k + 1)) = g ++ [r] by rw [HT.out, good_snoc_yes hg, hgd])
        rw [← hgd] at P W hgl
        clear hrv hgd
        go_wp2_with (first | (refine wpList_value_g rfl (.agg r.cells.toArray) (exec_load_from (m := 19) rfl rfl (XC.out wr LB.out) Try.underlying26 rfl (by kernel_rfl) hr19) ?_))
        refine HP.out.mono ?_
        rintro e w4 ⟨p, rfl, ho, hb⟩
        obtain ⟨pa, pcap, rfl, hbt⟩ := OwnB.bts_own (Rc.bytes_len RV.out) ho
        have L4 := Lib.hid (LB.out.trans (hb.mono hsr))
        have P4 := Lib.hid (own_below P.out hb)
        have W4 := Lib.hid (own_below W.out hb)
        have S4 := Lib.hid (OwnB.src_bts hbt)
        have hs4 := L4.out.size
        clear ho hb hbt P W HP LB hg
        go_wp2_with (first | (at_builtin; refine wpList_append_any _ rfl _ _ 27 rfl w3.heap.size 5 (.int .u8 0) 1 1 Try.underlying27 OwnB.infou8 rfl (by decide) _ (37 * g.length) _ rfl P4.out pa 37 pcap (bv r.bytes) rfl S4.out ?e1 ?e2 ?e3 ?_))
        case e1 => omega
        case e2 => unfold maxLen; omega
        case e3 => omega
        intro v5 w5 ho5 hg5
        have L5 := Lib.hid (L4.out.grown hg5 hs4 (fun q hq => (P4.out.lt q hq).1))
        have P5 := Lib.hid ho5
        have W5 := Lib.hid (W4.out.kept hg5 (own_apart W4.out P4.out (by decide)))
        have hs5 := L5.out.size
        clear ho5 hg5 P4 W4 S4 L4
        go_wp2_with (first | (refine wpList_value_g rfl (.agg r.cells.toArray) (exec_load_from (m := 19) rfl rfl (XC.out w5 L5.out) Try.underlying26 rfl (by kernel_rfl) hr19) ?_) | (refine wpList_world_g rfl (.slice (some ⟨w5.heap.size, 0, none⟩) 1 1) (exec_build_one rfl rfl Try.underlying36 info_rec hr19 (by decide) (by decide)) ?_) | (at_builtin; refine wpList_append_any _ rfl _ _ 36 rfl w3.heap.size 26 (.agg zrec.toArray) 19 40 Try.underlying36 info_rec rfl (by decide) _ g.length _ rfl (W5.out.alloc _) _ 1 1 r.cells rfl (src_rec RV.out (blk_at rfl rfl)) ?f1 ?f2 ?f3 ?_))
        case f1 => omega
        case f2 => unfold maxLen; omega
        case f3 => simp only [size_alloc]; omega
        intro v6 w6 ho6 hg6
        have L6 := Lib.hid ((L5.out.alloc hs5 _).grown hg6 (by simp only [size_alloc]; omega) (fun q hq => (W5.out.lt q hq).1))
        have P6 := Lib.hid ((P5.out.alloc _).kept hg6 (own_apart P5.out W5.out (by decide)))
        have W6 := Lib.hid ho6
        clear ho6 hg6 P5 W5 L5
        go_wp2
        go_roundw
        case rel =>
          refine ⟨k + 1, by omega, by go_num, ?_, ?_, L6.out⟩
          · have := P6.out
            rw [HGS.out, laidAll_append, show laidAll [r] = r.bytes from by simp [laidAll], List.length_append, show 37 * (g.length + [r].length) = 37 * g.length + 37 from by simp; omega, bv_append]
            exact this
          · have := W6.out
            rw [HGS.out, rv_append, rv_one, List.length_append]
            exact this
        case measure => simp [intOf]; omega
      · have HP := Lib.hid (rc_pack_no hrv hg wr)
        have HGS := Lib.hid (show good (lst.take (k + 1)) = g by rw [HT.out, good_snoc_no hg, hgd])
        rw [← hgd] at P W hgl
        clear hrv hgd
        go_wp2_with (first | (refine wpList_value_g rfl (.agg r.cells.toArray) (exec_load_from (m := 19) rfl rfl (XC.out wr LB.out) Try.underlying26 rfl (by kernel_rfl) hr19) ?_))
        refine HP.out.mono ?_
        rintro e w4 ⟨rfl, hb⟩
        have L4 := Lib.hid (LB.out.trans (hb.mono hsr))
        have P4 := Lib.hid (own_below P.out hb)
        have W4 := Lib.hid (own_below W.out hb)
        have hs4 := L4.out.size
        clear hb P W HP LB hg
        go_wp2_with (first | (at_builtin; refine wpList_append_any _ rfl _ _ 27 rfl w3.heap.size 5 (.int .u8 0) 1 1 Try.underlying27 OwnB.infou8 rfl (by decide) _ (37 * g.length) _ rfl P4.out none 0 0 [] rfl ⟨rfl, by simp, .inl rfl⟩ ?g1 ?g2 ?g3 ?_))
        case g1 => omega
        case g2 => unfold maxLen; omega
        case g3 => omega
        intro v5 w5 ho5 hg5
        have L5 := Lib.hid (L4.out.grown hg5 hs4 (fun q hq => (P4.out.lt q hq).1))
        have P5 := Lib.hid ho5
        have W5 := Lib.hid (W4.out.kept hg5 (own_apart W4.out P4.out (by decide)))
        clear ho5 hg5 P4 W4 L4
        go_wp2
        go_roundw
        case rel =>
          refine ⟨k + 1, by omega, by go_num, ?_, ?_, L5.out⟩
          · have := P5.out
            rw [HGS.out]
            simpa using this
          · rw [HGS.out]; exact W5.out
        case measure => simp [intOf]; omega
    · obtain rfl : k = N := by omega
      rw [List.take_of_length_le (by omega)] at P W hgl
      have hga := good_all HVL.out
      have HGA := Lib.hid (fun r hr => (hga r hr).1)
      have hsl := scan_laid (good lst) hga
      have hln := laidAll_len HGA.out
      obtain ⟨g, hgd⟩ : ∃ g, g = good lst := ⟨_, rfl⟩
      rw [← hgd] at P W hgl hsl hln HGA
      clear hga hgd
      obtain ⟨xa, xcap, rfl, hbt⟩ := OwnB.bts_own hln P.out
      obtain ⟨ya, ycap, rfl, hrt⟩ := recs_own rfl HGA.out W.out
      have HSC := Lib.hid (scan_any xa (37 * g.length) xcap (laidAll g) wr hbt (by omega))
      rw [hsl] at HSC
      have Y := Lib.hid hrt
      have hyc := hrt.2.1
      have hym := hrt.2.2.1
      have hxc := hbt.2.1
      have hxm := hbt.2.2.1
      unfold maxLen at hym hxm
      clear hbt hrt hsl hln P W
      go_wp2_with fail
      refine HSC.out.mono ?_
      rintro e w4 ⟨v, rfl, ho, hb⟩
      have L4 := Lib.hid (LB.out.trans (hb.mono hsr))
      obtain ⟨za, zcap, rfl, hzt⟩ := recs_own rfl HGA.out ho
      have HSM := Lib.hid (same_recs za g.length zcap g ya g.length ycap g w4 hzt (Y.out.below hb (Nat.le_refl _)))
      rw [decide_eq_true rfl] at HSM
      have hwr : IntKind.i64.wrap (37 * (g.length : Int)) = 37 * (g.length : Int) := by rw [IntKind.wrap_i64]; omega
      clear ho hb hzt HSC LB Y
      go_wp2_with fail
      refine HSM.out.mono ?_
      rintro e w5 ⟨rfl, nd, rfl⟩
      go_wp2
      go_ret
      exact ⟨ret_bool (by simp), below_drewN (L3.out.trans (L4.out.mono hs3)) nd⟩
section
variable {H : Type} {enc : TypeId × Value → H} {base : Nat} {spare : Nat → Bool} {held : Bool} {W : World}
theorem joined_in (a : Option Addr) (n ca : Nat) (lf : Opens.LfOk enc Try.prog W base spare held (.slice 26) (.slice a n ca)) (b : Option Addr) (m cb : Nat) (lg : Opens.LfOk enc Try.prog W base spare held (.slice 26) (.slice b m cb))
    (d : DataW H) (hz : ∀ m ∈ d.weights Try.prog 36, m ≤ reachBytes) {p : List MemPlace} (h : DataW.Trod enc Try.prog W base spare held 36 (.slice a n ca) d p)
    (d' : DataW H) (hz' : ∀ m ∈ d'.weights Try.prog 36, m ≤ reachBytes) {p' : List MemPlace} (h' : DataW.Trod enc Try.prog W base spare held 36 (.slice b m cb) d' p') (hk : Rows.uptoBulkAll [d, d'] ≤ 1048576) :
    Calls Try.prog 5 #[.slice a n ca, .slice b m cb] W fun e w' => e = .returned (.bool true) ∧ Below W.heap.size W w' := by
  obtain ⟨la, ha, h1⟩ := recs_in h hz
  obtain ⟨lb, hb, h2⟩ := recs_in h' hz'
  simp only [Rows.uptoBulkAll] at hk
  exact joined_walk a n ca la b m cb lb W ha hb (by omega)
end
end Go.Proofs.Ytmmgejlfcehipaa.Codec
