/-
  The walk of CodecScans. Helper text; no statement is proved here.
-/
import Derived.Test.YtmmgejlfcehipaaRcPack
import Derived.Test.YtmmgejlfcehipaaRefScan
set_option linter.unusedVariables false
set_option linter.unusedSimpArgs false
namespace Go.Proofs.Ytmmgejlfcehipaa.Codec
open Go.RowKit Go.Proofs.Ytmmgejlfcehipaa.Base Go.Proofs.Ytmmgejlfcehipaa.Laws Go.Proofs.Ytmmgejlfcehipaa.InvM
theorem cellsu8 : Try.prog.cellsOf 5 = 1 := by kernel_rfl
theorem bytesu8 : Try.prog.bytesOf 5 = 1 := by kernel_rfl
/-- bytes that came in -/
theorem bytes_in {H : Type} {enc : TypeId × Value → H} {base : Nat} {spare : Nat → Bool} {held : Bool} {W : World} {a : Option Addr} {len cap : Nat} (h : Opens.LfOk enc Try.prog W base spare held (.slice 5) (.slice a len cap)) : ∃ l, Bts W a len cap l ∧ len ≤ 140737488351232 := by
  obtain ⟨l, h1, h2, h3, h4, h5⟩ := Opens.bytes_of_lf Try.underlying5 cellsu8 bytesu8 h
  exact ⟨l, ⟨h1, h2, h3, h5⟩, h4⟩
set_option maxRecDepth 8000 in
set_option maxHeartbeats 2000000 in
theorem scans_walk (a : Option Addr) (len cap : Nat) (l : List UInt8) (b : Option Addr) (N cb : Nat) (lst : List Rc) (cut : Int) (w : World) (ha : Bts w a len cap l) (hb : Recs w b N cb lst) (hs : len + N ≤ 1048576) :
    Calls Try.prog 4 #[.slice a len cap, .slice b N cb, .int .i64 cut] w fun e w' => e = .returned (.bool true) ∧ Below w.heap.size w w' := by
  have HA := Lib.hid ha
  have HB := Lib.hid hb
  have HW := Lib.hid awake_any
  have hcap := ha.2.2.1
  have hlc := ha.2.1
  have hal := ha.1
  have hcb := hb.2.2.1
  have hncb := hb.2.1
  have hll := hb.1
  have HVL := Lib.hid hb.2.2.2.1
  unfold maxLen at hcap hcb
  have hmade := World.ownsRow_made (e := 5) (size := 1) (base := w.heap.size) w #[] 0 (Nat.le_refl _) (Nat.zero_le _) rfl
  have M1 := Lib.hid hmade
  have SA := Lib.hid (OwnB.src_bts (bts_alloc ha (.cells #[] 5)))
  clear ha hb hmade
  go_enter Try.func4, Try.ntmps4
  go_wp2_with (first | (at_builtin; refine wpList_append_any _ rfl _ _ 27 rfl w.heap.size 5 (.int .u8 0) 1 1 Try.underlying27 OwnB.infou8 rfl (by decide) _ 0 [] rfl M1.out a len cap (bv l) rfl SA.out ?a1 ?a2 ?a3 ?_))
  case a1 => omega
  case a2 => unfold maxLen; omega
  case a3 => simp only [size_alloc]; omega
  intro v1 w1 ho1 hg1
  have L1 := Lib.hid (((Below.refl w.heap.size w).alloc (Nat.le_refl _) _).grown hg1 (by simp only [size_alloc]; omega) (fun q hq => (M1.out.lt q hq).1))
  have hs1 := L1.out.size
  have ho1' : w1.ownsRow w.heap.size 5 1 v1 len (bv l) := by simpa using ho1
  obtain ⟨oa, ocap, rfl, hot⟩ := OwnB.bts_own hal ho1'
  have HS1 := Lib.hid (scan_any oa len ocap l w1 hot (by omega))
  have hsl := scanAll_len l
  have HVS := Lib.hid (scanAll_valid l)
  obtain ⟨X, hX⟩ : ∃ X, X = scanAll l := ⟨_, rfl⟩
  have HR := Lib.hid (fun cap' a' w' (h : Bts w' a' len cap' l) => rscan_any a' len cap' l w' h (by omega))
  rw [← hX] at HS1 hsl HVS HR
  clear ho1 hg1 ho1' hot M1 SA hX
  go_wp2_with fail
  refine HS1.out.mono ?_
  rintro e w2 ⟨v2, rfl, ho2, hb2⟩
  have L2 := Lib.hid (L1.out.trans (hb2.mono hs1))
  have hs2 := L2.out.size
  obtain ⟨xa, xcap, rfl, hxt⟩ := recs_own rfl HVS.out ho2
  have X2 := Lib.hid hxt
  have HR2 := Lib.hid (HR.out cap a w2 (HA.out.below L2.out (Nat.le_refl _)))
  clear ho2 hb2 hxt HS1 HR L1
  go_wp2_with fail
  refine HR2.out.mono ?_
  rintro e w3 ⟨v3, rfl, ho3, hb3⟩
  have L3 := Lib.hid (L2.out.trans (hb3.mono hs2))
  have hs3 := L3.out.size
  obtain ⟨ya, ycap, rfl, hyt⟩ := recs_own rfl HVS.out ho3
  have X3 := Lib.hid (X2.out.below hb3 (Nat.le_refl _))
  have Y3 := Lib.hid hyt
  clear ho3 hb3 hyt HR2 L2 X2
  go_wp2_with fail
  refine (HW.out _).mono ?_
  rintro e w4 ⟨rfl, hb4⟩
  have L4 := Lib.hid (L3.out.trans (hb4.mono hs3))
  have hs4 := L4.out.size
  have HSM := Lib.hid (same_recs xa X.length xcap X ya X.length ycap X w4 (X3.out.below hb4 (Nat.le_refl _)) (Y3.out.below hb4 (Nat.le_refl _)))
  rw [decide_eq_true rfl] at HSM
  clear hb4 X3 Y3 L3
  go_wp2_with fail
  refine HSM.out.mono ?_
  rintro e w5 ⟨rfl, nd, rfl⟩
  have L5 := Lib.hid (below_drewN L4.out nd)
  obtain ⟨w5, hw5⟩ : ∃ w5, w5 = w4.drewN nd := ⟨_, rfl⟩
  rw [← hw5] at L5 ⊢
  have hs5 := L5.out.size
  have R5 := Lib.hid (HB.out.below L5.out (Nat.le_refl _))
  clear HSM L4 hw5 hs4 hs3 hs2 hs1 HA HB hsl
  have MB := Lib.hid (World.ownsRow_made (e := 5) (size := 1) (base := w5.heap.size) w5 #[] 0 (Nat.le_refl _) (Nat.zero_le _) rfl)
  have MC := Lib.hid (World.ownsRow_made (e := 26) (size := 19) (base := w5.heap.size) (w5.alloc (.cells #[] 5)) #[] 0 (by simp only [size_alloc]; omega) (Nat.zero_le _) rfl)
  go_wp2
  go_loopw [11, 12, 13] (fun x y i wr => ∃ k : Nat, k ≤ N ∧ i = .int .i64 (k : Nat) ∧ wr.ownsRow w5.heap.size 5 1 x (37 * (good (lst.take k)).length) (bv (laidAll (good (lst.take k)))) ∧ wr.ownsRow w5.heap.size 26 19 y (good (lst.take k)).length (rv (good (lst.take k))) ∧ Below w5.heap.size w5 wr) (fun _ _ i _ => N - (intOf i).toNat)
  case atStart =>
    have m2 := MC.out
    simp only [size_alloc] at m2
    exact ⟨0, by omega, rfl, MB.out.alloc _, m2, ((Below.refl _ _).alloc (Nat.le_refl _) _).alloc (by simp only [size_alloc]; omega) _⟩
  case round =>
    obtain ⟨k, hk, rfl, ho1, ho2, hb⟩ := hrel
    have P := Lib.hid ho1
    have W := Lib.hid ho2
    have LB := Lib.hid hb
    have hsr := hb.size
    have hgl := good_len (lst.take k)
    have htk : (lst.take k).length = k := by rw [List.length_take]; omega
    rw [htk] at hgl
    clear ho1 ho2 hb MB MC
    by_cases hkN : k < N
    · obtain ⟨r, hr⟩ : ∃ r, lst[k]? = some r := ⟨_, List.getElem?_eq_getElem (by omega)⟩
      have hrv := HVL.out r (List.mem_of_getElem? hr)
      rcases R5.out.2.2.2.2 with h0 | ⟨pb, po, rfl, hc⟩
      · omega
      have XC := Lib.hid (fun (w' : World) (hb : Below w5.heap.size w5 w') (j : Nat) (u : Value) (hu : r.cells[j]? = some u) => (hb.cell (p := (⟨pb, po + k * 19, none⟩ : Addr).add j) (by have := block_lt_of_cell (rec_at HVL.out hc hr j u hu); simpa [Addr.add] using this)).trans (rec_at HVL.out hc hr j u hu))
      have HT := Lib.hid (take_snoc lst k r hr)
      have hr19 := Rc.len hrv
      have RV := Lib.hid hrv
      clear hr hc
      obtain ⟨g, hgd⟩ : ∃ g, g = good (lst.take k) := ⟨_, rfl⟩
      by_cases hg : r.Good
      · have HP := Lib.hid (rc_rpack_yes hrv hg wr)
        have HGS := Lib.hid (show good (lst.take (k + 1)) = g ++ [r] by rw [HT.out, good_snoc_yes hg, hgd])
        rw [← hgd] at P W hgl
        clear hrv hgd
        go_wp2_with (first | (refine wpList_value_g rfl (.agg r.cells.toArray) (exec_load_from (m := 19) rfl rfl (XC.out wr LB.out) Try.underlying26 rfl (by kernel_rfl) hr19) ?_))
        refine HP.out.mono ?_
        rintro e q4 ⟨p, rfl, ho, hb⟩
        obtain ⟨pa, pcap, rfl, hbt⟩ := OwnB.bts_own (Rc.bytes_len RV.out) ho
        have L4 := Lib.hid (LB.out.trans (hb.mono hsr))
        have P4 := Lib.hid (own_below P.out hb)
        have W4 := Lib.hid (own_below W.out hb)
        have S4 := Lib.hid (OwnB.src_bts hbt)
        have hs4 := L4.out.size
        clear ho hb hbt P W HP LB hg
        go_wp2_with (first | (at_builtin; refine wpList_append_any _ rfl _ _ 27 rfl w5.heap.size 5 (.int .u8 0) 1 1 Try.underlying27 OwnB.infou8 rfl (by decide) _ (37 * g.length) _ rfl P4.out pa 37 pcap (bv r.bytes) rfl S4.out ?e1 ?e2 ?e3 ?_))
        case e1 => omega
        case e2 => unfold maxLen; omega
        case e3 => omega
        intro v5 q5 ho5 hg5
        have L5 := Lib.hid (L4.out.grown hg5 hs4 (fun q hq => (P4.out.lt q hq).1))
        have P5 := Lib.hid ho5
        have W5 := Lib.hid (W4.out.kept hg5 (own_apart W4.out P4.out (by decide)))
        have hs5 := L5.out.size
        clear ho5 hg5 P4 W4 S4 L4
        go_wp2_with (first | (refine wpList_value_g rfl (.agg r.cells.toArray) (exec_load_from (m := 19) rfl rfl (XC.out q5 L5.out) Try.underlying26 rfl (by kernel_rfl) hr19) ?_) | (refine wpList_world_g rfl (.slice (some ⟨q5.heap.size, 0, none⟩) 1 1) (exec_build_one rfl rfl Try.underlying36 info_rec hr19 (by decide) (by decide)) ?_) | (at_builtin; refine wpList_append_any _ rfl _ _ 36 rfl w5.heap.size 26 (.agg zrec.toArray) 19 40 Try.underlying36 info_rec rfl (by decide) _ g.length _ rfl (W5.out.alloc _) _ 1 1 r.cells rfl (src_rec RV.out (blk_at rfl rfl)) ?f1 ?f2 ?f3 ?_))
        case f1 => omega
        case f2 => unfold maxLen; omega
        case f3 => simp only [size_alloc]; omega
        intro v6 q6 ho6 hg6
        have L6 := Lib.hid ((L5.out.alloc hs5 _).grown hg6 (by simp only [size_alloc]; omega) (fun q hq => (W5.out.lt q hq).1))
        have P6 := Lib.hid ((P5.out.alloc _).kept hg6 (own_apart P5.out W5.out (by decide)))
        have W6 := Lib.hid ho6
        clear ho6 hg6 P5 W5 L5
        go_wp2
        go_roundw
        case rel =>
          refine ⟨k + 1, by omega, by go_num, ?_, ?_, L6.out⟩
          · have := P6.out
            rw [HGS.out, laidAll_append, show laidAll [r] = r.bytes from by simp [laidAll], List.length_append, show 37 * (g.length + [r].length) = 37 * g.length + 37 from by simp; omega, bv_append]
            exact this
          · have := W6.out
            rw [HGS.out, rv_append, rv_one, List.length_append]
            exact this
        case measure => simp [intOf]; omega
      · have HP := Lib.hid (rc_rpack_no hrv hg wr)
        have HGS := Lib.hid (show good (lst.take (k + 1)) = g by rw [HT.out, good_snoc_no hg, hgd])
        rw [← hgd] at P W hgl
        clear hrv hgd
        go_wp2_with (first | (refine wpList_value_g rfl (.agg r.cells.toArray) (exec_load_from (m := 19) rfl rfl (XC.out wr LB.out) Try.underlying26 rfl (by kernel_rfl) hr19) ?_))
        refine HP.out.mono ?_
        rintro e q4 ⟨rfl, hb⟩
        have L4 := Lib.hid (LB.out.trans (hb.mono hsr))
        have P4 := Lib.hid (own_below P.out hb)
        have W4 := Lib.hid (own_below W.out hb)
        clear hb P W HP LB hg
        go_wp2
        go_roundw
        case rel => exact ⟨k + 1, by omega, by go_num, by rw [HGS.out]; exact P4.out, by rw [HGS.out]; exact W4.out, L4.out⟩
        case measure => simp [intOf]; omega
    · obtain rfl : k = N := by omega
      rw [List.take_of_length_le (by omega)] at P W hgl
      have hga := good_all HVL.out
      have HGA := Lib.hid (fun r hr => (hga r hr).1)
      have hln := laidAll_len HGA.out
      have HSC := Lib.hid (fun c (hc : c ≤ (laidAll (good lst)).length) => scan_cut (good lst) hga c hc)
      obtain ⟨g, hgd⟩ : ∃ g, g = good lst := ⟨_, rfl⟩
      rw [← hgd] at P W hgl HSC hln HGA
      clear hga hgd
      obtain ⟨A, hA⟩ : ∃ A, A = 37 * g.length := ⟨_, rfl⟩
      rw [← hA] at P hln
      obtain ⟨za, zcap, rfl, hbt⟩ := OwnB.bts_own hln P.out
      obtain ⟨wa, wcap, rfl, hrt⟩ := recs_own rfl HGA.out W.out
      have hzc := hbt.2.1
      have hzm := hbt.2.2.1
      have hwc := hrt.2.1
      have hwm := hrt.2.2.1
      unfold maxLen at hzm hwm
      have T := Lib.hid hbt
      have Y := Lib.hid hrt
      clear hbt hrt P W
      have main : ∃ c : Nat, c ≤ A ∧ (cut < 0 ∧ c = A ∨ (0 ≤ cut ∧ (A : Int) < cut) ∧ c = A ∨ (0 ≤ cut ∧ cut ≤ A) ∧ (c : Int) = cut) := by
        by_cases h1 : cut < 0
        · exact ⟨A, by omega, .inl ⟨h1, rfl⟩⟩
        · by_cases h2 : (A : Int) < cut
          · exact ⟨A, by omega, .inr (.inl ⟨⟨by omega, h2⟩, rfl⟩)⟩
          · exact ⟨cut.toNat, by omega, .inr (.inr ⟨⟨by omega, by omega⟩, by omega⟩)⟩
      obtain ⟨c, hcA, hcc⟩ := main
      obtain ⟨q, hq⟩ : ∃ q, q = c / 37 := ⟨_, rfl⟩
      have hqg : q ≤ g.length := by omega
      have hdiv : Int.tdiv (c : Int) 37 = (q : Int) := by rw [hq, Int.natCast_ediv]; exact Int.tdiv_eq_ediv_of_nonneg (by omega)
      have hmul : IntKind.i64.wrap ((q : Int) * 37) = (q : Int) * 37 := by rw [IntKind.wrap_i64]; omega
      have hdw : IntKind.i64.wrap (q : Int) = (q : Int) := by rw [IntKind.wrap_i64]; omega
      have hcut := HSC.out c (by omega)
      rw [← hq] at hcut
      have HS2 := Lib.hid (scan_any za c zcap ((laidAll g).take c) wr (T.out.take hcA) (by omega))
      rw [hcut] at HS2
      have hgq : (g.take q).length = q := by rw [List.length_take]; omega
      rw [hgq] at HS2
      have HGQ := Lib.hid (take_rs HGA.out q)
      have SB := Lib.hid (fun w' => slice_bytes_to w' za A zcap c .i64 (by omega))
      have SR := Lib.hid (fun w' => slice_recs_to w' wa g.length wcap q .i64 (by omega))
      have YQ := Lib.hid (fun w' (h : Recs w' wa g.length wcap g) => recs_to h hqg)
      have HGL := Lib.hid hgq
      clear hcut HSC hA hq hln hgq
      rcases hcc with ⟨h1, h3⟩ | ⟨⟨h1, h2⟩, h3⟩ | ⟨⟨h1, h2⟩, h3⟩
      all_goals
        subst h3
        go_wp2_with (first | (refine wpList_value_g rfl (.slice za c zcap) (exec_slice rfl (SB.out wr)) ?_))
        refine HS2.out.mono ?_
        rintro e w6 ⟨v, rfl, ho, hb⟩
        obtain ⟨sa, scap, rfl, hst⟩ := recs_own HGL.out HGQ.out ho
        have L6 := Lib.hid (L5.out.trans ((LB.out.trans (hb.mono hsr)).mono hs5))
        have HSM := Lib.hid (same_recs sa q scap (g.take q) wa q wcap (g.take q) w6 hst (YQ.out w6 (Y.out.below hb (Nat.le_refl _))))
        rw [decide_eq_true rfl] at HSM
        clear ho hb hst HS2
        go_wp2_with (first | (refine wpList_value_g rfl (.slice wa q wcap) (exec_slice rfl (SR.out w6)) ?_))
        refine HSM.out.mono ?_
        rintro e w7 ⟨rfl, nd2, rfl⟩
        go_wp2
        go_ret
        exact ⟨ret_bool (by simp; omega), below_drewN L6.out nd2⟩
section
variable {H : Type} {enc : TypeId × Value → H} {base : Nat} {spare : Nat → Bool} {held : Bool} {W : World}
theorem scans_in (a : Option Addr) (n ca : Nat) (lf : Opens.LfOk enc Try.prog W base spare held (.slice 5) (.slice a n ca)) (b : Option Addr) (m cb : Nat) (lg : Opens.LfOk enc Try.prog W base spare held (.slice 26) (.slice b m cb)) (cut : Int) (wc : (Lit.int .i64 cut).wf = true)
    (d : DataW H) (hz : ∀ m ∈ d.weights Try.prog 27, m ≤ reachBytes) {p : List MemPlace} (h : DataW.Trod enc Try.prog W base spare held 27 (.slice a n ca) d p)
    (d' : DataW H) (hz' : ∀ m ∈ d'.weights Try.prog 36, m ≤ reachBytes) {p' : List MemPlace} (h' : DataW.Trod enc Try.prog W base spare held 36 (.slice b m cb) d' p')
    (hk : Rows.uptoBulkAll [d, d', DataW.lit (.int .i64 cut)] ≤ 1048576) :
    Calls Try.prog 4 #[.slice a n ca, .slice b m cb, .int .i64 cut] W fun e w' => e = .returned (.bool true) ∧ Below W.heap.size W w' := by
  obtain ⟨l, ha, _⟩ := bytes_in lf
  obtain ⟨fuel, hf⟩ := h
  have h1 : n + 1 ≤ Rows.uptoBulk d := Bulk.slice_len (y := (d, p)) Try.underlying27 hf
  obtain ⟨lb, hb, h2⟩ := recs_in h' hz'
  simp only [Rows.uptoBulkAll] at hk
  exact scans_walk a n ca l b m cb lb cut W ha hb (by omega)
end
end Go.Proofs.Ytmmgejlfcehipaa.Codec
