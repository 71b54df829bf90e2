/-
  The fixed fact of the codec's statements. Helper text; no statement is proved here.
-/
import Derived.Test.YtmmgejlfcehipaaRecBack
set_option linter.unusedVariables false
set_option linter.unusedSimpArgs false
namespace Go.Proofs.Ytmmgejlfcehipaa.Codec
open Go.RowKit Go.Proofs.Ytmmgejlfcehipaa.Base Go.Proofs.Ytmmgejlfcehipaa.Laws
theorem ok75 : Ok 1 ((5 : Nat) : Int) := ⟨⟨by decide, by decide⟩, ⟨by decide, by decide⟩⟩
set_option maxRecDepth 4000 in
set_option maxHeartbeats 2000000 in
theorem awake_any (w : World) : Calls Try.prog 13 #[] w fun e w' => e = .returned (.bool true) ∧ Below w.heap.size w w' := by
  have HP := Lib.hid (fun w' => pack_yes (k := 1) (v := 7) (a := 5) (l := OwnB.zs 16) rfl (by decide) ok75 w'.heap.size w' (Nat.le_refl _))
  have hb := rec_back' (k := 1) (v := 7) (a := 5) (l := OwnB.zs 16) rfl (by decide) ok75
  have h37 := rec37_len 1 7 5 (OwnB.zs 16) rfl
  rw [show rec33 1 7 5 (OwnB.zs 16) ++ be 4 (Crc.crc (rec33 1 7 5 (OwnB.zs 16))) = rec37 1 7 5 (OwnB.zs 16) from rfl] at HP
  obtain ⟨L, hL⟩ : ∃ L, L = rec37 1 7 5 (OwnB.zs 16) := ⟨_, rfl⟩
  rw [← hL] at HP hb h37
  obtain ⟨_, o1, o2⟩ := hb
  have HU := Lib.hid (fun a cap w' (h : Bts w' a 37 cap L) => unpack_any a 37 cap L w' h)
  rw [o1, o2] at HU
  obtain ⟨rc, hrc⟩ : ∃ rc, rc = recV 1 7 ((5 : Nat) : Int) (OwnB.zs 16) := ⟨_, rfl⟩
  have hr19 : rc.length = 19 := by rw [hrc]; rfl
  have hr1 : ∀ u ∈ rc, u.oneCell' = true := by rw [hrc]; exact recV_one _ _ _ _
  have HR := Lib.hid hrc
  have B3 := Lib.hid (built_three 1 7 ((5 : Nat) : Int))
  rw [← hrc] at HP HU B3
  clear hrc o1 o2 hL
  go_enter Try.func13, Try.ntmps13
  go_upto_region 1 with (fail)
  go_wp2_with (first | (refine wpList_builds rfl 26 _ rfl [(0, .int .i64 1), (1, .int .u64 7), (2, .int .i64 5)] rfl _ B3.out ?_))
  refine (HP.out _).mono ?_
  rintro e w1 ⟨p, rfl, ho, hb1⟩
  obtain ⟨pa, pcap, rfl, hbt⟩ := OwnB.bts_own h37 ho
  have HU2 := Lib.hid (HU.out pa pcap w1 hbt)
  have L1 := Lib.hid hb1
  have hs1 := hb1.size
  clear ho hbt hb1 HP HU B3
  go_wp2_with fail
  refine HU2.out.mono ?_
  rintro e w2 ⟨rfl, hb2⟩
  have L2 := Lib.hid (L1.out.trans (hb2.mono hs1))
  have hs2 := L2.out.size
  have Z2 := Lib.hid (blk_at (w := w2) (g := w2.heap.size) (cs := zrec) (t := 26) (arr := #[.int .i64 0, .int .u64 0, .int .i64 0, .int .u8 0, .int .u8 0, .int .u8 0, .int .u8 0, .int .u8 0, .int .u8 0, .int .u8 0, .int .u8 0, .int .u8 0, .int .u8 0, .int .u8 0, .int .u8 0, .int .u8 0, .int .u8 0, .int .u8 0, .int .u8 0]) rfl rfl)
  clear hb2 L1 HU2
  go_wp2_with (first | (refine wpList_store_blk rfl 26 _ _ rfl w2.heap.size 0 19 rfl 26 zrec rc rfl Z2.out (by kernel_rfl) hr19 (by decide) hr1 ?_; intro w3 z3 g3; rw [put_all _ _ (by rw [hr19]; rfl)] at z3; have L3 := Lib.hid (below_grown (L2.out.alloc hs2 _) g3 (by simp only [size_alloc]; omega) hs2); have k1 := z3.cell 1; have k2 := z3.cell 2; rw [HR.out] at k1 k2; change _ = some (Value.int .u64 7) at k1; change _ = some (Value.int .i64 5) at k2; clear z3 g3))
  go_ret
  exact ⟨rfl, L3.out⟩
end Go.Proofs.Ytmmgejlfcehipaa.Codec
