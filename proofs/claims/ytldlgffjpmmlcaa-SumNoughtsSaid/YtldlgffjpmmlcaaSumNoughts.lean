/-
  The walk of SumNoughts. Helper text; no statement is proved here.
-/
import Derived.Test.YtldlgffjpmmlcaaJoinW
import Derived.Test.YtldlgffjpmmlcaaSum2Crcs
import Derived.Test.YtldlgffjpmmlcaaOpens
import Derived.OwnWalk
set_option linter.unusedVariables false
set_option linter.unusedSimpArgs false
namespace Go.Proofs.Ytldlgffjpmmlcaa.Joins
open Go.RowKit Go.Proofs.Ytldlgffjpmmlcaa.Base Go.Proofs.Ytldlgffjpmmlcaa.Laws
theorem join_lt {a b : Nat} (n : Nat) (ha : a < 4294967296) (hb : b < 4294967296) : Crc.join a b n < 4294967296 := Crc.xor_lt _ _ (Crc.fN_lt _ _ ha) hb
theorem join_join (a b c m n : Nat) : Crc.join (Crc.join a b m) c n = Crc.join a (Crc.join b c n) (m + n) := by
  unfold Crc.join
  rw [Crc.fN_xor, ← Crc.fN_add, ← Nat.mul_add, Nat.xor_assoc]
theorem join_more (a : Nat) (z : List UInt8) : Crc.join a (Crc.crc z) z.length = Crc.more a z := by
  unfold Crc.join Crc.crc Crc.more
  rw [Crc.reg_xor z Crc.ones a, Crc.reg_xor z Crc.ones 0, Crc.fN_zero, Nat.xor_zero]
  ac_rfl
def zs (k : Nat) : List UInt8 := List.replicate k 0
theorem zs_bv (k : Nat) : List.replicate k (Value.int .u8 0) = bv (zs k) := by
  unfold bv zs u8
  rw [List.map_replicate]
  rfl
theorem info_byte : (Try.prog.info? 5).map (fun i => (i.zero, i.size, i.bytes)) = some (some (.int .u8 0), 1, 1) := by kernel_rfl
set_option maxHeartbeats 1000000 in
theorem noughts_walk (a b c m n : Nat) (ha : a < 4294967296) (hb : b < 4294967296) (hc : c < 4294967296) (hm : m < 65536) (hn : n < 65536) (w : World) :
    Calls Try.prog 9 #[.int .u32 (a : Int), .int .u32 (b : Int), .int .u32 (c : Int), .int .u16 (m : Int), .int .u16 (n : Int)] w fun e w' => e = .returned (.bool true) ∧ Below w.heap.size w w' := by
  obtain ⟨i, hi, hz0, hz1, hz2⟩ := info_parts info_byte
  obtain ⟨x, hxe⟩ : ∃ x, x = Crc.join a b m := ⟨_, rfl⟩
  have hx : x < 4294967296 := hxe ▸ join_lt m ha hb
  have H1 := Lib.hid (fun w => hxe ▸ join_any a b m ha hb (by omega) w : ∀ w, Calls Try.prog 19 #[.int .u32 (a : Int), .int .u32 (b : Int), .int .i64 m] w fun e w' => e = .returned (.tuple #[.int .u32 (x : Nat), .int .i64 0]) ∧ Below w.heap.size w w')
  obtain ⟨y, hye⟩ : ∃ y, y = Crc.join x c n := ⟨_, rfl⟩
  have H2 := Lib.hid (fun w => hye ▸ join_any x c n hx hc (by omega) w : ∀ w, Calls Try.prog 19 #[.int .u32 (x : Int), .int .u32 (c : Int), .int .i64 n] w fun e w' => e = .returned (.tuple #[.int .u32 (y : Nat), .int .i64 0]) ∧ Below w.heap.size w w')
  obtain ⟨z, hze⟩ : ∃ z, z = Crc.join b c n := ⟨_, rfl⟩
  have hz : z < 4294967296 := hze ▸ join_lt n hb hc
  have H3 := Lib.hid (fun w => hze ▸ join_any b c n hb hc (by omega) w : ∀ w, Calls Try.prog 19 #[.int .u32 (b : Int), .int .u32 (c : Int), .int .i64 n] w fun e w' => e = .returned (.tuple #[.int .u32 (z : Nat), .int .i64 0]) ∧ Below w.heap.size w w')
  have hy2 : Crc.join a z (m + n) = y := by rw [hye, hxe, hze, join_join]
  have H4 := Lib.hid (fun w => hy2 ▸ join_any a z (m + n) ha hz (by omega) w : ∀ w, Calls Try.prog 19 #[.int .u32 (a : Int), .int .u32 (z : Int), .int .i64 (((m + n : Nat)) : Int)] w fun e w' => e = .returned (.tuple #[.int .u32 (y : Nat), .int .i64 0]) ∧ Below w.heap.size w w')
  rw [show (((m + n : Nat)) : Int) = (m : Int) + (n : Int) from by omega] at H4
  have hk : m % 200 < 200 := Nat.mod_lt _ (by decide)
  obtain ⟨k, hke⟩ : ∃ k, k = m % 200 := ⟨_, rfl⟩
  rw [← hke] at hk
  have HK := Lib.hid (show ((m : Int) % 200) = (k : Int) from by omega)
  obtain ⟨v, hve⟩ : ∃ v, v = Crc.more a (zs k) := ⟨_, rfl⟩
  obtain ⟨u, hue⟩ : ∃ u, u = Crc.crc (zs k) := ⟨_, rfl⟩
  have hu : u < 4294967296 := hue ▸ Crc.crc_lt _
  have hv2 : Crc.join a u k = v := by
    have := join_more a (zs k)
    rw [show (zs k).length = k from by simp [zs]] at this
    rw [hue, hve, this]
  have H5 := Lib.hid (fun w => hv2 ▸ join_any a u k ha hu (by omega) w : ∀ w, Calls Try.prog 19 #[.int .u32 (a : Int), .int .u32 (u : Int), .int .i64 k] w fun e w' => e = .returned (.tuple #[.int .u32 (v : Nat), .int .i64 0]) ∧ Below w.heap.size w w')
  have H6 := Lib.hid (fun w g h => hue ▸ SumW.crc_any (some ⟨g, 0, none⟩) k k (zs k) w h : ∀ w g, Bts w (some ⟨g, 0, none⟩) k k (zs k) → Calls Try.prog 11 #[.slice (some ⟨g, 0, none⟩) k k] w fun e w' => e = .returned (.int .u32 (u : Nat)) ∧ w = w')
  have H7 := Lib.hid (fun w g h => hve ▸ SumW.more_any a ha (some ⟨g, 0, none⟩) k k (zs k) w h : ∀ w g, Bts w (some ⟨g, 0, none⟩) k k (zs k) → Calls Try.prog 13 #[.int .u32 (a : Int), .slice (some ⟨g, 0, none⟩) k k] w fun e w' => e = .returned (.int .u32 (v : Nat)) ∧ w = w')
  clear hxe hye hze hy2 hke hve hue hv2
  go_enter Try.func9, Try.ntmps9
  go_wp2_with fail
  refine (Sum2.awake_any _).mono ?_
  rintro e w1 ⟨rfl, hb1⟩
  have B1 := Lib.hid hb1
  clear hb1
  go_wp2_with fail
  refine (H1.out _).mono ?_
  rintro e w2 ⟨rfl, hb1⟩
  have B2 := Lib.hid (B1.out.trans (hb1.mono B1.out.size))
  clear hb1
  go_wp2_with fail
  refine (H2.out _).mono ?_
  rintro e w3 ⟨rfl, hb1⟩
  have B3 := Lib.hid (B2.out.trans (hb1.mono B2.out.size))
  clear hb1
  go_wp2_with fail
  refine (H3.out _).mono ?_
  rintro e w4 ⟨rfl, hb1⟩
  have B4 := Lib.hid (B3.out.trans (hb1.mono B3.out.size))
  clear hb1
  go_wp2_with fail
  refine (H4.out _).mono ?_
  rintro e w5 ⟨rfl, hb1⟩
  have B5 := Lib.hid (B4.out.trans (hb1.mono B4.out.size))
  clear hb1
  go_wp2_with (first | (at_make; refine wpList_make_full _ rfl _ _ 23 rfl w5.heap.size 5 i (.int .u8 0) 1 Try.underlying23 hi hz0 hz1 .i64 .i64 _ _ k rfl rfl (by exact HK.out) (by exact HK.out) (by rw [hz2]; omega) (by unfold maxLen; omega) (Nat.le_refl _) ?_))
  intro w6 hown hgr
  have hmc : (madeCells #[Value.int .u8 0] k).toList = bv (zs k) := by
    rw [← zs_bv]
    exact toList_madeCells_one _ _
  rw [hmc] at hown
  obtain ⟨a', cap', he, hbt⟩ := Sum2.bts_own (by simp [zs]) hown
  have hbg : Below w5.heap.size w5 w6 := (Below.refl _ _).grown hgr (Nat.le_refl _) (fun k hk => by cases hk)
  simp only [Value.slice.injEq] at he
  obtain ⟨rfl, he2, rfl⟩ := he
  clear he2 hown hgr hmc
  have HT := Lib.hid hbt
  have B6 := Lib.hid (B5.out.trans (hbg.mono B5.out.size))
  clear hbt hbg
  go_wp2_with fail
  refine (H6.out _ _ HT.out).mono ?_
  rintro e w' ⟨rfl, rfl⟩
  go_wp2_with fail
  refine (H5.out _).mono ?_
  rintro e w7 ⟨rfl, hb1⟩
  have HT7 := Lib.hid (HT.out.below hb1 (Nat.le_refl _))
  have B7 := Lib.hid (B6.out.trans (hb1.mono B6.out.size))
  clear hb1
  go_wp2_with fail
  refine (H7.out _ _ HT7.out).mono ?_
  rintro e w' ⟨rfl, rfl⟩
  go_wp2
  go_ret
  exact ⟨by simp, B7.out⟩
theorem noughts_in (a : Int) (ha : (Lit.int .u32 a).wf = true) (b : Int) (hb : (Lit.int .u32 b).wf = true) (c : Int) (hc : (Lit.int .u32 c).wf = true) (m : Int) (hm : (Lit.int .u16 m).wf = true) (n : Int) (hn : (Lit.int .u16 n).wf = true) {W : World} :
    Calls Try.prog 9 #[.int .u32 a, .int .u32 b, .int .u32 c, .int .u16 m, .int .u16 n] W fun e w' => e = .returned (.bool true) ∧ Below W.heap.size W w' := by
  obtain ⟨a, ha', rfl⟩ := Opens.wf_u32 ha
  obtain ⟨b, hb', rfl⟩ := Opens.wf_u32 hb
  obtain ⟨c, hc', rfl⟩ := Opens.wf_u32 hc
  obtain ⟨m, hm', rfl⟩ := Opens.wf_u16 hm
  obtain ⟨n, hn', rfl⟩ := Opens.wf_u16 hn
  exact noughts_walk a b c m n ha' hb' hc' hm' hn' W
end Go.Proofs.Ytldlgffjpmmlcaa.Joins
