/-
  seal of the codec by contract. Helper text; no statement is proved here.
-/
import Derived.Test.YtobblbplanimgaaCodecW
import Derived.Test.YtobblbplanimgaaOwnB
import Derived.StillTailTactics
set_option linter.unusedVariables false
set_option maxRecDepth 20000
set_option linter.unusedSimpArgs false
namespace Go.Proofs.Ytobblbplanimgaa.Codec
open Go.RowKit Go.Proofs.Ytobblbplanimgaa.Base Go.Proofs.Ytobblbplanimgaa.Laws Go.Proofs.Ytobblbplanimgaa.Inv
set_option maxHeartbeats 1000000 in
theorem seal_any (base : Nat) (v : Value) (n : Nat) (l : List UInt8) (hln : l.length = n) (hn : n ≤ 1000) (w : World) (hb : base ≤ w.heap.size) (h : w.ownsRow base 5 1 v n (bv l)) :
    Calls Try.prog 45 #[v] w fun e w' => ∃ v', e = .returned v' ∧ w'.ownsRow base 5 1 v' (n + 4) (bv (l ++ be 4 (Crc.crc l))) ∧ Below base w w' := by
  obtain ⟨a, cap, rfl, hbt⟩ := OwnB.bts_own hln h
  have HO := Lib.hid h
  have hcr := Crc.crc_lt l
  obtain ⟨k, hk⟩ : ∃ k, k = Crc.crc l := ⟨_, rfl⟩
  have HC := Lib.hid (fun w' h => hk ▸ SumW.crc_any a n cap l w' h : ∀ w', Bts w' a n cap l → Calls Try.prog 54 #[.slice a n cap] w' fun e w'' => e = .returned (.int .u32 (k : Nat)) ∧ w' = w'')
  rw [← hk] at hcr ⊢
  have HT := Lib.hid (show Bts (w.alloc (.cells #[.int .u8 0, .int .u8 0, .int .u8 0, .int .u8 0] 101)).drew a n cap l from hbt.below (w' := w.alloc (.cells #[.int .u8 0, .int .u8 0, .int .u8 0, .int .u8 0] 101)) ((Below.refl _ _).alloc (Nat.le_refl _) _) (Nat.le_refl _))
  clear h hbt hk
  go_enter Try.func45, Try.ntmps45
  go_wp2
  refine wp_region_still_tail 4 (by kernel_rfl) (by kernel_rfl) ?_
  simp only [List.take_succ_cons, List.take_zero, List.drop_succ_cons, List.drop_zero]
  still_step
  still_step
  still_call ((HC.out (w.alloc (.cells #[.int .u8 0, .int .u8 0, .int .u8 0, .int .u8 0] 101)).drew HT.out).mono fun e w' ⟨a, b⟩ => ⟨a, b.symm⟩)
  still_step
  refine wpStill_nil ?_
  obtain ⟨wd, hwd⟩ : ∃ wd, wd = (w.alloc (.cells #[.int .u8 0, .int .u8 0, .int .u8 0, .int .u8 0] 101)).drew := ⟨_, rfl⟩
  change wpList _ _ _ _ _ (w.alloc (.cells #[.int .u8 0, .int .u8 0, .int .u8 0, .int .u8 0] 101)).drew
  have B := Lib.hid (show Blk wd w.heap.size (bv [0, 0, 0, 0]) 101 from hwd ▸ (blk_at rfl rfl : Blk (w.alloc (.cells #[.int .u8 0, .int .u8 0, .int .u8 0, .int .u8 0] 101)) w.heap.size (bv [0, 0, 0, 0]) 101))
  have HOd := Lib.hid (show wd.ownsRow base 5 1 (.slice a n cap) n (bv l) from hwd ▸ HO.out.alloc _)
  have HBd := Lib.hid (show Below base w wd from hwd ▸ ((Below.refl _ _).alloc hb _).drew)
  have hsz : wd.heap.size = w.heap.size + 1 := by rw [hwd]; simp
  rw [← hwd]
  clear hwd HT
  have HNm := Lib.hid (number_any w.heap.size 0 4 4 k [0, 0, 0, 0] 101 (by omega) (by decide) (by decide) (by decide) (by decide) (by decide) wd B.out)
  go_wp2_with fail
  refine HNm.out.mono ?_
  rintro e w3 ⟨rfl, b3, g3⟩
  rw [show put ([0, 0, 0, 0] : List UInt8) 0 (be 4 k) = be 4 k from put_all _ _ (by rw [be_len]; rfl)] at b3
  have B3 := Lib.hid b3
  have HO3 := Lib.hid (HOd.out.kept g3 (by
    by_cases e : (Value.slice a n cap).ownBlock = none
    · exact .inl e
    · refine .inr fun e2 => ?_
      have := (HO.out.lt w.heap.size e2).2
      omega))
  have HB3 := Lib.hid (below_grown HBd.out g3 (by omega) hb)
  have HS := Lib.hid (OwnB.src_bts (b3.bts (n := 4) (cap := 4) (be_len 4 k) (by decide) (by decide)))
  have hs3 := b3.lt
  clear b3 g3
  go_wp2_with (first | (at_builtin; refine wpList_append_any _ rfl _ _ 46 rfl base 5 (.int .u8 0) 1 1 Try.underlying46 OwnB.infou8 rfl (by decide) _ n (bv l) rfl HO3.out (some ⟨w.heap.size, 0, none⟩) 4 4 (bv (be 4 k)) rfl HS.out ?c1 ?c2 ?c3 ?_))
  case c1 => omega
  case c2 => unfold maxLen; omega
  case c3 => omega
  intro v' w4 hown hgrow
  rw [← bv_append] at hown
  have HF := Lib.hid hown
  have HB4 := Lib.hid (HB3.out.grown hgrow (by omega) (fun q hq => (HO3.out.lt q hq).1))
  clear hown hgrow
  go_wp2
  go_ret
  exact ⟨v', rfl, HF.out, HB4.out⟩
end Go.Proofs.Ytobblbplanimgaa.Codec
