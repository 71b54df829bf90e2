/-
  awake by contract. Helper text; no statement is proved here.
-/
import Derived.Test.YtfjaoompdleljaaLinkGot
set_option linter.unusedVariables false
set_option maxRecDepth 20000
set_option linter.unusedSimpArgs false
namespace Go.Proofs.Ytfjaoompdleljaa.Link
open Go.RowKit Go.Proofs.Ytfjaoompdleljaa.Base Go.Proofs.Ytfjaoompdleljaa.Laws Go.Proofs.Ytfjaoompdleljaa.Disk Go.Proofs.Ytfjaoompdleljaa.Row Go.Proofs.Ytfjaoompdleljaa.Flat Go.Proofs.Ytfjaoompdleljaa.InvM
def k0 : Lk := ⟨0, ⟨[], 0, 0, []⟩, ⟨[], 0, 0, []⟩, []⟩
def k1 : Lk := k0.send 0 [5]
def k2 : Lk := (k1.less 0).comes ⟨0, ⟨0, 1, 0, [5]⟩⟩
theorem k1_got (n : Nat) (hn : n < 2) : ((k1.en n).got.length + 1) * 24 ≤ 140737488355328 := by
  obtain rfl | rfl : n = 0 ∨ n = 1 := by omega
  · decide
  · decide
theorem awake_any (w : World) : Calls Try.prog 9 #[] w fun e w' => e = .returned (.bool true) ∧ Below w.heap.size w w' := by
  have NW := Lib.hid (new_any w)
  go_enter Try.func9, Try.ntmps9
  go_upto_region 2 with (go_at_call 10; refine NW.out.mono ?_; rintro e w1 ⟨rfl, hl, hb⟩; have HL := Lib.hid hl; have HB := Lib.hid hb; clear hl hb NW)
  obtain ⟨bl, hbl⟩ : ∃ bl, bl = w.heap.size := ⟨_, rfl⟩
  have HBL := Lib.hid hbl
  rw [← hbl] at HL ⊢
  clear hbl
  obtain ⟨w2, hw2⟩ : ∃ w2, w2 = w1.alloc (.cells #[.int .u8 5] 5) := ⟨_, rfl⟩
  have b2 : Below w1.heap.size w1 w2 := hw2 ▸ (Below.refl w1.heap.size w1).alloc (Nat.le_refl _) _
  have L2 := Lib.hid (HL.out.below b2)
  have hs1 := HB.out.size
  have bt : Bts w2 (some ⟨w1.heap.size, 0, none⟩) 1 1 [5] := by
    refine ⟨rfl, by omega, by unfold maxLen; omega, .inr ⟨_, _, rfl, fun i u hu => ?_⟩⟩
    have hz : Blk w2 w1.heap.size [.int .u8 5] 5 := by rw [hw2]; exact blk_at rfl rfl
    have hi : i = 0 := by have := (List.getElem?_eq_some_iff.1 hu).1; simp at this; exact this
    subst hi
    have := hz.cell 0
    simp at hu
    subst hu
    exact this
  have SD := Lib.hid (send_ok0 L2.out w1.heap.size 0 1 1 [5] rfl (by decide) (by decide) bt (by decide) (by decide) (fun hx => by have := HL.out.reach_lt hx; omega))
  have B2 := Lib.hid (HB.out.trans (b2.mono hs1))
  rw [hw2] at SD B2 L2
  clear bt b2
  go_upto_region 5 with (first | (go_at_call 11; refine SD.out.mono ?_; rintro e w3 ⟨rfl, V3, g3⟩; have G3 := Lib.hid g3; have DV := Lib.hid (deliver_any g3.at_ 0 ⟨0, ⟨0, 1, 0, [5]⟩⟩ rfl (by decide) k1_got); clear g3) | (go_at_call 15; refine DV.out.mono ?_; rintro e w4 ⟨rfl, V4, g4⟩; have G4 := Lib.hid g4; have GT := Lib.hid (got_any g4.at_ 1 (by decide) (by decide)); clear g4) | (go_at_call 16; refine GT.out.mono ?_; rintro e w5 ⟨v, rfl, hr5, hb5⟩; have HR5 := Lib.hid hr5; have HB5 := Lib.hid hb5; clear hr5 hb5))
  obtain ⟨g, c, y, ee, hg, hc, hY⟩ := (show RowOf w5 _ _ _ 1 gc id v [[5]] from HR5.out).at_ (fun _ => rfl) 0 [5] rfl
  have ee' : v = .slice (some ⟨g, 0, none⟩) 1 c := ee
  clear ee
  subst ee'
  have q1 : w5.cell? ⟨g, 0, none⟩ = some y := by simpa using hc 0 y rfl
  rcases hY with ⟨e, _⟩ | ⟨g', o, c', ey, _, _, h3, _⟩
  · cases e
  have ey' : y = .slice (some ⟨g', o, none⟩) 1 c' := ey
  clear ey
  subst ey'
  have q2 : w5.cell? ⟨g', o, none⟩ = some (.int .u8 5) := by
    rcases h3.2.2.2 with h4 | ⟨gb, og, ea, hcc⟩
    · cases h4
    · cases ea
      exact hcc 0 5 rfl
  clear hc h3
  have LE := Lib.hid (show Below w.heap.size w w5 from by
    have o4 := G3.out.trans G4.out
    have h1 := B2.out.size
    have hb5 := HB5.out
    have hm : Below w.heap.size _ w4 := ⟨o4.only.os, o4.only.tape, o4.only.output, o4.only.size, fun x hx => o4.only.block x (by omega) (fun hm => by have := L2.out.reach_lt hm; have := HBL.out; omega)⟩
    exact (B2.out.trans hm).trans (hb5.mono (by have := o4.only.size; omega)))
  clear HR5 HB5 GT DV SD G3 G4
  go_wp2_with fail
  go_ret
  exact ⟨rfl, LE.out⟩
end Go.Proofs.Ytfjaoompdleljaa.Link
