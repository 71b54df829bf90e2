/-
  Clone of the library by contract, its answer told exactly. Helper text; no statement is proved here.
-/
import Derived.Test.YtfjaoompdleljaaSlices
import Derived.Deep.Cut
import Derived.Lib.LazyBuf
set_option linter.unusedVariables false
set_option maxRecDepth 20000
set_option linter.unusedSimpArgs false
namespace Go.Proofs.Ytfjaoompdleljaa.Codec
open Go.RowKit Go.Proofs.Ytfjaoompdleljaa.Base Go.Proofs.Ytfjaoompdleljaa.Laws
/-- how much room a clone of n bytes has -/
def cloneCap (w0 : World) (n : Nat) : Nat := if n = 0 then 0 else grownCap w0 n 0 5
def cloneOff (n : Nat) : Nat := if n = 0 then 0 else 1
theorem grownCap_same {w w0 : World} (ht : w.tape = w0.tape) (hd : w.drawn = w0.drawn) (n o : Nat) (e : TypeId) : grownCap w n o e = grownCap w0 n o e := by
  unfold grownCap
  rw [ht, hd]
theorem wpList_append_grow {w : World} {ops : Array Oper} {rest : List Oper} {o : Oper} {a : Act} {Q : Exit → Act → World → Prop} (hgd : o.guard = none) (s x : Operand)
    (ho : o.op = .call { callee := .builtin .append, args := #[s, x], argTypes := #[23, 23] })
    (g : Nat) (hs : a.eval s = .slice (some ⟨g, 0, none⟩) 0 0) (ad : Addr) (m c : Nat) (news : List Value) (hx : a.eval x = .slice (some ad) m c) (hy : SrcOf w (some ad) m 1 news) (hm0 : 0 < m)
    (hm : m ≤ 140737488355328)
    (h : wpList Try.prog ops Q rest (a.put o.dst (.slice (some ⟨w.heap.size, 0, none⟩) m (grownCap w m 0 5))) (w.drew.alloc (.cells (#[] ++ news.toArray ++ Builtin.zeroCells (Value.int .u8 0).cells (grownCap w m 0 5 - m)) 5))) : wpList Try.prog ops Q (o :: rest) a w := by
  obtain ⟨i, hi, hz, hsize, hby⟩ := info_parts OwnB.infou8
  refine wpList_plain hgd fun K hK => ?_
  obtain ⟨hl, h1, h2⟩ := hy
  rcases h2 with h2 | ⟨ad', e, hc⟩
  · omega
  obtain rfl := Option.some.inj e
  have hr := run_append_grow (P := Try.prog) w 23 o.type 5 i (.int .u8 0) Try.underlying23 hi hz ⟨g, 0, none⟩ 0 0 [] (by simp) (fun j u hu => by simp at hu) ad m c news (by rw [hl, hsize]) hc (by omega) (by omega) (by rw [hby]; exact growslice_fits (by omega) (by omega))
  unfold Oper.wp execOp
  simp only [ho, resolve, invoke, builtin, Sem.run_bind, Sem.run_pure, Result.andThen_ok, List.map_toArray, List.map_cons, List.map_nil, hs, hx, hr]
  simp only [Nat.zero_add] at *
  exact hK _ _ h
theorem run_eql_slice_nil' (w : World) (ad : Addr) (l c : Nat) : (binOp .eql 23 (.slice (some ad) l c) (.slice none 0 0)).run Try.prog w = .ok (.bool false) w :=
  Go.run_eql_slice_nil w _ _ _ _ _ Try.underlying23
theorem bts_grown {w : World} {g n cp : Nat} {l : List UInt8} {z : Array Value} (hg : w.heap.size = g) (hl : l.length = n) (h1 : n ≤ cp) (h2 : cp ≤ maxLen) : Bts (w.alloc (.cells ((bv l).toArray ++ z) 5)) (some ⟨g, 0, none⟩) n cp l := by
  subst hg
  refine ⟨hl, h1, h2, .inr ⟨_, _, rfl, fun i u hu => ?_⟩⟩
  have hi := (List.getElem?_eq_some_iff.1 hu).1
  rw [Nat.zero_add, cell_of_row _ _ _ _ 5 (0, 0) (heap_alloc_new w _)]
  have : ((bv l).toArray ++ z)[i]? = (bv l)[i]? := by
    rw [Array.getElem?_append_left (by simp [bv_len]; omega)]
    simp
  rw [this, bv_get, hu]
  rfl
set_option maxHeartbeats 1000000 in
theorem clone_any (ad : Addr) (n c : Nat) (l : List UInt8) (hn : n ≤ 140737488355328) (w w0 : World) (ht : w.tape = w0.tape) (hd : w.drawn = w0.drawn) (h : Bts w (some ad) n c l) :
    Calls Try.prog 33 #[.slice (some ad) n c] w fun x w' => x = .returned (.slice (some ⟨w.heap.size + cloneOff n, 0, none⟩) n (cloneCap w0 n)) ∧ w'.heap.size = w.heap.size + 1 + cloneOff n ∧ Bts w' (some ⟨w.heap.size + cloneOff n, 0, none⟩) n (cloneCap w0 n) l ∧ Below w.heap.size w w' := by
  have hl := h.1
  have HT := Lib.hid (OwnB.src_bts (bts_alloc h (.cells #[] 5)))
  have HG := Lib.hid (grownCap_same ht hd n 0 5)
  have HG2 := Lib.hid (grownCap_ge w0 n 0 5)
  have HG3 := Lib.hid (grownCap_le_maxLen w0 n 0 5 (by unfold maxLen; omega))
  have hq := fun w' => run_eql_slice_nil' w' ad n c
  clear h ht hd
  by_cases h0 : n = 0
  · subst h0
    obtain rfl : l = [] := List.eq_nil_of_length_eq_zero hl
    have e1 : cloneOff 0 = 0 := rfl
    have e2 : cloneCap w0 0 = 0 := rfl
    have hl0 := Lib.hid hl
    have M1 := Lib.hid (World.ownsRow_made (e := 5) (size := 1) (base := w.heap.size) w #[] 0 (Nat.le_refl _) (Nat.zero_le _) rfl)
    have L1 := Lib.hid ((Below.refl w.heap.size w).alloc (Nat.le_refl _) (.cells #[] 5))
    rw [e1, e2]
    clear e1 e2 hl
    go_enter Try.func33, Try.ntmps33
    go_wp2
    go_ret
    exact ⟨rfl, by simp only [size_alloc], ⟨hl0.out, by omega, by unfold maxLen; omega, .inl rfl⟩, L1.out⟩
  · have e1 : cloneOff n = 1 := if_neg h0
    have e2 : cloneCap w0 n = grownCap w0 n 0 5 := if_neg h0
    rw [e1, e2]
    have hn0 : 0 < n := by omega
    have HG3E := Lib.hid (grownCap_same (w := w.alloc (.cells #[] 5)) (w0 := w) rfl rfl n 0 5 |>.trans HG.out)
    clear e1 e2
    go_enter Try.func33, Try.ntmps33
    go_wp2_with (first | (at_builtin; refine wpList_append_grow rfl _ _ rfl w.heap.size rfl ad n c (bv l) rfl HT.out hn0 hn ?_))
    have BT := Lib.hid (show Bts ((w.alloc (.cells #[] 5)).alloc (.cells ((bv l).toArray ++ Builtin.zeroCells #[.int .u8 0] (grownCap (w.alloc (.cells #[] 5)) n 0 5 - n)) 5)).drew _ _ _ _ from bts_grown (w := w.alloc (.cells #[] 5)) (g := w.heap.size + 1) (z := Builtin.zeroCells #[.int .u8 0] (grownCap (w.alloc (.cells #[] 5)) n 0 5 - n)) (by simp) hl HG2.out HG3.out)
    have BL := Lib.hid (show Below w.heap.size w ((w.alloc (.cells #[] 5)).alloc (.cells ((bv l).toArray ++ Builtin.zeroCells #[.int .u8 0] (grownCap (w.alloc (.cells #[] 5)) n 0 5 - n)) 5)).drew from (((Below.refl w.heap.size w).alloc (Nat.le_refl _) (.cells #[] 5)).alloc (by simp) _).drew)
    have HZ := Lib.hid (show ((w.alloc (.cells #[] 5)).alloc (.cells ((bv l).toArray ++ Builtin.zeroCells #[.int .u8 0] (grownCap (w.alloc (.cells #[] 5)) n 0 5 - n)) 5)).drew.heap.size = w.heap.size + 1 + 1 from by simp)
    obtain ⟨w2, hw2⟩ : ∃ w2, w2 = ((w.alloc (.cells #[] 5)).alloc (.cells ((bv l).toArray ++ Builtin.zeroCells #[.int .u8 0] (grownCap (w.alloc (.cells #[] 5)) n 0 5 - n)) 5)).drew := ⟨_, rfl⟩
    rw [← hw2] at BT BL HZ ⊢
    rw [HG3E.out]
    clear hw2
    go_ret
    exact ⟨rfl, HZ.out, BT.out, BL.out⟩
end Go.Proofs.Ytfjaoompdleljaa.Codec
