/-
  Superblocks: cells and bytes; a copy out of a string. Helper text; no statement is proved here.
-/
import Derived.Test.YtmmgejlfcehipaaLayCheck
import Derived.Test.YtmmgejlfcehipaaRefPack
import Derived.Test.YtmmgejlfcehipaaUnpack
set_option linter.unusedVariables false
set_option linter.unusedSimpArgs false
namespace Go.Proofs.Ytmmgejlfcehipaa.Codec
open Go.RowKit Go.Proofs.Ytmmgejlfcehipaa.Base Go.Proofs.Ytmmgejlfcehipaa.Laws Go.Proofs.Ytmmgejlfcehipaa.Lay
/-- a superblock -/
structure Su where
  d : Int
  c : Int
  s : Int
  k : Int
  arr : Nat
  seq : Nat
  m : Int
  deriving DecidableEq
def Su.cells (x : Su) : List Value := [.int .i64 x.d, .int .i64 x.c, .int .i64 x.s, .int .i64 x.k, .int .u32 (x.arr : Int), .int .u64 (x.seq : Int), .int .i64 x.m]
def Su.Good (x : Su) : Prop := Sound x.d x.c x.s ∧ (0 ≤ x.k ∧ x.k < x.d) ∧ (0 ≤ x.m ∧ x.m ≤ x.c * x.s)
instance instSuGood (x : Su) : Decidable x.Good := by unfold Su.Good Sound; infer_instance
def rave : List UInt8 := [82, 65, 86, 69]
/-- a superblock's bytes ahead of the sum, and with it -/
def Su.b41 (x : Su) : List UInt8 := rave ++ be 2 x.d.toNat ++ be 2 x.c.toNat ++ be 2 x.s.toNat ++ be 2 x.k.toNat ++ be 4 x.arr ++ be 8 x.seq ++ be 8 x.m.toNat ++ OwnB.zs 9
def Su.bytes (x : Su) : List UInt8 := x.b41 ++ be 4 (Crc.crc x.b41)
theorem Su.b41_len (x : Su) : x.b41.length = 41 := by simp [Su.b41, rave, be_len, zs_len]
theorem Su.bytes_len (x : Su) : x.bytes.length = 45 := by simp [Su.bytes, Su.b41_len, be_len]
theorem run_copy_str {P : Program} (w : World) {dT ty elem : TypeId} {g dLen dCap : Nat} {cur : List Value} {t : TypeId} {bs : List UInt8} (hu : P.underlying dT = some (.slice elem)) (hsz : (P.info? elem).map (·.size) = some 1) (hg : Blk w g cur t) (hn : bs.length ≤ dLen) (hfit : bs.length ≤ cur.length) (sT : TypeId) :
    (Builtin.copy_ #[dT, sT] ty #[.slice (some ⟨g, 0, none⟩) dLen dCap, .string ⟨bs.toArray⟩]).run P w = .ok (goInt bs.length) (w.setRow g (put cur 0 (bv bs)).toArray) := by
  obtain ⟨i, hi1, hi2⟩ := Option.map_eq_some_iff.1 hsz
  have hs : (sizeOf elem).run P w = .ok 1 w := by simp [sizeOf, typeInfo, hi1, hi2]
  have hst := run_storeCells_at P g 0 t (bv bs) 0 cur.toArray w hg (by simp [bv_len]; omega) (by
    intro v hv
    unfold bv at hv
    obtain ⟨x, _, rfl⟩ := List.mem_map.1 hv
    rfl)
  have e : (cur.toArray.toList.take (0 + 0) ++ bv bs ++ cur.toArray.toList.drop (0 + 0 + (bv bs).length)) = put cur 0 (bv bs) := by simp [put]
  rw [e] at hst
  have hsize : (⟨bs.toArray⟩ : ByteArray).size = bs.length := by simp [ByteArray.size]
  have hmin : Nat.min bs.length dLen = bs.length := Nat.min_eq_left hn
  have hdata : (((⟨bs.toArray⟩ : ByteArray).extract 0 bs.length).data.map fun b => Value.int .u8 (b.toNat : Int)).toList = bv bs := by
    unfold bv Base.u8
    simp
  have hA : (⟨bs.toArray⟩ : ByteArray).extract 0 bs.length = ⟨bs.toArray⟩ := by
    apply ByteArray.ext
    simp
  have hB : (bs.toArray.map fun b => Value.int .u8 (b.toNat : Int)).toList = bv bs := by
    unfold bv Base.u8
    simp
  have h2 : (List.map (fun b : UInt8 => Value.int .u8 (b.toNat : Int)) bs) = bv bs := rfl
  have h3 : List.take bs.length (bv bs) = bv bs := List.take_of_length_le (by rw [bv_len]; omega)
  simp [Builtin.copy_, run_underlying hu, Builtin.lenOf, Builtin.firstCells, hs, hsize, hmin, hA, h2, h3, hst]
theorem wpList_copy_str {P : Program} {w : World} {ops : Array Oper} {rest : List Oper} {o : Oper} {a : Act} {Q : Exit → Act → World → Prop} (hgd : o.guard = none) (d s : Operand) (dT sT : TypeId)
    (ho : o.op = .call { callee := .builtin .copy, args := #[d, s], argTypes := #[dT, sT] }) (elem : TypeId) (hu : P.underlying dT = some (.slice elem)) (hsz : (P.info? elem).map (·.size) = some 1)
    (g dLen dCap : Nat) (bs : List UInt8) (hd : a.eval d = .slice (some ⟨g, 0, none⟩) dLen dCap) (hs : a.eval s = .string ⟨bs.toArray⟩) (cur : List Value) (t : TypeId) (hg : Blk w g cur t) (hn : bs.length ≤ dLen) (hfit : bs.length ≤ cur.length)
    (h : ∀ w', Blk w' g (put cur 0 (bv bs)) t → w.grownBy w' (some g) → wpList P ops Q rest (a.put o.dst (goInt bs.length)) w') : wpList P ops Q (o :: rest) a w := by
  refine wpList_plain hgd fun K hK => ?_
  have hrun := run_copy_str (P := P) w (ty := o.type) (dCap := dCap) (sT := sT) hu hsz hg hn hfit
  unfold Oper.wp
  simp [execOp, ho, resolve, invoke, builtin, hd, hs, hrun, Result.andThen]
  exact hK _ _ (h _ (hg.setRow _) (grown_setRow _ _ _))
end Go.Proofs.Ytmmgejlfcehipaa.Codec
