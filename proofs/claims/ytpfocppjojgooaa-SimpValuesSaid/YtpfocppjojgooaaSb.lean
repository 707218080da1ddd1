/-
  Contracts of the operators, in both texts, second part.
-/
import Derived.Test.YtpfocppjojgooaaSa
set_option linter.unusedSimpArgs false
namespace Go.Proofs.Ytpfocppjojgooaa
open Go.Abs
theorem w16_tdiv (a b : Int) : -32768 ≤ (w16 a).tdiv (w16 b) ∧ (w16 a).tdiv (w16 b) ≤ 32768 := by
  have b1 := w16_in a
  generalize w16 a = x at *
  generalize w16 b = y at *
  have h := Int.natAbs_tdiv_le_natAbs x y
  generalize x.tdiv y = z at *
  omega
def dv (a b : Int) : Int := if w16 b == 0 then 0 else w16 ((w16 a).tdiv (w16 b))
def md (a b : Int) : Int := if w16 b == 0 then w16 a else (w16 a).tmod (w16 b)
theorem f55 (a b : Int) : PCalls Try.prog 55 [.i .i64 a, .i .i64 b] (rI (dv a b)) := by
  have b1 := w16_tdiv a b
  refine pcalls_of Try.func55 k55 rfl (Nat.le_of_ble_eq_true rfl) ?_
  repeat' (first
    | ((with_reducible refine cnd_intro (fun h => ?_) (fun h => ?_)) <;> simp only [h, SXR, udf, AOp.dst, und, Nat.beq, exop, putAt, bldE, evI, evIo, isNil, List.replicate, Nat.ble, initS, initH, AR.slot, Int.reduceAdd, Int.reduceSub, Int.reduceNeg, Int.reduceBNe, Nat.reduceEqDiff, Nat.reduceSub, Nat.reduceAdd, Nat.reduceLeDiff, Nat.reduceBEq, Nat.reduceLT, Nat.reduceMul, Int.reduceBEq, Int.reduceLT, Int.reduceLE, reduceIte, reduceCtorEq])
    | (with_reducible refine pcl_intro (f76 _) ?_)
    | (simp only [c55, SXR, udf, AOp.dst, und, Nat.beq, exop, putAt, bldE, evI, evIo, isNil, List.replicate, Nat.ble, initS, initH, AR.slot, Int.reduceAdd, Int.reduceSub, Int.reduceNeg, Int.reduceBNe, Nat.reduceEqDiff, Nat.reduceSub, Nat.reduceAdd, Nat.reduceLeDiff, Nat.reduceBEq, Nat.reduceLT, Nat.reduceMul, Int.reduceBEq, Int.reduceLT, Int.reduceLE, reduceIte, reduceCtorEq]))
  all_goals simp only [dv, *, if_true, if_false, Bool.false_eq_true]
  all_goals rw [IntWalk.i64_in _ (by omega)]
theorem f56 (a b : Int) : PCalls Try.prog 56 [.i .i64 a, .i .i64 b] (rI (md a b)) := by
  refine pcalls_of Try.func56 k56 rfl (Nat.le_of_ble_eq_true rfl) ?_
  repeat' (first
    | ((with_reducible refine cnd_intro (fun h => ?_) (fun h => ?_)) <;> simp only [h, SXR, udf, AOp.dst, und, Nat.beq, exop, putAt, bldE, evI, evIo, isNil, List.replicate, Nat.ble, initS, initH, AR.slot, Int.reduceAdd, Int.reduceSub, Int.reduceNeg, Int.reduceBNe, Nat.reduceEqDiff, Nat.reduceSub, Nat.reduceAdd, Nat.reduceLeDiff, Nat.reduceBEq, Nat.reduceLT, Nat.reduceMul, Int.reduceBEq, Int.reduceLT, Int.reduceLE, reduceIte, reduceCtorEq])
    | (with_reducible refine pcl_intro (f76 _) ?_)
    | (simp only [c56, SXR, udf, AOp.dst, und, Nat.beq, exop, putAt, bldE, evI, evIo, isNil, List.replicate, Nat.ble, initS, initH, AR.slot, Int.reduceAdd, Int.reduceSub, Int.reduceNeg, Int.reduceBNe, Nat.reduceEqDiff, Nat.reduceSub, Nat.reduceAdd, Nat.reduceLeDiff, Nat.reduceBEq, Nat.reduceLT, Nat.reduceMul, Int.reduceBEq, Int.reduceLT, Int.reduceLE, reduceIte, reduceCtorEq]))
  all_goals simp only [md, *, if_true, if_false, Bool.false_eq_true]
theorem f74 (a : Int) : PCalls Try.prog 74 [.i .i64 a] (rI (w16 (-(w16 a)))) := by
  have b1 := w16_in a
  refine pcalls_of Try.func74 k74 rfl (Nat.le_of_ble_eq_true rfl) ?_
  repeat' (first
    | ((with_reducible refine cnd_intro (fun h => ?_) (fun h => ?_)) <;> simp only [h, SXR, udf, AOp.dst, und, Nat.beq, exop, putAt, bldE, evI, evIo, isNil, List.replicate, Nat.ble, initS, initH, AR.slot, Int.reduceAdd, Int.reduceSub, Int.reduceNeg, Int.reduceBNe, Nat.reduceEqDiff, Nat.reduceSub, Nat.reduceAdd, Nat.reduceLeDiff, Nat.reduceBEq, Nat.reduceLT, Nat.reduceMul, Int.reduceBEq, Int.reduceLT, Int.reduceLE, reduceIte, reduceCtorEq])
    | (with_reducible refine pcl_intro (f86 _) ?_)
    | (simp only [c74, SXR, udf, AOp.dst, und, Nat.beq, exop, putAt, bldE, evI, evIo, isNil, List.replicate, Nat.ble, initS, initH, AR.slot, Int.reduceAdd, Int.reduceSub, Int.reduceNeg, Int.reduceBNe, Nat.reduceEqDiff, Nat.reduceSub, Nat.reduceAdd, Nat.reduceLeDiff, Nat.reduceBEq, Nat.reduceLT, Nat.reduceMul, Int.reduceBEq, Int.reduceLT, Int.reduceLE, reduceIte, reduceCtorEq]))
  rw [IntWalk.i64_in _ (by omega), Int.zero_sub]
theorem f88 (a b : Int) : PCalls Try.prog 88 [.i .i64 a, .i .i64 b] (rI (w16 (w16 a + w16 b))) := by
  have b1 := w16_in a
  have b2 := w16_in b
  refine pcalls_of Try.func88 k88 rfl (Nat.le_of_ble_eq_true rfl) ?_
  repeat' (first
    | ((with_reducible refine cnd_intro (fun h => ?_) (fun h => ?_)) <;> simp only [h, SXR, udf, AOp.dst, und, Nat.beq, exop, putAt, bldE, evI, evIo, isNil, List.replicate, Nat.ble, initS, initH, AR.slot, Int.reduceAdd, Int.reduceSub, Int.reduceNeg, Int.reduceBNe, Nat.reduceEqDiff, Nat.reduceSub, Nat.reduceAdd, Nat.reduceLeDiff, Nat.reduceBEq, Nat.reduceLT, Nat.reduceMul, Int.reduceBEq, Int.reduceLT, Int.reduceLE, reduceIte, reduceCtorEq])
    | (with_reducible refine pcl_intro (f86 _) ?_)
    | (simp only [c88, SXR, udf, AOp.dst, und, Nat.beq, exop, putAt, bldE, evI, evIo, isNil, List.replicate, Nat.ble, initS, initH, AR.slot, Int.reduceAdd, Int.reduceSub, Int.reduceNeg, Int.reduceBNe, Nat.reduceEqDiff, Nat.reduceSub, Nat.reduceAdd, Nat.reduceLeDiff, Nat.reduceBEq, Nat.reduceLT, Nat.reduceMul, Int.reduceBEq, Int.reduceLT, Int.reduceLE, reduceIte, reduceCtorEq]))
  rw [IntWalk.i64_in _ (by omega)]
theorem f89 (a b : Int) : PCalls Try.prog 89 [.i .i64 a, .i .i64 b] (rI (w16 (w16 a - w16 b))) := by
  have b1 := w16_in a
  have b2 := w16_in b
  refine pcalls_of Try.func89 k89 rfl (Nat.le_of_ble_eq_true rfl) ?_
  repeat' (first
    | ((with_reducible refine cnd_intro (fun h => ?_) (fun h => ?_)) <;> simp only [h, SXR, udf, AOp.dst, und, Nat.beq, exop, putAt, bldE, evI, evIo, isNil, List.replicate, Nat.ble, initS, initH, AR.slot, Int.reduceAdd, Int.reduceSub, Int.reduceNeg, Int.reduceBNe, Nat.reduceEqDiff, Nat.reduceSub, Nat.reduceAdd, Nat.reduceLeDiff, Nat.reduceBEq, Nat.reduceLT, Nat.reduceMul, Int.reduceBEq, Int.reduceLT, Int.reduceLE, reduceIte, reduceCtorEq])
    | (with_reducible refine pcl_intro (f86 _) ?_)
    | (simp only [c89, SXR, udf, AOp.dst, und, Nat.beq, exop, putAt, bldE, evI, evIo, isNil, List.replicate, Nat.ble, initS, initH, AR.slot, Int.reduceAdd, Int.reduceSub, Int.reduceNeg, Int.reduceBNe, Nat.reduceEqDiff, Nat.reduceSub, Nat.reduceAdd, Nat.reduceLeDiff, Nat.reduceBEq, Nat.reduceLT, Nat.reduceMul, Int.reduceBEq, Int.reduceLT, Int.reduceLE, reduceIte, reduceCtorEq]))
  rw [IntWalk.i64_in _ (by omega)]
theorem f90 (a b : Int) : PCalls Try.prog 90 [.i .i64 a, .i .i64 b] (rI (w16 (w16 a * w16 b))) := by
  have b1 := w16_mul a b
  refine pcalls_of Try.func90 k90 rfl (Nat.le_of_ble_eq_true rfl) ?_
  repeat' (first
    | ((with_reducible refine cnd_intro (fun h => ?_) (fun h => ?_)) <;> simp only [h, SXR, udf, AOp.dst, und, Nat.beq, exop, putAt, bldE, evI, evIo, isNil, List.replicate, Nat.ble, initS, initH, AR.slot, Int.reduceAdd, Int.reduceSub, Int.reduceNeg, Int.reduceBNe, Nat.reduceEqDiff, Nat.reduceSub, Nat.reduceAdd, Nat.reduceLeDiff, Nat.reduceBEq, Nat.reduceLT, Nat.reduceMul, Int.reduceBEq, Int.reduceLT, Int.reduceLE, reduceIte, reduceCtorEq])
    | (with_reducible refine pcl_intro (f86 _) ?_)
    | (simp only [c90, SXR, udf, AOp.dst, und, Nat.beq, exop, putAt, bldE, evI, evIo, isNil, List.replicate, Nat.ble, initS, initH, AR.slot, Int.reduceAdd, Int.reduceSub, Int.reduceNeg, Int.reduceBNe, Nat.reduceEqDiff, Nat.reduceSub, Nat.reduceAdd, Nat.reduceLeDiff, Nat.reduceBEq, Nat.reduceLT, Nat.reduceMul, Int.reduceBEq, Int.reduceLT, Int.reduceLE, reduceIte, reduceCtorEq]))
  rw [IntWalk.i64_in _ (by omega)]
theorem f91 (a b : Int) : PCalls Try.prog 91 [.i .i64 a, .i .i64 b] (rI (dv a b)) := by
  have b1 := w16_tdiv a b
  cases hb : (w16 b == 0)
  all_goals
    refine pcalls_of Try.func91 k91 rfl (Nat.le_of_ble_eq_true rfl) ?_
    repeat' (first
      | ((with_reducible refine cnd_intro (fun h => ?_) (fun h => ?_)) <;> simp only [h, hb, SXR, udf, AOp.dst, und, Nat.beq, exop, putAt, bldE, evI, evIo, isNil, List.replicate, Nat.ble, initS, initH, AR.slot, Int.reduceAdd, Int.reduceSub, Int.reduceNeg, Int.reduceBNe, Nat.reduceEqDiff, Nat.reduceSub, Nat.reduceAdd, Nat.reduceLeDiff, Nat.reduceBEq, Nat.reduceLT, Nat.reduceMul, Int.reduceBEq, Int.reduceLT, Int.reduceLE, reduceIte, reduceCtorEq])
      | (with_reducible refine pcl_intro (f86 _) ?_)
      | (simp only [c91, hb, SXR, udf, AOp.dst, und, Nat.beq, exop, putAt, bldE, evI, evIo, isNil, List.replicate, Nat.ble, initS, initH, AR.slot, Int.reduceAdd, Int.reduceSub, Int.reduceNeg, Int.reduceBNe, Nat.reduceEqDiff, Nat.reduceSub, Nat.reduceAdd, Nat.reduceLeDiff, Nat.reduceBEq, Nat.reduceLT, Nat.reduceMul, Int.reduceBEq, Int.reduceLT, Int.reduceLE, reduceIte, reduceCtorEq]))
  all_goals simp only [dv, *, if_true, if_false, Bool.false_eq_true]
  all_goals rw [IntWalk.i64_in _ (by omega)]
theorem f92 (a b : Int) : PCalls Try.prog 92 [.i .i64 a, .i .i64 b] (rI (md a b)) := by
  cases hb : (w16 b == 0)
  all_goals
    refine pcalls_of Try.func92 k92 rfl (Nat.le_of_ble_eq_true rfl) ?_
    repeat' (first
      | ((with_reducible refine cnd_intro (fun h => ?_) (fun h => ?_)) <;> simp only [h, hb, SXR, udf, AOp.dst, und, Nat.beq, exop, putAt, bldE, evI, evIo, isNil, List.replicate, Nat.ble, initS, initH, AR.slot, Int.reduceAdd, Int.reduceSub, Int.reduceNeg, Int.reduceBNe, Nat.reduceEqDiff, Nat.reduceSub, Nat.reduceAdd, Nat.reduceLeDiff, Nat.reduceBEq, Nat.reduceLT, Nat.reduceMul, Int.reduceBEq, Int.reduceLT, Int.reduceLE, reduceIte, reduceCtorEq])
      | (with_reducible refine pcl_intro (f86 _) ?_)
      | (simp only [c92, hb, SXR, udf, AOp.dst, und, Nat.beq, exop, putAt, bldE, evI, evIo, isNil, List.replicate, Nat.ble, initS, initH, AR.slot, Int.reduceAdd, Int.reduceSub, Int.reduceNeg, Int.reduceBNe, Nat.reduceEqDiff, Nat.reduceSub, Nat.reduceAdd, Nat.reduceLeDiff, Nat.reduceBEq, Nat.reduceLT, Nat.reduceMul, Int.reduceBEq, Int.reduceLT, Int.reduceLE, reduceIte, reduceCtorEq]))
  all_goals simp only [md, *, if_true, if_false, Bool.false_eq_true]
/-- the value of an arithmetic operator -/
def cmp (o a b : Int) : Int :=
  if o == 2 then w16 (-(w16 a)) else if o == 6 then w16 (w16 a + w16 b) else if o == 7 then w16 (w16 a - w16 b) else if o == 8 then w16 (w16 a * w16 b) else if o == 9 then dv a b else md a b
theorem f28 (o a b : Int) : PCalls Try.prog 28 [.i .i64 o, .i .i64 a, .i .i64 b] (rI (cmp o a b)) := by
  refine pcalls_of Try.func28 k28 rfl (Nat.le_of_ble_eq_true rfl) ?_
  repeat' (first
    | ((with_reducible refine cnd_intro (fun h => ?_) (fun h => ?_)) <;> simp only [h, SXR, udf, AOp.dst, und, Nat.beq, exop, putAt, bldE, evI, evIo, isNil, List.replicate, Nat.ble, initS, initH, AR.slot, Int.reduceAdd, Int.reduceSub, Int.reduceNeg, Int.reduceBNe, Nat.reduceEqDiff, Nat.reduceSub, Nat.reduceAdd, Nat.reduceLeDiff, Nat.reduceBEq, Nat.reduceLT, Nat.reduceMul, Int.reduceBEq, Int.reduceLT, Int.reduceLE, reduceIte, reduceCtorEq])
    | (with_reducible refine pcl_intro (f51 _) ?_)
    | (with_reducible refine pcl_intro (f52 _ _) ?_)
    | (with_reducible refine pcl_intro (f53 _ _) ?_)
    | (with_reducible refine pcl_intro (f54 _ _) ?_)
    | (with_reducible refine pcl_intro (f55 _ _) ?_)
    | (with_reducible refine pcl_intro (f56 _ _) ?_)
    | (simp only [c28, SXR, udf, AOp.dst, und, Nat.beq, exop, putAt, bldE, evI, evIo, isNil, List.replicate, Nat.ble, initS, initH, AR.slot, Int.reduceAdd, Int.reduceSub, Int.reduceNeg, Int.reduceBNe, Nat.reduceEqDiff, Nat.reduceSub, Nat.reduceAdd, Nat.reduceLeDiff, Nat.reduceBEq, Nat.reduceLT, Nat.reduceMul, Int.reduceBEq, Int.reduceLT, Int.reduceLE, reduceIte, reduceCtorEq]))
  all_goals simp only [cmp, *, if_true, if_false, Bool.false_eq_true]
theorem f29 (x : Bool) : PCalls Try.prog 29 [.b x] (rI (if x then 1 else 0)) := by
  refine pcalls_of Try.func29 k29 rfl (Nat.le_of_ble_eq_true rfl) ?_
  repeat' (first
    | ((with_reducible refine cnd_intro (fun h => ?_) (fun h => ?_)) <;> simp only [h, SXR, udf, AOp.dst, und, Nat.beq, exop, putAt, bldE, evI, evIo, isNil, List.replicate, Nat.ble, initS, initH, AR.slot, Int.reduceAdd, Int.reduceSub, Int.reduceNeg, Int.reduceBNe, Nat.reduceEqDiff, Nat.reduceSub, Nat.reduceAdd, Nat.reduceLeDiff, Nat.reduceBEq, Nat.reduceLT, Nat.reduceMul, Int.reduceBEq, Int.reduceLT, Int.reduceLE, reduceIte, reduceCtorEq])
    | (simp only [c29, SXR, udf, AOp.dst, und, Nat.beq, exop, putAt, bldE, evI, evIo, isNil, List.replicate, Nat.ble, initS, initH, AR.slot, Int.reduceAdd, Int.reduceSub, Int.reduceNeg, Int.reduceBNe, Nat.reduceEqDiff, Nat.reduceSub, Nat.reduceAdd, Nat.reduceLeDiff, Nat.reduceBEq, Nat.reduceLT, Nat.reduceMul, Int.reduceBEq, Int.reduceLT, Int.reduceLE, reduceIte, reduceCtorEq]))
  all_goals simp only [*, if_true, if_false, Bool.false_eq_true]
theorem f87 (x : Bool) : PCalls Try.prog 87 [.b x] (rI (if x then 1 else 0)) := by
  refine pcalls_of Try.func87 k87 rfl (Nat.le_of_ble_eq_true rfl) ?_
  repeat' (first
    | ((with_reducible refine cnd_intro (fun h => ?_) (fun h => ?_)) <;> simp only [h, SXR, udf, AOp.dst, und, Nat.beq, exop, putAt, bldE, evI, evIo, isNil, List.replicate, Nat.ble, initS, initH, AR.slot, Int.reduceAdd, Int.reduceSub, Int.reduceNeg, Int.reduceBNe, Nat.reduceEqDiff, Nat.reduceSub, Nat.reduceAdd, Nat.reduceLeDiff, Nat.reduceBEq, Nat.reduceLT, Nat.reduceMul, Int.reduceBEq, Int.reduceLT, Int.reduceLE, reduceIte, reduceCtorEq])
    | (simp only [c87, SXR, udf, AOp.dst, und, Nat.beq, exop, putAt, bldE, evI, evIo, isNil, List.replicate, Nat.ble, initS, initH, AR.slot, Int.reduceAdd, Int.reduceSub, Int.reduceNeg, Int.reduceBNe, Nat.reduceEqDiff, Nat.reduceSub, Nat.reduceAdd, Nat.reduceLeDiff, Nat.reduceBEq, Nat.reduceLT, Nat.reduceMul, Int.reduceBEq, Int.reduceLT, Int.reduceLE, reduceIte, reduceCtorEq]))
  all_goals simp only [*, if_true, if_false, Bool.false_eq_true]
def hld (o a b : Int) : Bool :=
  if o == 1 then a == 0 else if o == 3 then a == 1 && b == 1 else if o == 4 then a == 1 || b == 1 else if o == 11 then a == b else if o == 5 || o == 12 then a != b
  else if o == 13 then decide (a < b) else if o == 14 then decide (a ≤ b) else if o == 15 then decide (b < a) else decide (b ≤ a)
theorem f30 (o a b : Int) : PCalls Try.prog 30 [.i .i64 o, .i .i64 a, .i .i64 b] (rB (hld o a b)) := by
  refine pcalls_of Try.func30 k30 rfl (Nat.le_of_ble_eq_true rfl) ?_
  repeat' (first
    | ((with_reducible refine cnd_intro (fun h => ?_) (fun h => ?_)) <;> simp only [h, SXR, udf, AOp.dst, und, Nat.beq, exop, putAt, bldE, evI, evIo, isNil, List.replicate, Nat.ble, initS, initH, AR.slot, Int.reduceAdd, Int.reduceSub, Int.reduceNeg, Int.reduceBNe, Nat.reduceEqDiff, Nat.reduceSub, Nat.reduceAdd, Nat.reduceLeDiff, Nat.reduceBEq, Nat.reduceLT, Nat.reduceMul, Int.reduceBEq, Int.reduceLT, Int.reduceLE, reduceIte, reduceCtorEq])
    | (simp only [c30, SXR, udf, AOp.dst, und, Nat.beq, exop, putAt, bldE, evI, evIo, isNil, List.replicate, Nat.ble, initS, initH, AR.slot, Int.reduceAdd, Int.reduceSub, Int.reduceNeg, Int.reduceBNe, Nat.reduceEqDiff, Nat.reduceSub, Nat.reduceAdd, Nat.reduceLeDiff, Nat.reduceBEq, Nat.reduceLT, Nat.reduceMul, Int.reduceBEq, Int.reduceLT, Int.reduceLE, reduceIte, reduceCtorEq]))
  all_goals simp only [hld, *, if_true, if_false, Bool.false_eq_true, Bool.or_true, Bool.true_or, Bool.or_false, Bool.false_or, Bool.true_and, Bool.false_and]
end Go.Proofs.Ytpfocppjojgooaa
