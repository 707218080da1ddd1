/-
  Contracts of the operators, in both texts.
-/
import Derived.Test.YtpfocppjojgooaaCodeOk
import Derived.Test.YtpfocppjojgooaaAbsUa
import Derived.IntWalk
set_option linter.unusedSimpArgs false
namespace Go.Proofs.Ytpfocppjojgooaa
open Go.Abs
abbrev rI (n : Int) : SV := .e (.c (.t (.i .i64 n)))
abbrev rB (x : Bool) : SV := .e (.c (.t (.b x)))
abbrev rII (n m : Int) : SV := .tu [.c (.t (.i .i64 n)), .c (.t (.i .i64 m))]
/-- in 16 bits -/
def w16 (n : Int) : Int := (n + 32768) % 65536 - 32768
theorem w16_in (n : Int) : -32768 ≤ w16 n ∧ w16 n ≤ 32767 := by unfold w16; omega
theorem w16_id {n : Int} (h : -32768 ≤ n) (h' : n ≤ 32767) : w16 n = n := by unfold w16; omega
theorem f27 (a : Int) : PCalls Try.prog 27 [.i .i64 a] (rB (decide (-32768 ≤ a) && decide (a ≤ 32767))) := by
  refine pcalls_of Try.func27 k27 rfl (Nat.le_of_ble_eq_true rfl) ?_
  repeat' (first
    | ((with_reducible refine cnd_intro (fun h => ?_) (fun h => ?_)) <;> simp only [h, SXR, udf, AOp.dst, und, Nat.beq, exop, putAt, bldE, evI, evIo, isNil, List.replicate, Nat.ble, initS, initH, AR.slot, Int.reduceAdd, Int.reduceSub, Int.reduceNeg, Int.reduceBNe, Nat.reduceEqDiff, Nat.reduceSub, Nat.reduceAdd, Nat.reduceLeDiff, Nat.reduceBEq, Nat.reduceLT, Nat.reduceMul, Int.reduceBEq, Int.reduceLT, Int.reduceLE, reduceIte, reduceCtorEq])
    | (simp only [c27, SXR, udf, AOp.dst, und, Nat.beq, exop, putAt, bldE, evI, evIo, isNil, List.replicate, Nat.ble, initS, initH, AR.slot, Int.reduceAdd, Int.reduceSub, Int.reduceNeg, Int.reduceBNe, Nat.reduceEqDiff, Nat.reduceSub, Nat.reduceAdd, Nat.reduceLeDiff, Nat.reduceBEq, Nat.reduceLT, Nat.reduceMul, Int.reduceBEq, Int.reduceLT, Int.reduceLE, reduceIte, reduceCtorEq]))
theorem f76 (a : Int) : PCalls Try.prog 76 [.i .i64 a] (rI (w16 a)) := by
  refine pcalls_of Try.func76 k76 rfl (Nat.le_of_ble_eq_true rfl) ?_
  repeat' (first
    | ((with_reducible refine cnd_intro (fun h => ?_) (fun h => ?_)) <;> simp only [h, SXR, udf, AOp.dst, und, Nat.beq, exop, putAt, bldE, evI, evIo, isNil, List.replicate, Nat.ble, initS, initH, AR.slot, Int.reduceAdd, Int.reduceSub, Int.reduceNeg, Int.reduceBNe, Nat.reduceEqDiff, Nat.reduceSub, Nat.reduceAdd, Nat.reduceLeDiff, Nat.reduceBEq, Nat.reduceLT, Nat.reduceMul, Int.reduceBEq, Int.reduceLT, Int.reduceLE, reduceIte, reduceCtorEq])
    | (simp only [c76, SXR, udf, AOp.dst, und, Nat.beq, exop, putAt, bldE, evI, evIo, isNil, List.replicate, Nat.ble, initS, initH, AR.slot, Int.reduceAdd, Int.reduceSub, Int.reduceNeg, Int.reduceBNe, Nat.reduceEqDiff, Nat.reduceSub, Nat.reduceAdd, Nat.reduceLeDiff, Nat.reduceBEq, Nat.reduceLT, Nat.reduceMul, Int.reduceBEq, Int.reduceLT, Int.reduceLE, reduceIte, reduceCtorEq]))
  have : IntKind.i64.wrap (IntKind.i16.wrap a) = w16 a := by simp [IntKind.wrap, IntKind.bits, IntKind.signed, w16]; omega
  rw [this]
theorem w16_tmod (a : Int) : w16 a = if 32767 < a.tmod 65536 then a.tmod 65536 - 65536 else if a.tmod 65536 < -32768 then a.tmod 65536 + 65536 else a.tmod 65536 := by
  unfold w16
  rw [Int.tmod_eq_emod]
  by_cases h0 : 0 ≤ a ∨ (65536 : Int) ∣ a
  · simp only [h0, if_true]; omega
  · simp only [h0, if_false]; omega
theorem f86 (a : Int) : PCalls Try.prog 86 [.i .i64 a] (rI (w16 a)) := by
  have b1 := Int.tmod_lt_of_pos a (b := 65536) (by omega)
  have b2 := Int.lt_tmod_of_pos a (b := 65536) (by omega)
  have e := w16_tmod a
  refine pcalls_of Try.func86 k86 rfl (Nat.le_of_ble_eq_true rfl) ?_
  repeat' (first
    | ((with_reducible refine cnd_intro (fun h => ?_) (fun h => ?_)) <;> simp only [h, SXR, udf, AOp.dst, und, Nat.beq, exop, putAt, bldE, evI, evIo, isNil, List.replicate, Nat.ble, initS, initH, AR.slot, Int.reduceAdd, Int.reduceSub, Int.reduceNeg, Int.reduceBNe, Nat.reduceEqDiff, Nat.reduceSub, Nat.reduceAdd, Nat.reduceLeDiff, Nat.reduceBEq, Nat.reduceLT, Nat.reduceMul, Int.reduceBEq, Int.reduceLT, Int.reduceLE, reduceIte, reduceCtorEq])
    | (simp only [c86, SXR, udf, AOp.dst, und, Nat.beq, exop, putAt, bldE, evI, evIo, isNil, List.replicate, Nat.ble, initS, initH, AR.slot, Int.reduceAdd, Int.reduceSub, Int.reduceNeg, Int.reduceBNe, Nat.reduceEqDiff, Nat.reduceSub, Nat.reduceAdd, Nat.reduceLeDiff, Nat.reduceBEq, Nat.reduceLT, Nat.reduceMul, Int.reduceBEq, Int.reduceLT, Int.reduceLE, reduceIte, reduceCtorEq]))
  all_goals
    simp only [decide_eq_true_eq, decide_eq_false_iff_not] at *
    simp only [*, if_true, if_false] at e
    rw [e]
  all_goals rw [IntWalk.i64_in _ (by omega)]
theorem f51 (a : Int) : PCalls Try.prog 51 [.i .i64 a] (rI (w16 (-(w16 a)))) := by
  have b1 := w16_in a
  refine pcalls_of Try.func51 k51 rfl (Nat.le_of_ble_eq_true rfl) ?_
  repeat' (first
    | ((with_reducible refine cnd_intro (fun h => ?_) (fun h => ?_)) <;> simp only [h, SXR, udf, AOp.dst, und, Nat.beq, exop, putAt, bldE, evI, evIo, isNil, List.replicate, Nat.ble, initS, initH, AR.slot, Int.reduceAdd, Int.reduceSub, Int.reduceNeg, Int.reduceBNe, Nat.reduceEqDiff, Nat.reduceSub, Nat.reduceAdd, Nat.reduceLeDiff, Nat.reduceBEq, Nat.reduceLT, Nat.reduceMul, Int.reduceBEq, Int.reduceLT, Int.reduceLE, reduceIte, reduceCtorEq])
    | (with_reducible refine pcl_intro (f76 _) ?_)
    | (simp only [c51, SXR, udf, AOp.dst, und, Nat.beq, exop, putAt, bldE, evI, evIo, isNil, List.replicate, Nat.ble, initS, initH, AR.slot, Int.reduceAdd, Int.reduceSub, Int.reduceNeg, Int.reduceBNe, Nat.reduceEqDiff, Nat.reduceSub, Nat.reduceAdd, Nat.reduceLeDiff, Nat.reduceBEq, Nat.reduceLT, Nat.reduceMul, Int.reduceBEq, Int.reduceLT, Int.reduceLE, reduceIte, reduceCtorEq]))
  rw [IntWalk.i64_in _ (by omega), Int.zero_sub]
theorem f52 (a b : Int) : PCalls Try.prog 52 [.i .i64 a, .i .i64 b] (rI (w16 (w16 a + w16 b))) := by
  have b1 := w16_in a
  have b2 := w16_in b
  refine pcalls_of Try.func52 k52 rfl (Nat.le_of_ble_eq_true rfl) ?_
  repeat' (first
    | ((with_reducible refine cnd_intro (fun h => ?_) (fun h => ?_)) <;> simp only [h, SXR, udf, AOp.dst, und, Nat.beq, exop, putAt, bldE, evI, evIo, isNil, List.replicate, Nat.ble, initS, initH, AR.slot, Int.reduceAdd, Int.reduceSub, Int.reduceNeg, Int.reduceBNe, Nat.reduceEqDiff, Nat.reduceSub, Nat.reduceAdd, Nat.reduceLeDiff, Nat.reduceBEq, Nat.reduceLT, Nat.reduceMul, Int.reduceBEq, Int.reduceLT, Int.reduceLE, reduceIte, reduceCtorEq])
    | (with_reducible refine pcl_intro (f76 _) ?_)
    | (simp only [c52, SXR, udf, AOp.dst, und, Nat.beq, exop, putAt, bldE, evI, evIo, isNil, List.replicate, Nat.ble, initS, initH, AR.slot, Int.reduceAdd, Int.reduceSub, Int.reduceNeg, Int.reduceBNe, Nat.reduceEqDiff, Nat.reduceSub, Nat.reduceAdd, Nat.reduceLeDiff, Nat.reduceBEq, Nat.reduceLT, Nat.reduceMul, Int.reduceBEq, Int.reduceLT, Int.reduceLE, reduceIte, reduceCtorEq]))
  rw [IntWalk.i64_in _ (by omega)]
theorem f53 (a b : Int) : PCalls Try.prog 53 [.i .i64 a, .i .i64 b] (rI (w16 (w16 a - w16 b))) := by
  have b1 := w16_in a
  have b2 := w16_in b
  refine pcalls_of Try.func53 k53 rfl (Nat.le_of_ble_eq_true rfl) ?_
  repeat' (first
    | ((with_reducible refine cnd_intro (fun h => ?_) (fun h => ?_)) <;> simp only [h, SXR, udf, AOp.dst, und, Nat.beq, exop, putAt, bldE, evI, evIo, isNil, List.replicate, Nat.ble, initS, initH, AR.slot, Int.reduceAdd, Int.reduceSub, Int.reduceNeg, Int.reduceBNe, Nat.reduceEqDiff, Nat.reduceSub, Nat.reduceAdd, Nat.reduceLeDiff, Nat.reduceBEq, Nat.reduceLT, Nat.reduceMul, Int.reduceBEq, Int.reduceLT, Int.reduceLE, reduceIte, reduceCtorEq])
    | (with_reducible refine pcl_intro (f76 _) ?_)
    | (simp only [c53, SXR, udf, AOp.dst, und, Nat.beq, exop, putAt, bldE, evI, evIo, isNil, List.replicate, Nat.ble, initS, initH, AR.slot, Int.reduceAdd, Int.reduceSub, Int.reduceNeg, Int.reduceBNe, Nat.reduceEqDiff, Nat.reduceSub, Nat.reduceAdd, Nat.reduceLeDiff, Nat.reduceBEq, Nat.reduceLT, Nat.reduceMul, Int.reduceBEq, Int.reduceLT, Int.reduceLE, reduceIte, reduceCtorEq]))
  rw [IntWalk.i64_in _ (by omega)]
theorem w16_mul (a b : Int) : -1073741824 ≤ w16 a * w16 b ∧ w16 a * w16 b ≤ 1073741824 := by
  have b1 := w16_in a
  have b2 := w16_in b
  generalize w16 a = x at *
  generalize w16 b = y at *
  have h := Int.natAbs_mul x y
  have h2 : x.natAbs * y.natAbs ≤ 32768 * 32768 := Nat.mul_le_mul (by omega) (by omega)
  generalize x * y = z at *
  generalize x.natAbs * y.natAbs = n at *
  omega
theorem f54 (a b : Int) : PCalls Try.prog 54 [.i .i64 a, .i .i64 b] (rI (w16 (w16 a * w16 b))) := by
  have b1 := w16_mul a b
  refine pcalls_of Try.func54 k54 rfl (Nat.le_of_ble_eq_true rfl) ?_
  repeat' (first
    | ((with_reducible refine cnd_intro (fun h => ?_) (fun h => ?_)) <;> simp only [h, SXR, udf, AOp.dst, und, Nat.beq, exop, putAt, bldE, evI, evIo, isNil, List.replicate, Nat.ble, initS, initH, AR.slot, Int.reduceAdd, Int.reduceSub, Int.reduceNeg, Int.reduceBNe, Nat.reduceEqDiff, Nat.reduceSub, Nat.reduceAdd, Nat.reduceLeDiff, Nat.reduceBEq, Nat.reduceLT, Nat.reduceMul, Int.reduceBEq, Int.reduceLT, Int.reduceLE, reduceIte, reduceCtorEq])
    | (with_reducible refine pcl_intro (f76 _) ?_)
    | (simp only [c54, SXR, udf, AOp.dst, und, Nat.beq, exop, putAt, bldE, evI, evIo, isNil, List.replicate, Nat.ble, initS, initH, AR.slot, Int.reduceAdd, Int.reduceSub, Int.reduceNeg, Int.reduceBNe, Nat.reduceEqDiff, Nat.reduceSub, Nat.reduceAdd, Nat.reduceLeDiff, Nat.reduceBEq, Nat.reduceLT, Nat.reduceMul, Int.reduceBEq, Int.reduceLT, Int.reduceLE, reduceIte, reduceCtorEq]))
  rw [IntWalk.i64_in _ (by omega)]
def grp (o : Int) : Int × Int :=
  if o == 1 then (1, 1) else if o == 3 || (o == 4 || o == 5) then (1, 2) else if o == 2 then (2, 1) else if o == 6 || (o == 7 || (o == 8 || (o == 9 || o == 10))) then (2, 2)
  else if o == 11 || o == 12 then (3, 2) else if o == 13 || (o == 14 || (o == 15 || o == 16)) then (4, 2) else (0, 0)
theorem f26 (o : Int) : PCalls Try.prog 26 [.i .i64 o] (rII (grp o).1 (grp o).2) := by
  refine pcalls_of Try.func26 k26 rfl (Nat.le_of_ble_eq_true rfl) ?_
  repeat' (first
    | ((with_reducible refine cnd_intro (fun h => ?_) (fun h => ?_)) <;> simp only [h, SXR, udf, AOp.dst, und, Nat.beq, exop, putAt, bldE, evI, evIo, isNil, List.replicate, Nat.ble, initS, initH, AR.slot, Int.reduceAdd, Int.reduceSub, Int.reduceNeg, Int.reduceBNe, Nat.reduceEqDiff, Nat.reduceSub, Nat.reduceAdd, Nat.reduceLeDiff, Nat.reduceBEq, Nat.reduceLT, Nat.reduceMul, Int.reduceBEq, Int.reduceLT, Int.reduceLE, reduceIte, reduceCtorEq])
    | (simp only [c26, SXR, udf, AOp.dst, und, Nat.beq, exop, putAt, bldE, evI, evIo, isNil, List.replicate, Nat.ble, initS, initH, AR.slot, Int.reduceAdd, Int.reduceSub, Int.reduceNeg, Int.reduceBNe, Nat.reduceEqDiff, Nat.reduceSub, Nat.reduceAdd, Nat.reduceLeDiff, Nat.reduceBEq, Nat.reduceLT, Nat.reduceMul, Int.reduceBEq, Int.reduceLT, Int.reduceLE, reduceIte, reduceCtorEq]))
  all_goals simp only [grp, *, Bool.or_true, Bool.true_or, Bool.or_false, Bool.false_or, if_true, if_false, Bool.false_eq_true]
end Go.Proofs.Ytpfocppjojgooaa
