/-
  Contracts of the reference's types and values of operators.
-/
import Derived.Test.YtpfocppjojgooaaSc
set_option linter.unusedSimpArgs false
namespace Go.Proofs.Ytpfocppjojgooaa
open Go.Abs
def opn (o : Int) : Int := if o == 1 || o == 2 then 1 else if decide (2 < o) && decide (o ≤ 16) then 2 else 0
theorem f70 (o : Int) : PCalls Try.prog 70 [.i .i64 o] (rI (opn o)) := by
  refine pcalls_of Try.func70 k70 rfl (Nat.le_of_ble_eq_true rfl) ?_
  repeat' (first
    | ((with_reducible refine cnd_intro (fun h => ?_) (fun h => ?_)) <;> simp only [h, SXR, udf, AOp.dst, und, Nat.beq, exop, putAt, bldE, evI, evIo, isNil, List.replicate, Nat.ble, initS, initH, AR.slot, Int.reduceAdd, Int.reduceSub, Int.reduceNeg, Int.reduceBNe, Nat.reduceEqDiff, Nat.reduceSub, Nat.reduceAdd, Nat.reduceLeDiff, Nat.reduceBEq, Nat.reduceLT, Nat.reduceMul, Int.reduceBEq, Int.reduceLT, Int.reduceLE, reduceIte, reduceCtorEq])
    | (simp only [c70, SXR, udf, AOp.dst, und, Nat.beq, exop, putAt, bldE, evI, evIo, isNil, List.replicate, Nat.ble, initS, initH, AR.slot, Int.reduceAdd, Int.reduceSub, Int.reduceNeg, Int.reduceBNe, Nat.reduceEqDiff, Nat.reduceSub, Nat.reduceAdd, Nat.reduceLeDiff, Nat.reduceBEq, Nat.reduceLT, Nat.reduceMul, Int.reduceBEq, Int.reduceLT, Int.reduceLE, reduceIte, reduceCtorEq]))
  all_goals simp only [opn, *, if_true, if_false, Bool.false_eq_true, Bool.or_true, Bool.true_or, Bool.or_false, Bool.and_self, Bool.and_false, Bool.false_and]
def obo (o : Int) : Bool := o == 1 || (o == 3 || (o == 4 || o == 5))
theorem f71 (o : Int) : PCalls Try.prog 71 [.i .i64 o] (rB (obo o)) := by
  refine pcalls_of Try.func71 k71 rfl (Nat.le_of_ble_eq_true rfl) ?_
  repeat' (first
    | ((with_reducible refine cnd_intro (fun h => ?_) (fun h => ?_)) <;> simp only [h, SXR, udf, AOp.dst, und, Nat.beq, exop, putAt, bldE, evI, evIo, isNil, List.replicate, Nat.ble, initS, initH, AR.slot, Int.reduceAdd, Int.reduceSub, Int.reduceNeg, Int.reduceBNe, Nat.reduceEqDiff, Nat.reduceSub, Nat.reduceAdd, Nat.reduceLeDiff, Nat.reduceBEq, Nat.reduceLT, Nat.reduceMul, Int.reduceBEq, Int.reduceLT, Int.reduceLE, reduceIte, reduceCtorEq])
    | (simp only [c71, SXR, udf, AOp.dst, und, Nat.beq, exop, putAt, bldE, evI, evIo, isNil, List.replicate, Nat.ble, initS, initH, AR.slot, Int.reduceAdd, Int.reduceSub, Int.reduceNeg, Int.reduceBNe, Nat.reduceEqDiff, Nat.reduceSub, Nat.reduceAdd, Nat.reduceLeDiff, Nat.reduceBEq, Nat.reduceLT, Nat.reduceMul, Int.reduceBEq, Int.reduceLT, Int.reduceLE, reduceIte, reduceCtorEq]))
  all_goals simp only [obo, *, if_true, if_false, Bool.false_eq_true, Bool.or_true, Bool.true_or, Bool.or_false, Bool.and_self, Bool.and_false, Bool.false_and, Bool.false_or]
def oeq (o : Int) : Bool := o == 11 || o == 12
theorem f72 (o : Int) : PCalls Try.prog 72 [.i .i64 o] (rB (oeq o)) := by
  refine pcalls_of Try.func72 k72 rfl (Nat.le_of_ble_eq_true rfl) ?_
  repeat' (first
    | ((with_reducible refine cnd_intro (fun h => ?_) (fun h => ?_)) <;> simp only [h, SXR, udf, AOp.dst, und, Nat.beq, exop, putAt, bldE, evI, evIo, isNil, List.replicate, Nat.ble, initS, initH, AR.slot, Int.reduceAdd, Int.reduceSub, Int.reduceNeg, Int.reduceBNe, Nat.reduceEqDiff, Nat.reduceSub, Nat.reduceAdd, Nat.reduceLeDiff, Nat.reduceBEq, Nat.reduceLT, Nat.reduceMul, Int.reduceBEq, Int.reduceLT, Int.reduceLE, reduceIte, reduceCtorEq])
    | (simp only [c72, SXR, udf, AOp.dst, und, Nat.beq, exop, putAt, bldE, evI, evIo, isNil, List.replicate, Nat.ble, initS, initH, AR.slot, Int.reduceAdd, Int.reduceSub, Int.reduceNeg, Int.reduceBNe, Nat.reduceEqDiff, Nat.reduceSub, Nat.reduceAdd, Nat.reduceLeDiff, Nat.reduceBEq, Nat.reduceLT, Nat.reduceMul, Int.reduceBEq, Int.reduceLT, Int.reduceLE, reduceIte, reduceCtorEq]))
  all_goals simp only [oeq, *, if_true, if_false, Bool.false_eq_true, Bool.or_true, Bool.true_or, Bool.or_false, Bool.and_self, Bool.and_false, Bool.false_and, Bool.false_or]
def oar (o : Int) : Bool := o == 2 || (decide (6 ≤ o) && decide (o ≤ 10))
theorem f73 (o : Int) : PCalls Try.prog 73 [.i .i64 o] (rB (oar o)) := by
  refine pcalls_of Try.func73 k73 rfl (Nat.le_of_ble_eq_true rfl) ?_
  repeat' (first
    | ((with_reducible refine cnd_intro (fun h => ?_) (fun h => ?_)) <;> simp only [h, SXR, udf, AOp.dst, und, Nat.beq, exop, putAt, bldE, evI, evIo, isNil, List.replicate, Nat.ble, initS, initH, AR.slot, Int.reduceAdd, Int.reduceSub, Int.reduceNeg, Int.reduceBNe, Nat.reduceEqDiff, Nat.reduceSub, Nat.reduceAdd, Nat.reduceLeDiff, Nat.reduceBEq, Nat.reduceLT, Nat.reduceMul, Int.reduceBEq, Int.reduceLT, Int.reduceLE, reduceIte, reduceCtorEq])
    | (simp only [c73, SXR, udf, AOp.dst, und, Nat.beq, exop, putAt, bldE, evI, evIo, isNil, List.replicate, Nat.ble, initS, initH, AR.slot, Int.reduceAdd, Int.reduceSub, Int.reduceNeg, Int.reduceBNe, Nat.reduceEqDiff, Nat.reduceSub, Nat.reduceAdd, Nat.reduceLeDiff, Nat.reduceBEq, Nat.reduceLT, Nat.reduceMul, Int.reduceBEq, Int.reduceLT, Int.reduceLE, reduceIte, reduceCtorEq]))
  all_goals simp only [oar, *, if_true, if_false, Bool.false_eq_true, Bool.or_true, Bool.true_or, Bool.or_false, Bool.and_self, Bool.and_false, Bool.false_and, Bool.false_or, Bool.true_and]
theorem opn_no (o : Int) (h1 : ¬ (o = 1 ∨ o = 2)) (h2 : ¬ (3 ≤ o ∧ o ≤ 16)) : opn o = 0 ∧ grp o = (0, 0) := by
  constructor
  · unfold opn
    rw [if_neg (by simp; omega), if_neg (by simp; omega)]
  · unfold grp
    rw [if_neg (by simp; omega), if_neg (by simp; omega), if_neg (by simp; omega), if_neg (by simp; omega), if_neg (by simp; omega), if_neg (by simp; omega)]
theorem two_ways (o : Int) (h : 3 ≤ o ∧ o ≤ 16) : o = 3 ∨ o = 4 ∨ o = 5 ∨ o = 6 ∨ o = 7 ∨ o = 8 ∨ o = 9 ∨ o = 10 ∨ o = 11 ∨ o = 12 ∨ o = 13 ∨ o = 14 ∨ o = 15 ∨ o = 16 := by omega
theorem opn_two (o : Int) (h : 3 ≤ o ∧ o ≤ 16) : opn o = 2 ∧ (grp o).1 ≠ 0 ∧ (grp o).2 = 2 := by
  rcases two_ways o h with rfl | rfl | rfl | rfl | rfl | rfl | rfl | rfl | rfl | rfl | rfl | rfl | rfl | rfl <;> decide
theorem opn_one (o : Int) (h : o = 1 ∨ o = 2) : opn o = 1 ∧ (grp o).1 ≠ 0 ∧ (grp o).2 = 1 := by
  rcases h with rfl | rfl <;> decide
set_option maxHeartbeats 4000000 in
theorem f48 (o : Int) (ts : List Int) : PCalls Try.prog 48 [.i .i64 o, iL ts] (rII (rsl o ts).1 (rsl o ts).2) := by
  unfold iL
  by_cases h1 : o = 1 ∨ o = 2
  · obtain ⟨q1, q2, q3⟩ := opn_one o h1
    cases h2 : (ts.length : Int) != 1
    · have hl : (ts.length : Int) = 1 := by simpa using h2
      match ts, hl with
      | [], hl => exfalso; simp at hl
      | _ :: _ :: _, hl => exfalso; simp at hl; omega
      | [a], hl =>
        clear h2 hl q1 q2 q3
        rcases h1 with rfl | rfl
        all_goals
          refine pcalls_of Try.func48 k48 rfl (Nat.le_of_ble_eq_true rfl) ?_
          repeat' (first
            | ((with_reducible refine cnd_intro (fun h => ?_) (fun h => ?_)) <;> simp only [h, opn, obo, oeq, oar, SXR, udf, AOp.dst, und, Nat.beq, exop, putAt, bldE, evI, evIo, isNil, List.replicate, Nat.ble, initS, initH, AR.slot, Int.reduceAdd, Int.reduceSub, Int.reduceNeg, Int.reduceBNe, Nat.reduceEqDiff, Nat.reduceSub, Nat.reduceAdd, Nat.reduceLeDiff, Nat.reduceBEq, Nat.reduceLT, Nat.reduceMul, Int.reduceBEq, Int.reduceLT, Int.reduceLE, reduceIte, reduceCtorEq])
            | (with_reducible refine Lp_step ?_)
            | (with_reducible refine pcl_intro (f70 _) ?_)
            | (with_reducible refine pcl_intro (f71 _) ?_)
            | (with_reducible refine pcl_intro (f72 _) ?_)
            | (with_reducible refine pcl_intro (f73 _) ?_)
            | (simp only [c48, opn, obo, oeq, oar, SXR, udf, AOp.dst, und, Nat.beq, exop, putAt, bldE, evI, evIo, isNil, List.replicate, Nat.ble, initS, initH, AR.slot, Int.reduceAdd, Int.reduceSub, Int.reduceNeg, Int.reduceBNe, Nat.reduceEqDiff, Nat.reduceSub, Nat.reduceAdd, Nat.reduceLeDiff, Nat.reduceBEq, Nat.reduceLT, Nat.reduceMul, Int.reduceBEq, Int.reduceLT, Int.reduceLE, reduceIte, reduceCtorEq]))
          all_goals simp_all [rsl, tyOk, grp]
    · have q4 : ((grp o).1 == 0) = false := by simpa using q2
      refine pcalls_of Try.func48 k48 rfl (Nat.le_of_ble_eq_true rfl) ?_
      repeat' (first
        | ((with_reducible refine cnd_intro (fun h => ?_) (fun h => ?_)) <;> simp only [h, q1, h2, SXR, udf, AOp.dst, und, Nat.beq, exop, putAt, bldE, evI, evIo, isNil, List.replicate, Nat.ble, initS, initH, AR.slot, Int.reduceAdd, Int.reduceSub, Int.reduceNeg, Int.reduceBNe, Nat.reduceEqDiff, Nat.reduceSub, Nat.reduceAdd, Nat.reduceLeDiff, Nat.reduceBEq, Nat.reduceLT, Nat.reduceMul, Int.reduceBEq, Int.reduceLT, Int.reduceLE, reduceIte, reduceCtorEq])
        | (with_reducible refine pcl_intro (f70 _) ?_)
        | (simp only [c48, q1, h2, SXR, udf, AOp.dst, und, Nat.beq, exop, putAt, bldE, evI, evIo, isNil, List.replicate, Nat.ble, initS, initH, AR.slot, Int.reduceAdd, Int.reduceSub, Int.reduceNeg, Int.reduceBNe, Nat.reduceEqDiff, Nat.reduceSub, Nat.reduceAdd, Nat.reduceLeDiff, Nat.reduceBEq, Nat.reduceLT, Nat.reduceMul, Int.reduceBEq, Int.reduceLT, Int.reduceLE, reduceIte, reduceCtorEq]))
      all_goals simp only [rsl, q3, q4, h2, if_true, if_false, Bool.false_eq_true]
  · by_cases h3 : 3 ≤ o ∧ o ≤ 16
    · obtain ⟨q1, q2, q3⟩ := opn_two o h3
      cases h2 : (ts.length : Int) != 2
      · have hl : (ts.length : Int) = 2 := by simpa using h2
        match ts, hl with
        | [], hl => exfalso; simp at hl
        | [_], hl => exfalso; simp at hl
        | _ :: _ :: _ :: _, hl => exfalso; simp at hl; omega
        | [a, b], hl =>
          clear h1 h2 hl q1 q2 q3
          rcases two_ways o h3 with rfl | rfl | rfl | rfl | rfl | rfl | rfl | rfl | rfl | rfl | rfl | rfl | rfl | rfl
          all_goals
            clear h3
            refine pcalls_of Try.func48 k48 rfl (Nat.le_of_ble_eq_true rfl) ?_
            repeat' (first
              | ((with_reducible refine cnd_intro (fun h => ?_) (fun h => ?_)) <;> simp only [h, opn, obo, oeq, oar, SXR, udf, AOp.dst, und, Nat.beq, exop, putAt, bldE, evI, evIo, isNil, List.replicate, Nat.ble, initS, initH, AR.slot, Int.reduceAdd, Int.reduceSub, Int.reduceNeg, Int.reduceBNe, Nat.reduceEqDiff, Nat.reduceSub, Nat.reduceAdd, Nat.reduceLeDiff, Nat.reduceBEq, Nat.reduceLT, Nat.reduceMul, Int.reduceBEq, Int.reduceLT, Int.reduceLE, reduceIte, reduceCtorEq])
              | (with_reducible refine Lp_step ?_)
              | (with_reducible refine pcl_intro (f70 _) ?_)
              | (with_reducible refine pcl_intro (f71 _) ?_)
              | (with_reducible refine pcl_intro (f72 _) ?_)
              | (with_reducible refine pcl_intro (f73 _) ?_)
              | (simp only [c48, opn, obo, oeq, oar, SXR, udf, AOp.dst, und, Nat.beq, exop, putAt, bldE, evI, evIo, isNil, List.replicate, Nat.ble, initS, initH, AR.slot, Int.reduceAdd, Int.reduceSub, Int.reduceNeg, Int.reduceBNe, Nat.reduceEqDiff, Nat.reduceSub, Nat.reduceAdd, Nat.reduceLeDiff, Nat.reduceBEq, Nat.reduceLT, Nat.reduceMul, Int.reduceBEq, Int.reduceLT, Int.reduceLE, reduceIte, reduceCtorEq]))
            all_goals simp_all [rsl, tyOk, grp]
            all_goals first | omega | (split <;> first | omega | simp_all)
      · have q4 : ((grp o).1 == 0) = false := by simpa using q2
        refine pcalls_of Try.func48 k48 rfl (Nat.le_of_ble_eq_true rfl) ?_
        repeat' (first
          | ((with_reducible refine cnd_intro (fun h => ?_) (fun h => ?_)) <;> simp only [h, q1, h2, SXR, udf, AOp.dst, und, Nat.beq, exop, putAt, bldE, evI, evIo, isNil, List.replicate, Nat.ble, initS, initH, AR.slot, Int.reduceAdd, Int.reduceSub, Int.reduceNeg, Int.reduceBNe, Nat.reduceEqDiff, Nat.reduceSub, Nat.reduceAdd, Nat.reduceLeDiff, Nat.reduceBEq, Nat.reduceLT, Nat.reduceMul, Int.reduceBEq, Int.reduceLT, Int.reduceLE, reduceIte, reduceCtorEq])
          | (with_reducible refine pcl_intro (f70 _) ?_)
          | (simp only [c48, q1, h2, SXR, udf, AOp.dst, und, Nat.beq, exop, putAt, bldE, evI, evIo, isNil, List.replicate, Nat.ble, initS, initH, AR.slot, Int.reduceAdd, Int.reduceSub, Int.reduceNeg, Int.reduceBNe, Nat.reduceEqDiff, Nat.reduceSub, Nat.reduceAdd, Nat.reduceLeDiff, Nat.reduceBEq, Nat.reduceLT, Nat.reduceMul, Int.reduceBEq, Int.reduceLT, Int.reduceLE, reduceIte, reduceCtorEq]))
        all_goals simp only [rsl, q3, q4, h2, if_true, if_false, Bool.false_eq_true]
    · obtain ⟨q1, q2⟩ := opn_no o h1 h3
      refine pcalls_of Try.func48 k48 rfl (Nat.le_of_ble_eq_true rfl) ?_
      repeat' (first
        | ((with_reducible refine cnd_intro (fun h => ?_) (fun h => ?_)) <;> simp only [h, q1, SXR, udf, AOp.dst, und, Nat.beq, exop, putAt, bldE, evI, evIo, isNil, List.replicate, Nat.ble, initS, initH, AR.slot, Int.reduceAdd, Int.reduceSub, Int.reduceNeg, Int.reduceBNe, Nat.reduceEqDiff, Nat.reduceSub, Nat.reduceAdd, Nat.reduceLeDiff, Nat.reduceBEq, Nat.reduceLT, Nat.reduceMul, Int.reduceBEq, Int.reduceLT, Int.reduceLE, reduceIte, reduceCtorEq])
        | (with_reducible refine pcl_intro (f70 _) ?_)
        | (simp only [c48, q1, SXR, udf, AOp.dst, und, Nat.beq, exop, putAt, bldE, evI, evIo, isNil, List.replicate, Nat.ble, initS, initH, AR.slot, Int.reduceAdd, Int.reduceSub, Int.reduceNeg, Int.reduceBNe, Nat.reduceEqDiff, Nat.reduceSub, Nat.reduceAdd, Nat.reduceLeDiff, Nat.reduceBEq, Nat.reduceLT, Nat.reduceMul, Int.reduceBEq, Int.reduceLT, Int.reduceLE, reduceIte, reduceCtorEq]))
      all_goals simp only [rsl, q2, Int.reduceBEq, if_true]
end Go.Proofs.Ytpfocppjojgooaa
