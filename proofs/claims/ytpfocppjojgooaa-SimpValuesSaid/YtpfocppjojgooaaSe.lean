/-
  Contracts of the reference's values of operators.
-/
import Derived.Test.YtpfocppjojgooaaSd
set_option linter.unusedSimpArgs false
namespace Go.Proofs.Ytpfocppjojgooaa
open Go.Abs
def oneI (x : Bool) : Int := if x then 1 else 0
theorem f87' (x : Bool) : PCalls Try.prog 87 [.b x] (rI (oneI x)) := f87 x
/-- the reference's value of an operator with two operands -/
def rcm (o a b : Int) : Int :=
  if o == 3 then IntKind.i64.wrap (a * b) else if o == 4 then oneI (decide (0 < IntKind.i64.wrap (a + b))) else if o == 5 then oneI (a != b) else if o == 6 then w16 (w16 a + w16 b) else if o == 7 then w16 (w16 a - w16 b)
  else if o == 8 then w16 (w16 a * w16 b) else if o == 9 then dv a b else if o == 10 then md a b else if o == 11 then oneI (a == b) else if o == 12 then oneI (a != b) else if o == 13 then oneI (decide (a < b)) else if o == 14 then oneI (decide (a ≤ b))
  else if o == 15 then oneI (decide (b < a)) else oneI (decide (b ≤ a))
set_option maxHeartbeats 4000000 in
theorem f75 (o a b : Int) : PCalls Try.prog 75 [.i .i64 o, .i .i64 a, .i .i64 b] (rI (rcm o a b)) := by
  refine pcalls_of Try.func75 k75 rfl (Nat.le_of_ble_eq_true rfl) ?_
  repeat' (first
    | ((with_reducible refine cnd_intro (fun h => ?_) (fun h => ?_)) <;> simp only [h, SXR, udf, AOp.dst, und, Nat.beq, exop, putAt, bldE, evI, evIo, isNil, List.replicate, Nat.ble, initS, initH, AR.slot, Int.reduceAdd, Int.reduceSub, Int.reduceNeg, Int.reduceBNe, Nat.reduceEqDiff, Nat.reduceSub, Nat.reduceAdd, Nat.reduceLeDiff, Nat.reduceBEq, Nat.reduceLT, Nat.reduceMul, Int.reduceBEq, Int.reduceLT, Int.reduceLE, reduceIte, reduceCtorEq])
    | (with_reducible refine pcl_intro (f87' _) ?_)
    | (with_reducible refine pcl_intro (f88 _ _) ?_)
    | (with_reducible refine pcl_intro (f89 _ _) ?_)
    | (with_reducible refine pcl_intro (f90 _ _) ?_)
    | (with_reducible refine pcl_intro (f91 _ _) ?_)
    | (with_reducible refine pcl_intro (f92 _ _) ?_)
    | (simp only [c75, SXR, udf, AOp.dst, und, Nat.beq, exop, putAt, bldE, evI, evIo, isNil, List.replicate, Nat.ble, initS, initH, AR.slot, Int.reduceAdd, Int.reduceSub, Int.reduceNeg, Int.reduceBNe, Nat.reduceEqDiff, Nat.reduceSub, Nat.reduceAdd, Nat.reduceLeDiff, Nat.reduceBEq, Nat.reduceLT, Nat.reduceMul, Int.reduceBEq, Int.reduceLT, Int.reduceLE, reduceIte, reduceCtorEq]))
  all_goals simp only [rcm, *, if_true, if_false, Bool.false_eq_true]
theorem wrap01 (a b : Int) (ha : a = 0 ∨ a = 1) (hb : b = 0 ∨ b = 1) : IntKind.i64.wrap (a * b) = (if a == 1 && b == 1 then 1 else 0) ∧ (decide (0 < IntKind.i64.wrap (a + b)) = (a == 1 || b == 1)) ∧ IntKind.i64.wrap (1 - a) = (if a == 0 then 1 else 0) := by
  rcases ha with rfl | rfl <;> rcases hb with rfl | rfl <;> decide
set_option maxHeartbeats 4000000 in
theorem f49 (o : Int) (ts : List Int) : PCalls Try.prog 49 [.i .i64 o, iL ts] (rII (apl o ts).1 (apl o ts).2) := by
  unfold iL
  by_cases h1 : o = 1 ∨ o = 2
  · obtain ⟨q1, q2, q3⟩ := opn_one o h1
    cases h2 : (ts.length : Int) != 1
    · have hl : (ts.length : Int) = 1 := by simpa using h2
      match ts, hl with
      | [], hl => exfalso; simp at hl
      | _ :: _ :: _, hl => exfalso; simp at hl; omega
      | [a], hl =>
        clear h2 hl q1 q2 q3
        rcases h1 with rfl | rfl
        all_goals
          refine pcalls_of Try.func49 k49 rfl (Nat.le_of_ble_eq_true rfl) ?_
          repeat' (first
            | ((with_reducible refine cnd_intro (fun h => ?_) (fun h => ?_)) <;> simp only [h, opn, obo, oeq, oar, SXR, udf, AOp.dst, und, Nat.beq, exop, putAt, bldE, evI, evIo, isNil, List.replicate, Nat.ble, initS, initH, AR.slot, Int.reduceAdd, Int.reduceSub, Int.reduceNeg, Int.reduceBNe, Nat.reduceEqDiff, Nat.reduceSub, Nat.reduceAdd, Nat.reduceLeDiff, Nat.reduceBEq, Nat.reduceLT, Nat.reduceMul, Int.reduceBEq, Int.reduceLT, Int.reduceLE, reduceIte, reduceCtorEq])
            | (with_reducible refine Lp_step ?_)
            | (with_reducible refine pcl_intro (f70 _) ?_)
            | (with_reducible refine pcl_intro (f71 _) ?_)
            | (with_reducible refine pcl_intro (f72 _) ?_)
            | (with_reducible refine pcl_intro (f73 _) ?_)
            | (with_reducible refine pcl_intro (f74 _) ?_)
            | (with_reducible refine pcl_intro (f75 _ _ _) ?_)
            | (simp only [c49, opn, obo, oeq, oar, SXR, udf, AOp.dst, und, Nat.beq, exop, putAt, bldE, evI, evIo, isNil, List.replicate, Nat.ble, initS, initH, AR.slot, Int.reduceAdd, Int.reduceSub, Int.reduceNeg, Int.reduceBNe, Nat.reduceEqDiff, Nat.reduceSub, Nat.reduceAdd, Nat.reduceLeDiff, Nat.reduceBEq, Nat.reduceLT, Nat.reduceMul, Int.reduceBEq, Int.reduceLT, Int.reduceLE, reduceIte, reduceCtorEq]))
          all_goals simp_all [apl, vOk, grp, cmp, hld]
          all_goals first | omega | decide | (split <;> first | omega | decide | simp_all)
    · have q4 : ((grp o).1 == 0) = false := by simpa using q2
      refine pcalls_of Try.func49 k49 rfl (Nat.le_of_ble_eq_true rfl) ?_
      repeat' (first
        | ((with_reducible refine cnd_intro (fun h => ?_) (fun h => ?_)) <;> simp only [h, q1, h2, SXR, udf, AOp.dst, und, Nat.beq, exop, putAt, bldE, evI, evIo, isNil, List.replicate, Nat.ble, initS, initH, AR.slot, Int.reduceAdd, Int.reduceSub, Int.reduceNeg, Int.reduceBNe, Nat.reduceEqDiff, Nat.reduceSub, Nat.reduceAdd, Nat.reduceLeDiff, Nat.reduceBEq, Nat.reduceLT, Nat.reduceMul, Int.reduceBEq, Int.reduceLT, Int.reduceLE, reduceIte, reduceCtorEq])
        | (with_reducible refine pcl_intro (f70 _) ?_)
        | (simp only [c49, q1, h2, SXR, udf, AOp.dst, und, Nat.beq, exop, putAt, bldE, evI, evIo, isNil, List.replicate, Nat.ble, initS, initH, AR.slot, Int.reduceAdd, Int.reduceSub, Int.reduceNeg, Int.reduceBNe, Nat.reduceEqDiff, Nat.reduceSub, Nat.reduceAdd, Nat.reduceLeDiff, Nat.reduceBEq, Nat.reduceLT, Nat.reduceMul, Int.reduceBEq, Int.reduceLT, Int.reduceLE, reduceIte, reduceCtorEq]))
      all_goals simp only [apl, q3, q4, h2, if_true, if_false, Bool.false_eq_true]
  · by_cases h3 : 3 ≤ o ∧ o ≤ 16
    · obtain ⟨q1, q2, q3⟩ := opn_two o h3
      cases h2 : (ts.length : Int) != 2
      · have hl : (ts.length : Int) = 2 := by simpa using h2
        match ts, hl with
        | [], hl => exfalso; simp at hl
        | [_], hl => exfalso; simp at hl
        | _ :: _ :: _ :: _, hl => exfalso; simp at hl; omega
        | [a, b], hl =>
          clear h1 h2 hl q1 q2 q3
          have w1 := wrap01 a b
          rcases two_ways o h3 with rfl | rfl | rfl | rfl | rfl | rfl | rfl | rfl | rfl | rfl | rfl | rfl | rfl | rfl
          all_goals
            clear h3
            refine pcalls_of Try.func49 k49 rfl (Nat.le_of_ble_eq_true rfl) ?_
            repeat' (first
              | ((with_reducible refine cnd_intro (fun h => ?_) (fun h => ?_)) <;> simp only [h, opn, obo, oeq, oar, SXR, udf, AOp.dst, und, Nat.beq, exop, putAt, bldE, evI, evIo, isNil, List.replicate, Nat.ble, initS, initH, AR.slot, Int.reduceAdd, Int.reduceSub, Int.reduceNeg, Int.reduceBNe, Nat.reduceEqDiff, Nat.reduceSub, Nat.reduceAdd, Nat.reduceLeDiff, Nat.reduceBEq, Nat.reduceLT, Nat.reduceMul, Int.reduceBEq, Int.reduceLT, Int.reduceLE, reduceIte, reduceCtorEq])
              | (with_reducible refine Lp_step ?_)
              | (with_reducible refine pcl_intro (f70 _) ?_)
              | (with_reducible refine pcl_intro (f71 _) ?_)
              | (with_reducible refine pcl_intro (f72 _) ?_)
              | (with_reducible refine pcl_intro (f73 _) ?_)
              | (with_reducible refine pcl_intro (f74 _) ?_)
              | (with_reducible refine pcl_intro (f75 _ _ _) ?_)
              | (simp only [c49, opn, obo, oeq, oar, SXR, udf, AOp.dst, und, Nat.beq, exop, putAt, bldE, evI, evIo, isNil, List.replicate, Nat.ble, initS, initH, AR.slot, Int.reduceAdd, Int.reduceSub, Int.reduceNeg, Int.reduceBNe, Nat.reduceEqDiff, Nat.reduceSub, Nat.reduceAdd, Nat.reduceLeDiff, Nat.reduceBEq, Nat.reduceLT, Nat.reduceMul, Int.reduceBEq, Int.reduceLT, Int.reduceLE, reduceIte, reduceCtorEq]))
            all_goals simp_all [apl, vOk, grp, cmp, hld, rcm, oneI]
            all_goals first | omega | decide | (split <;> first | omega | decide | simp_all)
      · have q4 : ((grp o).1 == 0) = false := by simpa using q2
        refine pcalls_of Try.func49 k49 rfl (Nat.le_of_ble_eq_true rfl) ?_
        repeat' (first
          | ((with_reducible refine cnd_intro (fun h => ?_) (fun h => ?_)) <;> simp only [h, q1, h2, SXR, udf, AOp.dst, und, Nat.beq, exop, putAt, bldE, evI, evIo, isNil, List.replicate, Nat.ble, initS, initH, AR.slot, Int.reduceAdd, Int.reduceSub, Int.reduceNeg, Int.reduceBNe, Nat.reduceEqDiff, Nat.reduceSub, Nat.reduceAdd, Nat.reduceLeDiff, Nat.reduceBEq, Nat.reduceLT, Nat.reduceMul, Int.reduceBEq, Int.reduceLT, Int.reduceLE, reduceIte, reduceCtorEq])
          | (with_reducible refine pcl_intro (f70 _) ?_)
          | (simp only [c49, q1, h2, SXR, udf, AOp.dst, und, Nat.beq, exop, putAt, bldE, evI, evIo, isNil, List.replicate, Nat.ble, initS, initH, AR.slot, Int.reduceAdd, Int.reduceSub, Int.reduceNeg, Int.reduceBNe, Nat.reduceEqDiff, Nat.reduceSub, Nat.reduceAdd, Nat.reduceLeDiff, Nat.reduceBEq, Nat.reduceLT, Nat.reduceMul, Int.reduceBEq, Int.reduceLT, Int.reduceLE, reduceIte, reduceCtorEq]))
        all_goals simp only [apl, q3, q4, h2, if_true, if_false, Bool.false_eq_true]
    · obtain ⟨q1, q2⟩ := opn_no o h1 h3
      refine pcalls_of Try.func49 k49 rfl (Nat.le_of_ble_eq_true rfl) ?_
      repeat' (first
        | ((with_reducible refine cnd_intro (fun h => ?_) (fun h => ?_)) <;> simp only [h, q1, SXR, udf, AOp.dst, und, Nat.beq, exop, putAt, bldE, evI, evIo, isNil, List.replicate, Nat.ble, initS, initH, AR.slot, Int.reduceAdd, Int.reduceSub, Int.reduceNeg, Int.reduceBNe, Nat.reduceEqDiff, Nat.reduceSub, Nat.reduceAdd, Nat.reduceLeDiff, Nat.reduceBEq, Nat.reduceLT, Nat.reduceMul, Int.reduceBEq, Int.reduceLT, Int.reduceLE, reduceIte, reduceCtorEq])
        | (with_reducible refine pcl_intro (f70 _) ?_)
        | (simp only [c49, q1, SXR, udf, AOp.dst, und, Nat.beq, exop, putAt, bldE, evI, evIo, isNil, List.replicate, Nat.ble, initS, initH, AR.slot, Int.reduceAdd, Int.reduceSub, Int.reduceNeg, Int.reduceBNe, Nat.reduceEqDiff, Nat.reduceSub, Nat.reduceAdd, Nat.reduceLeDiff, Nat.reduceBEq, Nat.reduceLT, Nat.reduceMul, Int.reduceBEq, Int.reduceLT, Int.reduceLE, reduceIte, reduceCtorEq]))
      all_goals simp only [apl, q2, Int.reduceBEq, if_true]
end Go.Proofs.Ytpfocppjojgooaa
