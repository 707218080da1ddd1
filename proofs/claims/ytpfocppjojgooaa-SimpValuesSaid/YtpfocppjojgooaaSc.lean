/-
  Contracts of the types and values of operators, in both texts.
-/
import Derived.Test.YtpfocppjojgooaaSb
set_option linter.unusedSimpArgs false
namespace Go.Proofs.Ytpfocppjojgooaa
open Go.Abs
def iL (l : List Int) : TV := .ts (l.map fun t => [.i .i64 t])
def tyOk (k t0 t : Int) : Bool := if k == 1 then t == 1 else if k == 3 then t == t0 && decide (1 ≤ t) else t == 2
/-- the type of an operator's result -/
def rsl (o : Int) (ts : List Int) : Int × Int :=
  if (grp o).1 == 0 then (0, 2) else if (ts.length : Int) != (grp o).2 then (0, 9) else if ts.all (tyOk (grp o).1 (ts.headD 0)) then (if (grp o).1 == 2 then 2 else 1, 0) else (0, 10)
theorem grp_n (o : Int) (h : ((grp o).1 == 0) = false) : (grp o).2 = 1 ∨ (grp o).2 = 2 := by
  revert h
  unfold grp
  repeat' split
  all_goals simp
theorem grp_cases (o : Int) : grp o = (0, 0) ∨ grp o = (1, 1) ∨ grp o = (1, 2) ∨ grp o = (2, 1) ∨ grp o = (2, 2) ∨ grp o = (3, 2) ∨ grp o = (4, 2) := by
  unfold grp
  repeat' split
  all_goals simp
set_option maxHeartbeats 4000000 in
theorem f12 (o : Int) (ts : List Int) : PCalls Try.prog 12 [.i .i64 o, iL ts] (rII (rsl o ts).1 (rsl o ts).2) := by
  unfold iL
  rcases grp_cases o with hg | hg | hg | hg | hg | hg | hg
  · refine pcalls_of Try.func12 k12 rfl (Nat.le_of_ble_eq_true rfl) ?_
    repeat' (first
      | (with_reducible refine pcl_intro (f26 _) ?_)
      | (simp only [c12, hg, SXR, udf, AOp.dst, und, Nat.beq, exop, putAt, bldE, evI, evIo, isNil, List.replicate, Nat.ble, initS, initH, AR.slot, Int.reduceAdd, Int.reduceSub, Int.reduceNeg, Int.reduceBNe, Nat.reduceEqDiff, Nat.reduceSub, Nat.reduceAdd, Nat.reduceLeDiff, Nat.reduceBEq, Nat.reduceLT, Nat.reduceMul, Int.reduceBEq, Int.reduceLT, Int.reduceLE, reduceIte, reduceCtorEq]))
    all_goals simp only [rsl, hg, if_true, Int.reduceBEq]
  · cases h1 : (ts.length : Int) != 1
    · have hl : (ts.length : Int) = 1 := by simpa using h1
      match ts, hl with
      | [], hl => exfalso; simp at hl
      | _ :: _ :: _, hl => exfalso; simp at hl; omega
      | [a], hl =>
        clear h1 hl
        refine pcalls_of Try.func12 k12 rfl (Nat.le_of_ble_eq_true rfl) ?_
        repeat' (first
          | ((with_reducible refine cnd_intro (fun h => ?_) (fun h => ?_)) <;> simp only [h, hg, SXR, udf, AOp.dst, und, Nat.beq, exop, putAt, bldE, evI, evIo, isNil, List.replicate, Nat.ble, initS, initH, AR.slot, Int.reduceAdd, Int.reduceSub, Int.reduceNeg, Int.reduceBNe, Nat.reduceEqDiff, Nat.reduceSub, Nat.reduceAdd, Nat.reduceLeDiff, Nat.reduceBEq, Nat.reduceLT, Nat.reduceMul, Int.reduceBEq, Int.reduceLT, Int.reduceLE, reduceIte, reduceCtorEq])
          | (with_reducible refine Lp_step ?_)
          | (with_reducible refine pcl_intro (f26 _) ?_)
          | (simp only [c12, hg, SXR, udf, AOp.dst, und, Nat.beq, exop, putAt, bldE, evI, evIo, isNil, List.replicate, Nat.ble, initS, initH, AR.slot, Int.reduceAdd, Int.reduceSub, Int.reduceNeg, Int.reduceBNe, Nat.reduceEqDiff, Nat.reduceSub, Nat.reduceAdd, Nat.reduceLeDiff, Nat.reduceBEq, Nat.reduceLT, Nat.reduceMul, Int.reduceBEq, Int.reduceLT, Int.reduceLE, reduceIte, reduceCtorEq]))
        all_goals simp_all [rsl, tyOk]
        all_goals first | omega | (split <;> first | omega | simp_all)
    · refine pcalls_of Try.func12 k12 rfl (Nat.le_of_ble_eq_true rfl) ?_
      repeat' (first
        | (with_reducible refine pcl_intro (f26 _) ?_)
        | (simp only [c12, hg, h1, SXR, udf, AOp.dst, und, Nat.beq, exop, putAt, bldE, evI, evIo, isNil, List.replicate, Nat.ble, initS, initH, AR.slot, Int.reduceAdd, Int.reduceSub, Int.reduceNeg, Int.reduceBNe, Nat.reduceEqDiff, Nat.reduceSub, Nat.reduceAdd, Nat.reduceLeDiff, Nat.reduceBEq, Nat.reduceLT, Nat.reduceMul, Int.reduceBEq, Int.reduceLT, Int.reduceLE, reduceIte, reduceCtorEq]))
      all_goals simp only [rsl, hg, h1, if_true, if_false, Bool.false_eq_true, Int.reduceBEq]
  · cases h1 : (ts.length : Int) != 2
    · have hl : (ts.length : Int) = 2 := by simpa using h1
      match ts, hl with
      | [], hl => exfalso; simp at hl
      | [_], hl => exfalso; simp at hl
      | _ :: _ :: _ :: _, hl => exfalso; simp at hl; omega
      | [a, b], hl =>
        clear h1 hl
        refine pcalls_of Try.func12 k12 rfl (Nat.le_of_ble_eq_true rfl) ?_
        repeat' (first
          | ((with_reducible refine cnd_intro (fun h => ?_) (fun h => ?_)) <;> simp only [h, hg, SXR, udf, AOp.dst, und, Nat.beq, exop, putAt, bldE, evI, evIo, isNil, List.replicate, Nat.ble, initS, initH, AR.slot, Int.reduceAdd, Int.reduceSub, Int.reduceNeg, Int.reduceBNe, Nat.reduceEqDiff, Nat.reduceSub, Nat.reduceAdd, Nat.reduceLeDiff, Nat.reduceBEq, Nat.reduceLT, Nat.reduceMul, Int.reduceBEq, Int.reduceLT, Int.reduceLE, reduceIte, reduceCtorEq])
          | (with_reducible refine Lp_step ?_)
          | (with_reducible refine pcl_intro (f26 _) ?_)
          | (simp only [c12, hg, SXR, udf, AOp.dst, und, Nat.beq, exop, putAt, bldE, evI, evIo, isNil, List.replicate, Nat.ble, initS, initH, AR.slot, Int.reduceAdd, Int.reduceSub, Int.reduceNeg, Int.reduceBNe, Nat.reduceEqDiff, Nat.reduceSub, Nat.reduceAdd, Nat.reduceLeDiff, Nat.reduceBEq, Nat.reduceLT, Nat.reduceMul, Int.reduceBEq, Int.reduceLT, Int.reduceLE, reduceIte, reduceCtorEq]))
        all_goals simp_all [rsl, tyOk]
        all_goals first | omega | (split <;> first | omega | simp_all)
    · refine pcalls_of Try.func12 k12 rfl (Nat.le_of_ble_eq_true rfl) ?_
      repeat' (first
        | (with_reducible refine pcl_intro (f26 _) ?_)
        | (simp only [c12, hg, h1, SXR, udf, AOp.dst, und, Nat.beq, exop, putAt, bldE, evI, evIo, isNil, List.replicate, Nat.ble, initS, initH, AR.slot, Int.reduceAdd, Int.reduceSub, Int.reduceNeg, Int.reduceBNe, Nat.reduceEqDiff, Nat.reduceSub, Nat.reduceAdd, Nat.reduceLeDiff, Nat.reduceBEq, Nat.reduceLT, Nat.reduceMul, Int.reduceBEq, Int.reduceLT, Int.reduceLE, reduceIte, reduceCtorEq]))
      all_goals simp only [rsl, hg, h1, if_true, if_false, Bool.false_eq_true, Int.reduceBEq]
  · cases h1 : (ts.length : Int) != 1
    · have hl : (ts.length : Int) = 1 := by simpa using h1
      match ts, hl with
      | [], hl => exfalso; simp at hl
      | _ :: _ :: _, hl => exfalso; simp at hl; omega
      | [a], hl =>
        clear h1 hl
        refine pcalls_of Try.func12 k12 rfl (Nat.le_of_ble_eq_true rfl) ?_
        repeat' (first
          | ((with_reducible refine cnd_intro (fun h => ?_) (fun h => ?_)) <;> simp only [h, hg, SXR, udf, AOp.dst, und, Nat.beq, exop, putAt, bldE, evI, evIo, isNil, List.replicate, Nat.ble, initS, initH, AR.slot, Int.reduceAdd, Int.reduceSub, Int.reduceNeg, Int.reduceBNe, Nat.reduceEqDiff, Nat.reduceSub, Nat.reduceAdd, Nat.reduceLeDiff, Nat.reduceBEq, Nat.reduceLT, Nat.reduceMul, Int.reduceBEq, Int.reduceLT, Int.reduceLE, reduceIte, reduceCtorEq])
          | (with_reducible refine Lp_step ?_)
          | (with_reducible refine pcl_intro (f26 _) ?_)
          | (simp only [c12, hg, SXR, udf, AOp.dst, und, Nat.beq, exop, putAt, bldE, evI, evIo, isNil, List.replicate, Nat.ble, initS, initH, AR.slot, Int.reduceAdd, Int.reduceSub, Int.reduceNeg, Int.reduceBNe, Nat.reduceEqDiff, Nat.reduceSub, Nat.reduceAdd, Nat.reduceLeDiff, Nat.reduceBEq, Nat.reduceLT, Nat.reduceMul, Int.reduceBEq, Int.reduceLT, Int.reduceLE, reduceIte, reduceCtorEq]))
        all_goals simp_all [rsl, tyOk]
        all_goals first | omega | (split <;> first | omega | simp_all)
    · refine pcalls_of Try.func12 k12 rfl (Nat.le_of_ble_eq_true rfl) ?_
      repeat' (first
        | (with_reducible refine pcl_intro (f26 _) ?_)
        | (simp only [c12, hg, h1, SXR, udf, AOp.dst, und, Nat.beq, exop, putAt, bldE, evI, evIo, isNil, List.replicate, Nat.ble, initS, initH, AR.slot, Int.reduceAdd, Int.reduceSub, Int.reduceNeg, Int.reduceBNe, Nat.reduceEqDiff, Nat.reduceSub, Nat.reduceAdd, Nat.reduceLeDiff, Nat.reduceBEq, Nat.reduceLT, Nat.reduceMul, Int.reduceBEq, Int.reduceLT, Int.reduceLE, reduceIte, reduceCtorEq]))
      all_goals simp only [rsl, hg, h1, if_true, if_false, Bool.false_eq_true, Int.reduceBEq]
  · cases h1 : (ts.length : Int) != 2
    · have hl : (ts.length : Int) = 2 := by simpa using h1
      match ts, hl with
      | [], hl => exfalso; simp at hl
      | [_], hl => exfalso; simp at hl
      | _ :: _ :: _ :: _, hl => exfalso; simp at hl; omega
      | [a, b], hl =>
        clear h1 hl
        refine pcalls_of Try.func12 k12 rfl (Nat.le_of_ble_eq_true rfl) ?_
        repeat' (first
          | ((with_reducible refine cnd_intro (fun h => ?_) (fun h => ?_)) <;> simp only [h, hg, SXR, udf, AOp.dst, und, Nat.beq, exop, putAt, bldE, evI, evIo, isNil, List.replicate, Nat.ble, initS, initH, AR.slot, Int.reduceAdd, Int.reduceSub, Int.reduceNeg, Int.reduceBNe, Nat.reduceEqDiff, Nat.reduceSub, Nat.reduceAdd, Nat.reduceLeDiff, Nat.reduceBEq, Nat.reduceLT, Nat.reduceMul, Int.reduceBEq, Int.reduceLT, Int.reduceLE, reduceIte, reduceCtorEq])
          | (with_reducible refine Lp_step ?_)
          | (with_reducible refine pcl_intro (f26 _) ?_)
          | (simp only [c12, hg, SXR, udf, AOp.dst, und, Nat.beq, exop, putAt, bldE, evI, evIo, isNil, List.replicate, Nat.ble, initS, initH, AR.slot, Int.reduceAdd, Int.reduceSub, Int.reduceNeg, Int.reduceBNe, Nat.reduceEqDiff, Nat.reduceSub, Nat.reduceAdd, Nat.reduceLeDiff, Nat.reduceBEq, Nat.reduceLT, Nat.reduceMul, Int.reduceBEq, Int.reduceLT, Int.reduceLE, reduceIte, reduceCtorEq]))
        all_goals simp_all [rsl, tyOk]
        all_goals first | omega | (split <;> first | omega | simp_all)
    · refine pcalls_of Try.func12 k12 rfl (Nat.le_of_ble_eq_true rfl) ?_
      repeat' (first
        | (with_reducible refine pcl_intro (f26 _) ?_)
        | (simp only [c12, hg, h1, SXR, udf, AOp.dst, und, Nat.beq, exop, putAt, bldE, evI, evIo, isNil, List.replicate, Nat.ble, initS, initH, AR.slot, Int.reduceAdd, Int.reduceSub, Int.reduceNeg, Int.reduceBNe, Nat.reduceEqDiff, Nat.reduceSub, Nat.reduceAdd, Nat.reduceLeDiff, Nat.reduceBEq, Nat.reduceLT, Nat.reduceMul, Int.reduceBEq, Int.reduceLT, Int.reduceLE, reduceIte, reduceCtorEq]))
      all_goals simp only [rsl, hg, h1, if_true, if_false, Bool.false_eq_true, Int.reduceBEq]
  · cases h1 : (ts.length : Int) != 2
    · have hl : (ts.length : Int) = 2 := by simpa using h1
      match ts, hl with
      | [], hl => exfalso; simp at hl
      | [_], hl => exfalso; simp at hl
      | _ :: _ :: _ :: _, hl => exfalso; simp at hl; omega
      | [a, b], hl =>
        clear h1 hl
        refine pcalls_of Try.func12 k12 rfl (Nat.le_of_ble_eq_true rfl) ?_
        repeat' (first
          | ((with_reducible refine cnd_intro (fun h => ?_) (fun h => ?_)) <;> simp only [h, hg, SXR, udf, AOp.dst, und, Nat.beq, exop, putAt, bldE, evI, evIo, isNil, List.replicate, Nat.ble, initS, initH, AR.slot, Int.reduceAdd, Int.reduceSub, Int.reduceNeg, Int.reduceBNe, Nat.reduceEqDiff, Nat.reduceSub, Nat.reduceAdd, Nat.reduceLeDiff, Nat.reduceBEq, Nat.reduceLT, Nat.reduceMul, Int.reduceBEq, Int.reduceLT, Int.reduceLE, reduceIte, reduceCtorEq])
          | (with_reducible refine Lp_step ?_)
          | (with_reducible refine pcl_intro (f26 _) ?_)
          | (simp only [c12, hg, SXR, udf, AOp.dst, und, Nat.beq, exop, putAt, bldE, evI, evIo, isNil, List.replicate, Nat.ble, initS, initH, AR.slot, Int.reduceAdd, Int.reduceSub, Int.reduceNeg, Int.reduceBNe, Nat.reduceEqDiff, Nat.reduceSub, Nat.reduceAdd, Nat.reduceLeDiff, Nat.reduceBEq, Nat.reduceLT, Nat.reduceMul, Int.reduceBEq, Int.reduceLT, Int.reduceLE, reduceIte, reduceCtorEq]))
        all_goals simp_all [rsl, tyOk]
        all_goals first | omega | (split <;> first | omega | simp_all)
    · refine pcalls_of Try.func12 k12 rfl (Nat.le_of_ble_eq_true rfl) ?_
      repeat' (first
        | (with_reducible refine pcl_intro (f26 _) ?_)
        | (simp only [c12, hg, h1, SXR, udf, AOp.dst, und, Nat.beq, exop, putAt, bldE, evI, evIo, isNil, List.replicate, Nat.ble, initS, initH, AR.slot, Int.reduceAdd, Int.reduceSub, Int.reduceNeg, Int.reduceBNe, Nat.reduceEqDiff, Nat.reduceSub, Nat.reduceAdd, Nat.reduceLeDiff, Nat.reduceBEq, Nat.reduceLT, Nat.reduceMul, Int.reduceBEq, Int.reduceLT, Int.reduceLE, reduceIte, reduceCtorEq]))
      all_goals simp only [rsl, hg, h1, if_true, if_false, Bool.false_eq_true, Int.reduceBEq]
  · cases h1 : (ts.length : Int) != 2
    · have hl : (ts.length : Int) = 2 := by simpa using h1
      match ts, hl with
      | [], hl => exfalso; simp at hl
      | [_], hl => exfalso; simp at hl
      | _ :: _ :: _ :: _, hl => exfalso; simp at hl; omega
      | [a, b], hl =>
        clear h1 hl
        refine pcalls_of Try.func12 k12 rfl (Nat.le_of_ble_eq_true rfl) ?_
        repeat' (first
          | ((with_reducible refine cnd_intro (fun h => ?_) (fun h => ?_)) <;> simp only [h, hg, SXR, udf, AOp.dst, und, Nat.beq, exop, putAt, bldE, evI, evIo, isNil, List.replicate, Nat.ble, initS, initH, AR.slot, Int.reduceAdd, Int.reduceSub, Int.reduceNeg, Int.reduceBNe, Nat.reduceEqDiff, Nat.reduceSub, Nat.reduceAdd, Nat.reduceLeDiff, Nat.reduceBEq, Nat.reduceLT, Nat.reduceMul, Int.reduceBEq, Int.reduceLT, Int.reduceLE, reduceIte, reduceCtorEq])
          | (with_reducible refine Lp_step ?_)
          | (with_reducible refine pcl_intro (f26 _) ?_)
          | (simp only [c12, hg, SXR, udf, AOp.dst, und, Nat.beq, exop, putAt, bldE, evI, evIo, isNil, List.replicate, Nat.ble, initS, initH, AR.slot, Int.reduceAdd, Int.reduceSub, Int.reduceNeg, Int.reduceBNe, Nat.reduceEqDiff, Nat.reduceSub, Nat.reduceAdd, Nat.reduceLeDiff, Nat.reduceBEq, Nat.reduceLT, Nat.reduceMul, Int.reduceBEq, Int.reduceLT, Int.reduceLE, reduceIte, reduceCtorEq]))
        all_goals simp_all [rsl, tyOk]
        all_goals first | omega | (split <;> first | omega | simp_all)
    · refine pcalls_of Try.func12 k12 rfl (Nat.le_of_ble_eq_true rfl) ?_
      repeat' (first
        | (with_reducible refine pcl_intro (f26 _) ?_)
        | (simp only [c12, hg, h1, SXR, udf, AOp.dst, und, Nat.beq, exop, putAt, bldE, evI, evIo, isNil, List.replicate, Nat.ble, initS, initH, AR.slot, Int.reduceAdd, Int.reduceSub, Int.reduceNeg, Int.reduceBNe, Nat.reduceEqDiff, Nat.reduceSub, Nat.reduceAdd, Nat.reduceLeDiff, Nat.reduceBEq, Nat.reduceLT, Nat.reduceMul, Int.reduceBEq, Int.reduceLT, Int.reduceLE, reduceIte, reduceCtorEq]))
      all_goals simp only [rsl, hg, h1, if_true, if_false, Bool.false_eq_true, Int.reduceBEq]
def vOk (k v : Int) : Bool := if k == 1 then v == 0 || v == 1 else if k == 2 || k == 4 then decide (-32768 ≤ v) && decide (v ≤ 32767) else true
/-- the value of an operator -/
def apl (o : Int) (vs : List Int) : Int × Int :=
  if (grp o).1 == 0 then (0, 2) else if (vs.length : Int) != (grp o).2 then (0, 9) else if vs.all (vOk (grp o).1) then (if (grp o).1 == 2 then cmp o (vs.headD 0) (vs.getLastD 0) else if hld o (vs.headD 0) (vs.getLastD 0) then 1 else 0, 0) else (0, 14)
set_option maxHeartbeats 4000000 in
theorem f13 (o : Int) (ts : List Int) : PCalls Try.prog 13 [.i .i64 o, iL ts] (rII (apl o ts).1 (apl o ts).2) := by
  unfold iL
  rcases grp_cases o with hg | hg | hg | hg | hg | hg | hg
  · refine pcalls_of Try.func13 k13 rfl (Nat.le_of_ble_eq_true rfl) ?_
    repeat' (first
      | (with_reducible refine pcl_intro (f26 _) ?_)
      | (simp only [c13, hg, SXR, udf, AOp.dst, und, Nat.beq, exop, putAt, bldE, evI, evIo, isNil, List.replicate, Nat.ble, initS, initH, AR.slot, Int.reduceAdd, Int.reduceSub, Int.reduceNeg, Int.reduceBNe, Nat.reduceEqDiff, Nat.reduceSub, Nat.reduceAdd, Nat.reduceLeDiff, Nat.reduceBEq, Nat.reduceLT, Nat.reduceMul, Int.reduceBEq, Int.reduceLT, Int.reduceLE, reduceIte, reduceCtorEq]))
    all_goals simp only [apl, hg, if_true, Int.reduceBEq]
  · cases h1 : (ts.length : Int) != 1
    · have hl : (ts.length : Int) = 1 := by simpa using h1
      match ts, hl with
      | [], hl => exfalso; simp at hl
      | _ :: _ :: _, hl => exfalso; simp at hl; omega
      | [a], hl =>
        clear h1 hl
        refine pcalls_of Try.func13 k13 rfl (Nat.le_of_ble_eq_true rfl) ?_
        repeat' (first
          | ((with_reducible refine cnd_intro (fun h => ?_) (fun h => ?_)) <;> simp only [h, hg, SXR, udf, AOp.dst, und, Nat.beq, exop, putAt, bldE, evI, evIo, isNil, List.replicate, Nat.ble, initS, initH, AR.slot, Int.reduceAdd, Int.reduceSub, Int.reduceNeg, Int.reduceBNe, Nat.reduceEqDiff, Nat.reduceSub, Nat.reduceAdd, Nat.reduceLeDiff, Nat.reduceBEq, Nat.reduceLT, Nat.reduceMul, Int.reduceBEq, Int.reduceLT, Int.reduceLE, reduceIte, reduceCtorEq])
          | (with_reducible refine Lp_step ?_)
          | (with_reducible refine pcl_intro (f26 _) ?_)
          | (with_reducible refine pcl_intro (f27 _) ?_)
          | (with_reducible refine pcl_intro (f28 _ _ _) ?_)
          | (with_reducible refine pcl_intro (f29 _) ?_)
          | (with_reducible refine pcl_intro (f30 _ _ _) ?_)
          | (simp only [c13, hg, SXR, udf, AOp.dst, und, Nat.beq, exop, putAt, bldE, evI, evIo, isNil, List.replicate, Nat.ble, initS, initH, AR.slot, Int.reduceAdd, Int.reduceSub, Int.reduceNeg, Int.reduceBNe, Nat.reduceEqDiff, Nat.reduceSub, Nat.reduceAdd, Nat.reduceLeDiff, Nat.reduceBEq, Nat.reduceLT, Nat.reduceMul, Int.reduceBEq, Int.reduceLT, Int.reduceLE, reduceIte, reduceCtorEq]))
        all_goals simp_all [apl, vOk]
        all_goals first | omega | (split <;> first | omega | simp_all)
    · refine pcalls_of Try.func13 k13 rfl (Nat.le_of_ble_eq_true rfl) ?_
      repeat' (first
        | (with_reducible refine pcl_intro (f26 _) ?_)
        | (simp only [c13, hg, h1, SXR, udf, AOp.dst, und, Nat.beq, exop, putAt, bldE, evI, evIo, isNil, List.replicate, Nat.ble, initS, initH, AR.slot, Int.reduceAdd, Int.reduceSub, Int.reduceNeg, Int.reduceBNe, Nat.reduceEqDiff, Nat.reduceSub, Nat.reduceAdd, Nat.reduceLeDiff, Nat.reduceBEq, Nat.reduceLT, Nat.reduceMul, Int.reduceBEq, Int.reduceLT, Int.reduceLE, reduceIte, reduceCtorEq]))
      all_goals simp only [apl, hg, h1, if_true, if_false, Bool.false_eq_true, Int.reduceBEq]
  · cases h1 : (ts.length : Int) != 2
    · have hl : (ts.length : Int) = 2 := by simpa using h1
      match ts, hl with
      | [], hl => exfalso; simp at hl
      | [_], hl => exfalso; simp at hl
      | _ :: _ :: _ :: _, hl => exfalso; simp at hl; omega
      | [a, b], hl =>
        clear h1 hl
        refine pcalls_of Try.func13 k13 rfl (Nat.le_of_ble_eq_true rfl) ?_
        repeat' (first
          | ((with_reducible refine cnd_intro (fun h => ?_) (fun h => ?_)) <;> simp only [h, hg, SXR, udf, AOp.dst, und, Nat.beq, exop, putAt, bldE, evI, evIo, isNil, List.replicate, Nat.ble, initS, initH, AR.slot, Int.reduceAdd, Int.reduceSub, Int.reduceNeg, Int.reduceBNe, Nat.reduceEqDiff, Nat.reduceSub, Nat.reduceAdd, Nat.reduceLeDiff, Nat.reduceBEq, Nat.reduceLT, Nat.reduceMul, Int.reduceBEq, Int.reduceLT, Int.reduceLE, reduceIte, reduceCtorEq])
          | (with_reducible refine Lp_step ?_)
          | (with_reducible refine pcl_intro (f26 _) ?_)
          | (with_reducible refine pcl_intro (f27 _) ?_)
          | (with_reducible refine pcl_intro (f28 _ _ _) ?_)
          | (with_reducible refine pcl_intro (f29 _) ?_)
          | (with_reducible refine pcl_intro (f30 _ _ _) ?_)
          | (simp only [c13, hg, SXR, udf, AOp.dst, und, Nat.beq, exop, putAt, bldE, evI, evIo, isNil, List.replicate, Nat.ble, initS, initH, AR.slot, Int.reduceAdd, Int.reduceSub, Int.reduceNeg, Int.reduceBNe, Nat.reduceEqDiff, Nat.reduceSub, Nat.reduceAdd, Nat.reduceLeDiff, Nat.reduceBEq, Nat.reduceLT, Nat.reduceMul, Int.reduceBEq, Int.reduceLT, Int.reduceLE, reduceIte, reduceCtorEq]))
        all_goals simp_all [apl, vOk]
        all_goals first | omega | (split <;> first | omega | simp_all)
    · refine pcalls_of Try.func13 k13 rfl (Nat.le_of_ble_eq_true rfl) ?_
      repeat' (first
        | (with_reducible refine pcl_intro (f26 _) ?_)
        | (simp only [c13, hg, h1, SXR, udf, AOp.dst, und, Nat.beq, exop, putAt, bldE, evI, evIo, isNil, List.replicate, Nat.ble, initS, initH, AR.slot, Int.reduceAdd, Int.reduceSub, Int.reduceNeg, Int.reduceBNe, Nat.reduceEqDiff, Nat.reduceSub, Nat.reduceAdd, Nat.reduceLeDiff, Nat.reduceBEq, Nat.reduceLT, Nat.reduceMul, Int.reduceBEq, Int.reduceLT, Int.reduceLE, reduceIte, reduceCtorEq]))
      all_goals simp only [apl, hg, h1, if_true, if_false, Bool.false_eq_true, Int.reduceBEq]
  · cases h1 : (ts.length : Int) != 1
    · have hl : (ts.length : Int) = 1 := by simpa using h1
      match ts, hl with
      | [], hl => exfalso; simp at hl
      | _ :: _ :: _, hl => exfalso; simp at hl; omega
      | [a], hl =>
        clear h1 hl
        refine pcalls_of Try.func13 k13 rfl (Nat.le_of_ble_eq_true rfl) ?_
        repeat' (first
          | ((with_reducible refine cnd_intro (fun h => ?_) (fun h => ?_)) <;> simp only [h, hg, SXR, udf, AOp.dst, und, Nat.beq, exop, putAt, bldE, evI, evIo, isNil, List.replicate, Nat.ble, initS, initH, AR.slot, Int.reduceAdd, Int.reduceSub, Int.reduceNeg, Int.reduceBNe, Nat.reduceEqDiff, Nat.reduceSub, Nat.reduceAdd, Nat.reduceLeDiff, Nat.reduceBEq, Nat.reduceLT, Nat.reduceMul, Int.reduceBEq, Int.reduceLT, Int.reduceLE, reduceIte, reduceCtorEq])
          | (with_reducible refine Lp_step ?_)
          | (with_reducible refine pcl_intro (f26 _) ?_)
          | (with_reducible refine pcl_intro (f27 _) ?_)
          | (with_reducible refine pcl_intro (f28 _ _ _) ?_)
          | (with_reducible refine pcl_intro (f29 _) ?_)
          | (with_reducible refine pcl_intro (f30 _ _ _) ?_)
          | (simp only [c13, hg, SXR, udf, AOp.dst, und, Nat.beq, exop, putAt, bldE, evI, evIo, isNil, List.replicate, Nat.ble, initS, initH, AR.slot, Int.reduceAdd, Int.reduceSub, Int.reduceNeg, Int.reduceBNe, Nat.reduceEqDiff, Nat.reduceSub, Nat.reduceAdd, Nat.reduceLeDiff, Nat.reduceBEq, Nat.reduceLT, Nat.reduceMul, Int.reduceBEq, Int.reduceLT, Int.reduceLE, reduceIte, reduceCtorEq]))
        all_goals simp_all [apl, vOk]
        all_goals first | omega | (split <;> first | omega | simp_all)
    · refine pcalls_of Try.func13 k13 rfl (Nat.le_of_ble_eq_true rfl) ?_
      repeat' (first
        | (with_reducible refine pcl_intro (f26 _) ?_)
        | (simp only [c13, hg, h1, SXR, udf, AOp.dst, und, Nat.beq, exop, putAt, bldE, evI, evIo, isNil, List.replicate, Nat.ble, initS, initH, AR.slot, Int.reduceAdd, Int.reduceSub, Int.reduceNeg, Int.reduceBNe, Nat.reduceEqDiff, Nat.reduceSub, Nat.reduceAdd, Nat.reduceLeDiff, Nat.reduceBEq, Nat.reduceLT, Nat.reduceMul, Int.reduceBEq, Int.reduceLT, Int.reduceLE, reduceIte, reduceCtorEq]))
      all_goals simp only [apl, hg, h1, if_true, if_false, Bool.false_eq_true, Int.reduceBEq]
  · cases h1 : (ts.length : Int) != 2
    · have hl : (ts.length : Int) = 2 := by simpa using h1
      match ts, hl with
      | [], hl => exfalso; simp at hl
      | [_], hl => exfalso; simp at hl
      | _ :: _ :: _ :: _, hl => exfalso; simp at hl; omega
      | [a, b], hl =>
        clear h1 hl
        refine pcalls_of Try.func13 k13 rfl (Nat.le_of_ble_eq_true rfl) ?_
        repeat' (first
          | ((with_reducible refine cnd_intro (fun h => ?_) (fun h => ?_)) <;> simp only [h, hg, SXR, udf, AOp.dst, und, Nat.beq, exop, putAt, bldE, evI, evIo, isNil, List.replicate, Nat.ble, initS, initH, AR.slot, Int.reduceAdd, Int.reduceSub, Int.reduceNeg, Int.reduceBNe, Nat.reduceEqDiff, Nat.reduceSub, Nat.reduceAdd, Nat.reduceLeDiff, Nat.reduceBEq, Nat.reduceLT, Nat.reduceMul, Int.reduceBEq, Int.reduceLT, Int.reduceLE, reduceIte, reduceCtorEq])
          | (with_reducible refine Lp_step ?_)
          | (with_reducible refine pcl_intro (f26 _) ?_)
          | (with_reducible refine pcl_intro (f27 _) ?_)
          | (with_reducible refine pcl_intro (f28 _ _ _) ?_)
          | (with_reducible refine pcl_intro (f29 _) ?_)
          | (with_reducible refine pcl_intro (f30 _ _ _) ?_)
          | (simp only [c13, hg, SXR, udf, AOp.dst, und, Nat.beq, exop, putAt, bldE, evI, evIo, isNil, List.replicate, Nat.ble, initS, initH, AR.slot, Int.reduceAdd, Int.reduceSub, Int.reduceNeg, Int.reduceBNe, Nat.reduceEqDiff, Nat.reduceSub, Nat.reduceAdd, Nat.reduceLeDiff, Nat.reduceBEq, Nat.reduceLT, Nat.reduceMul, Int.reduceBEq, Int.reduceLT, Int.reduceLE, reduceIte, reduceCtorEq]))
        all_goals simp_all [apl, vOk]
        all_goals first | omega | (split <;> first | omega | simp_all)
    · refine pcalls_of Try.func13 k13 rfl (Nat.le_of_ble_eq_true rfl) ?_
      repeat' (first
        | (with_reducible refine pcl_intro (f26 _) ?_)
        | (simp only [c13, hg, h1, SXR, udf, AOp.dst, und, Nat.beq, exop, putAt, bldE, evI, evIo, isNil, List.replicate, Nat.ble, initS, initH, AR.slot, Int.reduceAdd, Int.reduceSub, Int.reduceNeg, Int.reduceBNe, Nat.reduceEqDiff, Nat.reduceSub, Nat.reduceAdd, Nat.reduceLeDiff, Nat.reduceBEq, Nat.reduceLT, Nat.reduceMul, Int.reduceBEq, Int.reduceLT, Int.reduceLE, reduceIte, reduceCtorEq]))
      all_goals simp only [apl, hg, h1, if_true, if_false, Bool.false_eq_true, Int.reduceBEq]
  · cases h1 : (ts.length : Int) != 2
    · have hl : (ts.length : Int) = 2 := by simpa using h1
      match ts, hl with
      | [], hl => exfalso; simp at hl
      | [_], hl => exfalso; simp at hl
      | _ :: _ :: _ :: _, hl => exfalso; simp at hl; omega
      | [a, b], hl =>
        clear h1 hl
        refine pcalls_of Try.func13 k13 rfl (Nat.le_of_ble_eq_true rfl) ?_
        repeat' (first
          | ((with_reducible refine cnd_intro (fun h => ?_) (fun h => ?_)) <;> simp only [h, hg, SXR, udf, AOp.dst, und, Nat.beq, exop, putAt, bldE, evI, evIo, isNil, List.replicate, Nat.ble, initS, initH, AR.slot, Int.reduceAdd, Int.reduceSub, Int.reduceNeg, Int.reduceBNe, Nat.reduceEqDiff, Nat.reduceSub, Nat.reduceAdd, Nat.reduceLeDiff, Nat.reduceBEq, Nat.reduceLT, Nat.reduceMul, Int.reduceBEq, Int.reduceLT, Int.reduceLE, reduceIte, reduceCtorEq])
          | (with_reducible refine Lp_step ?_)
          | (with_reducible refine pcl_intro (f26 _) ?_)
          | (with_reducible refine pcl_intro (f27 _) ?_)
          | (with_reducible refine pcl_intro (f28 _ _ _) ?_)
          | (with_reducible refine pcl_intro (f29 _) ?_)
          | (with_reducible refine pcl_intro (f30 _ _ _) ?_)
          | (simp only [c13, hg, SXR, udf, AOp.dst, und, Nat.beq, exop, putAt, bldE, evI, evIo, isNil, List.replicate, Nat.ble, initS, initH, AR.slot, Int.reduceAdd, Int.reduceSub, Int.reduceNeg, Int.reduceBNe, Nat.reduceEqDiff, Nat.reduceSub, Nat.reduceAdd, Nat.reduceLeDiff, Nat.reduceBEq, Nat.reduceLT, Nat.reduceMul, Int.reduceBEq, Int.reduceLT, Int.reduceLE, reduceIte, reduceCtorEq]))
        all_goals simp_all [apl, vOk]
        all_goals first | omega | (split <;> first | omega | simp_all)
    · refine pcalls_of Try.func13 k13 rfl (Nat.le_of_ble_eq_true rfl) ?_
      repeat' (first
        | (with_reducible refine pcl_intro (f26 _) ?_)
        | (simp only [c13, hg, h1, SXR, udf, AOp.dst, und, Nat.beq, exop, putAt, bldE, evI, evIo, isNil, List.replicate, Nat.ble, initS, initH, AR.slot, Int.reduceAdd, Int.reduceSub, Int.reduceNeg, Int.reduceBNe, Nat.reduceEqDiff, Nat.reduceSub, Nat.reduceAdd, Nat.reduceLeDiff, Nat.reduceBEq, Nat.reduceLT, Nat.reduceMul, Int.reduceBEq, Int.reduceLT, Int.reduceLE, reduceIte, reduceCtorEq]))
      all_goals simp only [apl, hg, h1, if_true, if_false, Bool.false_eq_true, Int.reduceBEq]
  · cases h1 : (ts.length : Int) != 2
    · have hl : (ts.length : Int) = 2 := by simpa using h1
      match ts, hl with
      | [], hl => exfalso; simp at hl
      | [_], hl => exfalso; simp at hl
      | _ :: _ :: _ :: _, hl => exfalso; simp at hl; omega
      | [a, b], hl =>
        clear h1 hl
        refine pcalls_of Try.func13 k13 rfl (Nat.le_of_ble_eq_true rfl) ?_
        repeat' (first
          | ((with_reducible refine cnd_intro (fun h => ?_) (fun h => ?_)) <;> simp only [h, hg, SXR, udf, AOp.dst, und, Nat.beq, exop, putAt, bldE, evI, evIo, isNil, List.replicate, Nat.ble, initS, initH, AR.slot, Int.reduceAdd, Int.reduceSub, Int.reduceNeg, Int.reduceBNe, Nat.reduceEqDiff, Nat.reduceSub, Nat.reduceAdd, Nat.reduceLeDiff, Nat.reduceBEq, Nat.reduceLT, Nat.reduceMul, Int.reduceBEq, Int.reduceLT, Int.reduceLE, reduceIte, reduceCtorEq])
          | (with_reducible refine Lp_step ?_)
          | (with_reducible refine pcl_intro (f26 _) ?_)
          | (with_reducible refine pcl_intro (f27 _) ?_)
          | (with_reducible refine pcl_intro (f28 _ _ _) ?_)
          | (with_reducible refine pcl_intro (f29 _) ?_)
          | (with_reducible refine pcl_intro (f30 _ _ _) ?_)
          | (simp only [c13, hg, SXR, udf, AOp.dst, und, Nat.beq, exop, putAt, bldE, evI, evIo, isNil, List.replicate, Nat.ble, initS, initH, AR.slot, Int.reduceAdd, Int.reduceSub, Int.reduceNeg, Int.reduceBNe, Nat.reduceEqDiff, Nat.reduceSub, Nat.reduceAdd, Nat.reduceLeDiff, Nat.reduceBEq, Nat.reduceLT, Nat.reduceMul, Int.reduceBEq, Int.reduceLT, Int.reduceLE, reduceIte, reduceCtorEq]))
        all_goals simp_all [apl, vOk]
        all_goals first | omega | (split <;> first | omega | simp_all)
    · refine pcalls_of Try.func13 k13 rfl (Nat.le_of_ble_eq_true rfl) ?_
      repeat' (first
        | (with_reducible refine pcl_intro (f26 _) ?_)
        | (simp only [c13, hg, h1, SXR, udf, AOp.dst, und, Nat.beq, exop, putAt, bldE, evI, evIo, isNil, List.replicate, Nat.ble, initS, initH, AR.slot, Int.reduceAdd, Int.reduceSub, Int.reduceNeg, Int.reduceBNe, Nat.reduceEqDiff, Nat.reduceSub, Nat.reduceAdd, Nat.reduceLeDiff, Nat.reduceBEq, Nat.reduceLT, Nat.reduceMul, Int.reduceBEq, Int.reduceLT, Int.reduceLE, reduceIte, reduceCtorEq]))
      all_goals simp only [apl, hg, h1, if_true, if_false, Bool.false_eq_true, Int.reduceBEq]
end Go.Proofs.Ytpfocppjojgooaa
