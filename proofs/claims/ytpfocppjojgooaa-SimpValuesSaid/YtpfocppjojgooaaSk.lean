/-
  Contracts of one step of folding, whole.
-/
import Derived.Test.YtpfocppjojgooaaSj
set_option linter.unusedSimpArgs false
namespace Go.Proofs.Ytpfocppjojgooaa
open Go.Abs
theorem f44s {k op : Int} {args : List Ex} {y : Ex} (h : compF k op args = some y) (t v : Int) (nm : List UInt8) (hlen : args.length < 1000) : PCalls Try.prog 44 [xg k op t v nm (Ex.rows args)] (.tu [xE y, eB true]) := by
  unfold compF at h
  split at h
  · rename_i hc
    cases h
    simp only [Bool.and_eq_true] at hc
    have := f44b k op t v nm args hlen (by simp [hc])
    rw [hc.2.2] at this
    exact this
  · cases h
theorem f44n {k op : Int} {args : List Ex} (h : compF k op args = none) (t v : Int) (nm : List UInt8) (hlen : args.length < 1000) :
    ∃ k' op' t' v' nm' rs', PCalls Try.prog 44 [xg k op t v nm (Ex.rows args)] (.tu [xr k' op' t' v' nm' rs', eB false]) := by
  cases hA : (k == 3 && consts args) with
  | false => exact ⟨_, _, _, _, _, _, f44a k op t v nm args hlen hA⟩
  | true =>
    have := f44b k op t v nm args hlen hA
    unfold compF at h
    split at h
    · cases h
    · rename_i hc
      have hk : kOk op args = false := by
        simp only [Bool.and_eq_true] at hA
        simpa [hA] using hc
      rw [hk] at this
      exact ⟨_, _, _, _, _, _, this⟩
set_option maxHeartbeats 4000000 in
theorem f21 (k op t v : Int) (nm : List UInt8) (args : List Ex) (hlen : args.length < 1000) :
    PCalls Try.prog 21 [xg k op t v nm (Ex.rows args)] (.tu [xE ((onceF k op args).getD (.mk k op t v nm args)), eB (onceF k op args).isSome]) := by
  cases hA : compF k op args with
  | some y =>
    have c44 := f44s hA t v nm hlen
    have e : onceF k op args = some y := by simp [onceF, hA]
    rw [e]
    refine pcalls_fin Try.func21 k21 (Nat.le_of_ble_eq_true rfl) ?_
    repeat' (first
      | ((with_reducible refine cnd_intro (fun h => ?_) (fun h => ?_)) <;> simp only [h, SXR, udf, AOp.dst, und, Nat.beq, exop, putAt, bldE, evI, evIo, isNil, List.replicate, Nat.ble, initS, initH, AR.slot, Int.reduceAdd, Int.reduceSub, Int.reduceNeg, Int.reduceBNe, Nat.reduceEqDiff, Nat.reduceSub, Nat.reduceAdd, Nat.reduceLeDiff, Nat.reduceBEq, Nat.reduceLT, Nat.reduceMul, Int.reduceBEq, Int.reduceLT, Int.reduceLE, reduceIte, reduceCtorEq])
      | (with_reducible refine pcl_intro (c44) ?_)
      | (simp only [c21, SXR, udf, AOp.dst, und, Nat.beq, exop, putAt, bldE, evI, evIo, isNil, List.replicate, Nat.ble, initS, initH, AR.slot, Int.reduceAdd, Int.reduceSub, Int.reduceNeg, Int.reduceBNe, Nat.reduceEqDiff, Nat.reduceSub, Nat.reduceAdd, Nat.reduceLeDiff, Nat.reduceBEq, Nat.reduceLT, Nat.reduceMul, Int.reduceBEq, Int.reduceLT, Int.reduceLE, reduceIte, reduceCtorEq]))
    rfl
  | none =>
  obtain ⟨k', op', t', v', nm', rs', c44⟩ := f44n hA t v nm hlen
  have c45 := f45 k op t v nm args
  cases hB : choiceF k args with
  | some y =>
    simp only [hB, Option.getD_some, Option.isSome_some] at c45
    have e : onceF k op args = some y := by simp [onceF, hA, hB]
    rw [e]
    refine pcalls_fin Try.func21 k21 (Nat.le_of_ble_eq_true rfl) ?_
    repeat' (first
      | ((with_reducible refine cnd_intro (fun h => ?_) (fun h => ?_)) <;> simp only [h, SXR, udf, AOp.dst, und, Nat.beq, exop, putAt, bldE, evI, evIo, isNil, List.replicate, Nat.ble, initS, initH, AR.slot, Int.reduceAdd, Int.reduceSub, Int.reduceNeg, Int.reduceBNe, Nat.reduceEqDiff, Nat.reduceSub, Nat.reduceAdd, Nat.reduceLeDiff, Nat.reduceBEq, Nat.reduceLT, Nat.reduceMul, Int.reduceBEq, Int.reduceLT, Int.reduceLE, reduceIte, reduceCtorEq])
      | (with_reducible refine pcl_intro (c44) ?_)
      | (with_reducible refine pcl_intro (c45) ?_)
      | (simp only [c21, SXR, udf, AOp.dst, und, Nat.beq, exop, putAt, bldE, evI, evIo, isNil, List.replicate, Nat.ble, initS, initH, AR.slot, Int.reduceAdd, Int.reduceSub, Int.reduceNeg, Int.reduceBNe, Nat.reduceEqDiff, Nat.reduceSub, Nat.reduceAdd, Nat.reduceLeDiff, Nat.reduceBEq, Nat.reduceLT, Nat.reduceMul, Int.reduceBEq, Int.reduceLT, Int.reduceLE, reduceIte, reduceCtorEq]))
    rfl
  | none =>
  simp only [hB, Option.getD_none, Option.isSome_none, xE, k_mk, op_mk, t_mk, v_mk, nm_mk, args_mk] at c45
  have c46 := f46 k op t v nm args
  cases hC : twiceF k op args with
  | some y =>
    simp only [hC, Option.getD_some, Option.isSome_some] at c46
    have e : onceF k op args = some y := by simp [onceF, hA, hB, hC]
    rw [e]
    refine pcalls_fin Try.func21 k21 (Nat.le_of_ble_eq_true rfl) ?_
    repeat' (first
      | ((with_reducible refine cnd_intro (fun h => ?_) (fun h => ?_)) <;> simp only [h, SXR, udf, AOp.dst, und, Nat.beq, exop, putAt, bldE, evI, evIo, isNil, List.replicate, Nat.ble, initS, initH, AR.slot, Int.reduceAdd, Int.reduceSub, Int.reduceNeg, Int.reduceBNe, Nat.reduceEqDiff, Nat.reduceSub, Nat.reduceAdd, Nat.reduceLeDiff, Nat.reduceBEq, Nat.reduceLT, Nat.reduceMul, Int.reduceBEq, Int.reduceLT, Int.reduceLE, reduceIte, reduceCtorEq])
      | (with_reducible refine pcl_intro (c44) ?_)
      | (with_reducible refine pcl_intro (c45) ?_)
      | (with_reducible refine pcl_intro (c46) ?_)
      | (simp only [c21, SXR, udf, AOp.dst, und, Nat.beq, exop, putAt, bldE, evI, evIo, isNil, List.replicate, Nat.ble, initS, initH, AR.slot, Int.reduceAdd, Int.reduceSub, Int.reduceNeg, Int.reduceBNe, Nat.reduceEqDiff, Nat.reduceSub, Nat.reduceAdd, Nat.reduceLeDiff, Nat.reduceBEq, Nat.reduceLT, Nat.reduceMul, Int.reduceBEq, Int.reduceLT, Int.reduceLE, reduceIte, reduceCtorEq]))
    rfl
  | none =>
  simp only [hC, Option.getD_none, Option.isSome_none, xE, k_mk, op_mk, t_mk, v_mk, nm_mk, args_mk] at c46
  have c47 := f47 k op t v nm args
  by_cases h1 : args.length = 1
  · obtain ⟨x, rfl⟩ := len1 h1
    have ho : otherF k op [x] = none := other_no (by simp)
    simp only [ho, Option.getD_none, Option.isSome_none, xE, k_mk, op_mk, t_mk, v_mk, nm_mk, args_mk] at c47
    have e : onceF k op [x] = whenF k [x] := by simp [onceF, hA, hB, hC, ho]
    rw [e]
    clear e ho hC hB hA h1 hlen
    simp only [Ex.rows] at c44 c45 c46 c47
    rw [row_eq x] at c44 c45 c46 c47
    refine pcalls_fin Try.func21 k21 (Nat.le_of_ble_eq_true rfl) ?_
    repeat' (first
      | ((with_reducible refine cnd_intro (fun h => ?_) (fun h => ?_)) <;> simp only [h, Ex.rows, row_eq, SXR, udf, AOp.dst, und, Nat.beq, exop, putAt, bldE, evI, evIo, isNil, List.replicate, Nat.ble, initS, initH, AR.slot, Int.reduceAdd, Int.reduceSub, Int.reduceNeg, Int.reduceBNe, Nat.reduceEqDiff, Nat.reduceSub, Nat.reduceAdd, Nat.reduceLeDiff, Nat.reduceBEq, Nat.reduceLT, Nat.reduceMul, Int.reduceBEq, Int.reduceLT, Int.reduceLE, reduceIte, reduceCtorEq])
      | (with_reducible refine pcl_intro (c44) ?_)
      | (with_reducible refine pcl_intro (c45) ?_)
      | (with_reducible refine pcl_intro (c46) ?_)
      | (with_reducible refine pcl_intro (c47) ?_)
      | (simp only [c21, Ex.rows, row_eq, SXR, udf, AOp.dst, und, Nat.beq, exop, putAt, bldE, evI, evIo, isNil, List.replicate, Nat.ble, initS, initH, AR.slot, Int.reduceAdd, Int.reduceSub, Int.reduceNeg, Int.reduceBNe, Nat.reduceEqDiff, Nat.reduceSub, Nat.reduceAdd, Nat.reduceLeDiff, Nat.reduceBEq, Nat.reduceLT, Nat.reduceMul, Int.reduceBEq, Int.reduceLT, Int.reduceLE, reduceIte, reduceCtorEq]))
    all_goals simp_all [whenF, k_mk, op_mk, t_mk, v_mk, nm_mk, args_mk, Ex.rows, row_eq]
  · have hn := rows_eqf (n := 1) h1
    simp only [Int.natCast_one] at hn
    have e : onceF k op args = otherF k op args := by simp [onceF, hA, hB, hC, when_no h1]
    rw [e]
    cases hD : otherF k op args with
    | none =>
      simp only [hD, Option.getD_none, Option.isSome_none, xE, k_mk, op_mk, t_mk, v_mk, nm_mk, args_mk] at c47
      refine pcalls_fin Try.func21 k21 (Nat.le_of_ble_eq_true rfl) ?_
      repeat' (first
        | ((with_reducible refine cnd_intro (fun h => ?_) (fun h => ?_)) <;> simp only [h, hn, SXR, udf, AOp.dst, und, Nat.beq, exop, putAt, bldE, evI, evIo, isNil, List.replicate, Nat.ble, initS, initH, AR.slot, Int.reduceAdd, Int.reduceSub, Int.reduceNeg, Int.reduceBNe, Nat.reduceEqDiff, Nat.reduceSub, Nat.reduceAdd, Nat.reduceLeDiff, Nat.reduceBEq, Nat.reduceLT, Nat.reduceMul, Int.reduceBEq, Int.reduceLT, Int.reduceLE, reduceIte, reduceCtorEq])
        | (with_reducible refine pcl_intro (c44) ?_)
        | (with_reducible refine pcl_intro (c45) ?_)
        | (with_reducible refine pcl_intro (c46) ?_)
        | (with_reducible refine pcl_intro (c47) ?_)
        | (simp only [c21, hn, SXR, udf, AOp.dst, und, Nat.beq, exop, putAt, bldE, evI, evIo, isNil, List.replicate, Nat.ble, initS, initH, AR.slot, Int.reduceAdd, Int.reduceSub, Int.reduceNeg, Int.reduceBNe, Nat.reduceEqDiff, Nat.reduceSub, Nat.reduceAdd, Nat.reduceLeDiff, Nat.reduceBEq, Nat.reduceLT, Nat.reduceMul, Int.reduceBEq, Int.reduceLT, Int.reduceLE, reduceIte, reduceCtorEq]))
      all_goals simp [k_mk, op_mk, t_mk, v_mk, nm_mk, args_mk]
    | some y =>
      simp only [hD, Option.getD_some, Option.isSome_some] at c47
      refine pcalls_fin Try.func21 k21 (Nat.le_of_ble_eq_true rfl) ?_
      repeat' (first
        | ((with_reducible refine cnd_intro (fun h => ?_) (fun h => ?_)) <;> simp only [h, hn, SXR, udf, AOp.dst, und, Nat.beq, exop, putAt, bldE, evI, evIo, isNil, List.replicate, Nat.ble, initS, initH, AR.slot, Int.reduceAdd, Int.reduceSub, Int.reduceNeg, Int.reduceBNe, Nat.reduceEqDiff, Nat.reduceSub, Nat.reduceAdd, Nat.reduceLeDiff, Nat.reduceBEq, Nat.reduceLT, Nat.reduceMul, Int.reduceBEq, Int.reduceLT, Int.reduceLE, reduceIte, reduceCtorEq])
        | (with_reducible refine pcl_intro (c44) ?_)
        | (with_reducible refine pcl_intro (c45) ?_)
        | (with_reducible refine pcl_intro (c46) ?_)
        | (with_reducible refine pcl_intro (c47) ?_)
        | (simp only [c21, hn, SXR, udf, AOp.dst, und, Nat.beq, exop, putAt, bldE, evI, evIo, isNil, List.replicate, Nat.ble, initS, initH, AR.slot, Int.reduceAdd, Int.reduceSub, Int.reduceNeg, Int.reduceBNe, Nat.reduceEqDiff, Nat.reduceSub, Nat.reduceAdd, Nat.reduceLeDiff, Nat.reduceBEq, Nat.reduceLT, Nat.reduceMul, Int.reduceBEq, Int.reduceLT, Int.reduceLE, reduceIte, reduceCtorEq]))
      all_goals simp [k_mk, op_mk, t_mk, v_mk, nm_mk, args_mk]
end Go.Proofs.Ytpfocppjojgooaa
