/-
  Contracts of one step of folding: double negations, neutral operands.
-/
import Derived.Test.YtpfocppjojgooaaSh
set_option linter.unusedSimpArgs false
namespace Go.Proofs.Ytpfocppjojgooaa
open Go.Abs
theorem twice_no {k op : Int} {args : List Ex} (h1 : args.length ≠ 1) : twiceF k op args = none := by
  unfold twiceF
  split
  · exact (h1 rfl).elim
  · rfl
theorem when_no {k : Int} {args : List Ex} (h1 : args.length ≠ 1) : whenF k args = none := by
  unfold whenF
  split
  · exact (h1 rfl).elim
  · rfl
theorem one_no {x : Ex} (h2 : x.args.length ≠ 1) : (match x.args with | [y] => some y | _ => none) = (none : Option Ex) := by
  split
  · rename_i y hy; rw [hy] at h2; exact (h2 rfl).elim
  · rfl
theorem twice_no2 {k op : Int} {x : Ex} (h2 : x.args.length ≠ 1) : twiceF k op [x] = none := by
  simp only [twiceF]
  split
  · exact one_no h2
  · rfl
set_option maxHeartbeats 4000000 in
theorem f46 (k op t v : Int) (nm : List UInt8) (args : List Ex) :
    PCalls Try.prog 46 [xg k op t v nm (Ex.rows args)] (.tu [xE ((twiceF k op args).getD (.mk k op t v nm args)), eB (twiceF k op args).isSome]) := by
  by_cases h1 : args.length = 1
  · obtain ⟨x, rfl⟩ := len1 h1
    clear h1
    by_cases h2 : x.args.length = 1
    · obtain ⟨y, hy⟩ := len1 h2
      clear h2
      refine pcalls_fin Try.func46 k46 (Nat.le_of_ble_eq_true rfl) ?_
      repeat' (first
        | ((with_reducible refine cnd_intro (fun h => ?_) (fun h => ?_)) <;> simp only [h, Ex.rows, row_eq, hy, SXR, udf, AOp.dst, und, Nat.beq, exop, putAt, bldE, evI, evIo, isNil, List.replicate, Nat.ble, initS, initH, AR.slot, Int.reduceAdd, Int.reduceSub, Int.reduceNeg, Int.reduceBNe, Nat.reduceEqDiff, Nat.reduceSub, Nat.reduceAdd, Nat.reduceLeDiff, Nat.reduceBEq, Nat.reduceLT, Nat.reduceMul, Int.reduceBEq, Int.reduceLT, Int.reduceLE, reduceIte, reduceCtorEq])
        | (with_reducible refine Lp_step ?_)
        | (with_reducible refine pcl_intro (f69 _ _ _ _ _ _ _ _) ?_)
        | (simp only [c46, Ex.rows, row_eq, hy, SXR, udf, AOp.dst, und, Nat.beq, exop, putAt, bldE, evI, evIo, isNil, List.replicate, Nat.ble, initS, initH, AR.slot, Int.reduceAdd, Int.reduceSub, Int.reduceNeg, Int.reduceBNe, Nat.reduceEqDiff, Nat.reduceSub, Nat.reduceAdd, Nat.reduceLeDiff, Nat.reduceBEq, Nat.reduceLT, Nat.reduceMul, Int.reduceBEq, Int.reduceLT, Int.reduceLE, reduceIte, reduceCtorEq]))
      all_goals simp_all [twiceF, k_mk, op_mk, t_mk, v_mk, nm_mk, args_mk, Ex.rows, row_eq]
      all_goals (split <;> simp_all [k_mk, op_mk, t_mk, v_mk, nm_mk, args_mk, Ex.rows, row_eq])
    · have hn := rows_eqf (n := 1) h2
      simp only [Int.natCast_one] at hn
      rw [twice_no2 h2]
      refine pcalls_fin Try.func46 k46 (Nat.le_of_ble_eq_true rfl) ?_
      repeat' (first
        | ((with_reducible refine cnd_intro (fun h => ?_) (fun h => ?_)) <;> simp only [h, Ex.rows, row_eq, hn, SXR, udf, AOp.dst, und, Nat.beq, exop, putAt, bldE, evI, evIo, isNil, List.replicate, Nat.ble, initS, initH, AR.slot, Int.reduceAdd, Int.reduceSub, Int.reduceNeg, Int.reduceBNe, Nat.reduceEqDiff, Nat.reduceSub, Nat.reduceAdd, Nat.reduceLeDiff, Nat.reduceBEq, Nat.reduceLT, Nat.reduceMul, Int.reduceBEq, Int.reduceLT, Int.reduceLE, reduceIte, reduceCtorEq])
        | (with_reducible refine Lp_step ?_)
        | (with_reducible refine pcl_intro (f69 _ _ _ _ _ _ _ _) ?_)
        | (simp only [c46, Ex.rows, row_eq, hn, SXR, udf, AOp.dst, und, Nat.beq, exop, putAt, bldE, evI, evIo, isNil, List.replicate, Nat.ble, initS, initH, AR.slot, Int.reduceAdd, Int.reduceSub, Int.reduceNeg, Int.reduceBNe, Nat.reduceEqDiff, Nat.reduceSub, Nat.reduceAdd, Nat.reduceLeDiff, Nat.reduceBEq, Nat.reduceLT, Nat.reduceMul, Int.reduceBEq, Int.reduceLT, Int.reduceLE, reduceIte, reduceCtorEq]))
      all_goals simp [k_mk, op_mk, t_mk, v_mk, nm_mk, args_mk, Ex.rows, row_eq]
  · have hn := rows_eqf (n := 1) h1
    simp only [Int.natCast_one] at hn
    rw [twice_no h1]
    refine pcalls_fin Try.func46 k46 (Nat.le_of_ble_eq_true rfl) ?_
    repeat' (first
      | ((with_reducible refine cnd_intro (fun h => ?_) (fun h => ?_)) <;> simp only [h, hn, SXR, udf, AOp.dst, und, Nat.beq, exop, putAt, bldE, evI, evIo, isNil, List.replicate, Nat.ble, initS, initH, AR.slot, Int.reduceAdd, Int.reduceSub, Int.reduceNeg, Int.reduceBNe, Nat.reduceEqDiff, Nat.reduceSub, Nat.reduceAdd, Nat.reduceLeDiff, Nat.reduceBEq, Nat.reduceLT, Nat.reduceMul, Int.reduceBEq, Int.reduceLT, Int.reduceLE, reduceIte, reduceCtorEq])
      | (with_reducible refine Lp_step ?_)
      | (with_reducible refine pcl_intro (f69 _ _ _ _ _ _ _ _) ?_)
      | (simp only [c46, hn, SXR, udf, AOp.dst, und, Nat.beq, exop, putAt, bldE, evI, evIo, isNil, List.replicate, Nat.ble, initS, initH, AR.slot, Int.reduceAdd, Int.reduceSub, Int.reduceNeg, Int.reduceBNe, Nat.reduceEqDiff, Nat.reduceSub, Nat.reduceAdd, Nat.reduceLeDiff, Nat.reduceBEq, Nat.reduceLT, Nat.reduceMul, Int.reduceBEq, Int.reduceLT, Int.reduceLE, reduceIte, reduceCtorEq]))
    all_goals simp [k_mk, op_mk, t_mk, v_mk, nm_mk, args_mk]
def neu (o : Int) : Int × Int × Bool :=
  if o == 3 || o == 11 then (1, 1, true) else if o == 4 || (o == 5 || o == 12) then (1, 0, true) else if o == 6 then (2, 0, true) else if o == 8 then (2, 1, true) else if o == 7 then (2, 0, false) else if o == 9 then (2, 1, false) else (0, 0, false)
theorem f50 (o : Int) : PCalls Try.prog 50 [.i .i64 o] (.tu [.c (.t (.i .i64 (neu o).1)), .c (.t (.i .i64 (neu o).2.1)), .c (.t (.b (neu o).2.2))]) := by
  refine pcalls_of Try.func50 k50 rfl (Nat.le_of_ble_eq_true rfl) ?_
  repeat' (first
    | ((with_reducible refine cnd_intro (fun h => ?_) (fun h => ?_)) <;> simp only [h, SXR, udf, AOp.dst, und, Nat.beq, exop, putAt, bldE, evI, evIo, isNil, List.replicate, Nat.ble, initS, initH, AR.slot, Int.reduceAdd, Int.reduceSub, Int.reduceNeg, Int.reduceBNe, Nat.reduceEqDiff, Nat.reduceSub, Nat.reduceAdd, Nat.reduceLeDiff, Nat.reduceBEq, Nat.reduceLT, Nat.reduceMul, Int.reduceBEq, Int.reduceLT, Int.reduceLE, reduceIte, reduceCtorEq])
    | (simp only [c50, SXR, udf, AOp.dst, und, Nat.beq, exop, putAt, bldE, evI, evIo, isNil, List.replicate, Nat.ble, initS, initH, AR.slot, Int.reduceAdd, Int.reduceSub, Int.reduceNeg, Int.reduceBNe, Nat.reduceEqDiff, Nat.reduceSub, Nat.reduceAdd, Nat.reduceLeDiff, Nat.reduceBEq, Nat.reduceLT, Nat.reduceMul, Int.reduceBEq, Int.reduceLT, Int.reduceLE, reduceIte, reduceCtorEq]))
  all_goals simp only [neu, *, Bool.or_true, Bool.true_or, Bool.or_false, Bool.false_or, if_true, if_false, Bool.false_eq_true]
def otherF (k op : Int) : List Ex → Option Ex
  | [a, b] => if k == 3 && (neu op).1 != 0 then (if isC b (neu op).1 (neu op).2.1 then some a else if (neu op).2.2 && isC a (neu op).1 (neu op).2.1 then some b else none) else none
  | _ => none
theorem other_no {k op : Int} {args : List Ex} (h1 : args.length ≠ 2) : otherF k op args = none := by
  unfold otherF
  split
  · exact (h1 rfl).elim
  · rfl
theorem f25 (k op t v : Int) (nm : List UInt8) (args : List Ex) :
    PCalls Try.prog 25 [xg k op t v nm (Ex.rows args)] (.tu [xE ((otherF k op args).getD (.mk k op t v nm args)), eB (otherF k op args).isSome]) := by
  by_cases h2 : args.length = 2
  · obtain ⟨a, b, rfl⟩ := len2 h2
    clear h2
    generalize hne : neu op = ne at *
    refine pcalls_fin Try.func25 k25 (Nat.le_of_ble_eq_true rfl) ?_
    repeat' (first
      | ((with_reducible refine cnd_intro (fun h => ?_) (fun h => ?_)) <;> simp only [h, Ex.rows, row_eq, SXR, udf, AOp.dst, und, Nat.beq, exop, putAt, bldE, evI, evIo, isNil, List.replicate, Nat.ble, initS, initH, AR.slot, Int.reduceAdd, Int.reduceSub, Int.reduceNeg, Int.reduceBNe, Nat.reduceEqDiff, Nat.reduceSub, Nat.reduceAdd, Nat.reduceLeDiff, Nat.reduceBEq, Nat.reduceLT, Nat.reduceMul, Int.reduceBEq, Int.reduceLT, Int.reduceLE, reduceIte, reduceCtorEq])
      | (with_reducible refine pcl_intro (f14 _ _ _ _ _ _ _ _) ?_)
      | (with_reducible refine pcl_intro (f50 _) ?_)
      | (simp only [c25, Ex.rows, row_eq, SXR, udf, AOp.dst, und, Nat.beq, exop, putAt, bldE, evI, evIo, isNil, List.replicate, Nat.ble, initS, initH, AR.slot, Int.reduceAdd, Int.reduceSub, Int.reduceNeg, Int.reduceBNe, Nat.reduceEqDiff, Nat.reduceSub, Nat.reduceAdd, Nat.reduceLeDiff, Nat.reduceBEq, Nat.reduceLT, Nat.reduceMul, Int.reduceBEq, Int.reduceLT, Int.reduceLE, reduceIte, reduceCtorEq]))
    all_goals simp_all [otherF, k_mk, op_mk, t_mk, v_mk, nm_mk, args_mk, Ex.rows, row_eq]
  · have hn := rows_ne (n := 2) h2
    simp only [Int.cast_ofNat_Int] at hn
    rw [other_no h2]
    refine pcalls_fin Try.func25 k25 (Nat.le_of_ble_eq_true rfl) ?_
    repeat' (first
      | ((with_reducible refine cnd_intro (fun h => ?_) (fun h => ?_)) <;> simp only [h, hn, SXR, udf, AOp.dst, und, Nat.beq, exop, putAt, bldE, evI, evIo, isNil, List.replicate, Nat.ble, initS, initH, AR.slot, Int.reduceAdd, Int.reduceSub, Int.reduceNeg, Int.reduceBNe, Nat.reduceEqDiff, Nat.reduceSub, Nat.reduceAdd, Nat.reduceLeDiff, Nat.reduceBEq, Nat.reduceLT, Nat.reduceMul, Int.reduceBEq, Int.reduceLT, Int.reduceLE, reduceIte, reduceCtorEq])
      | (simp only [c25, hn, SXR, udf, AOp.dst, und, Nat.beq, exop, putAt, bldE, evI, evIo, isNil, List.replicate, Nat.ble, initS, initH, AR.slot, Int.reduceAdd, Int.reduceSub, Int.reduceNeg, Int.reduceBNe, Nat.reduceEqDiff, Nat.reduceSub, Nat.reduceAdd, Nat.reduceLeDiff, Nat.reduceBEq, Nat.reduceLT, Nat.reduceMul, Int.reduceBEq, Int.reduceLT, Int.reduceLE, reduceIte, reduceCtorEq]))
    all_goals simp [k_mk, op_mk, t_mk, v_mk, nm_mk, args_mk]
end Go.Proofs.Ytpfocppjojgooaa
