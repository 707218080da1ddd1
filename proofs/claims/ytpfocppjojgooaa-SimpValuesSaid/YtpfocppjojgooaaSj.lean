/-
  Contracts of one step of folding, in both texts.
-/
import Derived.Test.YtpfocppjojgooaaSi
set_option linter.unusedSimpArgs false
namespace Go.Proofs.Ytpfocppjojgooaa
open Go.Abs
abbrev nTab : TV := .ts [[.i .i64 3, .i .i64 1, .i .i64 1, .b true], [.i .i64 4, .i .i64 1, .i .i64 0, .b true], [.i .i64 5, .i .i64 1, .i .i64 0, .b true], [.i .i64 6, .i .i64 2, .i .i64 0, .b true], [.i .i64 8, .i .i64 2, .i .i64 1, .b true],
  [.i .i64 7, .i .i64 2, .i .i64 0, .b false], [.i .i64 9, .i .i64 2, .i .i64 1, .b false], [.i .i64 11, .i .i64 1, .i .i64 1, .b true], [.i .i64 12, .i .i64 1, .i .i64 0, .b true]]
theorem neu_no (o : Int) (h : ¬ (o = 3 ∨ o = 4 ∨ o = 5 ∨ o = 6 ∨ o = 7 ∨ o = 8 ∨ o = 9 ∨ o = 11 ∨ o = 12)) : (neu o).1 = 0 := by
  unfold neu
  rw [if_neg (by simp; omega), if_neg (by simp; omega), if_neg (by simp; omega), if_neg (by simp; omega), if_neg (by simp; omega), if_neg (by simp; omega)]
theorem ne_op {a o : Int} (h : o ≠ a) : (a != o) = true := by simp; omega
theorem getI_3 {rows : List (List TV)} : getI rows 3 = rows[3]? := by simp [getI]
theorem getI_4 {rows : List (List TV)} : getI rows 4 = rows[4]? := by simp [getI]
theorem getI_5 {rows : List (List TV)} : getI rows 5 = rows[5]? := by simp [getI]
theorem getI_6 {rows : List (List TV)} : getI rows 6 = rows[6]? := by simp [getI]
theorem getI_7 {rows : List (List TV)} : getI rows 7 = rows[7]? := by simp [getI]
theorem getI_8 {rows : List (List TV)} : getI rows 8 = rows[8]? := by simp [getI]
theorem wr4 : IntKind.i64.wrap 4 = 4 := by decide
theorem wr5 : IntKind.i64.wrap 5 = 5 := by decide
theorem wr6 : IntKind.i64.wrap 6 = 6 := by decide
theorem wr7 : IntKind.i64.wrap 7 = 7 := by decide
theorem wr8 : IntKind.i64.wrap 8 = 8 := by decide
theorem wr9 : IntKind.i64.wrap 9 = 9 := by decide
set_option maxHeartbeats 8000000 in
theorem f47 (k op t v : Int) (nm : List UInt8) (args : List Ex) :
    PCalls Try.prog 47 [xg k op t v nm (Ex.rows args), nTab] (.tu [xE ((otherF k op args).getD (.mk k op t v nm args)), eB (otherF k op args).isSome]) := by
  by_cases h2 : args.length = 2
  · obtain ⟨a, b, rfl⟩ := len2 h2
    clear h2
    by_cases hk : k = 3
    · subst hk
      by_cases ho : op = 3 ∨ op = 4 ∨ op = 5 ∨ op = 6 ∨ op = 7 ∨ op = 8 ∨ op = 9 ∨ op = 11 ∨ op = 12
      · rcases ho with rfl | rfl | rfl | rfl | rfl | rfl | rfl | rfl | rfl
        all_goals
          refine pcalls_fin Try.func47 k47 (Nat.le_of_ble_eq_true rfl) ?_
          repeat' (first
            | ((with_reducible refine cnd_intro (fun h => ?_) (fun h => ?_)) <;> simp only [h, Ex.rows, row_eq, getI_3, getI_4, getI_5, getI_6, getI_7, getI_8, wr4, wr5, wr6, wr7, wr8, wr9, SXR, udf, AOp.dst, und, Nat.beq, exop, putAt, bldE, evI, evIo, isNil, List.replicate, Nat.ble, initS, initH, AR.slot, Int.reduceAdd, Int.reduceSub, Int.reduceNeg, Int.reduceBNe, Nat.reduceEqDiff, Nat.reduceSub, Nat.reduceAdd, Nat.reduceLeDiff, Nat.reduceBEq, Nat.reduceLT, Nat.reduceMul, Int.reduceBEq, Int.reduceLT, Int.reduceLE, reduceIte, reduceCtorEq])
            | (with_reducible refine Lp_step ?_)
            | (with_reducible refine pcl_intro (f68 _ _ _ _ _ _ _ _) ?_)
            | (simp only [c47, Ex.rows, row_eq, getI_3, getI_4, getI_5, getI_6, getI_7, getI_8, wr4, wr5, wr6, wr7, wr8, wr9, SXR, udf, AOp.dst, und, Nat.beq, exop, putAt, bldE, evI, evIo, isNil, List.replicate, Nat.ble, initS, initH, AR.slot, Int.reduceAdd, Int.reduceSub, Int.reduceNeg, Int.reduceBNe, Nat.reduceEqDiff, Nat.reduceSub, Nat.reduceAdd, Nat.reduceLeDiff, Nat.reduceBEq, Nat.reduceLT, Nat.reduceMul, Int.reduceBEq, Int.reduceLT, Int.reduceLE, reduceIte, reduceCtorEq]))
          all_goals simp_all [otherF, neu, k_mk, op_mk, t_mk, v_mk, nm_mk, args_mk, Ex.rows, row_eq]
      · have hz := neu_no op ho
        have e : otherF 3 op [a, b] = none := by simp [otherF, hz]
        rw [e]
        have q3 := ne_op (a := 3) (o := op) (by omega)
        have q4 := ne_op (a := 4) (o := op) (by omega)
        have q5 := ne_op (a := 5) (o := op) (by omega)
        have q6 := ne_op (a := 6) (o := op) (by omega)
        have q7 := ne_op (a := 7) (o := op) (by omega)
        have q8 := ne_op (a := 8) (o := op) (by omega)
        have q9 := ne_op (a := 9) (o := op) (by omega)
        have q11 := ne_op (a := 11) (o := op) (by omega)
        have q12 := ne_op (a := 12) (o := op) (by omega)
        refine pcalls_fin Try.func47 k47 (Nat.le_of_ble_eq_true rfl) ?_
        repeat' (first
          | ((with_reducible refine cnd_intro (fun h => ?_) (fun h => ?_)) <;> simp only [h, Ex.rows, row_eq, getI_3, getI_4, getI_5, getI_6, getI_7, getI_8, wr4, wr5, wr6, wr7, wr8, wr9, q3, q4, q5, q6, q7, q8, q9, q11, q12, SXR, udf, AOp.dst, und, Nat.beq, exop, putAt, bldE, evI, evIo, isNil, List.replicate, Nat.ble, initS, initH, AR.slot, Int.reduceAdd, Int.reduceSub, Int.reduceNeg, Int.reduceBNe, Nat.reduceEqDiff, Nat.reduceSub, Nat.reduceAdd, Nat.reduceLeDiff, Nat.reduceBEq, Nat.reduceLT, Nat.reduceMul, Int.reduceBEq, Int.reduceLT, Int.reduceLE, reduceIte, reduceCtorEq])
          | (with_reducible refine Lp_step ?_)
          | (simp only [c47, Ex.rows, row_eq, getI_3, getI_4, getI_5, getI_6, getI_7, getI_8, wr4, wr5, wr6, wr7, wr8, wr9, q3, q4, q5, q6, q7, q8, q9, q11, q12, SXR, udf, AOp.dst, und, Nat.beq, exop, putAt, bldE, evI, evIo, isNil, List.replicate, Nat.ble, initS, initH, AR.slot, Int.reduceAdd, Int.reduceSub, Int.reduceNeg, Int.reduceBNe, Nat.reduceEqDiff, Nat.reduceSub, Nat.reduceAdd, Nat.reduceLeDiff, Nat.reduceBEq, Nat.reduceLT, Nat.reduceMul, Int.reduceBEq, Int.reduceLT, Int.reduceLE, reduceIte, reduceCtorEq]))
        all_goals simp [k_mk, op_mk, t_mk, v_mk, nm_mk, args_mk, Ex.rows, row_eq]
    · have e : otherF k op [a, b] = none := by simp [otherF, hk]
      rw [e]
      have hk2 : (k != 3) = true := by simpa using hk
      refine pcalls_fin Try.func47 k47 (Nat.le_of_ble_eq_true rfl) ?_
      repeat' (first
        | ((with_reducible refine cnd_intro (fun h => ?_) (fun h => ?_)) <;> simp only [h, hk2, SXR, udf, AOp.dst, und, Nat.beq, exop, putAt, bldE, evI, evIo, isNil, List.replicate, Nat.ble, initS, initH, AR.slot, Int.reduceAdd, Int.reduceSub, Int.reduceNeg, Int.reduceBNe, Nat.reduceEqDiff, Nat.reduceSub, Nat.reduceAdd, Nat.reduceLeDiff, Nat.reduceBEq, Nat.reduceLT, Nat.reduceMul, Int.reduceBEq, Int.reduceLT, Int.reduceLE, reduceIte, reduceCtorEq])
        | (simp only [c47, hk2, SXR, udf, AOp.dst, und, Nat.beq, exop, putAt, bldE, evI, evIo, isNil, List.replicate, Nat.ble, initS, initH, AR.slot, Int.reduceAdd, Int.reduceSub, Int.reduceNeg, Int.reduceBNe, Nat.reduceEqDiff, Nat.reduceSub, Nat.reduceAdd, Nat.reduceLeDiff, Nat.reduceBEq, Nat.reduceLT, Nat.reduceMul, Int.reduceBEq, Int.reduceLT, Int.reduceLE, reduceIte, reduceCtorEq]))
      all_goals simp [k_mk, op_mk, t_mk, v_mk, nm_mk, args_mk]
  · have hn := rows_ne (n := 2) h2
    simp only [Int.cast_ofNat_Int] at hn
    rw [other_no h2]
    refine pcalls_fin Try.func47 k47 (Nat.le_of_ble_eq_true rfl) ?_
    repeat' (first
      | ((with_reducible refine cnd_intro (fun h => ?_) (fun h => ?_)) <;> simp only [h, hn, SXR, udf, AOp.dst, und, Nat.beq, exop, putAt, bldE, evI, evIo, isNil, List.replicate, Nat.ble, initS, initH, AR.slot, Int.reduceAdd, Int.reduceSub, Int.reduceNeg, Int.reduceBNe, Nat.reduceEqDiff, Nat.reduceSub, Nat.reduceAdd, Nat.reduceLeDiff, Nat.reduceBEq, Nat.reduceLT, Nat.reduceMul, Int.reduceBEq, Int.reduceLT, Int.reduceLE, reduceIte, reduceCtorEq])
      | (simp only [c47, hn, SXR, udf, AOp.dst, und, Nat.beq, exop, putAt, bldE, evI, evIo, isNil, List.replicate, Nat.ble, initS, initH, AR.slot, Int.reduceAdd, Int.reduceSub, Int.reduceNeg, Int.reduceBNe, Nat.reduceEqDiff, Nat.reduceSub, Nat.reduceAdd, Nat.reduceLeDiff, Nat.reduceBEq, Nat.reduceLT, Nat.reduceMul, Int.reduceBEq, Int.reduceLT, Int.reduceLE, reduceIte, reduceCtorEq]))
    all_goals simp [k_mk, op_mk, t_mk, v_mk, nm_mk, args_mk]
def onceF (k op : Int) (args : List Ex) : Option Ex :=
  (compF k op args).orElse fun _ => (choiceF k args).orElse fun _ => (twiceF k op args).orElse fun _ => (whenF k args).orElse fun _ => otherF k op args
end Go.Proofs.Ytpfocppjojgooaa
