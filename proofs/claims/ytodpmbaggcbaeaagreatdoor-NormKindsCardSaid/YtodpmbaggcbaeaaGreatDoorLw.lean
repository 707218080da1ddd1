/-
  The law on kinds, on trees.
-/
import Derived.Test.YtodpmbaggcbaeaaGreatDoorFb
set_option linter.unusedSimpArgs false
set_option linter.unusedVariables false
namespace Go.Proofs.YtodpmbaggcbaeaaGreatDoor
open Go Go.B
theorem law3 (ha : PC Tryz.prog 5 [] (.b true)) (e : Ex) : PC Tryz.prog 3 [xg e] (.b true) := by
  have h4 := f4 e.sz e 1500 (Nat.le_refl _) (by omega) (by omega)
  by_cases hs : 1500 ≤ e.sz
  · have hm : (min e.sz 1500 : Nat) = 1500 := by omega
    rw [hm] at h4
    have h4' : PC Tryz.prog 4 [xg e, .i .i64 1500] (.i .i64 1500) := h4
    have hd : decide ((1500 : Int) ≥ 1500) = true := by decide
    refine pc_of Tryz.func3 k3 rfl ?_
    repeat' (first
      | ((with_reducible refine cnd_intro (fun h => ?_) (fun h => ?_)) <;> simp only [h, row_len, row_take, row_cl, hd, SXR, noA, isAl, udf, AOp.dst, Nat.beq, putAt, bldE, evIo, isNil, Nat.ble, Int.reduceAdd, Int.reduceSub, Int.reduceNeg, Int.reduceBNe, Nat.reduceEqDiff, Nat.reduceSub, Nat.reduceAdd, Nat.reduceLeDiff, Nat.reduceBEq, Nat.reduceLT, Nat.reduceMul, Int.reduceBEq, Int.reduceLT, Int.reduceLE, reduceIte, reduceCtorEq])
      | ((with_reducible refine k_cons ?rdq ?_); (case rdq => refine rck_mk rfl ?_ ?_ <;> simp only [Option.isSome_some, row_len, row_take, row_cl, hd, SXR, noA, isAl, udf, AOp.dst, Nat.beq, putAt, bldE, evIo, isNil, Nat.ble, Int.reduceAdd, Int.reduceSub, Int.reduceNeg, Int.reduceBNe, Nat.reduceEqDiff, Nat.reduceSub, Nat.reduceAdd, Nat.reduceLeDiff, Nat.reduceBEq, Nat.reduceLT, Nat.reduceMul, Int.reduceBEq, Int.reduceLT, Int.reduceLE, reduceIte, reduceCtorEq]))
      | (with_reducible refine pcl_intro (h4') (by simp only [SXR, row_len, row_take, row_cl, hd]) (by simp only [SXR, row_len, row_take, row_cl, hd]) ?_)
      | (with_reducible refine pcl_intro (ha) (by simp only [SXR, row_len, row_take, row_cl, hd]) (by simp only [SXR, row_len, row_take, row_cl, hd]) ?_)
      | (simp only [c3, row_len, row_take, row_cl, hd, SXR, noA, isAl, udf, AOp.dst, Nat.beq, putAt, bldE, evIo, isNil, Nat.ble, Int.reduceAdd, Int.reduceSub, Int.reduceNeg, Int.reduceBNe, Nat.reduceEqDiff, Nat.reduceSub, Nat.reduceAdd, Nat.reduceLeDiff, Nat.reduceBEq, Nat.reduceLT, Nat.reduceMul, Int.reduceBEq, Int.reduceLT, Int.reduceLE, reduceIte, reduceCtorEq]))
  · have hm : (min e.sz 1500 : Nat) = e.sz := by omega
    rw [hm] at h4
    have h4' : PC Tryz.prog 4 [xg e, .i .i64 1500] (.i .i64 (e.sz : Int)) := h4
    have hd : decide ((e.sz : Int) ≥ 1500) = false := by simp; omega
    have h6 := f6 e.sz e (Nat.le_refl _) (by omega)
    have h7 := f7 e.sz e (Nat.le_refl _) (by omega)
    have h8 := f8 e.sz e (Nat.le_refl _) (by omega)
    have h9 := f9 e.sz e (Nat.le_refl _) (by omega)
    have hc : e.simple = true → e.control = true := by
      intro h
      obtain ⟨k, op, t, v, nl, nn, args⟩ := e
      by_cases hk : k = 9
      · subst hk; simp [Ex.simple] at h
      · simp [Ex.control, hk, h]
    cases hsm : e.simple with
    | true =>
      have hct := hc hsm
      rw [hsm] at h6 h7
      rw [hct] at h8 h9
      refine pc_of Tryz.func3 k3 rfl ?_
      repeat' (first
        | ((with_reducible refine cnd_intro (fun h => ?_) (fun h => ?_)) <;> simp only [h, row_len, row_take, row_cl, hd, BEq.rfl, SXR, noA, isAl, udf, AOp.dst, Nat.beq, putAt, bldE, evIo, isNil, Nat.ble, Int.reduceAdd, Int.reduceSub, Int.reduceNeg, Int.reduceBNe, Nat.reduceEqDiff, Nat.reduceSub, Nat.reduceAdd, Nat.reduceLeDiff, Nat.reduceBEq, Nat.reduceLT, Nat.reduceMul, Int.reduceBEq, Int.reduceLT, Int.reduceLE, reduceIte, reduceCtorEq])
        | ((with_reducible refine k_cons ?rdq ?_); (case rdq => refine rck_mk rfl ?_ ?_ <;> simp only [Option.isSome_some, row_len, row_take, row_cl, hd, BEq.rfl, SXR, noA, isAl, udf, AOp.dst, Nat.beq, putAt, bldE, evIo, isNil, Nat.ble, Int.reduceAdd, Int.reduceSub, Int.reduceNeg, Int.reduceBNe, Nat.reduceEqDiff, Nat.reduceSub, Nat.reduceAdd, Nat.reduceLeDiff, Nat.reduceBEq, Nat.reduceLT, Nat.reduceMul, Int.reduceBEq, Int.reduceLT, Int.reduceLE, reduceIte, reduceCtorEq]))
        | (with_reducible refine pcl_intro (h4') (by simp only [SXR, row_len, row_take, row_cl, hd, BEq.rfl]) (by simp only [SXR, row_len, row_take, row_cl, hd, BEq.rfl]) ?_)
        | (with_reducible refine pcl_intro (h6) (by simp only [SXR, row_len, row_take, row_cl, hd, BEq.rfl]) (by simp only [SXR, row_len, row_take, row_cl, hd, BEq.rfl]) ?_)
        | (with_reducible refine pcl_intro (h7) (by simp only [SXR, row_len, row_take, row_cl, hd, BEq.rfl]) (by simp only [SXR, row_len, row_take, row_cl, hd, BEq.rfl]) ?_)
        | (with_reducible refine pcl_intro (h8) (by simp only [SXR, row_len, row_take, row_cl, hd, BEq.rfl]) (by simp only [SXR, row_len, row_take, row_cl, hd, BEq.rfl]) ?_)
        | (with_reducible refine pcl_intro (h9) (by simp only [SXR, row_len, row_take, row_cl, hd, BEq.rfl]) (by simp only [SXR, row_len, row_take, row_cl, hd, BEq.rfl]) ?_)
        | (with_reducible refine pcl_intro (ha) (by simp only [SXR, row_len, row_take, row_cl, hd, BEq.rfl]) (by simp only [SXR, row_len, row_take, row_cl, hd, BEq.rfl]) ?_)
        | (simp only [c3, row_len, row_take, row_cl, hd, BEq.rfl, SXR, noA, isAl, udf, AOp.dst, Nat.beq, putAt, bldE, evIo, isNil, Nat.ble, Int.reduceAdd, Int.reduceSub, Int.reduceNeg, Int.reduceBNe, Nat.reduceEqDiff, Nat.reduceSub, Nat.reduceAdd, Nat.reduceLeDiff, Nat.reduceBEq, Nat.reduceLT, Nat.reduceMul, Int.reduceBEq, Int.reduceLT, Int.reduceLE, reduceIte, reduceCtorEq]))
    | false =>
      rw [hsm] at h6 h7
      cases hct : e.control with
      | true =>
        rw [hct] at h8 h9
        refine pc_of Tryz.func3 k3 rfl ?_
        repeat' (first
          | ((with_reducible refine cnd_intro (fun h => ?_) (fun h => ?_)) <;> simp only [h, row_len, row_take, row_cl, hd, BEq.rfl, SXR, noA, isAl, udf, AOp.dst, Nat.beq, putAt, bldE, evIo, isNil, Nat.ble, Int.reduceAdd, Int.reduceSub, Int.reduceNeg, Int.reduceBNe, Nat.reduceEqDiff, Nat.reduceSub, Nat.reduceAdd, Nat.reduceLeDiff, Nat.reduceBEq, Nat.reduceLT, Nat.reduceMul, Int.reduceBEq, Int.reduceLT, Int.reduceLE, reduceIte, reduceCtorEq])
          | ((with_reducible refine k_cons ?rdq ?_); (case rdq => refine rck_mk rfl ?_ ?_ <;> simp only [Option.isSome_some, row_len, row_take, row_cl, hd, BEq.rfl, SXR, noA, isAl, udf, AOp.dst, Nat.beq, putAt, bldE, evIo, isNil, Nat.ble, Int.reduceAdd, Int.reduceSub, Int.reduceNeg, Int.reduceBNe, Nat.reduceEqDiff, Nat.reduceSub, Nat.reduceAdd, Nat.reduceLeDiff, Nat.reduceBEq, Nat.reduceLT, Nat.reduceMul, Int.reduceBEq, Int.reduceLT, Int.reduceLE, reduceIte, reduceCtorEq]))
          | (with_reducible refine pcl_intro (h4') (by simp only [SXR, row_len, row_take, row_cl, hd, BEq.rfl]) (by simp only [SXR, row_len, row_take, row_cl, hd, BEq.rfl]) ?_)
          | (with_reducible refine pcl_intro (h6) (by simp only [SXR, row_len, row_take, row_cl, hd, BEq.rfl]) (by simp only [SXR, row_len, row_take, row_cl, hd, BEq.rfl]) ?_)
          | (with_reducible refine pcl_intro (h7) (by simp only [SXR, row_len, row_take, row_cl, hd, BEq.rfl]) (by simp only [SXR, row_len, row_take, row_cl, hd, BEq.rfl]) ?_)
          | (with_reducible refine pcl_intro (h8) (by simp only [SXR, row_len, row_take, row_cl, hd, BEq.rfl]) (by simp only [SXR, row_len, row_take, row_cl, hd, BEq.rfl]) ?_)
          | (with_reducible refine pcl_intro (h9) (by simp only [SXR, row_len, row_take, row_cl, hd, BEq.rfl]) (by simp only [SXR, row_len, row_take, row_cl, hd, BEq.rfl]) ?_)
          | (with_reducible refine pcl_intro (ha) (by simp only [SXR, row_len, row_take, row_cl, hd, BEq.rfl]) (by simp only [SXR, row_len, row_take, row_cl, hd, BEq.rfl]) ?_)
          | (simp only [c3, row_len, row_take, row_cl, hd, BEq.rfl, SXR, noA, isAl, udf, AOp.dst, Nat.beq, putAt, bldE, evIo, isNil, Nat.ble, Int.reduceAdd, Int.reduceSub, Int.reduceNeg, Int.reduceBNe, Nat.reduceEqDiff, Nat.reduceSub, Nat.reduceAdd, Nat.reduceLeDiff, Nat.reduceBEq, Nat.reduceLT, Nat.reduceMul, Int.reduceBEq, Int.reduceLT, Int.reduceLE, reduceIte, reduceCtorEq]))
      | false =>
        rw [hct] at h8 h9
        refine pc_of Tryz.func3 k3 rfl ?_
        repeat' (first
          | ((with_reducible refine cnd_intro (fun h => ?_) (fun h => ?_)) <;> simp only [h, row_len, row_take, row_cl, hd, BEq.rfl, SXR, noA, isAl, udf, AOp.dst, Nat.beq, putAt, bldE, evIo, isNil, Nat.ble, Int.reduceAdd, Int.reduceSub, Int.reduceNeg, Int.reduceBNe, Nat.reduceEqDiff, Nat.reduceSub, Nat.reduceAdd, Nat.reduceLeDiff, Nat.reduceBEq, Nat.reduceLT, Nat.reduceMul, Int.reduceBEq, Int.reduceLT, Int.reduceLE, reduceIte, reduceCtorEq])
          | ((with_reducible refine k_cons ?rdq ?_); (case rdq => refine rck_mk rfl ?_ ?_ <;> simp only [Option.isSome_some, row_len, row_take, row_cl, hd, BEq.rfl, SXR, noA, isAl, udf, AOp.dst, Nat.beq, putAt, bldE, evIo, isNil, Nat.ble, Int.reduceAdd, Int.reduceSub, Int.reduceNeg, Int.reduceBNe, Nat.reduceEqDiff, Nat.reduceSub, Nat.reduceAdd, Nat.reduceLeDiff, Nat.reduceBEq, Nat.reduceLT, Nat.reduceMul, Int.reduceBEq, Int.reduceLT, Int.reduceLE, reduceIte, reduceCtorEq]))
          | (with_reducible refine pcl_intro (h4') (by simp only [SXR, row_len, row_take, row_cl, hd, BEq.rfl]) (by simp only [SXR, row_len, row_take, row_cl, hd, BEq.rfl]) ?_)
          | (with_reducible refine pcl_intro (h6) (by simp only [SXR, row_len, row_take, row_cl, hd, BEq.rfl]) (by simp only [SXR, row_len, row_take, row_cl, hd, BEq.rfl]) ?_)
          | (with_reducible refine pcl_intro (h7) (by simp only [SXR, row_len, row_take, row_cl, hd, BEq.rfl]) (by simp only [SXR, row_len, row_take, row_cl, hd, BEq.rfl]) ?_)
          | (with_reducible refine pcl_intro (h8) (by simp only [SXR, row_len, row_take, row_cl, hd, BEq.rfl]) (by simp only [SXR, row_len, row_take, row_cl, hd, BEq.rfl]) ?_)
          | (with_reducible refine pcl_intro (h9) (by simp only [SXR, row_len, row_take, row_cl, hd, BEq.rfl]) (by simp only [SXR, row_len, row_take, row_cl, hd, BEq.rfl]) ?_)
          | (with_reducible refine pcl_intro (ha) (by simp only [SXR, row_len, row_take, row_cl, hd, BEq.rfl]) (by simp only [SXR, row_len, row_take, row_cl, hd, BEq.rfl]) ?_)
          | (simp only [c3, row_len, row_take, row_cl, hd, BEq.rfl, SXR, noA, isAl, udf, AOp.dst, Nat.beq, putAt, bldE, evIo, isNil, Nat.ble, Int.reduceAdd, Int.reduceSub, Int.reduceNeg, Int.reduceBNe, Nat.reduceEqDiff, Nat.reduceSub, Nat.reduceAdd, Nat.reduceLeDiff, Nat.reduceBEq, Nat.reduceLT, Nat.reduceMul, Int.reduceBEq, Int.reduceLT, Int.reduceLE, reduceIte, reduceCtorEq]))
end Go.Proofs.YtodpmbaggcbaeaaGreatDoor
