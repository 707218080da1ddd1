/-
  The law on finding a bound, on trees.
-/
import Derived.Test.YtmdaaicmkmgkfaaGreatDoorBd
set_option linter.unusedSimpArgs false
set_option linter.unusedVariables false
namespace Go.Proofs.YtmdaaicmkmgkfaaGreatDoor
open Go Go.B
theorem f23 (a b : Int) : PC Tryz.prog 23 [.ag [.i .i64 a, .i .i64 b]] (.b (decide (a > b))) := by
  refine pc_of Tryz.func23 k23 rfl ?_
  repeat' (first
    | ((with_reducible refine cnd_intro (fun h => ?_) (fun h => ?_)) <;> simp only [h, SXR, noA, isAl, udf, AOp.dst, Nat.beq, putAt, bldE, evIo, isNil, Nat.ble, Int.reduceAdd, Int.reduceSub, Int.reduceNeg, Int.reduceBNe, Nat.reduceEqDiff, Nat.reduceSub, Nat.reduceAdd, Nat.reduceLeDiff, Nat.reduceBEq, Nat.reduceLT, Nat.reduceMul, Int.reduceBEq, Int.reduceLT, Int.reduceLE, reduceIte, reduceCtorEq])
    | ((with_reducible refine k_cons ?rdq ?_); (case rdq => refine rck_mk rfl ?_ ?_ <;> simp only [Option.isSome_some, SXR, noA, isAl, udf, AOp.dst, Nat.beq, putAt, bldE, evIo, isNil, Nat.ble, Int.reduceAdd, Int.reduceSub, Int.reduceNeg, Int.reduceBNe, Nat.reduceEqDiff, Nat.reduceSub, Nat.reduceAdd, Nat.reduceLeDiff, Nat.reduceBEq, Nat.reduceLT, Nat.reduceMul, Int.reduceBEq, Int.reduceLT, Int.reduceLE, reduceIte, reduceCtorEq]))
    | (simp only [c23, SXR, noA, isAl, udf, AOp.dst, Nat.beq, putAt, bldE, evIo, isNil, Nat.ble, Int.reduceAdd, Int.reduceSub, Int.reduceNeg, Int.reduceBNe, Nat.reduceEqDiff, Nat.reduceSub, Nat.reduceAdd, Nat.reduceLeDiff, Nat.reduceBEq, Nat.reduceLT, Nat.reduceMul, Int.reduceBEq, Int.reduceLT, Int.reduceLE, reduceIte, reduceCtorEq]))
theorem f24 (a b c : Int) : PC Tryz.prog 24 [.ag [.i .i64 a, .i .i64 b], .i .i64 c] (.b (decide (c ≥ a) && decide (c ≤ b))) := by
  refine pc_of Tryz.func24 k24 rfl ?_
  repeat' (first
    | ((with_reducible refine cnd_intro (fun h => ?_) (fun h => ?_)) <;> simp only [h, SXR, noA, isAl, udf, AOp.dst, Nat.beq, putAt, bldE, evIo, isNil, Nat.ble, Int.reduceAdd, Int.reduceSub, Int.reduceNeg, Int.reduceBNe, Nat.reduceEqDiff, Nat.reduceSub, Nat.reduceAdd, Nat.reduceLeDiff, Nat.reduceBEq, Nat.reduceLT, Nat.reduceMul, Int.reduceBEq, Int.reduceLT, Int.reduceLE, reduceIte, reduceCtorEq])
    | ((with_reducible refine k_cons ?rdq ?_); (case rdq => refine rck_mk rfl ?_ ?_ <;> simp only [Option.isSome_some, SXR, noA, isAl, udf, AOp.dst, Nat.beq, putAt, bldE, evIo, isNil, Nat.ble, Int.reduceAdd, Int.reduceSub, Int.reduceNeg, Int.reduceBNe, Nat.reduceEqDiff, Nat.reduceSub, Nat.reduceAdd, Nat.reduceLeDiff, Nat.reduceBEq, Nat.reduceLT, Nat.reduceMul, Int.reduceBEq, Int.reduceLT, Int.reduceLE, reduceIte, reduceCtorEq]))
    | (simp only [c24, SXR, noA, isAl, udf, AOp.dst, Nat.beq, putAt, bldE, evIo, isNil, Nat.ble, Int.reduceAdd, Int.reduceSub, Int.reduceNeg, Int.reduceBNe, Nat.reduceEqDiff, Nat.reduceSub, Nat.reduceAdd, Nat.reduceLeDiff, Nat.reduceBEq, Nat.reduceLT, Nat.reduceMul, Int.reduceBEq, Int.reduceLT, Int.reduceLE, reduceIte, reduceCtorEq]))
  all_goals simp_all
theorem f12 : PC Tryz.prog 12 [.i .i64 1, .i .i64 1] (.ag [.i .i64 1, .i .i64 1]) := by
  have h : decide ((1 : Int) > 1) = false := by decide
  refine pc_of Tryz.func12 k12 rfl ?_
  repeat' (first
    | ((with_reducible refine cnd_intro (fun h => ?_) (fun h => ?_)) <;> simp only [h, h, SXR, noA, isAl, udf, AOp.dst, Nat.beq, putAt, bldE, evIo, isNil, Nat.ble, Int.reduceAdd, Int.reduceSub, Int.reduceNeg, Int.reduceBNe, Nat.reduceEqDiff, Nat.reduceSub, Nat.reduceAdd, Nat.reduceLeDiff, Nat.reduceBEq, Nat.reduceLT, Nat.reduceMul, Int.reduceBEq, Int.reduceLT, Int.reduceLE, reduceIte, reduceCtorEq])
    | ((with_reducible refine k_cons ?rdq ?_); (case rdq => refine rck_mk rfl ?_ ?_ <;> simp only [Option.isSome_some, h, SXR, noA, isAl, udf, AOp.dst, Nat.beq, putAt, bldE, evIo, isNil, Nat.ble, Int.reduceAdd, Int.reduceSub, Int.reduceNeg, Int.reduceBNe, Nat.reduceEqDiff, Nat.reduceSub, Nat.reduceAdd, Nat.reduceLeDiff, Nat.reduceBEq, Nat.reduceLT, Nat.reduceMul, Int.reduceBEq, Int.reduceLT, Int.reduceLE, reduceIte, reduceCtorEq]))
    | (simp only [c12, h, SXR, noA, isAl, udf, AOp.dst, Nat.beq, putAt, bldE, evIo, isNil, Nat.ble, Int.reduceAdd, Int.reduceSub, Int.reduceNeg, Int.reduceBNe, Nat.reduceEqDiff, Nat.reduceSub, Nat.reduceAdd, Nat.reduceLeDiff, Nat.reduceBEq, Nat.reduceLT, Nat.reduceMul, Int.reduceBEq, Int.reduceLT, Int.reduceLE, reduceIte, reduceCtorEq]))
theorem f11 (a b : Int) : PC Tryz.prog 11 [.ag [.i .i64 a, .i .i64 b], .ag [.i .i64 1, .i .i64 1]] (.b (decide (a > b) || (a == 1 && b == 1))) := by
  have h1 := f23 a b
  have h2 := f24 1 1 a
  have h3 := f24 1 1 b
  have e1 : (decide (a ≥ 1) && decide (a ≤ 1)) = (a == 1) := by rw [Bool.eq_iff_iff]; simp; omega
  have e2 : (decide (b ≥ 1) && decide (b ≤ 1)) = (b == 1) := by rw [Bool.eq_iff_iff]; simp; omega
  rw [e1] at h2
  rw [e2] at h3
  refine pc_of Tryz.func11 k11 rfl ?_
  repeat' (first
    | ((with_reducible refine cnd_intro (fun h => ?_) (fun h => ?_)) <;> simp only [h, SXR, noA, isAl, udf, AOp.dst, Nat.beq, putAt, bldE, evIo, isNil, Nat.ble, Int.reduceAdd, Int.reduceSub, Int.reduceNeg, Int.reduceBNe, Nat.reduceEqDiff, Nat.reduceSub, Nat.reduceAdd, Nat.reduceLeDiff, Nat.reduceBEq, Nat.reduceLT, Nat.reduceMul, Int.reduceBEq, Int.reduceLT, Int.reduceLE, reduceIte, reduceCtorEq])
    | ((with_reducible refine k_cons ?rdq ?_); (case rdq => refine rck_mk rfl ?_ ?_ <;> simp only [Option.isSome_some, SXR, noA, isAl, udf, AOp.dst, Nat.beq, putAt, bldE, evIo, isNil, Nat.ble, Int.reduceAdd, Int.reduceSub, Int.reduceNeg, Int.reduceBNe, Nat.reduceEqDiff, Nat.reduceSub, Nat.reduceAdd, Nat.reduceLeDiff, Nat.reduceBEq, Nat.reduceLT, Nat.reduceMul, Int.reduceBEq, Int.reduceLT, Int.reduceLE, reduceIte, reduceCtorEq]))
    | (with_reducible refine pcl_intro (h1) (by simp only [SXR]) (by simp only [SXR]) ?_)
    | (with_reducible refine pcl_intro (h2) (by simp only [SXR]) (by simp only [SXR]) ?_)
    | (with_reducible refine pcl_intro (h3) (by simp only [SXR]) (by simp only [SXR]) ?_)
    | (simp only [c11, SXR, noA, isAl, udf, AOp.dst, Nat.beq, putAt, bldE, evIo, isNil, Nat.ble, Int.reduceAdd, Int.reduceSub, Int.reduceNeg, Int.reduceBNe, Nat.reduceEqDiff, Nat.reduceSub, Nat.reduceAdd, Nat.reduceLeDiff, Nat.reduceBEq, Nat.reduceLT, Nat.reduceMul, Int.reduceBEq, Int.reduceLT, Int.reduceLE, reduceIte, reduceCtorEq]))
  all_goals simp_all
/-- is it always true? -/
def alw (r : Int × Int × Bool) : Bool := r.2.2 && (decide (r.1 > r.2.1) || (r.1 == 1 && r.2.1 == 1))
theorem f8 (l : List Bd) (al an bl bn : Nat) (hn : l.length ≤ 100000) : PC Tryz.prog 8 [.ts (rows l), .s al an, .s bl bn] (.b (alw (fnd al an bl bn l))) := by
  have h6 := f6 l al an bl bn hn
  generalize fnd al an bl bn l = r at h6
  obtain ⟨lo, hi, ok⟩ := r
  refine pc_of Tryz.func8 k8 rfl ?_
  repeat' (first
    | ((with_reducible refine cnd_intro (fun h => ?_) (fun h => ?_)) <;> simp only [h, rows_cl, SXR, noA, isAl, udf, AOp.dst, Nat.beq, putAt, bldE, evIo, isNil, Nat.ble, Int.reduceAdd, Int.reduceSub, Int.reduceNeg, Int.reduceBNe, Nat.reduceEqDiff, Nat.reduceSub, Nat.reduceAdd, Nat.reduceLeDiff, Nat.reduceBEq, Nat.reduceLT, Nat.reduceMul, Int.reduceBEq, Int.reduceLT, Int.reduceLE, reduceIte, reduceCtorEq])
    | ((with_reducible refine k_cons ?rdq ?_); (case rdq => refine rck_mk rfl ?_ ?_ <;> simp only [Option.isSome_some, rows_cl, SXR, noA, isAl, udf, AOp.dst, Nat.beq, putAt, bldE, evIo, isNil, Nat.ble, Int.reduceAdd, Int.reduceSub, Int.reduceNeg, Int.reduceBNe, Nat.reduceEqDiff, Nat.reduceSub, Nat.reduceAdd, Nat.reduceLeDiff, Nat.reduceBEq, Nat.reduceLT, Nat.reduceMul, Int.reduceBEq, Int.reduceLT, Int.reduceLE, reduceIte, reduceCtorEq]))
    | (with_reducible refine pcl_intro (h6) (by simp only [SXR, rows_cl]) (by simp only [SXR, rows_cl]) ?_)
    | (simp only [c8, rows_cl, SXR, noA, isAl, udf, AOp.dst, Nat.beq, putAt, bldE, evIo, isNil, Nat.ble, Int.reduceAdd, Int.reduceSub, Int.reduceNeg, Int.reduceBNe, Nat.reduceEqDiff, Nat.reduceSub, Nat.reduceAdd, Nat.reduceLeDiff, Nat.reduceBEq, Nat.reduceLT, Nat.reduceMul, Int.reduceBEq, Int.reduceLT, Int.reduceLE, reduceIte, reduceCtorEq]))
  all_goals (try simp_all [alw])
  all_goals omega
theorem f7 (l : List Bd) (al an bl bn : Nat) (hn : l.length ≤ 100000) : PC Tryz.prog 7 [.ts (rows l), .s al an, .s bl bn] (.b (alw (fnd al an bl bn l))) := by
  have h5 := f5 l al an bl bn hn
  generalize fnd al an bl bn l = r at h5
  obtain ⟨lo, hi, ok⟩ := r
  have h11 := f11 lo hi
  refine pc_of Tryz.func7 k7 rfl ?_
  repeat' (first
    | ((with_reducible refine cnd_intro (fun h => ?_) (fun h => ?_)) <;> simp only [h, rows_cl, SXR, noA, isAl, udf, AOp.dst, Nat.beq, putAt, bldE, evIo, isNil, Nat.ble, Int.reduceAdd, Int.reduceSub, Int.reduceNeg, Int.reduceBNe, Nat.reduceEqDiff, Nat.reduceSub, Nat.reduceAdd, Nat.reduceLeDiff, Nat.reduceBEq, Nat.reduceLT, Nat.reduceMul, Int.reduceBEq, Int.reduceLT, Int.reduceLE, reduceIte, reduceCtorEq])
    | ((with_reducible refine k_cons ?rdq ?_); (case rdq => refine rck_mk rfl ?_ ?_ <;> simp only [Option.isSome_some, rows_cl, SXR, noA, isAl, udf, AOp.dst, Nat.beq, putAt, bldE, evIo, isNil, Nat.ble, Int.reduceAdd, Int.reduceSub, Int.reduceNeg, Int.reduceBNe, Nat.reduceEqDiff, Nat.reduceSub, Nat.reduceAdd, Nat.reduceLeDiff, Nat.reduceBEq, Nat.reduceLT, Nat.reduceMul, Int.reduceBEq, Int.reduceLT, Int.reduceLE, reduceIte, reduceCtorEq]))
    | (with_reducible refine pcl_intro (h5) (by simp only [SXR, rows_cl]) (by simp only [SXR, rows_cl]) ?_)
    | (with_reducible refine pcl_intro (f12) (by simp only [SXR, rows_cl]) (by simp only [SXR, rows_cl]) ?_)
    | (with_reducible refine pcl_intro (h11) (by simp only [SXR, rows_cl]) (by simp only [SXR, rows_cl]) ?_)
    | (simp only [c7, rows_cl, SXR, noA, isAl, udf, AOp.dst, Nat.beq, putAt, bldE, evIo, isNil, Nat.ble, Int.reduceAdd, Int.reduceSub, Int.reduceNeg, Int.reduceBNe, Nat.reduceEqDiff, Nat.reduceSub, Nat.reduceAdd, Nat.reduceLeDiff, Nat.reduceBEq, Nat.reduceLT, Nat.reduceMul, Int.reduceBEq, Int.reduceLT, Int.reduceLE, reduceIte, reduceCtorEq]))
  all_goals (try simp_all [alw])
  all_goals omega
theorem law3 (ha : PC Tryz.prog 4 [] (.b true)) (l : List Bd) (al an bl bn : Nat) : PC Tryz.prog 3 [.ts (rows l), .s al an, .s bl bn] (.b true) := by
  by_cases h1 : 100 < l.length
  · have e1 : decide ((l.length : Int) > 100) = true := by simp; omega
    refine pc_of Tryz.func3 k3 rfl ?_
    repeat' (first
      | ((with_reducible refine cnd_intro (fun h => ?_) (fun h => ?_)) <;> simp only [h, rows_len, rows_cl, e1, SXR, noA, isAl, udf, AOp.dst, Nat.beq, putAt, bldE, evIo, isNil, Nat.ble, Int.reduceAdd, Int.reduceSub, Int.reduceNeg, Int.reduceBNe, Nat.reduceEqDiff, Nat.reduceSub, Nat.reduceAdd, Nat.reduceLeDiff, Nat.reduceBEq, Nat.reduceLT, Nat.reduceMul, Int.reduceBEq, Int.reduceLT, Int.reduceLE, reduceIte, reduceCtorEq])
      | ((with_reducible refine k_cons ?rdq ?_); (case rdq => refine rck_mk rfl ?_ ?_ <;> simp only [Option.isSome_some, rows_len, rows_cl, e1, SXR, noA, isAl, udf, AOp.dst, Nat.beq, putAt, bldE, evIo, isNil, Nat.ble, Int.reduceAdd, Int.reduceSub, Int.reduceNeg, Int.reduceBNe, Nat.reduceEqDiff, Nat.reduceSub, Nat.reduceAdd, Nat.reduceLeDiff, Nat.reduceBEq, Nat.reduceLT, Nat.reduceMul, Int.reduceBEq, Int.reduceLT, Int.reduceLE, reduceIte, reduceCtorEq]))
      | (with_reducible refine pcl_intro (ha) (by simp only [SXR, rows_len, rows_cl, e1]) (by simp only [SXR, rows_len, rows_cl, e1]) ?_)
      | (simp only [c3, rows_len, rows_cl, e1, SXR, noA, isAl, udf, AOp.dst, Nat.beq, putAt, bldE, evIo, isNil, Nat.ble, Int.reduceAdd, Int.reduceSub, Int.reduceNeg, Int.reduceBNe, Nat.reduceEqDiff, Nat.reduceSub, Nat.reduceAdd, Nat.reduceLeDiff, Nat.reduceBEq, Nat.reduceLT, Nat.reduceMul, Int.reduceBEq, Int.reduceLT, Int.reduceLE, reduceIte, reduceCtorEq]))
  have e1 : decide ((l.length : Int) > 100) = false := by simp; omega
  by_cases h2 : 100 < al
  · have e2 : decide ((al : Int) > 100) = true := by simp; omega
    refine pc_of Tryz.func3 k3 rfl ?_
    repeat' (first
      | ((with_reducible refine cnd_intro (fun h => ?_) (fun h => ?_)) <;> simp only [h, rows_len, rows_cl, e1, e2, SXR, noA, isAl, udf, AOp.dst, Nat.beq, putAt, bldE, evIo, isNil, Nat.ble, Int.reduceAdd, Int.reduceSub, Int.reduceNeg, Int.reduceBNe, Nat.reduceEqDiff, Nat.reduceSub, Nat.reduceAdd, Nat.reduceLeDiff, Nat.reduceBEq, Nat.reduceLT, Nat.reduceMul, Int.reduceBEq, Int.reduceLT, Int.reduceLE, reduceIte, reduceCtorEq])
      | ((with_reducible refine k_cons ?rdq ?_); (case rdq => refine rck_mk rfl ?_ ?_ <;> simp only [Option.isSome_some, rows_len, rows_cl, e1, e2, SXR, noA, isAl, udf, AOp.dst, Nat.beq, putAt, bldE, evIo, isNil, Nat.ble, Int.reduceAdd, Int.reduceSub, Int.reduceNeg, Int.reduceBNe, Nat.reduceEqDiff, Nat.reduceSub, Nat.reduceAdd, Nat.reduceLeDiff, Nat.reduceBEq, Nat.reduceLT, Nat.reduceMul, Int.reduceBEq, Int.reduceLT, Int.reduceLE, reduceIte, reduceCtorEq]))
      | (with_reducible refine pcl_intro (ha) (by simp only [SXR, rows_len, rows_cl, e1, e2]) (by simp only [SXR, rows_len, rows_cl, e1, e2]) ?_)
      | (simp only [c3, rows_len, rows_cl, e1, e2, SXR, noA, isAl, udf, AOp.dst, Nat.beq, putAt, bldE, evIo, isNil, Nat.ble, Int.reduceAdd, Int.reduceSub, Int.reduceNeg, Int.reduceBNe, Nat.reduceEqDiff, Nat.reduceSub, Nat.reduceAdd, Nat.reduceLeDiff, Nat.reduceBEq, Nat.reduceLT, Nat.reduceMul, Int.reduceBEq, Int.reduceLT, Int.reduceLE, reduceIte, reduceCtorEq]))
  have e2 : decide ((al : Int) > 100) = false := by simp; omega
  by_cases h3 : 100 < bl
  · have e3 : decide ((bl : Int) > 100) = true := by simp; omega
    refine pc_of Tryz.func3 k3 rfl ?_
    repeat' (first
      | ((with_reducible refine cnd_intro (fun h => ?_) (fun h => ?_)) <;> simp only [h, rows_len, rows_cl, e1, e2, e3, SXR, noA, isAl, udf, AOp.dst, Nat.beq, putAt, bldE, evIo, isNil, Nat.ble, Int.reduceAdd, Int.reduceSub, Int.reduceNeg, Int.reduceBNe, Nat.reduceEqDiff, Nat.reduceSub, Nat.reduceAdd, Nat.reduceLeDiff, Nat.reduceBEq, Nat.reduceLT, Nat.reduceMul, Int.reduceBEq, Int.reduceLT, Int.reduceLE, reduceIte, reduceCtorEq])
      | ((with_reducible refine k_cons ?rdq ?_); (case rdq => refine rck_mk rfl ?_ ?_ <;> simp only [Option.isSome_some, rows_len, rows_cl, e1, e2, e3, SXR, noA, isAl, udf, AOp.dst, Nat.beq, putAt, bldE, evIo, isNil, Nat.ble, Int.reduceAdd, Int.reduceSub, Int.reduceNeg, Int.reduceBNe, Nat.reduceEqDiff, Nat.reduceSub, Nat.reduceAdd, Nat.reduceLeDiff, Nat.reduceBEq, Nat.reduceLT, Nat.reduceMul, Int.reduceBEq, Int.reduceLT, Int.reduceLE, reduceIte, reduceCtorEq]))
      | (with_reducible refine pcl_intro (ha) (by simp only [SXR, rows_len, rows_cl, e1, e2, e3]) (by simp only [SXR, rows_len, rows_cl, e1, e2, e3]) ?_)
      | (simp only [c3, rows_len, rows_cl, e1, e2, e3, SXR, noA, isAl, udf, AOp.dst, Nat.beq, putAt, bldE, evIo, isNil, Nat.ble, Int.reduceAdd, Int.reduceSub, Int.reduceNeg, Int.reduceBNe, Nat.reduceEqDiff, Nat.reduceSub, Nat.reduceAdd, Nat.reduceLeDiff, Nat.reduceBEq, Nat.reduceLT, Nat.reduceMul, Int.reduceBEq, Int.reduceLT, Int.reduceLE, reduceIte, reduceCtorEq]))
  have e3 : decide ((bl : Int) > 100) = false := by simp; omega
  have h5 := f5 l al an bl bn (by omega)
  have h6 := f6 l al an bl bn (by omega)
  have h7 := f7 l al an bl bn (by omega)
  have h8 := f8 l al an bl bn (by omega)
  generalize fnd al an bl bn l = r at h5 h6 h7 h8
  obtain ⟨lo, hi, ok⟩ := r
  refine pc_of Tryz.func3 k3 rfl ?_
  repeat' (first
    | ((with_reducible refine cnd_intro (fun h => ?_) (fun h => ?_)) <;> simp only [h, rows_len, rows_cl, e1, e2, e3, sqs, sq1, beq_self_eq_true, SXR, noA, isAl, udf, AOp.dst, Nat.beq, putAt, bldE, evIo, isNil, Nat.ble, Int.reduceAdd, Int.reduceSub, Int.reduceNeg, Int.reduceBNe, Nat.reduceEqDiff, Nat.reduceSub, Nat.reduceAdd, Nat.reduceLeDiff, Nat.reduceBEq, Nat.reduceLT, Nat.reduceMul, Int.reduceBEq, Int.reduceLT, Int.reduceLE, reduceIte, reduceCtorEq])
    | ((with_reducible refine k_cons ?rdq ?_); (case rdq => refine rck_mk rfl ?_ ?_ <;> simp only [Option.isSome_some, rows_len, rows_cl, e1, e2, e3, sqs, sq1, beq_self_eq_true, SXR, noA, isAl, udf, AOp.dst, Nat.beq, putAt, bldE, evIo, isNil, Nat.ble, Int.reduceAdd, Int.reduceSub, Int.reduceNeg, Int.reduceBNe, Nat.reduceEqDiff, Nat.reduceSub, Nat.reduceAdd, Nat.reduceLeDiff, Nat.reduceBEq, Nat.reduceLT, Nat.reduceMul, Int.reduceBEq, Int.reduceLT, Int.reduceLE, reduceIte, reduceCtorEq]))
    | (with_reducible refine pcl_intro (h5) (by simp only [SXR, rows_len, rows_cl, e1, e2, e3, sqs, sq1, beq_self_eq_true]) (by simp only [SXR, rows_len, rows_cl, e1, e2, e3, sqs, sq1, beq_self_eq_true]) ?_)
    | (with_reducible refine pcl_intro (h6) (by simp only [SXR, rows_len, rows_cl, e1, e2, e3, sqs, sq1, beq_self_eq_true]) (by simp only [SXR, rows_len, rows_cl, e1, e2, e3, sqs, sq1, beq_self_eq_true]) ?_)
    | (with_reducible refine pcl_intro (h7) (by simp only [SXR, rows_len, rows_cl, e1, e2, e3, sqs, sq1, beq_self_eq_true]) (by simp only [SXR, rows_len, rows_cl, e1, e2, e3, sqs, sq1, beq_self_eq_true]) ?_)
    | (with_reducible refine pcl_intro (h8) (by simp only [SXR, rows_len, rows_cl, e1, e2, e3, sqs, sq1, beq_self_eq_true]) (by simp only [SXR, rows_len, rows_cl, e1, e2, e3, sqs, sq1, beq_self_eq_true]) ?_)
    | (with_reducible refine pcl_intro (ha) (by simp only [SXR, rows_len, rows_cl, e1, e2, e3, sqs, sq1, beq_self_eq_true]) (by simp only [SXR, rows_len, rows_cl, e1, e2, e3, sqs, sq1, beq_self_eq_true]) ?_)
    | (simp only [c3, rows_len, rows_cl, e1, e2, e3, sqs, sq1, beq_self_eq_true, SXR, noA, isAl, udf, AOp.dst, Nat.beq, putAt, bldE, evIo, isNil, Nat.ble, Int.reduceAdd, Int.reduceSub, Int.reduceNeg, Int.reduceBNe, Nat.reduceEqDiff, Nat.reduceSub, Nat.reduceAdd, Nat.reduceLeDiff, Nat.reduceBEq, Nat.reduceLT, Nat.reduceMul, Int.reduceBEq, Int.reduceLT, Int.reduceLE, reduceIte, reduceCtorEq]))
end Go.Proofs.YtmdaaicmkmgkfaaGreatDoor
