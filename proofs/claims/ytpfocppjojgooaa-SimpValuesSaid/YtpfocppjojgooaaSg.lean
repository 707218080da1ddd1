/-
  Contracts of one step of folding: choices, double negations.
-/
import Derived.Test.YtpfocppjojgooaaSf
set_option linter.unusedSimpArgs false
namespace Go.Proofs.Ytpfocppjojgooaa
open Go.Abs
abbrev xE (e : Ex) : EV := xr e.k e.op e.t e.v e.nm (Ex.rows e.args)
abbrev eB (x : Bool) : EV := .c (.t (.b x))
abbrev isC (e : Ex) (t v : Int) : Bool := isF e.k e.t e.v t v
def choiceF (k : Int) : List Ex → Option Ex
  | [c, a, b] => if k == 4 then (if isC c 1 1 then some a else if isC c 1 0 then some b else if isC a 1 1 && isC b 1 0 then some c else if isC a 1 0 && isC b 1 1 then some (.mk 3 1 0 0 [] [c]) else none) else none
  | _ => none
theorem len3 {α : Type} {l : List α} (h : l.length = 3) : ∃ a b c, l = [a, b, c] := by
  match l, h with
  | [a, b, c], _ => exact ⟨a, b, c, rfl⟩
theorem len2 {α : Type} {l : List α} (h : l.length = 2) : ∃ a b, l = [a, b] := by
  match l, h with
  | [a, b], _ => exact ⟨a, b, rfl⟩
theorem len1 {α : Type} {l : List α} (h : l.length = 1) : ∃ a, l = [a] := by
  match l, h with
  | [a], _ => exact ⟨a, rfl⟩
theorem rows_ne {l : List Ex} {n : Nat} (h : l.length ≠ n) : (((Ex.rows l).length : Int) != (n : Int)) = true := by
  rw [rows_len]; simp; omega
theorem rows_eqf {l : List Ex} {n : Nat} (h : l.length ≠ n) : (((Ex.rows l).length : Int) == (n : Int)) = false := by
  rw [rows_len]; simp; omega
theorem choice_no {k : Int} {l : List Ex} (h : l.length ≠ 3) : choiceF k l = none := by
  unfold choiceF
  split
  · exact (h rfl).elim
  · rfl
theorem f45 (k op t v : Int) (nm : List UInt8) (args : List Ex) :
    PCalls Try.prog 45 [xg k op t v nm (Ex.rows args)] (.tu [xE ((choiceF k args).getD (.mk k op t v nm args)), eB (choiceF k args).isSome]) := by
  by_cases h3 : args.length = 3
  · obtain ⟨c, a, b, rfl⟩ := len3 h3
    clear h3
    refine pcalls_fin Try.func45 k45 (Nat.le_of_ble_eq_true rfl) ?_
    repeat' (first
      | ((with_reducible refine cnd_intro (fun h => ?_) (fun h => ?_)) <;> simp only [h, Ex.rows, row_eq, SXR, udf, AOp.dst, und, Nat.beq, exop, putAt, bldE, evI, evIo, isNil, List.replicate, Nat.ble, initS, initH, AR.slot, Int.reduceAdd, Int.reduceSub, Int.reduceNeg, Int.reduceBNe, Nat.reduceEqDiff, Nat.reduceSub, Nat.reduceAdd, Nat.reduceLeDiff, Nat.reduceBEq, Nat.reduceLT, Nat.reduceMul, Int.reduceBEq, Int.reduceLT, Int.reduceLE, reduceIte, reduceCtorEq])
      | (with_reducible refine pcl_intro (f68 _ _ _ _ _ _ _ _) ?_)
      | (simp only [c45, Ex.rows, row_eq, SXR, udf, AOp.dst, und, Nat.beq, exop, putAt, bldE, evI, evIo, isNil, List.replicate, Nat.ble, initS, initH, AR.slot, Int.reduceAdd, Int.reduceSub, Int.reduceNeg, Int.reduceBNe, Nat.reduceEqDiff, Nat.reduceSub, Nat.reduceAdd, Nat.reduceLeDiff, Nat.reduceBEq, Nat.reduceLT, Nat.reduceMul, Int.reduceBEq, Int.reduceLT, Int.reduceLE, reduceIte, reduceCtorEq]))
    all_goals simp_all [choiceF, k_mk, op_mk, t_mk, v_mk, nm_mk, args_mk, Ex.rows, row_eq]
  · have hn := rows_ne (n := 3) h3
    simp only [Int.cast_ofNat_Int] at hn
    rw [choice_no h3]
    refine pcalls_fin Try.func45 k45 (Nat.le_of_ble_eq_true rfl) ?_
    repeat' (first
      | ((with_reducible refine cnd_intro (fun h => ?_) (fun h => ?_)) <;> simp only [h, hn, SXR, udf, AOp.dst, und, Nat.beq, exop, putAt, bldE, evI, evIo, isNil, List.replicate, Nat.ble, initS, initH, AR.slot, Int.reduceAdd, Int.reduceSub, Int.reduceNeg, Int.reduceBNe, Nat.reduceEqDiff, Nat.reduceSub, Nat.reduceAdd, Nat.reduceLeDiff, Nat.reduceBEq, Nat.reduceLT, Nat.reduceMul, Int.reduceBEq, Int.reduceLT, Int.reduceLE, reduceIte, reduceCtorEq])
      | (simp only [c45, hn, SXR, udf, AOp.dst, und, Nat.beq, exop, putAt, bldE, evI, evIo, isNil, List.replicate, Nat.ble, initS, initH, AR.slot, Int.reduceAdd, Int.reduceSub, Int.reduceNeg, Int.reduceBNe, Nat.reduceEqDiff, Nat.reduceSub, Nat.reduceAdd, Nat.reduceLeDiff, Nat.reduceBEq, Nat.reduceLT, Nat.reduceMul, Int.reduceBEq, Int.reduceLT, Int.reduceLE, reduceIte, reduceCtorEq]))
    all_goals simp [k_mk, op_mk, t_mk, v_mk, nm_mk, args_mk]
theorem f23 (k op t v : Int) (nm : List UInt8) (args : List Ex) :
    PCalls Try.prog 23 [xg k op t v nm (Ex.rows args)] (.tu [xE ((choiceF k args).getD (.mk k op t v nm args)), eB (choiceF k args).isSome]) := by
  by_cases h3 : args.length = 3
  · obtain ⟨c, a, b, rfl⟩ := len3 h3
    clear h3
    refine pcalls_fin Try.func23 k23 (Nat.le_of_ble_eq_true rfl) ?_
    repeat' (first
      | ((with_reducible refine cnd_intro (fun h => ?_) (fun h => ?_)) <;> simp only [h, Ex.rows, row_eq, SXR, udf, AOp.dst, und, Nat.beq, exop, putAt, bldE, evI, evIo, isNil, List.replicate, Nat.ble, initS, initH, AR.slot, Int.reduceAdd, Int.reduceSub, Int.reduceNeg, Int.reduceBNe, Nat.reduceEqDiff, Nat.reduceSub, Nat.reduceAdd, Nat.reduceLeDiff, Nat.reduceBEq, Nat.reduceLT, Nat.reduceMul, Int.reduceBEq, Int.reduceLT, Int.reduceLE, reduceIte, reduceCtorEq])
      | (with_reducible refine pcl_intro (f14 _ _ _ _ _ _ _ _) ?_)
      | (simp only [c23, Ex.rows, row_eq, SXR, udf, AOp.dst, und, Nat.beq, exop, putAt, bldE, evI, evIo, isNil, List.replicate, Nat.ble, initS, initH, AR.slot, Int.reduceAdd, Int.reduceSub, Int.reduceNeg, Int.reduceBNe, Nat.reduceEqDiff, Nat.reduceSub, Nat.reduceAdd, Nat.reduceLeDiff, Nat.reduceBEq, Nat.reduceLT, Nat.reduceMul, Int.reduceBEq, Int.reduceLT, Int.reduceLE, reduceIte, reduceCtorEq]))
    all_goals simp_all [choiceF, k_mk, op_mk, t_mk, v_mk, nm_mk, args_mk, Ex.rows, row_eq]
  · have hn := rows_ne (n := 3) h3
    simp only [Int.cast_ofNat_Int] at hn
    rw [choice_no h3]
    refine pcalls_fin Try.func23 k23 (Nat.le_of_ble_eq_true rfl) ?_
    repeat' (first
      | ((with_reducible refine cnd_intro (fun h => ?_) (fun h => ?_)) <;> simp only [h, hn, SXR, udf, AOp.dst, und, Nat.beq, exop, putAt, bldE, evI, evIo, isNil, List.replicate, Nat.ble, initS, initH, AR.slot, Int.reduceAdd, Int.reduceSub, Int.reduceNeg, Int.reduceBNe, Nat.reduceEqDiff, Nat.reduceSub, Nat.reduceAdd, Nat.reduceLeDiff, Nat.reduceBEq, Nat.reduceLT, Nat.reduceMul, Int.reduceBEq, Int.reduceLT, Int.reduceLE, reduceIte, reduceCtorEq])
      | (simp only [c23, hn, SXR, udf, AOp.dst, und, Nat.beq, exop, putAt, bldE, evI, evIo, isNil, List.replicate, Nat.ble, initS, initH, AR.slot, Int.reduceAdd, Int.reduceSub, Int.reduceNeg, Int.reduceBNe, Nat.reduceEqDiff, Nat.reduceSub, Nat.reduceAdd, Nat.reduceLeDiff, Nat.reduceBEq, Nat.reduceLT, Nat.reduceMul, Int.reduceBEq, Int.reduceLT, Int.reduceLE, reduceIte, reduceCtorEq]))
    all_goals simp [k_mk, op_mk, t_mk, v_mk, nm_mk, args_mk]
end Go.Proofs.Ytpfocppjojgooaa
