/-
  Contracts of one step of folding: the reference's constants, double negations, neutral operands.
-/
import Derived.Test.YtpfocppjojgooaaSg
set_option linter.unusedSimpArgs false
namespace Go.Proofs.Ytpfocppjojgooaa
open Go.Abs
def compF (k op : Int) (args : List Ex) : Option Ex := if k == 3 && (consts args && kOk op args) then some (.mk 1 0 (kT op args) (kV op args) [] []) else none
theorem f44a (k op t v : Int) (nm : List UInt8) (args : List Ex) (hlen : args.length < 1000) (h : (k == 3 && consts args) = false) :
    PCalls Try.prog 44 [xg k op t v nm (Ex.rows args)] (.tu [xr k op t v nm (Ex.rows args), eB false]) := by
  have q := f44 k op t v nm args hlen
  have h2 : (k == 3 && (consts args && kOk op args)) = false := by rw [← Bool.and_assoc, h]; rfl
  rw [h, h2] at q
  exact q
theorem f44b (k op t v : Int) (nm : List UInt8) (args : List Ex) (hlen : args.length < 1000) (h : (k == 3 && consts args) = true) :
    PCalls Try.prog 44 [xg k op t v nm (Ex.rows args)] (.tu [xr 1 0 (kT op args) (kV op args) [] [], eB (kOk op args)]) := by
  have q := f44 k op t v nm args hlen
  have h2 : (k == 3 && (consts args && kOk op args)) = kOk op args := by rw [← Bool.and_assoc, h]; rfl
  rw [h, h2] at q
  exact q
theorem f22 (k op t v : Int) (nm : List UInt8) (args : List Ex) (hlen : args.length < 1000) :
    PCalls Try.prog 22 [xg k op t v nm (Ex.rows args)] (.tu [xE ((compF k op args).getD (.mk k op t v nm args)), eB (compF k op args).isSome]) := by
  refine pcalls_fin Try.func22 k22 (Nat.le_of_ble_eq_true rfl) ?_
  repeat' (first
    | ((with_reducible refine cnd_intro (fun h => ?_) (fun h => ?_)) <;> simp only [h, SXR, udf, AOp.dst, und, Nat.beq, exop, putAt, bldE, evI, evIo, isNil, List.replicate, Nat.ble, initS, initH, AR.slot, Int.reduceAdd, Int.reduceSub, Int.reduceNeg, Int.reduceBNe, Nat.reduceEqDiff, Nat.reduceSub, Nat.reduceAdd, Nat.reduceLeDiff, Nat.reduceBEq, Nat.reduceLT, Nat.reduceMul, Int.reduceBEq, Int.reduceLT, Int.reduceLE, reduceIte, reduceCtorEq])
    | (simp only [c22, SXR, udf, AOp.dst, und, Nat.beq, exop, putAt, bldE, evI, evIo, isNil, List.replicate, Nat.ble, initS, initH, AR.slot, Int.reduceAdd, Int.reduceSub, Int.reduceNeg, Int.reduceBNe, Nat.reduceEqDiff, Nat.reduceSub, Nat.reduceAdd, Nat.reduceLeDiff, Nat.reduceBEq, Nat.reduceLT, Nat.reduceMul, Int.reduceBEq, Int.reduceLT, Int.reduceLE, reduceIte, reduceCtorEq]))
  · simp_all [compF, k_mk, op_mk, t_mk, v_mk, nm_mk, args_mk]
  · have hk : (k == 3) = true := by simpa using h
    refine Lp_ind (X := List Ex × List Ex) (fun x => ⟨[.e (.c .und), .bx [.t (.i .i64 k), .t (.i .i64 op), .t (.i .i64 t), .t (.i .i64 v), .t (.s nm), .t (.ts (Ex.rows args))], .bx [.t (.i .i64 0), .t (.i .i64 0), .t (.i .i64 0), .t (.i .i64 0), .t (.s []), .t .ns], .e (.c .und), .e (.c (oL (x.1.map Ex.t))), .e (.c (oL (x.1.map Ex.v))), .e (.c (.t (.i .i64 x.1.length))), .e (.c .und), .e (.c .und), .e (.c .und), .e (.c .und), .e (.c .und), .e (.c .und), .e (.c .und), .e (.c .und), .e (.c .und), .e (.c .und), .e (.c .und), .e (.c .und), .e (.c .und), .e (.c .und), .e (.c .und), .e (.c .und), .e (.c .und), .e (.c .und), .e (.c .und), .e (.c .und), .e (.c .und), .e (.c .und), .e (.c .und), .e (.c .und), .e (.c .und), .e (.c .und), .e (.c .und), .e (.c .und), .e (.c .und), .e (.c .und), .e (.c .und), .e (.c .und), .e (.c .und), .e (.c .und), .e (.c .und), .e (.c .und), .e (.c .und), .e (.c .und), .e (.c .und), .e (.c .und), .e (.c .und), .e (.c .und), .e (.c .und), .e (.c .und), .e (.c .und), .e (.c .und), .e (.c .und), .e (.c .und), .e (.c .und), .e (.c .und), .e (.c .und), .e (.c .und), .e (.c .und), .e (.c .und), .e (.c .und), .e (.c .und), .e (.c .und), .e (.c .und), .e (.c .und), .e (.c .und), .e (.c .und), .e (.c .und), .e (.c .und), .e (.c .und), .e (.c .und)], []⟩)
      (fun x => args = x.1 ++ x.2 ∧ consts x.1 = true) (fun x => x.2.length) ([], args) ?_ ⟨rfl, rfl⟩ ?_
    · simp only [msk_eq, msk_t, msk_f, msk_n, List.map_nil, oL_nil, List.length_nil, rows_len, Int.natCast_zero]
    · rintro ⟨done, rest⟩ ⟨hI, hc⟩ IH
      simp only at hI hc IH ⊢
      have hd : done.length < 1000 := by rw [hI] at hlen; simp at hlen; omega
      cases rest with
      | nil =>
        have hlt : decide ((done.length : Int) < args.length) = false := by rw [hI]; simp
        repeat' (first
          | ((with_reducible refine cnd_intro (fun h => ?_) (fun h => ?_)) <;> simp only [h, hlt, rd_oL, rows_len, SXR, udf, AOp.dst, und, Nat.beq, exop, putAt, bldE, evI, evIo, isNil, List.replicate, Nat.ble, initS, initH, AR.slot, Int.reduceAdd, Int.reduceSub, Int.reduceNeg, Int.reduceBNe, Nat.reduceEqDiff, Nat.reduceSub, Nat.reduceAdd, Nat.reduceLeDiff, Nat.reduceBEq, Nat.reduceLT, Nat.reduceMul, Int.reduceBEq, Int.reduceLT, Int.reduceLE, reduceIte, reduceCtorEq])
          | (with_reducible refine pcl_intro (f48o _ _) ?_)
          | (with_reducible refine pcl_intro (f49o _ _) ?_)
          | (simp only [nr_e, hlt, rd_oL, rows_len, SXR, udf, AOp.dst, und, Nat.beq, exop, putAt, bldE, evI, evIo, isNil, List.replicate, Nat.ble, initS, initH, AR.slot, Int.reduceAdd, Int.reduceSub, Int.reduceNeg, Int.reduceBNe, Nat.reduceEqDiff, Nat.reduceSub, Nat.reduceAdd, Nat.reduceLeDiff, Nat.reduceBEq, Nat.reduceLT, Nat.reduceMul, Int.reduceBEq, Int.reduceLT, Int.reduceLE, reduceIte, reduceCtorEq]))
        all_goals
          clear IH
          rw [List.append_nil] at hI
          subst hI
          simp_all [kT, kV, kOk, compF, k_mk, op_mk, t_mk, v_mk, nm_mk, args_mk, Ex.rows]
      | cons x rest =>
        have hlt : decide ((done.length : Int) < args.length) = true := by rw [hI]; simp; omega
        have hx := rows_at hI
        have a1 := appd_oL (done.map Ex.t) x.t (by simp; omega)
        have a2 := appd_oL (done.map Ex.v) x.v (by simp; omega)
        have hw := wrap_len (n := done.length) (by omega)
        repeat' (first
          | ((with_reducible refine cnd_intro (fun h => ?_) (fun h => ?_)) <;> simp only [h, hlt, hx, a1, a2, hw, rows_len, SXR, udf, AOp.dst, und, Nat.beq, exop, putAt, bldE, evI, evIo, isNil, List.replicate, Nat.ble, initS, initH, AR.slot, Int.reduceAdd, Int.reduceSub, Int.reduceNeg, Int.reduceBNe, Nat.reduceEqDiff, Nat.reduceSub, Nat.reduceAdd, Nat.reduceLeDiff, Nat.reduceBEq, Nat.reduceLT, Nat.reduceMul, Int.reduceBEq, Int.reduceLT, Int.reduceLE, reduceIte, reduceCtorEq])
          | (simp only [nr_e, hlt, hx, a1, a2, hw, rows_len, SXR, udf, AOp.dst, und, Nat.beq, exop, putAt, bldE, evI, evIo, isNil, List.replicate, Nat.ble, initS, initH, AR.slot, Int.reduceAdd, Int.reduceSub, Int.reduceNeg, Int.reduceBNe, Nat.reduceEqDiff, Nat.reduceSub, Nat.reduceAdd, Nat.reduceLeDiff, Nat.reduceBEq, Nat.reduceLT, Nat.reduceMul, Int.reduceBEq, Int.reduceLT, Int.reduceLE, reduceIte, reduceCtorEq]))
        · have hcm := consts_mid hI h
          clear IH
          simp_all [compF, k_mk, op_mk, t_mk, v_mk, nm_mk, args_mk]
        · refine IH (done ++ [x], rest) ⟨by simp [hI], by rw [consts_snoc, hc]; simp_all⟩ (by simp) _ ?_
          simp only [msk_eq, msk_t, msk_f, msk_n, List.map_append, List.map_cons, List.map_nil, List.length_append, List.length_cons, List.length_nil]
def twiceF (k op : Int) : List Ex → Option Ex
  | [x] => if k == 3 && ((op == 1 || op == 2) && (x.k == 3 && x.op == op)) then (match x.args with | [y] => some y | _ => none) else none
  | _ => none
def whenF (k : Int) : List Ex → Option Ex
  | [x] => if k == 8 && x.k == 1 then some x else none
  | _ => none
set_option maxHeartbeats 4000000 in
theorem f24 (k op t v : Int) (nm : List UInt8) (args : List Ex) :
    PCalls Try.prog 24 [xg k op t v nm (Ex.rows args)] (.tu [xE (((twiceF k op args).orElse fun _ => whenF k args).getD (.mk k op t v nm args)), eB ((twiceF k op args).orElse fun _ => whenF k args).isSome]) := by
  by_cases h1 : args.length = 1
  · obtain ⟨x, rfl⟩ := len1 h1
    clear h1
    by_cases h2 : x.args.length = 1
    · obtain ⟨y, hy⟩ := len1 h2
      clear h2
      refine pcalls_fin Try.func24 k24 (Nat.le_of_ble_eq_true rfl) ?_
      repeat' (first
        | ((with_reducible refine cnd_intro (fun h => ?_) (fun h => ?_)) <;> simp only [h, Ex.rows, row_eq, hy, SXR, udf, AOp.dst, und, Nat.beq, exop, putAt, bldE, evI, evIo, isNil, List.replicate, Nat.ble, initS, initH, AR.slot, Int.reduceAdd, Int.reduceSub, Int.reduceNeg, Int.reduceBNe, Nat.reduceEqDiff, Nat.reduceSub, Nat.reduceAdd, Nat.reduceLeDiff, Nat.reduceBEq, Nat.reduceLT, Nat.reduceMul, Int.reduceBEq, Int.reduceLT, Int.reduceLE, reduceIte, reduceCtorEq])
        | (simp only [c24, Ex.rows, row_eq, hy, SXR, udf, AOp.dst, und, Nat.beq, exop, putAt, bldE, evI, evIo, isNil, List.replicate, Nat.ble, initS, initH, AR.slot, Int.reduceAdd, Int.reduceSub, Int.reduceNeg, Int.reduceBNe, Nat.reduceEqDiff, Nat.reduceSub, Nat.reduceAdd, Nat.reduceLeDiff, Nat.reduceBEq, Nat.reduceLT, Nat.reduceMul, Int.reduceBEq, Int.reduceLT, Int.reduceLE, reduceIte, reduceCtorEq]))
      all_goals simp_all [twiceF, whenF, k_mk, op_mk, t_mk, v_mk, nm_mk, args_mk, Ex.rows, row_eq]
    · have hn := rows_eqf (n := 1) h2
      simp only [Int.natCast_one] at hn
      have hm : (match x.args with | [y] => some y | _ => none) = (none : Option Ex) := by
        split
        · rename_i y hy; rw [hy] at h2; exact (h2 rfl).elim
        · rfl
      refine pcalls_fin Try.func24 k24 (Nat.le_of_ble_eq_true rfl) ?_
      repeat' (first
        | ((with_reducible refine cnd_intro (fun h => ?_) (fun h => ?_)) <;> simp only [h, Ex.rows, row_eq, hn, SXR, udf, AOp.dst, und, Nat.beq, exop, putAt, bldE, evI, evIo, isNil, List.replicate, Nat.ble, initS, initH, AR.slot, Int.reduceAdd, Int.reduceSub, Int.reduceNeg, Int.reduceBNe, Nat.reduceEqDiff, Nat.reduceSub, Nat.reduceAdd, Nat.reduceLeDiff, Nat.reduceBEq, Nat.reduceLT, Nat.reduceMul, Int.reduceBEq, Int.reduceLT, Int.reduceLE, reduceIte, reduceCtorEq])
        | (simp only [c24, Ex.rows, row_eq, hn, SXR, udf, AOp.dst, und, Nat.beq, exop, putAt, bldE, evI, evIo, isNil, List.replicate, Nat.ble, initS, initH, AR.slot, Int.reduceAdd, Int.reduceSub, Int.reduceNeg, Int.reduceBNe, Nat.reduceEqDiff, Nat.reduceSub, Nat.reduceAdd, Nat.reduceLeDiff, Nat.reduceBEq, Nat.reduceLT, Nat.reduceMul, Int.reduceBEq, Int.reduceLT, Int.reduceLE, reduceIte, reduceCtorEq]))
      all_goals simp_all [twiceF, whenF, k_mk, op_mk, t_mk, v_mk, nm_mk, args_mk, Ex.rows, row_eq]
  · have hn := rows_ne (n := 1) h1
    simp only [Int.natCast_one] at hn
    have e1 : twiceF k op args = none := by
      unfold twiceF
      split
      · exact (h1 rfl).elim
      · rfl
    have e2 : whenF k args = none := by
      unfold whenF
      split
      · exact (h1 rfl).elim
      · rfl
    rw [e1, e2]
    refine pcalls_fin Try.func24 k24 (Nat.le_of_ble_eq_true rfl) ?_
    repeat' (first
      | ((with_reducible refine cnd_intro (fun h => ?_) (fun h => ?_)) <;> simp only [h, hn, SXR, udf, AOp.dst, und, Nat.beq, exop, putAt, bldE, evI, evIo, isNil, List.replicate, Nat.ble, initS, initH, AR.slot, Int.reduceAdd, Int.reduceSub, Int.reduceNeg, Int.reduceBNe, Nat.reduceEqDiff, Nat.reduceSub, Nat.reduceAdd, Nat.reduceLeDiff, Nat.reduceBEq, Nat.reduceLT, Nat.reduceMul, Int.reduceBEq, Int.reduceLT, Int.reduceLE, reduceIte, reduceCtorEq])
      | (simp only [c24, hn, SXR, udf, AOp.dst, und, Nat.beq, exop, putAt, bldE, evI, evIo, isNil, List.replicate, Nat.ble, initS, initH, AR.slot, Int.reduceAdd, Int.reduceSub, Int.reduceNeg, Int.reduceBNe, Nat.reduceEqDiff, Nat.reduceSub, Nat.reduceAdd, Nat.reduceLeDiff, Nat.reduceBEq, Nat.reduceLT, Nat.reduceMul, Int.reduceBEq, Int.reduceLT, Int.reduceLE, reduceIte, reduceCtorEq]))
    all_goals simp [k_mk, op_mk, t_mk, v_mk, nm_mk, args_mk]
end Go.Proofs.Ytpfocppjojgooaa
