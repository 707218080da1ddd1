/-
  Contracts of folding in the program.
-/
import Derived.Test.YtpfocppjojgooaaSl
set_option linter.unusedSimpArgs false
namespace Go.Proofs.Ytpfocppjojgooaa
open Go.Abs
/-- a slice that was made by appends of rows -/
def oW (wd : Nat) (l : List (List TV)) : AC := if l = [] then .t .ns else .os wd l
theorem oW_nil (wd : Nat) : oW wd [] = .t .ns := rfl
theorem fin_oW (wd : Nat) (l : List (List TV)) : nzA (frA (oW wd l)) = .t (.ts l) := by
  unfold oW
  split
  · rename_i h; subst h; rfl
  · rfl
theorem nr_oW (wd : Nat) (l : List (List TV)) : (oW wd l).nr = true := by
  unfold oW
  split <;> rfl
theorem appd_oW {wd by_ : Nat} (l : List (List TV)) (r : List TV) (hw : r.length = wd) (h : l.length < 100000) (hb : by_ ≤ 1000) : appd true wd by_ (oW wd l) (.c (.t (.ts [r]))) = some (oW wd (l ++ [r])) := by
  have hr : room (l.length + 1) by_ = true := by
    simp only [room, decide_eq_true_eq]
    have : (2 * (l.length + 1) + 256) * (by_ + 1) ≤ 300000 * 1001 := Nat.mul_le_mul (by omega) (by omega)
    omega
  by_cases he : l = []
  · subst he
    have h1 : room 1 by_ = true := hr
    simp [appd, oW, ownC, h1, hw]
  · simp [appd, oW, he, hr, hw]
theorem rows_snoc (l : List Ex) (e : Ex) : Ex.rows (l ++ [e]) = Ex.rows l ++ [e.row] := by simp [rows_map]
/-- a function of expressions, applied to all -/
theorem list_any (f : FuncId) (g : Ex → Ex) (args : List Ex) (hlen : args.length < 1000) (hf : ∀ a, a ∈ args → PCalls Try.prog f [xg a.k a.op a.t a.v a.nm (Ex.rows a.args)] (.e (xE (g a)))) :
    PCalls Try.prog 20 [.ts (Ex.rows args), .fn f []] (.e (.c (.t (.ts (Ex.rows (args.map g)))))) := by
  refine pcalls_fin Try.func20 k20 (Nat.le_of_ble_eq_true rfl) ?_
  repeat' (first
    | ((with_reducible refine cnd_intro (fun h => ?_) (fun h => ?_)) <;> simp only [h, SXR, udf, AOp.dst, und, Nat.beq, exop, putAt, bldE, evI, evIo, isNil, List.replicate, Nat.ble, initS, initH, AR.slot, Int.reduceAdd, Int.reduceSub, Int.reduceNeg, Int.reduceBNe, Nat.reduceEqDiff, Nat.reduceSub, Nat.reduceAdd, Nat.reduceLeDiff, Nat.reduceBEq, Nat.reduceLT, Nat.reduceMul, Int.reduceBEq, Int.reduceLT, Int.reduceLE, reduceIte, reduceCtorEq])
    | (simp only [c20, SXR, udf, AOp.dst, und, Nat.beq, exop, putAt, bldE, evI, evIo, isNil, List.replicate, Nat.ble, initS, initH, AR.slot, Int.reduceAdd, Int.reduceSub, Int.reduceNeg, Int.reduceBNe, Nat.reduceEqDiff, Nat.reduceSub, Nat.reduceAdd, Nat.reduceLeDiff, Nat.reduceBEq, Nat.reduceLT, Nat.reduceMul, Int.reduceBEq, Int.reduceLT, Int.reduceLE, reduceIte, reduceCtorEq]))
  refine Lp_ind (X := List Ex × List Ex) (fun x => ⟨[.e (.c .und), .e (.c (.t (.fn f []))), .e (.c .und), .e (.c .und), .e (.c .und), .e (.c (oW 6 (Ex.rows (x.1.map g)))), .e (.c .und), .e (.c .und), .e (.c (.t (.ts (Ex.rows args)))), .e (.c (.t (.i .i64 args.length))), .e (.c (.t (.i .i64 x.1.length))), .e (.c .und), .e (.c .und), .e (.c .und), .e (.c .und), .e (.c .und), .e (.c .und), .e (.c .und), .e (.c .und), .e (.c .und), .e (.c .und), .e (.c .und)], []⟩)
    (fun x => args = x.1 ++ x.2) (fun x => x.2.length) ([], args) ?_ rfl ?_
  · simp only [msk_eq, msk_t, msk_f, msk_n, List.map_nil, oW_nil, Ex.rows, List.length_nil, rows_len, Int.natCast_zero]
  · rintro ⟨done, rest⟩ hI IH
    simp only at hI IH ⊢
    have hd : done.length < 1000 := by rw [hI] at hlen; simp at hlen; omega
    cases rest with
    | nil =>
      have hlt : decide ((done.length : Int) < args.length) = false := by rw [hI]; simp
      rw [List.append_nil] at hI
      subst hI
      repeat' (first
        | ((with_reducible refine cnd_intro (fun h => ?_) (fun h => ?_)) <;> simp only [h, hlt, fin_oW, nr_oW, SXR, udf, AOp.dst, und, Nat.beq, exop, putAt, bldE, evI, evIo, isNil, List.replicate, Nat.ble, initS, initH, AR.slot, Int.reduceAdd, Int.reduceSub, Int.reduceNeg, Int.reduceBNe, Nat.reduceEqDiff, Nat.reduceSub, Nat.reduceAdd, Nat.reduceLeDiff, Nat.reduceBEq, Nat.reduceLT, Nat.reduceMul, Int.reduceBEq, Int.reduceLT, Int.reduceLE, reduceIte, reduceCtorEq])
        | (simp only [nr_e, hlt, fin_oW, nr_oW, SXR, udf, AOp.dst, und, Nat.beq, exop, putAt, bldE, evI, evIo, isNil, List.replicate, Nat.ble, initS, initH, AR.slot, Int.reduceAdd, Int.reduceSub, Int.reduceNeg, Int.reduceBNe, Nat.reduceEqDiff, Nat.reduceSub, Nat.reduceAdd, Nat.reduceLeDiff, Nat.reduceBEq, Nat.reduceLT, Nat.reduceMul, Int.reduceBEq, Int.reduceLT, Int.reduceLE, reduceIte, reduceCtorEq]))
    | cons x rest =>
      have hlt : decide ((done.length : Int) < args.length) = true := by rw [hI]; simp; omega
      have hx := rows_at hI
      have a1 := appd_oW (wd := 6) (by_ := 72) (Ex.rows (done.map g)) [.i .i64 (g x).k, .i .i64 (g x).op, .i .i64 (g x).t, .i .i64 (g x).v, .s (g x).nm, .ts (Ex.rows (g x).args)] rfl (by rw [rows_len]; simp; omega) (by omega)
      have hw := wrap_len (n := done.length) (by omega)
      have hc := PCalls.toA (h := []) (hf x (by rw [hI]; simp)) rfl
      repeat' (first
        | ((with_reducible refine cnd_intro (fun h => ?_) (fun h => ?_)) <;> simp only [h, hlt, hx, a1, hw, SXR, udf, AOp.dst, und, Nat.beq, exop, putAt, bldE, evI, evIo, isNil, List.replicate, Nat.ble, initS, initH, AR.slot, Int.reduceAdd, Int.reduceSub, Int.reduceNeg, Int.reduceBNe, Nat.reduceEqDiff, Nat.reduceSub, Nat.reduceAdd, Nat.reduceLeDiff, Nat.reduceBEq, Nat.reduceLT, Nat.reduceMul, Int.reduceBEq, Int.reduceLT, Int.reduceLE, reduceIte, reduceCtorEq])
        | (with_reducible refine ccl_intro rfl (hc) ?_)
        | (simp only [nr_e, hlt, hx, a1, hw, SXR, udf, AOp.dst, und, Nat.beq, exop, putAt, bldE, evI, evIo, isNil, List.replicate, Nat.ble, initS, initH, AR.slot, Int.reduceAdd, Int.reduceSub, Int.reduceNeg, Int.reduceBNe, Nat.reduceEqDiff, Nat.reduceSub, Nat.reduceAdd, Nat.reduceLeDiff, Nat.reduceBEq, Nat.reduceLT, Nat.reduceMul, Int.reduceBEq, Int.reduceLT, Int.reduceLE, reduceIte, reduceCtorEq]))
      refine IH (done ++ [x], rest) (by simp [hI]) (by simp) _ ?_
      simp only [msk_eq, msk_t, msk_f, msk_n, List.map_append, List.map_cons, List.map_nil, List.length_append, List.length_cons, List.length_nil, rows_snoc, row_eq]
end Go.Proofs.Ytpfocppjojgooaa
