/-
  The contracts of the functions on expressions: their size, whether they are simple, whether they are control expressions.
-/
import Derived.Test.YtodpmbaggcbaeaaGreatDoorEx
set_option linter.unusedSimpArgs false
set_option linter.unusedVariables false
namespace Go.Proofs.YtodpmbaggcbaeaaGreatDoor
open Go Go.B
theorem f13 (e : Ex) : PC Tryz.prog 13 [xg e] (.b (e.k == 2 || e.k == 1)) := by
  obtain ⟨k, op, t, v, nl, nn, args⟩ := e
  refine pc_of Tryz.func13 k13 rfl ?_
  repeat' (first
    | ((with_reducible refine cnd_intro (fun h => ?_) (fun h => ?_)) <;> simp only [h, Ex.row, Ex.k, SXR, noA, isAl, udf, AOp.dst, Nat.beq, putAt, bldE, evIo, isNil, Nat.ble, Int.reduceAdd, Int.reduceSub, Int.reduceNeg, Int.reduceBNe, Nat.reduceEqDiff, Nat.reduceSub, Nat.reduceAdd, Nat.reduceLeDiff, Nat.reduceBEq, Nat.reduceLT, Nat.reduceMul, Int.reduceBEq, Int.reduceLT, Int.reduceLE, reduceIte, reduceCtorEq])
    | ((with_reducible refine k_cons ?rdq ?_); (case rdq => refine rck_mk rfl ?_ ?_ <;> simp only [SXR, Option.isSome_some, Ex.row, Ex.k]))
    | (simp only [c13, Ex.row, Ex.k, SXR, noA, isAl, udf, AOp.dst, Nat.beq, putAt, bldE, evIo, isNil, Nat.ble, Int.reduceAdd, Int.reduceSub, Int.reduceNeg, Int.reduceBNe, Nat.reduceEqDiff, Nat.reduceSub, Nat.reduceAdd, Nat.reduceLeDiff, Nat.reduceBEq, Nat.reduceLT, Nat.reduceMul, Int.reduceBEq, Int.reduceLT, Int.reduceLE, reduceIte, reduceCtorEq]))
  all_goals simp_all
theorem wrap_small {n : Int} (h0 : -1000000000 ≤ n) (h1 : n ≤ 1000000000) : IntKind.i64.wrap n = n := by rw [IntKind.wrap_i64]; omega
def wacc (args : List Ex) (m i : Nat) : Nat := min (1 + Ex.szs (args.take i)) m
/-- the number of expressions, at most m -/
theorem f4 : ∀ (n : Nat) (e : Ex) (m : Nat), e.sz ≤ n → 1 ≤ m → m ≤ 100000 → PC Tryz.prog 4 [xg e, .i .i64 m] (.i .i64 ((min e.sz m : Nat) : Int))
  | 0, e, m, h, _, _ => by have := sz_pos e; omega
  | n + 1, .mk k op t v nl nn args, m, h, hm1, hm2 => by
    have hszs : Ex.szs args ≤ n := by simp [Ex.sz] at h; omega
    have hf : ∀ a, a ∈ args → ∀ j : Nat, 1 ≤ j → j ≤ 100000 → PC Tryz.prog 4 [xg a, .i .i64 j] (.i .i64 ((min a.sz j : Nat) : Int)) :=
      fun a ha j h1 h2 => f4 n a j (by have := sz_mem ha; omega) h1 h2
    have hE : Ex.sz (.mk k op t v nl nn args) = 1 + Ex.szs args := rfl
    refine pc_of Tryz.func4 k4 rfl ?_
    repeat' (first
      | ((with_reducible refine cnd_intro (fun h => ?_) (fun h => ?_)) <;> simp only [h, Ex.row, SXR, noA, isAl, udf, AOp.dst, Nat.beq, putAt, bldE, evIo, isNil, Nat.ble, Int.reduceAdd, Int.reduceSub, Int.reduceNeg, Int.reduceBNe, Nat.reduceEqDiff, Nat.reduceSub, Nat.reduceAdd, Nat.reduceLeDiff, Nat.reduceBEq, Nat.reduceLT, Nat.reduceMul, Int.reduceBEq, Int.reduceLT, Int.reduceLE, reduceIte, reduceCtorEq])
      | ((with_reducible refine k_cons ?rdq ?_); (case rdq => refine rck_mk rfl ?_ ?_ <;> simp only [SXR, Option.isSome_some, Ex.row]))
      | (simp only [c4, Ex.row, SXR, noA, isAl, udf, AOp.dst, Nat.beq, putAt, bldE, evIo, isNil, Nat.ble, Int.reduceAdd, Int.reduceSub, Int.reduceNeg, Int.reduceBNe, Nat.reduceEqDiff, Nat.reduceSub, Nat.reduceAdd, Nat.reduceLeDiff, Nat.reduceBEq, Nat.reduceLT, Nat.reduceMul, Int.reduceBEq, Int.reduceLT, Int.reduceLE, reduceIte, reduceCtorEq]))
    have h0 : ((wacc args m 0 : Nat) : Int) = 1 := by unfold wacc; simp [Ex.szs]; omega
    refine Lp_ind (X := Nat) (fun i ll hs => ∃ j7 j8 j9 j10 j11 j12 j13 j14 j15 j16 j17 j18 j19 j20 j21 j22 j23 j24 j25 j26 j27 j28 j29 j30 j31 j32 : V, ll = [xg (.mk k op t v nl nn args), .i .i64 (m : Int), .p 0 0, .und, .i .i64 0, .i .i64 ((wacc args m i : Nat) : Int), .i .i64 (i : Int), j7, j8, j9, j10, j11, j12, j13, j14, j15, j16, j17, j18, j19, j20, j21, j22, j23, j24, j25, j26, j27, j28, j29, j30, j31, j32] ∧ hs = [.c false [.i .i64 k, .i .i64 op, .i .i64 t, .i .i64 v, .s nl nn, .ts (Ex.rows args)]])
      (fun i => i ≤ args.length ∧ i ≤ m) (fun i => args.length - i) ?_ 0 _ _ ⟨_, _, _, _, _, _, _, _, _, _, _, _, _, _, _, _, _, _, _, _, _, _, _, _, _, _, (by rw [h0]; rfl), rfl⟩ ⟨Nat.zero_le _, Nat.zero_le _⟩
    · rintro i _ _ ⟨j7, j8, j9, j10, j11, j12, j13, j14, j15, j16, j17, j18, j19, j20, j21, j22, j23, j24, j25, j26, j27, j28, j29, j30, j31, j32, rfl, rfl⟩ ⟨hi, him⟩ IH
      by_cases hlt : i < args.length
      · have hlt1 : decide ((i : Int) < (args.length : Int)) = true := by simp; omega
        obtain ⟨x, hx, hxm⟩ := at_some hlt
        have hxr : (Ex.rows args)[i]? = some x.row := by rw [rows_get, hx]; rfl
        have hp := sz_pos x
        have hst := szs_take hx
        have hle : Ex.szs (args.take (i + 1)) ≤ Ex.szs args := by
          have : Ex.szs args = Ex.szs (args.take (i + 1)) + Ex.szs (args.drop (i + 1)) := by rw [← szs_app, List.take_append_drop]
          omega
        have hw := wrap_len (n := i) (by omega)
        by_cases hg : wacc args m i < m
        · have hgd : decide (((wacc args m i : Nat) : Int) < (m : Int)) = true := by simp; omega
          have hacc : wacc args m i = 1 + Ex.szs (args.take i) := by unfold wacc at hg ⊢; omega
          have w1 : IntKind.i64.wrap ((m : Int) - ((wacc args m i : Nat) : Int)) = ((m - wacc args m i : Nat) : Int) := by rw [wrap_small (by omega) (by omega)]; omega
          have w2 : IntKind.i64.wrap (((wacc args m i : Nat) : Int) + ((min x.sz (m - wacc args m i) : Nat) : Int)) = ((wacc args m (i + 1) : Nat) : Int) := by
            rw [wrap_small (by omega) (by omega)]
            have : wacc args m (i + 1) = min (1 + Ex.szs (args.take (i + 1))) m := rfl
            omega
          have hc := hf x hxm (m - wacc args m i) (by omega) (by omega)
          repeat' (first
            | ((with_reducible refine cnd_intro (fun h => ?_) (fun h => ?_)) <;> simp only [h, hlt1, hxr, row_len, row_take, rows_len, rows_cl, row_cl, hgd, w1, w2, hw, SXR, noA, isAl, udf, AOp.dst, Nat.beq, putAt, bldE, evIo, isNil, Nat.ble, Int.reduceAdd, Int.reduceSub, Int.reduceNeg, Int.reduceBNe, Nat.reduceEqDiff, Nat.reduceSub, Nat.reduceAdd, Nat.reduceLeDiff, Nat.reduceBEq, Nat.reduceLT, Nat.reduceMul, Int.reduceBEq, Int.reduceLT, Int.reduceLE, reduceIte, reduceCtorEq])
            | ((with_reducible refine k_cons ?rdq ?_); (case rdq => refine rck_mk rfl ?_ ?_ <;> simp only [SXR, Option.isSome_some, hlt1, hxr, row_len, row_take, rows_len, rows_cl, row_cl, hgd, w1, w2, hw]))
            | (with_reducible refine pcl_intro (hc) (by simp only [SXR, hlt1, hxr, row_len, row_take, rows_len, rows_cl, row_cl, hgd, w1, w2, hw]) (by simp only [SXR, hlt1, hxr, row_len, row_take, rows_len, rows_cl, row_cl, hgd, w1, w2, hw]) ?_)
            | (simp only [c4, hlt1, hxr, row_len, row_take, rows_len, rows_cl, row_cl, hgd, w1, w2, hw, SXR, noA, isAl, udf, AOp.dst, Nat.beq, putAt, bldE, evIo, isNil, Nat.ble, Int.reduceAdd, Int.reduceSub, Int.reduceNeg, Int.reduceBNe, Nat.reduceEqDiff, Nat.reduceSub, Nat.reduceAdd, Nat.reduceLeDiff, Nat.reduceBEq, Nat.reduceLT, Nat.reduceMul, Int.reduceBEq, Int.reduceLT, Int.reduceLE, reduceIte, reduceCtorEq]))
          refine IH (i + 1) _ _ ⟨_, _, _, _, _, _, _, _, _, _, _, _, _, _, _, _, _, _, _, _, _, _, _, _, _, _, rfl, rfl⟩ ⟨by omega, ?_⟩ (by omega)
          have : i + 1 ≤ 1 + Ex.szs (args.take i) := by have := szs_len (args.take i); simp at this; omega
          omega
        · have hgd : decide (((wacc args m i : Nat) : Int) < (m : Int)) = false := by simp; omega
          clear IH
          repeat' (first
            | ((with_reducible refine cnd_intro (fun h => ?_) (fun h => ?_)) <;> simp only [h, hlt1, rows_len, hgd, SXR, noA, isAl, udf, AOp.dst, Nat.beq, putAt, bldE, evIo, isNil, Nat.ble, Int.reduceAdd, Int.reduceSub, Int.reduceNeg, Int.reduceBNe, Nat.reduceEqDiff, Nat.reduceSub, Nat.reduceAdd, Nat.reduceLeDiff, Nat.reduceBEq, Nat.reduceLT, Nat.reduceMul, Int.reduceBEq, Int.reduceLT, Int.reduceLE, reduceIte, reduceCtorEq])
            | ((with_reducible refine k_cons ?rdq ?_); (case rdq => refine rck_mk rfl ?_ ?_ <;> simp only [SXR, Option.isSome_some, hlt1, rows_len, hgd]))
            | (simp only [c4, hlt1, rows_len, hgd, SXR, noA, isAl, udf, AOp.dst, Nat.beq, putAt, bldE, evIo, isNil, Nat.ble, Int.reduceAdd, Int.reduceSub, Int.reduceNeg, Int.reduceBNe, Nat.reduceEqDiff, Nat.reduceSub, Nat.reduceAdd, Nat.reduceLeDiff, Nat.reduceBEq, Nat.reduceLT, Nat.reduceMul, Int.reduceBEq, Int.reduceLT, Int.reduceLE, reduceIte, reduceCtorEq]))
          unfold wacc at hg ⊢
          rw [if_neg (by omega)]
          congr 2
          omega
      · have hlt1 : decide ((i : Int) < (args.length : Int)) = false := by simp; omega
        clear IH
        repeat' (first
          | ((with_reducible refine cnd_intro (fun h => ?_) (fun h => ?_)) <;> simp only [h, hlt1, rows_len, SXR, noA, isAl, udf, AOp.dst, Nat.beq, putAt, bldE, evIo, isNil, Nat.ble, Int.reduceAdd, Int.reduceSub, Int.reduceNeg, Int.reduceBNe, Nat.reduceEqDiff, Nat.reduceSub, Nat.reduceAdd, Nat.reduceLeDiff, Nat.reduceBEq, Nat.reduceLT, Nat.reduceMul, Int.reduceBEq, Int.reduceLT, Int.reduceLE, reduceIte, reduceCtorEq])
          | ((with_reducible refine k_cons ?rdq ?_); (case rdq => refine rck_mk rfl ?_ ?_ <;> simp only [SXR, Option.isSome_some, hlt1, rows_len]))
          | (simp only [c4, hlt1, rows_len, SXR, noA, isAl, udf, AOp.dst, Nat.beq, putAt, bldE, evIo, isNil, Nat.ble, Int.reduceAdd, Int.reduceSub, Int.reduceNeg, Int.reduceBNe, Nat.reduceEqDiff, Nat.reduceSub, Nat.reduceAdd, Nat.reduceLeDiff, Nat.reduceBEq, Nat.reduceLT, Nat.reduceMul, Int.reduceBEq, Int.reduceLT, Int.reduceLE, reduceIte, reduceCtorEq]))
        have : i = args.length := by omega
        subst this
        unfold wacc
        rw [List.take_length, if_neg (by omega)]
        congr 2
end Go.Proofs.YtodpmbaggcbaeaaGreatDoor
