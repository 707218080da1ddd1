/-
  Contracts of sizes and equality; the law on folding, on trees.
-/
import Derived.Test.YtpfocppjojgooaaSo
import Derived.Test.YtpfocppjojgooaaLives
set_option linter.unusedSimpArgs false
namespace Go.Proofs.Ytpfocppjojgooaa
open Go.Abs
theorem wrap_small {n : Int} (h0 : -1000000000 ≤ n) (h1 : n ≤ 1000000000) : IntKind.i64.wrap n = n := IntWalk.i64_in n (by omega)
theorem szs_split {args done rest : List Ex} (h : args = done ++ rest) : Ex.szs args = Ex.szs done + Ex.szs rest := by
  subst h
  induction done with
  | nil => simp [Ex.szs]
  | cons e l ih => simp [Ex.szs, ih]; omega
theorem sz_pos (e : Ex) : 1 ≤ e.sz := by have := sz_args e; omega
/-- the number of expressions, at most m -/
theorem f5 : ∀ (n : Nat) (e : Ex) (m : Nat), e.sz ≤ n → 1 ≤ m → m ≤ 1000 → PCalls Try.prog 5 [xg e.k e.op e.t e.v e.nm (Ex.rows e.args), .i .i64 m] (rI ((min e.sz m : Nat) : Int))
  | 0, e, m, h, _, _ => by have := sz_args e; omega
  | n + 1, .mk k op t v nm args, m, h, hm1, hm2 => by
    have hszs : Ex.szs args ≤ n := by simp [Ex.sz] at h; omega
    have hf : ∀ a, a ∈ args → ∀ j : Nat, 1 ≤ j → j ≤ 1000 → PCalls Try.prog 5 [xg a.k a.op a.t a.v a.nm (Ex.rows a.args), .i .i64 j] (rI ((min a.sz j : Nat) : Int)) :=
      fun a ha j h1 h2 => f5 n a j (by have := sz_mem ha; omega) h1 h2
    simp only [k_mk, op_mk, t_mk, v_mk, nm_mk, args_mk, Ex.sz]
    refine pcalls_of Try.func5 k5 rfl (Nat.le_of_ble_eq_true rfl) ?_
    repeat' (first
      | ((with_reducible refine cnd_intro (fun h => ?_) (fun h => ?_)) <;> simp only [h, SXR, udf, AOp.dst, und, Nat.beq, exop, putAt, bldE, evI, evIo, isNil, List.replicate, Nat.ble, initS, initH, AR.slot, Int.reduceAdd, Int.reduceSub, Int.reduceNeg, Int.reduceBNe, Nat.reduceEqDiff, Nat.reduceSub, Nat.reduceAdd, Nat.reduceLeDiff, Nat.reduceBEq, Nat.reduceLT, Nat.reduceMul, Int.reduceBEq, Int.reduceLT, Int.reduceLE, reduceIte, reduceCtorEq])
      | (simp only [c5, SXR, udf, AOp.dst, und, Nat.beq, exop, putAt, bldE, evI, evIo, isNil, List.replicate, Nat.ble, initS, initH, AR.slot, Int.reduceAdd, Int.reduceSub, Int.reduceNeg, Int.reduceBNe, Nat.reduceEqDiff, Nat.reduceSub, Nat.reduceAdd, Nat.reduceLeDiff, Nat.reduceBEq, Nat.reduceLT, Nat.reduceMul, Int.reduceBEq, Int.reduceLT, Int.reduceLE, reduceIte, reduceCtorEq]))
    refine Lp_ind (X := List Ex × List Ex × SV × SV × SV) (fun x => ⟨[.e (.c .und), .e (.c (.t (.i .i64 m))), .bx [.t (.i .i64 k), .t (.i .i64 op), .t (.i .i64 t), .t (.i .i64 v), .t (.s nm), .t (.ts (Ex.rows args))], .e (.c .und), .e (.c .und), .e (.c (.t (.i .i64 ((min (1 + Ex.szs x.1) m : Nat) : Int)))), .e (.c (.t (.i .i64 x.1.length))), .e (.c .und), .e (.c .und), .e (.c .und), .e (.c .und), .e (.c .und), .e (.c .und), .e (.c .und), .e (.c .und), .e (.c .und), .e (.c .und), .e (.c .und), .e (.c .und), .e (.c .und), .e (.c .und), .e (.c .und), .e (.c .und), .e (.c .und), .e (.c .und), .e (.c .und), .e (.c .und), .e (.c .und), .e (.c .und), .e (.c .und), .e (.c .und), .e (.c .und), .e (.c .und)], []⟩)
      (fun x => args = x.1 ++ x.2.1 ∧ x.1.length ≤ m) (fun x => x.2.1.length) ([], args, .e (.c .und), .e (.c .und), .e (.c .und)) ?_ ⟨rfl, Nat.zero_le _⟩ ?_
    · simp only [msk_eq, msk_t, msk_f, msk_n, List.length_nil, Int.natCast_zero, Ex.szs, Nat.add_zero, Nat.min_eq_left hm1, Int.natCast_one]
    · rintro ⟨done, rest, u1, u2, u3⟩ ⟨hI, hd⟩ IH
      simp only at hI IH hd ⊢
      have hsp := szs_split hI
      cases rest with
      | nil =>
        have hlt : decide ((done.length : Int) < args.length) = false := by rw [hI]; simp
        clear IH
        rw [List.append_nil] at hI
        subst hI
        repeat' (first
          | ((with_reducible refine cnd_intro (fun h => ?_) (fun h => ?_)) <;> simp only [h, hlt, rows_len, SXR, udf, AOp.dst, und, Nat.beq, exop, putAt, bldE, evI, evIo, isNil, List.replicate, Nat.ble, initS, initH, AR.slot, Int.reduceAdd, Int.reduceSub, Int.reduceNeg, Int.reduceBNe, Nat.reduceEqDiff, Nat.reduceSub, Nat.reduceAdd, Nat.reduceLeDiff, Nat.reduceBEq, Nat.reduceLT, Nat.reduceMul, Int.reduceBEq, Int.reduceLT, Int.reduceLE, reduceIte, reduceCtorEq])
          | (simp only [nr_e, hlt, rows_len, SXR, udf, AOp.dst, und, Nat.beq, exop, putAt, bldE, evI, evIo, isNil, List.replicate, Nat.ble, initS, initH, AR.slot, Int.reduceAdd, Int.reduceSub, Int.reduceNeg, Int.reduceBNe, Nat.reduceEqDiff, Nat.reduceSub, Nat.reduceAdd, Nat.reduceLeDiff, Nat.reduceBEq, Nat.reduceLT, Nat.reduceMul, Int.reduceBEq, Int.reduceLT, Int.reduceLE, reduceIte, reduceCtorEq]))
        rw [if_neg (by omega)]
      | cons x rest =>
        have hlt : decide ((done.length : Int) < args.length) = true := by rw [hI]; simp; omega
        have hx := rows_at hI
        have hw := wrap_len (n := done.length) (by omega)
        have hp := sz_pos x
        simp only [Ex.szs] at hsp
        by_cases hg : min (1 + Ex.szs done) m < m
        · have hgd : decide (((min (1 + Ex.szs done) m : Nat) : Int) < (m : Int)) = true := by simp; omega
          have hmin : min (1 + Ex.szs done) m = 1 + Ex.szs done := by omega
          rw [hmin] at hg hgd ⊢
          have w1 : IntKind.i64.wrap ((m : Int) - ((1 + Ex.szs done : Nat) : Int)) = ((m - (1 + Ex.szs done) : Nat) : Int) := by rw [wrap_small (by omega) (by omega)]; omega
          have w2 : IntKind.i64.wrap (((1 + Ex.szs done : Nat) : Int) + ((min x.sz (m - (1 + Ex.szs done)) : Nat) : Int)) = ((min (1 + Ex.szs (done ++ [x])) m : Nat) : Int) := by
            rw [wrap_small (by omega) (by omega)]
            have := szs_split (args := done ++ [x]) (done := done) (rest := [x]) rfl
            simp only [Ex.szs] at this
            omega
          have hc := hf x (by rw [hI]; simp) (m - (1 + Ex.szs done)) (by omega) (by omega)
          repeat' (first
            | ((with_reducible refine cnd_intro (fun h => ?_) (fun h => ?_)) <;> simp only [h, hlt, hx, hw, rows_len, hgd, w1, w2, SXR, udf, AOp.dst, und, Nat.beq, exop, putAt, bldE, evI, evIo, isNil, List.replicate, Nat.ble, initS, initH, AR.slot, Int.reduceAdd, Int.reduceSub, Int.reduceNeg, Int.reduceBNe, Nat.reduceEqDiff, Nat.reduceSub, Nat.reduceAdd, Nat.reduceLeDiff, Nat.reduceBEq, Nat.reduceLT, Nat.reduceMul, Int.reduceBEq, Int.reduceLT, Int.reduceLE, reduceIte, reduceCtorEq])
            | (with_reducible refine pcl_intro (hc) ?_)
            | (simp only [nr_e, hlt, hx, hw, rows_len, hgd, w1, w2, SXR, udf, AOp.dst, und, Nat.beq, exop, putAt, bldE, evI, evIo, isNil, List.replicate, Nat.ble, initS, initH, AR.slot, Int.reduceAdd, Int.reduceSub, Int.reduceNeg, Int.reduceBNe, Nat.reduceEqDiff, Nat.reduceSub, Nat.reduceAdd, Nat.reduceLeDiff, Nat.reduceBEq, Nat.reduceLT, Nat.reduceMul, Int.reduceBEq, Int.reduceLT, Int.reduceLE, reduceIte, reduceCtorEq]))
          refine IH (done ++ [x], rest, .e (.c (.t (.i .i64 ((1 + Ex.szs done : Nat) : Int)))), .e (.c (.t (.i .i64 m))), .e (.c (.t (.b true)))) ⟨by simp [hI], by have := szs_len done; simp; omega⟩ (by simp) _ ?_
          simp only [msk_eq, msk_t, msk_f, msk_n, List.length_append, List.length_cons, List.length_nil]
        · have hgd : decide (((min (1 + Ex.szs done) m : Nat) : Int) < (m : Int)) = false := by simp; omega
          clear IH
          repeat' (first
            | ((with_reducible refine cnd_intro (fun h => ?_) (fun h => ?_)) <;> simp only [h, hlt, hx, hw, rows_len, hgd, SXR, udf, AOp.dst, und, Nat.beq, exop, putAt, bldE, evI, evIo, isNil, List.replicate, Nat.ble, initS, initH, AR.slot, Int.reduceAdd, Int.reduceSub, Int.reduceNeg, Int.reduceBNe, Nat.reduceEqDiff, Nat.reduceSub, Nat.reduceAdd, Nat.reduceLeDiff, Nat.reduceBEq, Nat.reduceLT, Nat.reduceMul, Int.reduceBEq, Int.reduceLT, Int.reduceLE, reduceIte, reduceCtorEq])
            | (simp only [nr_e, hlt, hx, hw, rows_len, hgd, SXR, udf, AOp.dst, und, Nat.beq, exop, putAt, bldE, evI, evIo, isNil, List.replicate, Nat.ble, initS, initH, AR.slot, Int.reduceAdd, Int.reduceSub, Int.reduceNeg, Int.reduceBNe, Nat.reduceEqDiff, Nat.reduceSub, Nat.reduceAdd, Nat.reduceLeDiff, Nat.reduceBEq, Nat.reduceLT, Nat.reduceMul, Int.reduceBEq, Int.reduceLT, Int.reduceLE, reduceIte, reduceCtorEq]))
          have e1 : min (1 + Ex.szs done) m = m := by omega
          have e2 : min (1 + Ex.szs args) m = m := by omega
          rw [e1, e2]
          simp
/-- an expression is the same as itself -/
theorem f8 : ∀ (n : Nat) (e : Ex), e.sz ≤ n → n ≤ 600 → PCalls Try.prog 8 [xg e.k e.op e.t e.v e.nm (Ex.rows e.args), xg e.k e.op e.t e.v e.nm (Ex.rows e.args)] (rB true)
  | 0, e, h, _ => by have := sz_args e; omega
  | n + 1, .mk k op t v nm args, h, hn => by
    have hszs : Ex.szs args ≤ n := by simp [Ex.sz] at h; omega
    have hlen : args.length < 1000 := by have := szs_len args; omega
    have hf : ∀ a, a ∈ args → PCalls Try.prog 8 [xg a.k a.op a.t a.v a.nm (Ex.rows a.args), xg a.k a.op a.t a.v a.nm (Ex.rows a.args)] (rB true) :=
      fun a ha => f8 n a (by have := sz_mem ha; omega) (by omega)
    simp only [k_mk, op_mk, t_mk, v_mk, nm_mk, args_mk]
    refine pcalls_of Try.func8 k8 rfl (Nat.le_of_ble_eq_true rfl) ?_
    repeat' (first
      | ((with_reducible refine cnd_intro (fun h => ?_) (fun h => ?_)) <;> simp only [h, bne_self_eq_false, SXR, udf, AOp.dst, und, Nat.beq, exop, putAt, bldE, evI, evIo, isNil, List.replicate, Nat.ble, initS, initH, AR.slot, Int.reduceAdd, Int.reduceSub, Int.reduceNeg, Int.reduceBNe, Nat.reduceEqDiff, Nat.reduceSub, Nat.reduceAdd, Nat.reduceLeDiff, Nat.reduceBEq, Nat.reduceLT, Nat.reduceMul, Int.reduceBEq, Int.reduceLT, Int.reduceLE, reduceIte, reduceCtorEq])
      | (simp only [c8, bne_self_eq_false, SXR, udf, AOp.dst, und, Nat.beq, exop, putAt, bldE, evI, evIo, isNil, List.replicate, Nat.ble, initS, initH, AR.slot, Int.reduceAdd, Int.reduceSub, Int.reduceNeg, Int.reduceBNe, Nat.reduceEqDiff, Nat.reduceSub, Nat.reduceAdd, Nat.reduceLeDiff, Nat.reduceBEq, Nat.reduceLT, Nat.reduceMul, Int.reduceBEq, Int.reduceLT, Int.reduceLE, reduceIte, reduceCtorEq]))
    refine Lp_ind (X := List Ex × List Ex) (fun x => ⟨[.e (.c .und), .e (.c .und), .bx [.t (.i .i64 k), .t (.i .i64 op), .t (.i .i64 t), .t (.i .i64 v), .t (.s nm), .t (.ts (Ex.rows args))], .bx [.t (.i .i64 k), .t (.i .i64 op), .t (.i .i64 t), .t (.i .i64 v), .t (.s nm), .t (.ts (Ex.rows args))], .e (.c .und), .e (.c (.t (.i .i64 x.1.length))), .e (.c .und), .e (.c .und), .e (.c .und), .e (.c .und), .e (.c .und), .e (.c .und), .e (.c .und), .e (.c .und), .e (.c .und), .e (.c .und), .e (.c .und), .e (.c .und), .e (.c .und), .e (.c .und), .e (.c .und), .e (.c .und), .e (.c .und), .e (.c .und), .e (.c .und), .e (.c .und), .e (.c .und), .e (.c .und), .e (.c .und), .e (.c .und), .e (.c .und), .e (.c .und), .e (.c .und), .e (.c .und), .e (.c .und), .e (.c .und), .e (.c .und), .e (.c .und), .e (.c .und), .e (.c .und), .e (.c .und), .e (.c .und), .e (.c .und), .e (.c .und), .e (.c .und), .e (.c .und), .e (.c .und), .e (.c .und), .e (.c .und), .e (.c .und), .e (.c .und), .e (.c .und), .e (.c .und), .e (.c .und), .e (.c .und), .e (.c .und), .e (.c .und), .e (.c .und), .e (.c .und), .e (.c .und), .e (.c .und), .e (.c .und), .e (.c .und), .e (.c .und), .e (.c .und), .e (.c .und), .e (.c .und)], []⟩)
      (fun x => args = x.1 ++ x.2) (fun x => x.2.length) ([], args) ?_ rfl ?_
    · simp only [msk_eq, msk_t, msk_f, msk_n, List.length_nil, Int.natCast_zero]
    · rintro ⟨done, rest⟩ hI IH
      simp only at hI IH ⊢
      have hd : done.length < 1000 := by rw [hI] at hlen; simp at hlen; omega
      cases rest with
      | nil =>
        have hlt : decide ((done.length : Int) < args.length) = false := by rw [hI]; simp
        clear IH
        repeat' (first
          | ((with_reducible refine cnd_intro (fun h => ?_) (fun h => ?_)) <;> simp only [h, hlt, rows_len, SXR, udf, AOp.dst, und, Nat.beq, exop, putAt, bldE, evI, evIo, isNil, List.replicate, Nat.ble, initS, initH, AR.slot, Int.reduceAdd, Int.reduceSub, Int.reduceNeg, Int.reduceBNe, Nat.reduceEqDiff, Nat.reduceSub, Nat.reduceAdd, Nat.reduceLeDiff, Nat.reduceBEq, Nat.reduceLT, Nat.reduceMul, Int.reduceBEq, Int.reduceLT, Int.reduceLE, reduceIte, reduceCtorEq])
          | (simp only [nr_e, hlt, rows_len, SXR, udf, AOp.dst, und, Nat.beq, exop, putAt, bldE, evI, evIo, isNil, List.replicate, Nat.ble, initS, initH, AR.slot, Int.reduceAdd, Int.reduceSub, Int.reduceNeg, Int.reduceBNe, Nat.reduceEqDiff, Nat.reduceSub, Nat.reduceAdd, Nat.reduceLeDiff, Nat.reduceBEq, Nat.reduceLT, Nat.reduceMul, Int.reduceBEq, Int.reduceLT, Int.reduceLE, reduceIte, reduceCtorEq]))
      | cons x rest =>
        have hlt : decide ((done.length : Int) < args.length) = true := by rw [hI]; simp; omega
        have hx := rows_at hI
        have hw := wrap_len (n := done.length) (by omega)
        have hc := hf x (by rw [hI]; simp)
        repeat' (first
          | ((with_reducible refine cnd_intro (fun h => ?_) (fun h => ?_)) <;> simp only [h, hlt, hx, hw, rows_len, SXR, udf, AOp.dst, und, Nat.beq, exop, putAt, bldE, evI, evIo, isNil, List.replicate, Nat.ble, initS, initH, AR.slot, Int.reduceAdd, Int.reduceSub, Int.reduceNeg, Int.reduceBNe, Nat.reduceEqDiff, Nat.reduceSub, Nat.reduceAdd, Nat.reduceLeDiff, Nat.reduceBEq, Nat.reduceLT, Nat.reduceMul, Int.reduceBEq, Int.reduceLT, Int.reduceLE, reduceIte, reduceCtorEq])
          | (with_reducible refine pcl_intro (hc) ?_)
          | (simp only [nr_e, hlt, hx, hw, rows_len, SXR, udf, AOp.dst, und, Nat.beq, exop, putAt, bldE, evI, evIo, isNil, List.replicate, Nat.ble, initS, initH, AR.slot, Int.reduceAdd, Int.reduceSub, Int.reduceNeg, Int.reduceBNe, Nat.reduceEqDiff, Nat.reduceSub, Nat.reduceAdd, Nat.reduceLeDiff, Nat.reduceBEq, Nat.reduceLT, Nat.reduceMul, Int.reduceBEq, Int.reduceLT, Int.reduceLE, reduceIte, reduceCtorEq]))
        refine IH (done ++ [x], rest) (by simp [hI]) (by simp) _ ?_
        simp only [msk_eq, msk_t, msk_f, msk_n, List.length_append, List.length_cons, List.length_nil]
theorem f10 : ∀ (n : Nat) (e : Ex), e.sz ≤ n → n ≤ 600 → PCalls Try.prog 10 [xg e.k e.op e.t e.v e.nm (Ex.rows e.args)] (rI (e.sz : Int))
  | 0, e, h, _ => by have := sz_args e; omega
  | n + 1, .mk k op t v nm args, h, hn => by
    have hszs : Ex.szs args ≤ n := by simp [Ex.sz] at h; omega
    have hlen : args.length < 1000 := by have := szs_len args; omega
    have hf : ∀ a, a ∈ args → PCalls Try.prog 10 [xg a.k a.op a.t a.v a.nm (Ex.rows a.args)] (rI (a.sz : Int)) := fun a ha => f10 n a (by have := sz_mem ha; omega) (by omega)
    simp only [k_mk, op_mk, t_mk, v_mk, nm_mk, args_mk, Ex.sz]
    refine pcalls_of Try.func10 k10 rfl (Nat.le_of_ble_eq_true rfl) ?_
    repeat' (first
      | ((with_reducible refine cnd_intro (fun h => ?_) (fun h => ?_)) <;> simp only [h, SXR, udf, AOp.dst, und, Nat.beq, exop, putAt, bldE, evI, evIo, isNil, List.replicate, Nat.ble, initS, initH, AR.slot, Int.reduceAdd, Int.reduceSub, Int.reduceNeg, Int.reduceBNe, Nat.reduceEqDiff, Nat.reduceSub, Nat.reduceAdd, Nat.reduceLeDiff, Nat.reduceBEq, Nat.reduceLT, Nat.reduceMul, Int.reduceBEq, Int.reduceLT, Int.reduceLE, reduceIte, reduceCtorEq])
      | (simp only [c10, SXR, udf, AOp.dst, und, Nat.beq, exop, putAt, bldE, evI, evIo, isNil, List.replicate, Nat.ble, initS, initH, AR.slot, Int.reduceAdd, Int.reduceSub, Int.reduceNeg, Int.reduceBNe, Nat.reduceEqDiff, Nat.reduceSub, Nat.reduceAdd, Nat.reduceLeDiff, Nat.reduceBEq, Nat.reduceLT, Nat.reduceMul, Int.reduceBEq, Int.reduceLT, Int.reduceLE, reduceIte, reduceCtorEq]))
    refine Lp_ind (X := List Ex × List Ex) (fun x => ⟨[.e (.c .und), .bx [.t (.i .i64 k), .t (.i .i64 op), .t (.i .i64 t), .t (.i .i64 v), .t (.s nm), .t (.ts (Ex.rows args))], .e (.c .und), .e (.c (.t (.i .i64 ((1 + Ex.szs x.1 : Nat) : Int)))), .e (.c (.t (.i .i64 x.1.length))), .e (.c .und), .e (.c .und), .e (.c .und), .e (.c .und), .e (.c .und), .e (.c .und), .e (.c .und), .e (.c .und), .e (.c .und), .e (.c .und), .e (.c .und), .e (.c .und), .e (.c .und), .e (.c .und), .e (.c .und), .e (.c .und)], []⟩)
      (fun x => args = x.1 ++ x.2) (fun x => x.2.length) ([], args) ?_ rfl ?_
    · simp only [msk_eq, msk_t, msk_f, msk_n, List.length_nil, Int.natCast_zero, Ex.szs, Nat.add_zero, Int.natCast_one]
    · rintro ⟨done, rest⟩ hI IH
      simp only at hI IH ⊢
      have hd : done.length < 1000 := by rw [hI] at hlen; simp at hlen; omega
      have hsp := szs_split hI
      cases rest with
      | nil =>
        have hlt : decide ((done.length : Int) < args.length) = false := by rw [hI]; simp
        clear IH
        rw [List.append_nil] at hI
        subst hI
        repeat' (first
          | ((with_reducible refine cnd_intro (fun h => ?_) (fun h => ?_)) <;> simp only [h, hlt, rows_len, SXR, udf, AOp.dst, und, Nat.beq, exop, putAt, bldE, evI, evIo, isNil, List.replicate, Nat.ble, initS, initH, AR.slot, Int.reduceAdd, Int.reduceSub, Int.reduceNeg, Int.reduceBNe, Nat.reduceEqDiff, Nat.reduceSub, Nat.reduceAdd, Nat.reduceLeDiff, Nat.reduceBEq, Nat.reduceLT, Nat.reduceMul, Int.reduceBEq, Int.reduceLT, Int.reduceLE, reduceIte, reduceCtorEq])
          | (simp only [nr_e, hlt, rows_len, SXR, udf, AOp.dst, und, Nat.beq, exop, putAt, bldE, evI, evIo, isNil, List.replicate, Nat.ble, initS, initH, AR.slot, Int.reduceAdd, Int.reduceSub, Int.reduceNeg, Int.reduceBNe, Nat.reduceEqDiff, Nat.reduceSub, Nat.reduceAdd, Nat.reduceLeDiff, Nat.reduceBEq, Nat.reduceLT, Nat.reduceMul, Int.reduceBEq, Int.reduceLT, Int.reduceLE, reduceIte, reduceCtorEq]))
      | cons x rest =>
        have hlt : decide ((done.length : Int) < args.length) = true := by rw [hI]; simp; omega
        have hx := rows_at hI
        have hw := wrap_len (n := done.length) (by omega)
        have hc := hf x (by rw [hI]; simp)
        simp only [Ex.szs] at hsp
        have w2 : IntKind.i64.wrap (((1 + Ex.szs done : Nat) : Int) + (x.sz : Int)) = ((1 + Ex.szs (done ++ [x]) : Nat) : Int) := by
          rw [wrap_small (by omega) (by omega)]
          have := szs_split (args := done ++ [x]) (done := done) (rest := [x]) rfl
          simp only [Ex.szs] at this
          omega
        repeat' (first
          | ((with_reducible refine cnd_intro (fun h => ?_) (fun h => ?_)) <;> simp only [h, hlt, hx, hw, w2, rows_len, SXR, udf, AOp.dst, und, Nat.beq, exop, putAt, bldE, evI, evIo, isNil, List.replicate, Nat.ble, initS, initH, AR.slot, Int.reduceAdd, Int.reduceSub, Int.reduceNeg, Int.reduceBNe, Nat.reduceEqDiff, Nat.reduceSub, Nat.reduceAdd, Nat.reduceLeDiff, Nat.reduceBEq, Nat.reduceLT, Nat.reduceMul, Int.reduceBEq, Int.reduceLT, Int.reduceLE, reduceIte, reduceCtorEq])
          | (with_reducible refine pcl_intro (hc) ?_)
          | (simp only [nr_e, hlt, hx, hw, w2, rows_len, SXR, udf, AOp.dst, und, Nat.beq, exop, putAt, bldE, evI, evIo, isNil, List.replicate, Nat.ble, initS, initH, AR.slot, Int.reduceAdd, Int.reduceSub, Int.reduceNeg, Int.reduceBNe, Nat.reduceEqDiff, Nat.reduceSub, Nat.reduceAdd, Nat.reduceLeDiff, Nat.reduceBEq, Nat.reduceLT, Nat.reduceMul, Int.reduceBEq, Int.reduceLT, Int.reduceLE, reduceIte, reduceCtorEq]))
        refine IH (done ++ [x], rest) (by simp [hI]) (by simp) _ ?_
        simp only [msk_eq, msk_t, msk_f, msk_n, List.length_append, List.length_cons, List.length_nil]
/-- the law on folding -/
theorem folds_law (e : Ex) : PCalls Try.prog 3 [xg e.k e.op e.t e.v e.nm (Ex.rows e.args)] (rB true) := by
  have hw := f5 e.sz e 301 (Nat.le_refl _) (by omega) (by omega)
  simp only [Int.cast_ofNat_Int] at hw
  by_cases hb : e.sz ≤ 300
  · have hm : ((min e.sz 301 : Nat) : Int) = (e.sz : Int) := by omega
    rw [hm] at hw
    have h1 : decide ((300 : Int) < (e.sz : Int)) = false := by simp; omega
    have hsz := fold_sz e
    have h7 := f7 e.sz e (Nat.le_refl _) (by omega)
    have h9 := f9 e.sz e (Nat.le_refl _) (by omega)
    have h8 := f8 e.fold.sz e.fold (Nat.le_refl _) (by omega)
    have h10 := f10 e.fold.sz e.fold (Nat.le_refl _) (by omega)
    have h10' := f10 e.sz e (Nat.le_refl _) (by omega)
    have h7' := f7 e.fold.sz e.fold (Nat.le_refl _) (by omega)
    rw [fold_fold] at h7'
    have h2 : decide ((e.fold.sz : Int) ≤ (e.sz : Int)) = true := by simp; omega
    refine pcalls_of Try.func3 k3 rfl (Nat.le_of_ble_eq_true rfl) ?_
    repeat' (first
      | ((with_reducible refine cnd_intro (fun h => ?_) (fun h => ?_)) <;> simp only [h, h1, h2, SXR, udf, AOp.dst, und, Nat.beq, exop, putAt, bldE, evI, evIo, isNil, List.replicate, Nat.ble, initS, initH, AR.slot, Int.reduceAdd, Int.reduceSub, Int.reduceNeg, Int.reduceBNe, Nat.reduceEqDiff, Nat.reduceSub, Nat.reduceAdd, Nat.reduceLeDiff, Nat.reduceBEq, Nat.reduceLT, Nat.reduceMul, Int.reduceBEq, Int.reduceLT, Int.reduceLE, reduceIte, reduceCtorEq])
      | (with_reducible refine pcl_intro (hw) ?_)
      | (with_reducible refine pcl_intro (h7) ?_)
      | (with_reducible refine pcl_intro (h9) ?_)
      | (with_reducible refine pcl_intro (h8) ?_)
      | (with_reducible refine pcl_intro (h10) ?_)
      | (with_reducible refine pcl_intro (h10') ?_)
      | (with_reducible refine pcl_intro (h7') ?_)
      | (with_reducible refine pcl_intro (lives_true) ?_)
      | (simp only [c3, h1, h2, SXR, udf, AOp.dst, und, Nat.beq, exop, putAt, bldE, evI, evIo, isNil, List.replicate, Nat.ble, initS, initH, AR.slot, Int.reduceAdd, Int.reduceSub, Int.reduceNeg, Int.reduceBNe, Nat.reduceEqDiff, Nat.reduceSub, Nat.reduceAdd, Nat.reduceLeDiff, Nat.reduceBEq, Nat.reduceLT, Nat.reduceMul, Int.reduceBEq, Int.reduceLT, Int.reduceLE, reduceIte, reduceCtorEq]))
  · have hm : ((min e.sz 301 : Nat) : Int) = 301 := by omega
    rw [hm] at hw
    refine pcalls_of Try.func3 k3 rfl (Nat.le_of_ble_eq_true rfl) ?_
    repeat' (first
      | ((with_reducible refine cnd_intro (fun h => ?_) (fun h => ?_)) <;> simp only [h, SXR, udf, AOp.dst, und, Nat.beq, exop, putAt, bldE, evI, evIo, isNil, List.replicate, Nat.ble, initS, initH, AR.slot, Int.reduceAdd, Int.reduceSub, Int.reduceNeg, Int.reduceBNe, Nat.reduceEqDiff, Nat.reduceSub, Nat.reduceAdd, Nat.reduceLeDiff, Nat.reduceBEq, Nat.reduceLT, Nat.reduceMul, Int.reduceBEq, Int.reduceLT, Int.reduceLE, reduceIte, reduceCtorEq])
      | (with_reducible refine pcl_intro (hw) ?_)
      | (with_reducible refine pcl_intro (lives_true) ?_)
      | (simp only [c3, SXR, udf, AOp.dst, und, Nat.beq, exop, putAt, bldE, evI, evIo, isNil, List.replicate, Nat.ble, initS, initH, AR.slot, Int.reduceAdd, Int.reduceSub, Int.reduceNeg, Int.reduceBNe, Nat.reduceEqDiff, Nat.reduceSub, Nat.reduceAdd, Nat.reduceLeDiff, Nat.reduceBEq, Nat.reduceLT, Nat.reduceMul, Int.reduceBEq, Int.reduceLT, Int.reduceLE, reduceIte, reduceCtorEq]))
end Go.Proofs.Ytpfocppjojgooaa
