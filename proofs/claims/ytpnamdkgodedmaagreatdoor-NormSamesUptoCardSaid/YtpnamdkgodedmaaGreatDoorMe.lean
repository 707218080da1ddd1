/-
  Structures that are compared by the reference. Printed by mkeq.py.
  Programs without automata that are compared by the reference. Printed by mkeq.py.
  Equations and nodes in normal form that are compared by the reference. Printed by mkeq.py.
-/
import Derived.Test.YtpnamdkgodedmaaGreatDoorMd
set_option linter.unusedSimpArgs false
set_option linter.unusedVariables false
namespace Go.Proofs.YtpnamdkgodedmaaGreatDoor
open Go Go.B
theorem same6_pc : ∀ (n : Nat) (x y : Ex), x.sz ≤ n → x.ok → PC Tryz.prog 83 [xg x, xg y] (.b (exB x y))
  | 0, x, y, h, _ => by have := sz_pos x; omega
  | n + 1, .mk k op t v nl nn l, .mk k' op' t' v' nl' nn' l', h, hok => by
    have hszs : Ex.szs l ≤ n := by simp [Ex.sz] at h; omega
    simp only [Ex.ok] at hok
    have hf : ∀ a b, a ∈ l → PC Tryz.prog 83 [xg a, xg b] (.b (exB a b)) := fun a b ha => same6_pc n a b (by have := sz_mem ha; omega) (oks_mem hok.2 ha)
    have hlen := hok.1
    unfold Lst.ok at hlen
    cases g0 : k == k' with
    | false =>
      have h0 := g0
      have hr : exB (.mk k op t v nl nn l) (.mk k' op' t' v' nl' nn' l') = false := by simp [exB, g0]
      rw [hr]
      refine pc_of Tryz.func83 k83 rfl ?_
      repeat' (first
        | (simp only [c83, bne, Ex.row, h0, SXR, noA, isAl, kA, udf, AOp.dst, Nat.beq, putAt, bldE, evIo, isNil, Nat.ble, Int.reduceAdd, Int.reduceSub, Int.reduceNeg, Int.reduceBNe, Nat.reduceEqDiff, Nat.reduceSub, Nat.reduceAdd, Nat.reduceLeDiff, Nat.reduceBEq, Nat.reduceLT, Nat.reduceMul, Int.reduceBEq, Int.reduceLT, Int.reduceLE, reduceIte, reduceCtorEq]))
    | true =>
      have h0 := g0
      cases g1 : op == op' with
      | false =>
        have h1 := g1
        have hr : exB (.mk k op t v nl nn l) (.mk k' op' t' v' nl' nn' l') = false := by simp [exB, g0, g1]
        rw [hr]
        refine pc_of Tryz.func83 k83 rfl ?_
        repeat' (first
          | (simp only [c83, bne, Ex.row, h0, h1, SXR, noA, isAl, kA, udf, AOp.dst, Nat.beq, putAt, bldE, evIo, isNil, Nat.ble, Int.reduceAdd, Int.reduceSub, Int.reduceNeg, Int.reduceBNe, Nat.reduceEqDiff, Nat.reduceSub, Nat.reduceAdd, Nat.reduceLeDiff, Nat.reduceBEq, Nat.reduceLT, Nat.reduceMul, Int.reduceBEq, Int.reduceLT, Int.reduceLE, reduceIte, reduceCtorEq]))
      | true =>
        have h1 := g1
        cases g2 : t == t' with
        | false =>
          have h2 := g2
          have hr : exB (.mk k op t v nl nn l) (.mk k' op' t' v' nl' nn' l') = false := by simp [exB, g0, g1, g2]
          rw [hr]
          refine pc_of Tryz.func83 k83 rfl ?_
          repeat' (first
            | (simp only [c83, bne, Ex.row, h0, h1, h2, SXR, noA, isAl, kA, udf, AOp.dst, Nat.beq, putAt, bldE, evIo, isNil, Nat.ble, Int.reduceAdd, Int.reduceSub, Int.reduceNeg, Int.reduceBNe, Nat.reduceEqDiff, Nat.reduceSub, Nat.reduceAdd, Nat.reduceLeDiff, Nat.reduceBEq, Nat.reduceLT, Nat.reduceMul, Int.reduceBEq, Int.reduceLT, Int.reduceLE, reduceIte, reduceCtorEq]))
        | true =>
          have h2 := g2
          cases g3 : v == v' with
          | false =>
            have h3 := g3
            have hr : exB (.mk k op t v nl nn l) (.mk k' op' t' v' nl' nn' l') = false := by simp [exB, g0, g1, g2, g3]
            rw [hr]
            refine pc_of Tryz.func83 k83 rfl ?_
            repeat' (first
              | (simp only [c83, bne, Ex.row, h0, h1, h2, h3, SXR, noA, isAl, kA, udf, AOp.dst, Nat.beq, putAt, bldE, evIo, isNil, Nat.ble, Int.reduceAdd, Int.reduceSub, Int.reduceNeg, Int.reduceBNe, Nat.reduceEqDiff, Nat.reduceSub, Nat.reduceAdd, Nat.reduceLeDiff, Nat.reduceBEq, Nat.reduceLT, Nat.reduceMul, Int.reduceBEq, Int.reduceLT, Int.reduceLE, reduceIte, reduceCtorEq]))
          | true =>
            have h3 := g3
            cases g4 : eqStr (nl, nn) (nl', nn') with
            | false =>
              have h4 := g4
              simp only [eqStr] at h4
              have hr : exB (.mk k op t v nl nn l) (.mk k' op' t' v' nl' nn' l') = false := by simp [exB, g0, g1, g2, g3, g4]
              rw [hr]
              refine pc_of Tryz.func83 k83 rfl ?_
              repeat' (first
                | (simp only [c83, bne, Ex.row, h0, h1, h2, h3, h4, SXR, noA, isAl, kA, udf, AOp.dst, Nat.beq, putAt, bldE, evIo, isNil, Nat.ble, Int.reduceAdd, Int.reduceSub, Int.reduceNeg, Int.reduceBNe, Nat.reduceEqDiff, Nat.reduceSub, Nat.reduceAdd, Nat.reduceLeDiff, Nat.reduceBEq, Nat.reduceLT, Nat.reduceMul, Int.reduceBEq, Int.reduceLT, Int.reduceLE, reduceIte, reduceCtorEq]))
            | true =>
              have h4 := g4
              simp only [eqStr] at h4
              have he : exB (.mk k op t v nl nn l) (.mk k' op' t' v' nl' nn' l') = eqB exB l l' := by simp [exB, exsB_eq, g0, g1, g2, g3, g4]
              rw [he]
              by_cases hl : l.length = l'.length
              · have hne : ((l.length : Int) == (l'.length : Int)) = true := by rw [hl]; simp
                refine pc_of Tryz.func83 k83 rfl ?_
                repeat' (first
                  | (simp only [c83, bne, Ex.row, rows_len, hne, h0, h1, h2, h3, h4, SXR, noA, isAl, kA, udf, AOp.dst, Nat.beq, putAt, bldE, evIo, isNil, Nat.ble, Int.reduceAdd, Int.reduceSub, Int.reduceNeg, Int.reduceBNe, Nat.reduceEqDiff, Nat.reduceSub, Nat.reduceAdd, Nat.reduceLeDiff, Nat.reduceBEq, Nat.reduceLT, Nat.reduceMul, Int.reduceBEq, Int.reduceLT, Int.reduceLE, reduceIte, reduceCtorEq]))
                refine Lp_ind (X := Nat) (fun i ll hs => Hd (fun j => [xg (.mk k op t v nl nn l), xg (.mk k' op' t' v' nl' nn' l'), .p 0 0, .p 1 0, .b false, .i .i64 (i : Int), j 6, j 7, j 8, j 9, j 10, j 11, j 12, j 13, j 14, j 15, j 16, j 17, j 18, j 19, j 20, j 21, j 22, j 23, j 24, j 25, j 26, j 27, j 28, j 29, j 30, j 31, j 32, j 33, j 34, j 35, j 36, j 37, j 38, j 39, j 40, j 41, j 42, j 43, j 44, j 45, j 46, j 47, j 48, j 49, j 50, j 51, j 52, j 53, j 54, j 55, j 56, j 57, j 58, j 59, j 60, j 61, j 62, j 63, j 64, j 65, j 66]) ll ∧ hs = [.c false [.i .i64 k, .i .i64 op, .i .i64 t, .i .i64 v, .s nl nn, .ts (Ex.rows l)], .c false [.i .i64 k', .i .i64 op', .i .i64 t', .i .i64 v', .s nl' nn', .ts (Ex.rows l')]])
                  (fun i => i ≤ l.length ∧ eqB exB l l' = eqB exB (l.drop i) (l'.drop i)) (fun i => l.length - i) ?_ 0 _ _ (by exact ⟨rfl, rfl⟩) ⟨Nat.zero_le _, rfl⟩
                rintro i _ _ ⟨e, rfl⟩ ⟨hi, hinv⟩ IH
                obtain ⟨j, rfl⟩ := e.open
                clear e
                by_cases hlt : i < l.length
                · obtain ⟨x, hx, hxm⟩ := at_some hlt
                  obtain ⟨y, hy, hym⟩ := at_some (show i < l'.length by omega)
                  have hxr : (Ex.rows l)[i]? = some x.row := by rw [rows_get, hx]; rfl
                  have hyr : (Ex.rows l')[i]? = some y.row := by rw [rows_get, hy]; rfl
                  have hd := ltd hlt
                  have hw := wrap_big (n := i) (by omega)
                  rw [eqB_step hx hy] at hinv
                  have hc := hf x y hxm
                  cases gv : exB x y with
                  | false =>
                    rw [gv] at hc
                    have hr : eqB exB l l' = false := by rw [hinv]; simp [gv]
                    rw [hr]
                    repeat' (first
                      | (with_reducible refine pcl_intro (hc) (by simp only [SXR, rows_len, rows_cl, hd, hxr, hyr, row_len, row_take, row_cl, hw]) (by simp only [SXR, rows_len, rows_cl, hd, hxr, hyr, row_len, row_take, row_cl, hw]) ?_)
                      | (simp only [c83, rows_len, rows_cl, hd, hxr, hyr, row_len, row_take, row_cl, hw, SXR, noA, isAl, kA, udf, AOp.dst, Nat.beq, putAt, bldE, evIo, isNil, Nat.ble, Int.reduceAdd, Int.reduceSub, Int.reduceNeg, Int.reduceBNe, Nat.reduceEqDiff, Nat.reduceSub, Nat.reduceAdd, Nat.reduceLeDiff, Nat.reduceBEq, Nat.reduceLT, Nat.reduceMul, Int.reduceBEq, Int.reduceLT, Int.reduceLE, reduceIte, reduceCtorEq]))
                  | true =>
                    rw [gv] at hc
                    repeat' (first
                      | (with_reducible refine pcl_intro (hc) (by simp only [SXR, rows_len, rows_cl, hd, hxr, hyr, row_len, row_take, row_cl, hw]) (by simp only [SXR, rows_len, rows_cl, hd, hxr, hyr, row_len, row_take, row_cl, hw]) ?_)
                      | (simp only [c83, rows_len, rows_cl, hd, hxr, hyr, row_len, row_take, row_cl, hw, SXR, noA, isAl, kA, udf, AOp.dst, Nat.beq, putAt, bldE, evIo, isNil, Nat.ble, Int.reduceAdd, Int.reduceSub, Int.reduceNeg, Int.reduceBNe, Nat.reduceEqDiff, Nat.reduceSub, Nat.reduceAdd, Nat.reduceLeDiff, Nat.reduceBEq, Nat.reduceLT, Nat.reduceMul, Int.reduceBEq, Int.reduceLT, Int.reduceLE, reduceIte, reduceCtorEq]))
                    exact IH (i + 1) _ _ (by exact ⟨rfl, rfl⟩) ⟨hlt, by rw [hinv]; simp [gv]⟩ (by omega)
                · have hd := ltn hlt
                  clear IH
                  rw [eqB_done hl hlt] at hinv
                  rw [hinv]
                  repeat' (first
                    | (simp only [c83, rows_len, hd, SXR, noA, isAl, kA, udf, AOp.dst, Nat.beq, putAt, bldE, evIo, isNil, Nat.ble, Int.reduceAdd, Int.reduceSub, Int.reduceNeg, Int.reduceBNe, Nat.reduceEqDiff, Nat.reduceSub, Nat.reduceAdd, Nat.reduceLeDiff, Nat.reduceBEq, Nat.reduceLT, Nat.reduceMul, Int.reduceBEq, Int.reduceLT, Int.reduceLE, reduceIte, reduceCtorEq]))
              · have hne : ((l.length : Int) == (l'.length : Int)) = false := by simp; omega
                rw [eqB_ne hl]
                refine pc_of Tryz.func83 k83 rfl ?_
                repeat' (first
                  | (simp only [c83, bne, Ex.row, rows_len, hne, h0, h1, h2, h3, h4, SXR, noA, isAl, kA, udf, AOp.dst, Nat.beq, putAt, bldE, evIo, isNil, Nat.ble, Int.reduceAdd, Int.reduceSub, Int.reduceNeg, Int.reduceBNe, Nat.reduceEqDiff, Nat.reduceSub, Nat.reduceAdd, Nat.reduceLeDiff, Nat.reduceBEq, Nat.reduceLT, Nat.reduceMul, Int.reduceBEq, Int.reduceLT, Int.reduceLE, reduceIte, reduceCtorEq]))
theorem eqs_pc (a b : List Eqn) (hn : Lst.ok a) (hk : ∀ x, x ∈ a → Eqn.ok x) : PC Tryz.prog 55 [.ts (a.map Eqn.row), .ts (b.map Eqn.row)] (.b (eqB eqEqn a b)) := by
  unfold Lst.ok at hn
  by_cases hl : a.length = b.length
  · have hne : ((a.length : Int) != (b.length : Int)) = false := by rw [hl]; simp
    refine pc_of Tryz.func55 k55 rfl ?_
    repeat' (first
      | (simp only [c55, List.length_map, hne, SXR, noA, isAl, kA, udf, AOp.dst, Nat.beq, putAt, bldE, evIo, isNil, Nat.ble, Int.reduceAdd, Int.reduceSub, Int.reduceNeg, Int.reduceBNe, Nat.reduceEqDiff, Nat.reduceSub, Nat.reduceAdd, Nat.reduceLeDiff, Nat.reduceBEq, Nat.reduceLT, Nat.reduceMul, Int.reduceBEq, Int.reduceLT, Int.reduceLE, reduceIte, reduceCtorEq]))
    refine Lp_ind (X := Nat) (fun i ll hs => Hd (fun j => [.ts (a.map Eqn.row), .ts (b.map Eqn.row), j 2, j 3, .b false, .i .i64 (i : Int), j 6, j 7, j 8, j 9, j 10, j 11, j 12, j 13, j 14, j 15, j 16, j 17, j 18, j 19, j 20, j 21, j 22, j 23, j 24, j 25, j 26, j 27, j 28, j 29, j 30, j 31, j 32, j 33, j 34, j 35, j 36, j 37, j 38, j 39, j 40, j 41, j 42]) ll ∧ hs = [])
      (fun i => i ≤ a.length ∧ eqB eqEqn a b = eqB eqEqn (a.drop i) (b.drop i)) (fun i => a.length - i) ?_ 0 _ _ (by exact ⟨rfl, rfl⟩) ⟨Nat.zero_le _, rfl⟩
    rintro i _ _ ⟨e, rfl⟩ ⟨hi, hinv⟩ IH
    obtain ⟨j, rfl⟩ := e.open
    clear e
    by_cases hlt : i < a.length
    · obtain ⟨x, hx, hxm⟩ := ats hlt
      obtain ⟨y, hy, hym⟩ := ats (show i < b.length by omega)
      have hxr := mg (f := Eqn.row) hx
      have hyr := mg (f := Eqn.row) hy
      have hd := ltd hlt
      have hw := wrap_big (n := i) (by omega)
      rw [eqB_step hx hy] at hinv
      cases g0 : eqB eqStr x.left y.left with
      | false =>
        have h0 := texts_pc x.left y.left (hk x hxm).1
        rw [g0] at h0
        have hr : eqB eqEqn a b = false := by rw [hinv]; simp [eqEqn, g0]
        rw [hr]
        repeat' (first
          | (with_reducible refine pcl_intro (h0) (by simp only [SXR, List.length_map, hd, hxr, hyr, hw, bne, Eqn.row, row_len, row_take, row_cl, srows_cl]) (by simp only [SXR, List.length_map, hd, hxr, hyr, hw, bne, Eqn.row, row_len, row_take, row_cl, srows_cl]) ?_)
          | (simp only [c55, List.length_map, hd, hxr, hyr, hw, bne, Eqn.row, row_len, row_take, row_cl, srows_cl, SXR, noA, isAl, kA, udf, AOp.dst, Nat.beq, putAt, bldE, evIo, isNil, Nat.ble, Int.reduceAdd, Int.reduceSub, Int.reduceNeg, Int.reduceBNe, Nat.reduceEqDiff, Nat.reduceSub, Nat.reduceAdd, Nat.reduceLeDiff, Nat.reduceBEq, Nat.reduceLT, Nat.reduceMul, Int.reduceBEq, Int.reduceLT, Int.reduceLE, reduceIte, reduceCtorEq]))
      | true =>
        have h0 := texts_pc x.left y.left (hk x hxm).1
        rw [g0] at h0
        cases g1 : exB x.right y.right with
        | false =>
          have h1 := same6_pc _ x.right y.right (Nat.le_refl _) (hk x hxm).2
          rw [g1] at h1
          have hr : eqB eqEqn a b = false := by rw [hinv]; simp [eqEqn, g0, g1]
          rw [hr]
          repeat' (first
            | (with_reducible refine pcl_intro (h0) (by simp only [SXR, List.length_map, hd, hxr, hyr, hw, bne, Eqn.row, row_len, row_take, row_cl, srows_cl]) (by simp only [SXR, List.length_map, hd, hxr, hyr, hw, bne, Eqn.row, row_len, row_take, row_cl, srows_cl]) ?_)
            | (with_reducible refine pcl_intro (h1) (by simp only [SXR, List.length_map, hd, hxr, hyr, hw, bne, Eqn.row, row_len, row_take, row_cl, srows_cl]) (by simp only [SXR, List.length_map, hd, hxr, hyr, hw, bne, Eqn.row, row_len, row_take, row_cl, srows_cl]) ?_)
            | (simp only [c55, List.length_map, hd, hxr, hyr, hw, bne, Eqn.row, row_len, row_take, row_cl, srows_cl, SXR, noA, isAl, kA, udf, AOp.dst, Nat.beq, putAt, bldE, evIo, isNil, Nat.ble, Int.reduceAdd, Int.reduceSub, Int.reduceNeg, Int.reduceBNe, Nat.reduceEqDiff, Nat.reduceSub, Nat.reduceAdd, Nat.reduceLeDiff, Nat.reduceBEq, Nat.reduceLT, Nat.reduceMul, Int.reduceBEq, Int.reduceLT, Int.reduceLE, reduceIte, reduceCtorEq]))
        | true =>
          have h1 := same6_pc _ x.right y.right (Nat.le_refl _) (hk x hxm).2
          rw [g1] at h1
          repeat' (first
            | (with_reducible refine pcl_intro (h0) (by simp only [SXR, List.length_map, hd, hxr, hyr, hw, bne, Eqn.row, row_len, row_take, row_cl, srows_cl]) (by simp only [SXR, List.length_map, hd, hxr, hyr, hw, bne, Eqn.row, row_len, row_take, row_cl, srows_cl]) ?_)
            | (with_reducible refine pcl_intro (h1) (by simp only [SXR, List.length_map, hd, hxr, hyr, hw, bne, Eqn.row, row_len, row_take, row_cl, srows_cl]) (by simp only [SXR, List.length_map, hd, hxr, hyr, hw, bne, Eqn.row, row_len, row_take, row_cl, srows_cl]) ?_)
            | (simp only [c55, List.length_map, hd, hxr, hyr, hw, bne, Eqn.row, row_len, row_take, row_cl, srows_cl, SXR, noA, isAl, kA, udf, AOp.dst, Nat.beq, putAt, bldE, evIo, isNil, Nat.ble, Int.reduceAdd, Int.reduceSub, Int.reduceNeg, Int.reduceBNe, Nat.reduceEqDiff, Nat.reduceSub, Nat.reduceAdd, Nat.reduceLeDiff, Nat.reduceBEq, Nat.reduceLT, Nat.reduceMul, Int.reduceBEq, Int.reduceLT, Int.reduceLE, reduceIte, reduceCtorEq]))
          exact IH (i + 1) _ _ (by exact ⟨rfl, rfl⟩) ⟨hlt, by rw [hinv]; simp [eqEqn, g0, g1]⟩ (by omega)
    · have hd := ltn hlt
      clear IH
      rw [eqB_done hl hlt] at hinv
      rw [hinv]
      repeat' (first
        | (simp only [c55, List.length_map, hd, SXR, noA, isAl, kA, udf, AOp.dst, Nat.beq, putAt, bldE, evIo, isNil, Nat.ble, Int.reduceAdd, Int.reduceSub, Int.reduceNeg, Int.reduceBNe, Nat.reduceEqDiff, Nat.reduceSub, Nat.reduceAdd, Nat.reduceLeDiff, Nat.reduceBEq, Nat.reduceLT, Nat.reduceMul, Int.reduceBEq, Int.reduceLT, Int.reduceLE, reduceIte, reduceCtorEq]))
  · have hne : ((a.length : Int) != (b.length : Int)) = true := by simp; omega
    rw [eqB_ne hl]
    refine pc_of Tryz.func55 k55 rfl ?_
    repeat' (first
      | (simp only [c55, List.length_map, hne, SXR, noA, isAl, kA, udf, AOp.dst, Nat.beq, putAt, bldE, evIo, isNil, Nat.ble, Int.reduceAdd, Int.reduceSub, Int.reduceNeg, Int.reduceBNe, Nat.reduceEqDiff, Nat.reduceSub, Nat.reduceAdd, Nat.reduceLeDiff, Nat.reduceBEq, Nat.reduceLT, Nat.reduceMul, Int.reduceBEq, Int.reduceLT, Int.reduceLE, reduceIte, reduceCtorEq]))
set_option maxRecDepth 10000 in
set_option maxHeartbeats 1000000 in
theorem r7same_pc (x y : Prg) (hok : x.ok) : PC Tryz.prog 27 [.ag x.row, .ag y.row] (.b (eqPrg x y)) := by
  obtain ⟨en, nd⟩ := x
  obtain ⟨en', nd'⟩ := y
  obtain ⟨⟨he, hee⟩, hnd, hnn⟩ := hok
  simp only at he hee hnd hnn
  unfold Lst.ok at he hnd
  by_cases hle : en.length = en'.length
  · have hnee : ((en.length : Int) == (en'.length : Int)) = true := by rw [hle]; simp
    by_cases hln : nd.length = nd'.length
    · have hnen : ((nd.length : Int) == (nd'.length : Int)) = true := by rw [hln]; simp
      refine pc_of Tryz.func27 k27 rfl ?_
      repeat' (first
        | ((with_reducible refine k_cons ?rdq ?_); (case rdq => refine rck_mk rfl ?_ ?_ <;> simp only [Option.isSome_some, bne, Prg.row, List.length_map, hnee, hnen, SXR, noA, isAl, kA, udf, AOp.dst, Nat.beq, putAt, bldE, evIo, isNil, Nat.ble, Int.reduceAdd, Int.reduceSub, Int.reduceNeg, Int.reduceBNe, Nat.reduceEqDiff, Nat.reduceSub, Nat.reduceAdd, Nat.reduceLeDiff, Nat.reduceBEq, Nat.reduceLT, Nat.reduceMul, Int.reduceBEq, Int.reduceLT, Int.reduceLE, reduceIte, reduceCtorEq]))
        | (simp only [c27, bne, Prg.row, List.length_map, hnee, hnen, SXR, noA, isAl, kA, udf, AOp.dst, Nat.beq, putAt, bldE, evIo, isNil, Nat.ble, Int.reduceAdd, Int.reduceSub, Int.reduceNeg, Int.reduceBNe, Nat.reduceEqDiff, Nat.reduceSub, Nat.reduceAdd, Nat.reduceLeDiff, Nat.reduceBEq, Nat.reduceLT, Nat.reduceMul, Int.reduceBEq, Int.reduceLT, Int.reduceLE, reduceIte, reduceCtorEq]))
      refine Lp_ind (X := Nat) (fun i ll hs => Hd (fun j => [.ag (Prg.row ⟨en, nd⟩), .ag (Prg.row ⟨en', nd'⟩), .p 0 0, .p 1 0, .b false, .i .i64 (i : Int), j 6, j 7, j 8, j 9, j 10, j 11, j 12, j 13, j 14, j 15, j 16, j 17, j 18, j 19, j 20, j 21, j 22, j 23, j 24, j 25, j 26, j 27, j 28, j 29, j 30, j 31, j 32, j 33, j 34, j 35, j 36, j 37, j 38, j 39, j 40, j 41, j 42, j 43, j 44, j 45, j 46, j 47, j 48, j 49, j 50, j 51, j 52, j 53, j 54, j 55, j 56, j 57, j 58, j 59, j 60, j 61, j 62, j 63, j 64, j 65, j 66, j 67, j 68, j 69, j 70, j 71, j 72, j 73, j 74, j 75, j 76, j 77, j 78, j 79, j 80, j 81, j 82, j 83, j 84, j 85, j 86, j 87, j 88, j 89, j 90, j 91, j 92, j 93, j 94, j 95, j 96, j 97, j 98, j 99, j 100, j 101, j 102, j 103, j 104, j 105, j 106, j 107, j 108, j 109, j 110, j 111, j 112, j 113, j 114, j 115, j 116, j 117, j 118, j 119, j 120, j 121, j 122, j 123, j 124, j 125, j 126, j 127, j 128, j 129, j 130, j 131, j 132, j 133, j 134, j 135, j 136]) ll ∧ hs = [.c false (Prg.row ⟨en, nd⟩), .c false (Prg.row ⟨en', nd'⟩)])
        (fun i => i ≤ en.length ∧ eqB eqEnm en en' = eqB eqEnm (en.drop i) (en'.drop i)) (fun i => en.length - i) ?_ 0 _ _ (by exact ⟨rfl, rfl⟩) ⟨Nat.zero_le _, rfl⟩
      rintro i _ _ ⟨e, rfl⟩ ⟨hi, hinv⟩ IH
      obtain ⟨j, rfl⟩ := e.open
      clear e
      by_cases hlt : i < en.length
      · obtain ⟨x, hx, hxm⟩ := ats hlt
        obtain ⟨y, hy, hym⟩ := ats (show i < en'.length by omega)
        have hxr := mg (f := Enm.row) hx
        have hyr := mg (f := Enm.row) hy
        have hd := ltd hlt
        have hw := wrap_big (n := i) (by omega)
        rw [eqB_step hx hy] at hinv
        cases g0 : eqStr x.nm y.nm with
        | false =>
          have h0 := g0
          simp only [eqStr] at h0
          have hr : eqPrg ⟨en, nd⟩ ⟨en', nd'⟩ = false := by simp [eqPrg, hinv, eqEnm, g0]
          rw [hr]
          repeat' (first
            | ((with_reducible refine k_cons ?rdq ?_); (case rdq => refine rck_mk rfl ?_ ?_ <;> simp only [Option.isSome_some, bne, Prg.row, List.length_map, hd, hxr, hyr, Enm.row, srows_cl, hw, h0, SXR, noA, isAl, kA, udf, AOp.dst, Nat.beq, putAt, bldE, evIo, isNil, Nat.ble, Int.reduceAdd, Int.reduceSub, Int.reduceNeg, Int.reduceBNe, Nat.reduceEqDiff, Nat.reduceSub, Nat.reduceAdd, Nat.reduceLeDiff, Nat.reduceBEq, Nat.reduceLT, Nat.reduceMul, Int.reduceBEq, Int.reduceLT, Int.reduceLE, reduceIte, reduceCtorEq]))
            | (simp only [c27, bne, Prg.row, List.length_map, hd, hxr, hyr, Enm.row, srows_cl, hw, h0, SXR, noA, isAl, kA, udf, AOp.dst, Nat.beq, putAt, bldE, evIo, isNil, Nat.ble, Int.reduceAdd, Int.reduceSub, Int.reduceNeg, Int.reduceBNe, Nat.reduceEqDiff, Nat.reduceSub, Nat.reduceAdd, Nat.reduceLeDiff, Nat.reduceBEq, Nat.reduceLT, Nat.reduceMul, Int.reduceBEq, Int.reduceLT, Int.reduceLE, reduceIte, reduceCtorEq]))
        | true =>
          have h0 := g0
          simp only [eqStr] at h0
          cases g1 : eqB eqStr x.tags y.tags with
          | false =>
            have h1 := texts_pc x.tags y.tags (hee x hxm)
            rw [g1] at h1
            have hr : eqPrg ⟨en, nd⟩ ⟨en', nd'⟩ = false := by simp [eqPrg, hinv, eqEnm, g0, g1]
            rw [hr]
            repeat' (first
              | ((with_reducible refine k_cons ?rdq ?_); (case rdq => refine rck_mk rfl ?_ ?_ <;> simp only [Option.isSome_some, bne, Prg.row, List.length_map, hd, hxr, hyr, Enm.row, srows_cl, hw, h0, SXR, noA, isAl, kA, udf, AOp.dst, Nat.beq, putAt, bldE, evIo, isNil, Nat.ble, Int.reduceAdd, Int.reduceSub, Int.reduceNeg, Int.reduceBNe, Nat.reduceEqDiff, Nat.reduceSub, Nat.reduceAdd, Nat.reduceLeDiff, Nat.reduceBEq, Nat.reduceLT, Nat.reduceMul, Int.reduceBEq, Int.reduceLT, Int.reduceLE, reduceIte, reduceCtorEq]))
              | (with_reducible refine pcl_intro (h1) (by simp only [SXR, bne, Prg.row, List.length_map, hd, hxr, hyr, Enm.row, srows_cl, hw, h0]) (by simp only [SXR, bne, Prg.row, List.length_map, hd, hxr, hyr, Enm.row, srows_cl, hw, h0]) ?_)
              | (simp only [c27, bne, Prg.row, List.length_map, hd, hxr, hyr, Enm.row, srows_cl, hw, h0, SXR, noA, isAl, kA, udf, AOp.dst, Nat.beq, putAt, bldE, evIo, isNil, Nat.ble, Int.reduceAdd, Int.reduceSub, Int.reduceNeg, Int.reduceBNe, Nat.reduceEqDiff, Nat.reduceSub, Nat.reduceAdd, Nat.reduceLeDiff, Nat.reduceBEq, Nat.reduceLT, Nat.reduceMul, Int.reduceBEq, Int.reduceLT, Int.reduceLE, reduceIte, reduceCtorEq]))
          | true =>
            have h1 := texts_pc x.tags y.tags (hee x hxm)
            rw [g1] at h1
            repeat' (first
              | ((with_reducible refine k_cons ?rdq ?_); (case rdq => refine rck_mk rfl ?_ ?_ <;> simp only [Option.isSome_some, bne, Prg.row, List.length_map, hd, hxr, hyr, Enm.row, srows_cl, hw, h0, SXR, noA, isAl, kA, udf, AOp.dst, Nat.beq, putAt, bldE, evIo, isNil, Nat.ble, Int.reduceAdd, Int.reduceSub, Int.reduceNeg, Int.reduceBNe, Nat.reduceEqDiff, Nat.reduceSub, Nat.reduceAdd, Nat.reduceLeDiff, Nat.reduceBEq, Nat.reduceLT, Nat.reduceMul, Int.reduceBEq, Int.reduceLT, Int.reduceLE, reduceIte, reduceCtorEq]))
              | (with_reducible refine pcl_intro (h1) (by simp only [SXR, bne, Prg.row, List.length_map, hd, hxr, hyr, Enm.row, srows_cl, hw, h0]) (by simp only [SXR, bne, Prg.row, List.length_map, hd, hxr, hyr, Enm.row, srows_cl, hw, h0]) ?_)
              | (simp only [c27, bne, Prg.row, List.length_map, hd, hxr, hyr, Enm.row, srows_cl, hw, h0, SXR, noA, isAl, kA, udf, AOp.dst, Nat.beq, putAt, bldE, evIo, isNil, Nat.ble, Int.reduceAdd, Int.reduceSub, Int.reduceNeg, Int.reduceBNe, Nat.reduceEqDiff, Nat.reduceSub, Nat.reduceAdd, Nat.reduceLeDiff, Nat.reduceBEq, Nat.reduceLT, Nat.reduceMul, Int.reduceBEq, Int.reduceLT, Int.reduceLE, reduceIte, reduceCtorEq]))
            exact IH (i + 1) _ _ (by exact ⟨rfl, rfl⟩) ⟨hlt, by rw [hinv]; simp [eqEnm, g0, g1]⟩ (by omega)
      · have hd := ltn hlt
        clear IH
        rw [eqB_done hle hlt] at hinv
        have hpe : eqPrg ⟨en, nd⟩ ⟨en', nd'⟩ = eqB eqPNode nd nd' := by simp [eqPrg, hinv]
        rw [hpe]
        clear hinv hpe
        repeat' (first
          | ((with_reducible refine k_cons ?rdq ?_); (case rdq => refine rck_mk rfl ?_ ?_ <;> simp only [Option.isSome_some, bne, Prg.row, List.length_map, hd, SXR, noA, isAl, kA, udf, AOp.dst, Nat.beq, putAt, bldE, evIo, isNil, Nat.ble, Int.reduceAdd, Int.reduceSub, Int.reduceNeg, Int.reduceBNe, Nat.reduceEqDiff, Nat.reduceSub, Nat.reduceAdd, Nat.reduceLeDiff, Nat.reduceBEq, Nat.reduceLT, Nat.reduceMul, Int.reduceBEq, Int.reduceLT, Int.reduceLE, reduceIte, reduceCtorEq]))
          | (simp only [c27, bne, Prg.row, List.length_map, hd, SXR, noA, isAl, kA, udf, AOp.dst, Nat.beq, putAt, bldE, evIo, isNil, Nat.ble, Int.reduceAdd, Int.reduceSub, Int.reduceNeg, Int.reduceBNe, Nat.reduceEqDiff, Nat.reduceSub, Nat.reduceAdd, Nat.reduceLeDiff, Nat.reduceBEq, Nat.reduceLT, Nat.reduceMul, Int.reduceBEq, Int.reduceLT, Int.reduceLE, reduceIte, reduceCtorEq]))
        clear hlt hd hi
        refine Lp_ind (X := Nat) (fun i ll hs => ∃ js : List O, Hd (fun j => [.ag (Prg.row ⟨en, nd⟩), .ag (Prg.row ⟨en', nd'⟩), .p 0 0, .p 1 0, .b false, j 5, .i .i64 (i : Int), j 7, j 8, j 9, j 10, j 11, j 12, j 13, j 14, j 15, j 16, j 17, j 18, j 19, j 20, j 21, j 22, j 23, j 24, j 25, j 26, j 27, j 28, j 29, j 30, j 31, j 32, j 33, j 34, j 35, j 36, j 37, j 38, j 39, j 40, j 41, j 42, j 43, j 44, j 45, j 46, j 47, j 48, j 49, j 50, j 51, j 52, j 53, j 54, j 55, j 56, j 57, j 58, j 59, j 60, j 61, j 62, j 63, j 64, j 65, j 66, j 67, j 68, j 69, j 70, j 71, j 72, j 73, j 74, j 75, j 76, j 77, j 78, j 79, j 80, j 81, j 82, j 83, j 84, j 85, j 86, j 87, j 88, j 89, j 90, j 91, j 92, j 93, j 94, j 95, j 96, j 97, j 98, j 99, j 100, j 101, j 102, j 103, j 104, j 105, j 106, j 107, j 108, j 109, j 110, j 111, j 112, j 113, j 114, j 115, j 116, j 117, j 118, j 119, j 120, j 121, j 122, j 123, j 124, j 125, j 126, j 127, j 128, j 129, j 130, j 131, j 132, j 133, j 134, j 135, j 136]) ll ∧ hs = .c false (Prg.row ⟨en, nd⟩) :: .c false (Prg.row ⟨en', nd'⟩) :: js)
          (fun i => i ≤ nd.length ∧ eqB eqPNode nd nd' = eqB eqPNode (nd.drop i) (nd'.drop i)) (fun i => nd.length - i) ?_ 0 _ _ (by exact ⟨[], rfl, rfl⟩) ⟨Nat.zero_le _, rfl⟩
        rintro i _ _ ⟨js, e, rfl⟩ ⟨hi, hinv⟩ IH
        obtain ⟨j, rfl⟩ := e.open
        clear e
        by_cases hlt : i < nd.length
        · obtain ⟨x, hx, hxm⟩ := ats hlt
          obtain ⟨y, hy, hym⟩ := ats (show i < nd'.length by omega)
          have hxr := mg (f := PNode.row) hx
          have hyr := mg (f := PNode.row) hy
          have hd := ltd hlt
          have hw := wrap_big (n := i) (by omega)
          rw [eqB_step hx hy] at hinv
          obtain ⟨o1, o2, o3, o4, o5⟩ := hnn x hxm
          cases g0 : eqStr x.nm y.nm with
          | false =>
            have h0 := g0
            simp only [eqStr] at h0
            have hr : eqB eqPNode nd nd' = false := by rw [hinv]; simp [eqPNode, g0]
            rw [hr]
            repeat' (first
              | ((with_reducible refine k_cons ?rdq ?_); (case rdq => refine rck_mk rfl ?_ ?_ <;> simp only [Option.isSome_some, bne, Prg.row, List.length_map, hd, hxr, hyr, PNode.row, decls_cl, eqns_cl, clR_nil, hw, Nat.add_assoc, h0, SXR, noA, isAl, kA, udf, AOp.dst, Nat.beq, putAt, bldE, evIo, isNil, Nat.ble, Int.reduceAdd, Int.reduceSub, Int.reduceNeg, Int.reduceBNe, Nat.reduceEqDiff, Nat.reduceSub, Nat.reduceAdd, Nat.reduceLeDiff, Nat.reduceBEq, Nat.reduceLT, Nat.reduceMul, Int.reduceBEq, Int.reduceLT, Int.reduceLE, reduceIte, reduceCtorEq]))
              | (with_reducible refine pcl_intro (autos_nil) (by simp only [SXR, bne, Prg.row, List.length_map, hd, hxr, hyr, PNode.row, decls_cl, eqns_cl, clR_nil, hw, Nat.add_assoc, h0]) (by simp only [SXR, bne, Prg.row, List.length_map, hd, hxr, hyr, PNode.row, decls_cl, eqns_cl, clR_nil, hw, Nat.add_assoc, h0]) ?_)
              | (with_reducible refine pcl_intro (claims_nil) (by simp only [SXR, bne, Prg.row, List.length_map, hd, hxr, hyr, PNode.row, decls_cl, eqns_cl, clR_nil, hw, Nat.add_assoc, h0]) (by simp only [SXR, bne, Prg.row, List.length_map, hd, hxr, hyr, PNode.row, decls_cl, eqns_cl, clR_nil, hw, Nat.add_assoc, h0]) ?_)
              | (simp only [c27, bne, Prg.row, List.length_map, hd, hxr, hyr, PNode.row, decls_cl, eqns_cl, clR_nil, hw, Nat.add_assoc, h0, SXR, noA, isAl, kA, udf, AOp.dst, Nat.beq, putAt, bldE, evIo, isNil, Nat.ble, Int.reduceAdd, Int.reduceSub, Int.reduceNeg, Int.reduceBNe, Nat.reduceEqDiff, Nat.reduceSub, Nat.reduceAdd, Nat.reduceLeDiff, Nat.reduceBEq, Nat.reduceLT, Nat.reduceMul, Int.reduceBEq, Int.reduceLT, Int.reduceLE, reduceIte, reduceCtorEq]))
          | true =>
            have h0 := g0
            simp only [eqStr] at h0
            cases g1 : eqB eqDecl x.ins y.ins with
            | false =>
              have h1 := decls_pc x.ins y.ins o1.1 o1.2
              rw [g1] at h1
              have hr : eqB eqPNode nd nd' = false := by rw [hinv]; simp [eqPNode, g0, g1]
              rw [hr]
              repeat' (first
                | ((with_reducible refine k_cons ?rdq ?_); (case rdq => refine rck_mk rfl ?_ ?_ <;> simp only [Option.isSome_some, bne, Prg.row, List.length_map, hd, hxr, hyr, PNode.row, decls_cl, eqns_cl, clR_nil, hw, Nat.add_assoc, h0, SXR, noA, isAl, kA, udf, AOp.dst, Nat.beq, putAt, bldE, evIo, isNil, Nat.ble, Int.reduceAdd, Int.reduceSub, Int.reduceNeg, Int.reduceBNe, Nat.reduceEqDiff, Nat.reduceSub, Nat.reduceAdd, Nat.reduceLeDiff, Nat.reduceBEq, Nat.reduceLT, Nat.reduceMul, Int.reduceBEq, Int.reduceLT, Int.reduceLE, reduceIte, reduceCtorEq]))
                | (with_reducible refine pcl_intro (autos_nil) (by simp only [SXR, bne, Prg.row, List.length_map, hd, hxr, hyr, PNode.row, decls_cl, eqns_cl, clR_nil, hw, Nat.add_assoc, h0]) (by simp only [SXR, bne, Prg.row, List.length_map, hd, hxr, hyr, PNode.row, decls_cl, eqns_cl, clR_nil, hw, Nat.add_assoc, h0]) ?_)
                | (with_reducible refine pcl_intro (claims_nil) (by simp only [SXR, bne, Prg.row, List.length_map, hd, hxr, hyr, PNode.row, decls_cl, eqns_cl, clR_nil, hw, Nat.add_assoc, h0]) (by simp only [SXR, bne, Prg.row, List.length_map, hd, hxr, hyr, PNode.row, decls_cl, eqns_cl, clR_nil, hw, Nat.add_assoc, h0]) ?_)
                | (with_reducible refine pcl_intro (h1) (by simp only [SXR, bne, Prg.row, List.length_map, hd, hxr, hyr, PNode.row, decls_cl, eqns_cl, clR_nil, hw, Nat.add_assoc, h0]) (by simp only [SXR, bne, Prg.row, List.length_map, hd, hxr, hyr, PNode.row, decls_cl, eqns_cl, clR_nil, hw, Nat.add_assoc, h0]) ?_)
                | (simp only [c27, bne, Prg.row, List.length_map, hd, hxr, hyr, PNode.row, decls_cl, eqns_cl, clR_nil, hw, Nat.add_assoc, h0, SXR, noA, isAl, kA, udf, AOp.dst, Nat.beq, putAt, bldE, evIo, isNil, Nat.ble, Int.reduceAdd, Int.reduceSub, Int.reduceNeg, Int.reduceBNe, Nat.reduceEqDiff, Nat.reduceSub, Nat.reduceAdd, Nat.reduceLeDiff, Nat.reduceBEq, Nat.reduceLT, Nat.reduceMul, Int.reduceBEq, Int.reduceLT, Int.reduceLE, reduceIte, reduceCtorEq]))
            | true =>
              have h1 := decls_pc x.ins y.ins o1.1 o1.2
              rw [g1] at h1
              cases g2 : eqB eqDecl x.outs y.outs with
              | false =>
                have h2 := decls_pc x.outs y.outs o2.1 o2.2
                rw [g2] at h2
                have hr : eqB eqPNode nd nd' = false := by rw [hinv]; simp [eqPNode, g0, g1, g2]
                rw [hr]
                repeat' (first
                  | ((with_reducible refine k_cons ?rdq ?_); (case rdq => refine rck_mk rfl ?_ ?_ <;> simp only [Option.isSome_some, bne, Prg.row, List.length_map, hd, hxr, hyr, PNode.row, decls_cl, eqns_cl, clR_nil, hw, Nat.add_assoc, h0, SXR, noA, isAl, kA, udf, AOp.dst, Nat.beq, putAt, bldE, evIo, isNil, Nat.ble, Int.reduceAdd, Int.reduceSub, Int.reduceNeg, Int.reduceBNe, Nat.reduceEqDiff, Nat.reduceSub, Nat.reduceAdd, Nat.reduceLeDiff, Nat.reduceBEq, Nat.reduceLT, Nat.reduceMul, Int.reduceBEq, Int.reduceLT, Int.reduceLE, reduceIte, reduceCtorEq]))
                  | (with_reducible refine pcl_intro (autos_nil) (by simp only [SXR, bne, Prg.row, List.length_map, hd, hxr, hyr, PNode.row, decls_cl, eqns_cl, clR_nil, hw, Nat.add_assoc, h0]) (by simp only [SXR, bne, Prg.row, List.length_map, hd, hxr, hyr, PNode.row, decls_cl, eqns_cl, clR_nil, hw, Nat.add_assoc, h0]) ?_)
                  | (with_reducible refine pcl_intro (claims_nil) (by simp only [SXR, bne, Prg.row, List.length_map, hd, hxr, hyr, PNode.row, decls_cl, eqns_cl, clR_nil, hw, Nat.add_assoc, h0]) (by simp only [SXR, bne, Prg.row, List.length_map, hd, hxr, hyr, PNode.row, decls_cl, eqns_cl, clR_nil, hw, Nat.add_assoc, h0]) ?_)
                  | (with_reducible refine pcl_intro (h1) (by simp only [SXR, bne, Prg.row, List.length_map, hd, hxr, hyr, PNode.row, decls_cl, eqns_cl, clR_nil, hw, Nat.add_assoc, h0]) (by simp only [SXR, bne, Prg.row, List.length_map, hd, hxr, hyr, PNode.row, decls_cl, eqns_cl, clR_nil, hw, Nat.add_assoc, h0]) ?_)
                  | (with_reducible refine pcl_intro (h2) (by simp only [SXR, bne, Prg.row, List.length_map, hd, hxr, hyr, PNode.row, decls_cl, eqns_cl, clR_nil, hw, Nat.add_assoc, h0]) (by simp only [SXR, bne, Prg.row, List.length_map, hd, hxr, hyr, PNode.row, decls_cl, eqns_cl, clR_nil, hw, Nat.add_assoc, h0]) ?_)
                  | (simp only [c27, bne, Prg.row, List.length_map, hd, hxr, hyr, PNode.row, decls_cl, eqns_cl, clR_nil, hw, Nat.add_assoc, h0, SXR, noA, isAl, kA, udf, AOp.dst, Nat.beq, putAt, bldE, evIo, isNil, Nat.ble, Int.reduceAdd, Int.reduceSub, Int.reduceNeg, Int.reduceBNe, Nat.reduceEqDiff, Nat.reduceSub, Nat.reduceAdd, Nat.reduceLeDiff, Nat.reduceBEq, Nat.reduceLT, Nat.reduceMul, Int.reduceBEq, Int.reduceLT, Int.reduceLE, reduceIte, reduceCtorEq]))
              | true =>
                have h2 := decls_pc x.outs y.outs o2.1 o2.2
                rw [g2] at h2
                cases g3 : eqB eqDecl x.locals y.locals with
                | false =>
                  have h3 := decls_pc x.locals y.locals o3.1 o3.2
                  rw [g3] at h3
                  have hr : eqB eqPNode nd nd' = false := by rw [hinv]; simp [eqPNode, g0, g1, g2, g3]
                  rw [hr]
                  repeat' (first
                    | ((with_reducible refine k_cons ?rdq ?_); (case rdq => refine rck_mk rfl ?_ ?_ <;> simp only [Option.isSome_some, bne, Prg.row, List.length_map, hd, hxr, hyr, PNode.row, decls_cl, eqns_cl, clR_nil, hw, Nat.add_assoc, h0, SXR, noA, isAl, kA, udf, AOp.dst, Nat.beq, putAt, bldE, evIo, isNil, Nat.ble, Int.reduceAdd, Int.reduceSub, Int.reduceNeg, Int.reduceBNe, Nat.reduceEqDiff, Nat.reduceSub, Nat.reduceAdd, Nat.reduceLeDiff, Nat.reduceBEq, Nat.reduceLT, Nat.reduceMul, Int.reduceBEq, Int.reduceLT, Int.reduceLE, reduceIte, reduceCtorEq]))
                    | (with_reducible refine pcl_intro (autos_nil) (by simp only [SXR, bne, Prg.row, List.length_map, hd, hxr, hyr, PNode.row, decls_cl, eqns_cl, clR_nil, hw, Nat.add_assoc, h0]) (by simp only [SXR, bne, Prg.row, List.length_map, hd, hxr, hyr, PNode.row, decls_cl, eqns_cl, clR_nil, hw, Nat.add_assoc, h0]) ?_)
                    | (with_reducible refine pcl_intro (claims_nil) (by simp only [SXR, bne, Prg.row, List.length_map, hd, hxr, hyr, PNode.row, decls_cl, eqns_cl, clR_nil, hw, Nat.add_assoc, h0]) (by simp only [SXR, bne, Prg.row, List.length_map, hd, hxr, hyr, PNode.row, decls_cl, eqns_cl, clR_nil, hw, Nat.add_assoc, h0]) ?_)
                    | (with_reducible refine pcl_intro (h1) (by simp only [SXR, bne, Prg.row, List.length_map, hd, hxr, hyr, PNode.row, decls_cl, eqns_cl, clR_nil, hw, Nat.add_assoc, h0]) (by simp only [SXR, bne, Prg.row, List.length_map, hd, hxr, hyr, PNode.row, decls_cl, eqns_cl, clR_nil, hw, Nat.add_assoc, h0]) ?_)
                    | (with_reducible refine pcl_intro (h2) (by simp only [SXR, bne, Prg.row, List.length_map, hd, hxr, hyr, PNode.row, decls_cl, eqns_cl, clR_nil, hw, Nat.add_assoc, h0]) (by simp only [SXR, bne, Prg.row, List.length_map, hd, hxr, hyr, PNode.row, decls_cl, eqns_cl, clR_nil, hw, Nat.add_assoc, h0]) ?_)
                    | (with_reducible refine pcl_intro (h3) (by simp only [SXR, bne, Prg.row, List.length_map, hd, hxr, hyr, PNode.row, decls_cl, eqns_cl, clR_nil, hw, Nat.add_assoc, h0]) (by simp only [SXR, bne, Prg.row, List.length_map, hd, hxr, hyr, PNode.row, decls_cl, eqns_cl, clR_nil, hw, Nat.add_assoc, h0]) ?_)
                    | (simp only [c27, bne, Prg.row, List.length_map, hd, hxr, hyr, PNode.row, decls_cl, eqns_cl, clR_nil, hw, Nat.add_assoc, h0, SXR, noA, isAl, kA, udf, AOp.dst, Nat.beq, putAt, bldE, evIo, isNil, Nat.ble, Int.reduceAdd, Int.reduceSub, Int.reduceNeg, Int.reduceBNe, Nat.reduceEqDiff, Nat.reduceSub, Nat.reduceAdd, Nat.reduceLeDiff, Nat.reduceBEq, Nat.reduceLT, Nat.reduceMul, Int.reduceBEq, Int.reduceLT, Int.reduceLE, reduceIte, reduceCtorEq]))
                | true =>
                  have h3 := decls_pc x.locals y.locals o3.1 o3.2
                  rw [g3] at h3
                  cases g4 : eqB eqEqn x.eqs y.eqs with
                  | false =>
                    have h4 := eqs_pc x.eqs y.eqs o4 o5
                    rw [g4] at h4
                    have hr : eqB eqPNode nd nd' = false := by rw [hinv]; simp [eqPNode, g0, g1, g2, g3, g4]
                    rw [hr]
                    repeat' (first
                      | ((with_reducible refine k_cons ?rdq ?_); (case rdq => refine rck_mk rfl ?_ ?_ <;> simp only [Option.isSome_some, bne, Prg.row, List.length_map, hd, hxr, hyr, PNode.row, decls_cl, eqns_cl, clR_nil, hw, Nat.add_assoc, h0, SXR, noA, isAl, kA, udf, AOp.dst, Nat.beq, putAt, bldE, evIo, isNil, Nat.ble, Int.reduceAdd, Int.reduceSub, Int.reduceNeg, Int.reduceBNe, Nat.reduceEqDiff, Nat.reduceSub, Nat.reduceAdd, Nat.reduceLeDiff, Nat.reduceBEq, Nat.reduceLT, Nat.reduceMul, Int.reduceBEq, Int.reduceLT, Int.reduceLE, reduceIte, reduceCtorEq]))
                      | (with_reducible refine pcl_intro (autos_nil) (by simp only [SXR, bne, Prg.row, List.length_map, hd, hxr, hyr, PNode.row, decls_cl, eqns_cl, clR_nil, hw, Nat.add_assoc, h0]) (by simp only [SXR, bne, Prg.row, List.length_map, hd, hxr, hyr, PNode.row, decls_cl, eqns_cl, clR_nil, hw, Nat.add_assoc, h0]) ?_)
                      | (with_reducible refine pcl_intro (claims_nil) (by simp only [SXR, bne, Prg.row, List.length_map, hd, hxr, hyr, PNode.row, decls_cl, eqns_cl, clR_nil, hw, Nat.add_assoc, h0]) (by simp only [SXR, bne, Prg.row, List.length_map, hd, hxr, hyr, PNode.row, decls_cl, eqns_cl, clR_nil, hw, Nat.add_assoc, h0]) ?_)
                      | (with_reducible refine pcl_intro (h1) (by simp only [SXR, bne, Prg.row, List.length_map, hd, hxr, hyr, PNode.row, decls_cl, eqns_cl, clR_nil, hw, Nat.add_assoc, h0]) (by simp only [SXR, bne, Prg.row, List.length_map, hd, hxr, hyr, PNode.row, decls_cl, eqns_cl, clR_nil, hw, Nat.add_assoc, h0]) ?_)
                      | (with_reducible refine pcl_intro (h2) (by simp only [SXR, bne, Prg.row, List.length_map, hd, hxr, hyr, PNode.row, decls_cl, eqns_cl, clR_nil, hw, Nat.add_assoc, h0]) (by simp only [SXR, bne, Prg.row, List.length_map, hd, hxr, hyr, PNode.row, decls_cl, eqns_cl, clR_nil, hw, Nat.add_assoc, h0]) ?_)
                      | (with_reducible refine pcl_intro (h3) (by simp only [SXR, bne, Prg.row, List.length_map, hd, hxr, hyr, PNode.row, decls_cl, eqns_cl, clR_nil, hw, Nat.add_assoc, h0]) (by simp only [SXR, bne, Prg.row, List.length_map, hd, hxr, hyr, PNode.row, decls_cl, eqns_cl, clR_nil, hw, Nat.add_assoc, h0]) ?_)
                      | (with_reducible refine pcl_intro (h4) (by simp only [SXR, bne, Prg.row, List.length_map, hd, hxr, hyr, PNode.row, decls_cl, eqns_cl, clR_nil, hw, Nat.add_assoc, h0]) (by simp only [SXR, bne, Prg.row, List.length_map, hd, hxr, hyr, PNode.row, decls_cl, eqns_cl, clR_nil, hw, Nat.add_assoc, h0]) ?_)
                      | (simp only [c27, bne, Prg.row, List.length_map, hd, hxr, hyr, PNode.row, decls_cl, eqns_cl, clR_nil, hw, Nat.add_assoc, h0, SXR, noA, isAl, kA, udf, AOp.dst, Nat.beq, putAt, bldE, evIo, isNil, Nat.ble, Int.reduceAdd, Int.reduceSub, Int.reduceNeg, Int.reduceBNe, Nat.reduceEqDiff, Nat.reduceSub, Nat.reduceAdd, Nat.reduceLeDiff, Nat.reduceBEq, Nat.reduceLT, Nat.reduceMul, Int.reduceBEq, Int.reduceLT, Int.reduceLE, reduceIte, reduceCtorEq]))
                  | true =>
                    have h4 := eqs_pc x.eqs y.eqs o4 o5
                    rw [g4] at h4
                    repeat' (first
                      | ((with_reducible refine k_cons ?rdq ?_); (case rdq => refine rck_mk rfl ?_ ?_ <;> simp only [Option.isSome_some, bne, Prg.row, List.length_map, hd, hxr, hyr, PNode.row, decls_cl, eqns_cl, clR_nil, hw, Nat.add_assoc, h0, SXR, noA, isAl, kA, udf, AOp.dst, Nat.beq, putAt, bldE, evIo, isNil, Nat.ble, Int.reduceAdd, Int.reduceSub, Int.reduceNeg, Int.reduceBNe, Nat.reduceEqDiff, Nat.reduceSub, Nat.reduceAdd, Nat.reduceLeDiff, Nat.reduceBEq, Nat.reduceLT, Nat.reduceMul, Int.reduceBEq, Int.reduceLT, Int.reduceLE, reduceIte, reduceCtorEq]))
                      | (with_reducible refine pcl_intro (autos_nil) (by simp only [SXR, bne, Prg.row, List.length_map, hd, hxr, hyr, PNode.row, decls_cl, eqns_cl, clR_nil, hw, Nat.add_assoc, h0]) (by simp only [SXR, bne, Prg.row, List.length_map, hd, hxr, hyr, PNode.row, decls_cl, eqns_cl, clR_nil, hw, Nat.add_assoc, h0]) ?_)
                      | (with_reducible refine pcl_intro (claims_nil) (by simp only [SXR, bne, Prg.row, List.length_map, hd, hxr, hyr, PNode.row, decls_cl, eqns_cl, clR_nil, hw, Nat.add_assoc, h0]) (by simp only [SXR, bne, Prg.row, List.length_map, hd, hxr, hyr, PNode.row, decls_cl, eqns_cl, clR_nil, hw, Nat.add_assoc, h0]) ?_)
                      | (with_reducible refine pcl_intro (h1) (by simp only [SXR, bne, Prg.row, List.length_map, hd, hxr, hyr, PNode.row, decls_cl, eqns_cl, clR_nil, hw, Nat.add_assoc, h0]) (by simp only [SXR, bne, Prg.row, List.length_map, hd, hxr, hyr, PNode.row, decls_cl, eqns_cl, clR_nil, hw, Nat.add_assoc, h0]) ?_)
                      | (with_reducible refine pcl_intro (h2) (by simp only [SXR, bne, Prg.row, List.length_map, hd, hxr, hyr, PNode.row, decls_cl, eqns_cl, clR_nil, hw, Nat.add_assoc, h0]) (by simp only [SXR, bne, Prg.row, List.length_map, hd, hxr, hyr, PNode.row, decls_cl, eqns_cl, clR_nil, hw, Nat.add_assoc, h0]) ?_)
                      | (with_reducible refine pcl_intro (h3) (by simp only [SXR, bne, Prg.row, List.length_map, hd, hxr, hyr, PNode.row, decls_cl, eqns_cl, clR_nil, hw, Nat.add_assoc, h0]) (by simp only [SXR, bne, Prg.row, List.length_map, hd, hxr, hyr, PNode.row, decls_cl, eqns_cl, clR_nil, hw, Nat.add_assoc, h0]) ?_)
                      | (with_reducible refine pcl_intro (h4) (by simp only [SXR, bne, Prg.row, List.length_map, hd, hxr, hyr, PNode.row, decls_cl, eqns_cl, clR_nil, hw, Nat.add_assoc, h0]) (by simp only [SXR, bne, Prg.row, List.length_map, hd, hxr, hyr, PNode.row, decls_cl, eqns_cl, clR_nil, hw, Nat.add_assoc, h0]) ?_)
                      | (simp only [c27, bne, Prg.row, List.length_map, hd, hxr, hyr, PNode.row, decls_cl, eqns_cl, clR_nil, hw, Nat.add_assoc, h0, SXR, noA, isAl, kA, udf, AOp.dst, Nat.beq, putAt, bldE, evIo, isNil, Nat.ble, Int.reduceAdd, Int.reduceSub, Int.reduceNeg, Int.reduceBNe, Nat.reduceEqDiff, Nat.reduceSub, Nat.reduceAdd, Nat.reduceLeDiff, Nat.reduceBEq, Nat.reduceLT, Nat.reduceMul, Int.reduceBEq, Int.reduceLT, Int.reduceLE, reduceIte, reduceCtorEq]))
                    exact IH (i + 1) _ _ (by exact ⟨_, rfl, rfl⟩) ⟨hlt, by rw [hinv]; simp [eqPNode, g0, g1, g2, g3, g4]⟩ (by omega)
        · have hd := ltn hlt
          clear IH
          rw [eqB_done hln hlt] at hinv
          rw [hinv]
          repeat' (first
            | ((with_reducible refine k_cons ?rdq ?_); (case rdq => refine rck_mk rfl ?_ ?_ <;> simp only [Option.isSome_some, Prg.row, List.length_map, hd, SXR, noA, isAl, kA, udf, AOp.dst, Nat.beq, putAt, bldE, evIo, isNil, Nat.ble, Int.reduceAdd, Int.reduceSub, Int.reduceNeg, Int.reduceBNe, Nat.reduceEqDiff, Nat.reduceSub, Nat.reduceAdd, Nat.reduceLeDiff, Nat.reduceBEq, Nat.reduceLT, Nat.reduceMul, Int.reduceBEq, Int.reduceLT, Int.reduceLE, reduceIte, reduceCtorEq]))
            | (simp only [c27, Prg.row, List.length_map, hd, SXR, noA, isAl, kA, udf, AOp.dst, Nat.beq, putAt, bldE, evIo, isNil, Nat.ble, Int.reduceAdd, Int.reduceSub, Int.reduceNeg, Int.reduceBNe, Nat.reduceEqDiff, Nat.reduceSub, Nat.reduceAdd, Nat.reduceLeDiff, Nat.reduceBEq, Nat.reduceLT, Nat.reduceMul, Int.reduceBEq, Int.reduceLT, Int.reduceLE, reduceIte, reduceCtorEq]))
    · have hnen : ((nd.length : Int) == (nd'.length : Int)) = false := by simp; omega
      have hr : eqPrg ⟨en, nd⟩ ⟨en', nd'⟩ = false := by simp [eqPrg, eqB_ne hln]
      rw [hr]
      refine pc_of Tryz.func27 k27 rfl ?_
      repeat' (first
        | ((with_reducible refine k_cons ?rdq ?_); (case rdq => refine rck_mk rfl ?_ ?_ <;> simp only [Option.isSome_some, bne, Prg.row, List.length_map, hnee, hnen, SXR, noA, isAl, kA, udf, AOp.dst, Nat.beq, putAt, bldE, evIo, isNil, Nat.ble, Int.reduceAdd, Int.reduceSub, Int.reduceNeg, Int.reduceBNe, Nat.reduceEqDiff, Nat.reduceSub, Nat.reduceAdd, Nat.reduceLeDiff, Nat.reduceBEq, Nat.reduceLT, Nat.reduceMul, Int.reduceBEq, Int.reduceLT, Int.reduceLE, reduceIte, reduceCtorEq]))
        | (simp only [c27, bne, Prg.row, List.length_map, hnee, hnen, SXR, noA, isAl, kA, udf, AOp.dst, Nat.beq, putAt, bldE, evIo, isNil, Nat.ble, Int.reduceAdd, Int.reduceSub, Int.reduceNeg, Int.reduceBNe, Nat.reduceEqDiff, Nat.reduceSub, Nat.reduceAdd, Nat.reduceLeDiff, Nat.reduceBEq, Nat.reduceLT, Nat.reduceMul, Int.reduceBEq, Int.reduceLT, Int.reduceLE, reduceIte, reduceCtorEq]))
  · have hnee : ((en.length : Int) == (en'.length : Int)) = false := by simp; omega
    have hr : eqPrg ⟨en, nd⟩ ⟨en', nd'⟩ = false := by simp [eqPrg, eqB_ne hle]
    rw [hr]
    refine pc_of Tryz.func27 k27 rfl ?_
    repeat' (first
      | ((with_reducible refine k_cons ?rdq ?_); (case rdq => refine rck_mk rfl ?_ ?_ <;> simp only [Option.isSome_some, bne, Prg.row, List.length_map, hnee, SXR, noA, isAl, kA, udf, AOp.dst, Nat.beq, putAt, bldE, evIo, isNil, Nat.ble, Int.reduceAdd, Int.reduceSub, Int.reduceNeg, Int.reduceBNe, Nat.reduceEqDiff, Nat.reduceSub, Nat.reduceAdd, Nat.reduceLeDiff, Nat.reduceBEq, Nat.reduceLT, Nat.reduceMul, Int.reduceBEq, Int.reduceLT, Int.reduceLE, reduceIte, reduceCtorEq]))
      | (simp only [c27, bne, Prg.row, List.length_map, hnee, SXR, noA, isAl, kA, udf, AOp.dst, Nat.beq, putAt, bldE, evIo, isNil, Nat.ble, Int.reduceAdd, Int.reduceSub, Int.reduceNeg, Int.reduceBNe, Nat.reduceEqDiff, Nat.reduceSub, Nat.reduceAdd, Nat.reduceLeDiff, Nat.reduceBEq, Nat.reduceLT, Nat.reduceMul, Int.reduceBEq, Int.reduceLT, Int.reduceLE, reduceIte, reduceCtorEq]))
def held (left : List Str) (e : Ex) : Prg := ⟨[], [⟨(0, 0), [], [], [], [⟨left, e⟩]⟩]⟩
theorem held_ok {left : List Str} {e : Ex} (h1 : Lst.ok left) (h2 : e.ok) : (held left e).ok := by
  refine ⟨⟨by simp [held, Lst.ok], by simp [held]⟩, by simp [held, Lst.ok], fun n hn => ?_⟩
  simp only [held, List.mem_singleton] at hn
  subst hn
  refine ⟨⟨by simp [Lst.ok], by simp⟩, ⟨by simp [Lst.ok], by simp⟩, ⟨by simp [Lst.ok], by simp⟩, by simp [Lst.ok], fun q hq => ?_⟩
  simp only [List.mem_singleton] at hq
  subst hq
  exact ⟨h1, h2⟩
theorem held_eq (l l' : List Str) (e e' : Ex) : eqPrg (held l e) (held l' e') = (eqB eqStr l l' && exB e e') := by
  simp [eqPrg, held, eqB, eqPNode, eqEqn, eqStr]
theorem holder_pc (left : List Str) (e : Ex) : PC Tryz.prog 86 [.ts (left.map srow), xg e] (.ag (held left e).row) := by
  refine pc_frz Tryz.func86 k86 rfl ?_
  repeat' (first
    | (simp only [c86, qt_n, qt_r, row_len, row_take, put_row1, SXR, noA, isAl, kA, udf, AOp.dst, Nat.beq, putAt, bldE, evIo, isNil, Nat.ble, Int.reduceAdd, Int.reduceSub, Int.reduceNeg, Int.reduceBNe, Nat.reduceEqDiff, Nat.reduceSub, Nat.reduceAdd, Nat.reduceLeDiff, Nat.reduceBEq, Nat.reduceLT, Nat.reduceMul, Int.reduceBEq, Int.reduceLT, Int.reduceLE, reduceIte, reduceCtorEq]))
  refine Sl.ag ⟨.nil, Se.rowsL (rs := [[.s 0 0, .ns, .ns, .ns, .sl 2 0 7 1 none, .ns, .ns, .ns]]) rfl rfl rfl trivial (by simp) (by simp [PNode.row]) ⟨⟨.same _, .nil, .nil, .nil, ?_, .nil, .nil, .nil, trivial⟩, trivial⟩, trivial⟩
  exact Se.rowsL (rs := [.ts (left.map srow) :: e.row]) rfl (by simp) rfl trivial (by simp [row_len]) (by simp [Eqn.row, row_len]) ⟨Sl.refl, trivial⟩
/-- a call's right side and arguments under one head -/
def argE (q : NEqn) : Ex := .mk 0 0 0 0 0 0 (q.right :: q.args)
theorem argE_ok {q : NEqn} (hk : q.ok) : (argE q).ok := by
  obtain ⟨h1, h2, h3, h4, h5, h6⟩ := hk
  simp only [argE, Ex.ok, Ex.oks]
  exact ⟨by unfold Lst.ok; simp; omega, h2, h4⟩
theorem argE_eq (x y : NEqn) : exB (argE x) (argE y) = (exB x.right y.right && eqB exB x.args y.args) := by
  simp [argE, exB, exsB, exsB_eq, eqStr]
theorem se_args0 {h : Hp} {D : Nat → Prop} {a : Nat} {e : Ex} {gr : Bool} (ha : h a = .c gr e.row) (hD : D a) : Se h D (.ag [.i .i64 0, .i .i64 0, .i .i64 0, .i .i64 0, .s 0 0, .sl a 0 6 1 none]) (xg (.mk 0 0 0 0 0 0 [e])) :=
  Sl.ag ⟨.same _, .same _, .same _, .same _, .same _, Se.flat' (rs := [e.row]) ha (by simp) rfl hD (by simp [row_len]), trivial⟩
theorem se_args1 {h : Hp} {D : Nat → Prop} {a n : Nat} {e : Ex} {l : List Ex} {gr : Bool} (ha : h a = .c gr (e.row ++ (Ex.rows l).flatten)) (hn : n = l.length + 1) (hD : D a) : Se h D (.ag [.i .i64 0, .i .i64 0, .i .i64 0, .i .i64 0, .s 0 0, .sl a 0 6 n none]) (xg (.mk 0 0 0 0 0 0 (e :: l))) :=
  Sl.ag ⟨.same _, .same _, .same _, .same _, .same _, Se.flat' (rs := e.row :: Ex.rows l) ha (by simp) (by simp [rows_len, hn]) hD (fun r hr => by
    rcases List.mem_cons.1 hr with rfl | h
    · exact row_len e
    · exact rows_w r h), trivial⟩
theorem sl2 {h : Hp} {D : Nat → Prop} {a b c d : V} (h1 : Se h D a c) (h2 : Se h D b d) : ∀ (j : Nat) (x y : V), [a, b][j]? = some x → [c, d][j]? = some y → Se h D x y := (Sl.get (xs := [a, b]) (ys := [c, d]) ⟨h1, h2, trivial⟩).2
set_option maxRecDepth 10000 in
set_option maxHeartbeats 2000000 in
theorem requation_pc (x y : NEqn) (hk : x.ok) (hk2 : y.ok) : PC Tryz.prog 58 [.ag x.row, .ag y.row] (.b (eqNEqn x y)) := by
  have hh1 := holder_pc x.left (argE x)
  have hh2 := holder_pc y.left (argE y)
  have hs := r7same_pc (held x.left (argE x)) (held y.left (argE y)) (held_ok hk.1 (argE_ok hk))
  have hcl1 : clL (held x.left (argE x)).row = true := prg_cl _
  have hcl2 : clL (held y.left (argE y)).row = true := prg_cl _
  rw [held_eq, argE_eq] at hs
  have hax := hk.2.2.2.2.2
  have hay := hk2.2.2.2.2.2
  cases g0 : x.kind == y.kind with
  | false =>
    have h0 := g0
    have hr : eqNEqn x y = false := by simp [eqNEqn, g0]
    rw [hr]
    refine pc_of Tryz.func58 k58 rfl ?_
    repeat' (first
      | ((with_reducible refine k_cons ?rdq ?_); (case rdq => refine rck_mk rfl ?_ ?_ <;> simp only [Option.isSome_some, bne, neqn_len, neqn_kind, neqn_left, neqn_right, neqn_init, neqn_node, neqn_args, neqn_every, neqn_ck, srows_cl, rows_cl, row_cl, ons_cl, h0, SXR, noA, isAl, kA, udf, AOp.dst, Nat.beq, putAt, bldE, evIo, isNil, Nat.ble, Int.reduceAdd, Int.reduceSub, Int.reduceNeg, Int.reduceBNe, Nat.reduceEqDiff, Nat.reduceSub, Nat.reduceAdd, Nat.reduceLeDiff, Nat.reduceBEq, Nat.reduceLT, Nat.reduceMul, Int.reduceBEq, Int.reduceLT, Int.reduceLE, reduceIte, reduceCtorEq]))
      | (simp only [c58, bne, neqn_len, neqn_kind, neqn_left, neqn_right, neqn_init, neqn_node, neqn_args, neqn_every, neqn_ck, srows_cl, rows_cl, row_cl, ons_cl, h0, SXR, noA, isAl, kA, udf, AOp.dst, Nat.beq, putAt, bldE, evIo, isNil, Nat.ble, Int.reduceAdd, Int.reduceSub, Int.reduceNeg, Int.reduceBNe, Nat.reduceEqDiff, Nat.reduceSub, Nat.reduceAdd, Nat.reduceLeDiff, Nat.reduceBEq, Nat.reduceLT, Nat.reduceMul, Int.reduceBEq, Int.reduceLT, Int.reduceLE, reduceIte, reduceCtorEq]))
  | true =>
    have h0 := g0
    cases g1 : x.init == y.init with
    | false =>
      have h1 := g1
      have hr : eqNEqn x y = false := by simp [eqNEqn, g0, g1]
      rw [hr]
      refine pc_of Tryz.func58 k58 rfl ?_
      repeat' (first
        | ((with_reducible refine k_cons ?rdq ?_); (case rdq => refine rck_mk rfl ?_ ?_ <;> simp only [Option.isSome_some, bne, neqn_len, neqn_kind, neqn_left, neqn_right, neqn_init, neqn_node, neqn_args, neqn_every, neqn_ck, srows_cl, rows_cl, row_cl, ons_cl, h0, h1, SXR, noA, isAl, kA, udf, AOp.dst, Nat.beq, putAt, bldE, evIo, isNil, Nat.ble, Int.reduceAdd, Int.reduceSub, Int.reduceNeg, Int.reduceBNe, Nat.reduceEqDiff, Nat.reduceSub, Nat.reduceAdd, Nat.reduceLeDiff, Nat.reduceBEq, Nat.reduceLT, Nat.reduceMul, Int.reduceBEq, Int.reduceLT, Int.reduceLE, reduceIte, reduceCtorEq]))
        | (simp only [c58, bne, neqn_len, neqn_kind, neqn_left, neqn_right, neqn_init, neqn_node, neqn_args, neqn_every, neqn_ck, srows_cl, rows_cl, row_cl, ons_cl, h0, h1, SXR, noA, isAl, kA, udf, AOp.dst, Nat.beq, putAt, bldE, evIo, isNil, Nat.ble, Int.reduceAdd, Int.reduceSub, Int.reduceNeg, Int.reduceBNe, Nat.reduceEqDiff, Nat.reduceSub, Nat.reduceAdd, Nat.reduceLeDiff, Nat.reduceBEq, Nat.reduceLT, Nat.reduceMul, Int.reduceBEq, Int.reduceLT, Int.reduceLE, reduceIte, reduceCtorEq]))
    | true =>
      have h1 := g1
      cases g2 : eqStr x.node y.node with
      | false =>
        have h2 := g2
        simp only [eqStr] at h2
        have hr : eqNEqn x y = false := by simp [eqNEqn, g0, g1, g2]
        rw [hr]
        refine pc_of Tryz.func58 k58 rfl ?_
        repeat' (first
          | ((with_reducible refine k_cons ?rdq ?_); (case rdq => refine rck_mk rfl ?_ ?_ <;> simp only [Option.isSome_some, bne, neqn_len, neqn_kind, neqn_left, neqn_right, neqn_init, neqn_node, neqn_args, neqn_every, neqn_ck, srows_cl, rows_cl, row_cl, ons_cl, h0, h1, h2, SXR, noA, isAl, kA, udf, AOp.dst, Nat.beq, putAt, bldE, evIo, isNil, Nat.ble, Int.reduceAdd, Int.reduceSub, Int.reduceNeg, Int.reduceBNe, Nat.reduceEqDiff, Nat.reduceSub, Nat.reduceAdd, Nat.reduceLeDiff, Nat.reduceBEq, Nat.reduceLT, Nat.reduceMul, Int.reduceBEq, Int.reduceLT, Int.reduceLE, reduceIte, reduceCtorEq]))
          | (simp only [c58, bne, neqn_len, neqn_kind, neqn_left, neqn_right, neqn_init, neqn_node, neqn_args, neqn_every, neqn_ck, srows_cl, rows_cl, row_cl, ons_cl, h0, h1, h2, SXR, noA, isAl, kA, udf, AOp.dst, Nat.beq, putAt, bldE, evIo, isNil, Nat.ble, Int.reduceAdd, Int.reduceSub, Int.reduceNeg, Int.reduceBNe, Nat.reduceEqDiff, Nat.reduceSub, Nat.reduceAdd, Nat.reduceLeDiff, Nat.reduceBEq, Nat.reduceLT, Nat.reduceMul, Int.reduceBEq, Int.reduceLT, Int.reduceLE, reduceIte, reduceCtorEq]))
      | true =>
        have h2 := g2
        simp only [eqStr] at h2
        cases g3 : eqStr x.every y.every with
        | false =>
          have h3 := g3
          simp only [eqStr] at h3
          have hr : eqNEqn x y = false := by simp [eqNEqn, g0, g1, g2, g3]
          rw [hr]
          refine pc_of Tryz.func58 k58 rfl ?_
          repeat' (first
            | ((with_reducible refine k_cons ?rdq ?_); (case rdq => refine rck_mk rfl ?_ ?_ <;> simp only [Option.isSome_some, bne, neqn_len, neqn_kind, neqn_left, neqn_right, neqn_init, neqn_node, neqn_args, neqn_every, neqn_ck, srows_cl, rows_cl, row_cl, ons_cl, h0, h1, h2, h3, SXR, noA, isAl, kA, udf, AOp.dst, Nat.beq, putAt, bldE, evIo, isNil, Nat.ble, Int.reduceAdd, Int.reduceSub, Int.reduceNeg, Int.reduceBNe, Nat.reduceEqDiff, Nat.reduceSub, Nat.reduceAdd, Nat.reduceLeDiff, Nat.reduceBEq, Nat.reduceLT, Nat.reduceMul, Int.reduceBEq, Int.reduceLT, Int.reduceLE, reduceIte, reduceCtorEq]))
            | (simp only [c58, bne, neqn_len, neqn_kind, neqn_left, neqn_right, neqn_init, neqn_node, neqn_args, neqn_every, neqn_ck, srows_cl, rows_cl, row_cl, ons_cl, h0, h1, h2, h3, SXR, noA, isAl, kA, udf, AOp.dst, Nat.beq, putAt, bldE, evIo, isNil, Nat.ble, Int.reduceAdd, Int.reduceSub, Int.reduceNeg, Int.reduceBNe, Nat.reduceEqDiff, Nat.reduceSub, Nat.reduceAdd, Nat.reduceLeDiff, Nat.reduceBEq, Nat.reduceLT, Nat.reduceMul, Int.reduceBEq, Int.reduceLT, Int.reduceLE, reduceIte, reduceCtorEq]))
        | true =>
          have h3 := g3
          simp only [eqStr] at h3
          cases g4 : eqB eqOn x.ck y.ck with
          | false =>
            have h4 := same12_pc x.ck y.ck hk.2.2.2.2.1
            rw [g4] at h4
            have hr : eqNEqn x y = false := by simp [eqNEqn, g0, g1, g2, g3, g4]
            rw [hr]
            refine pc_of Tryz.func58 k58 rfl ?_
            repeat' (first
              | ((with_reducible refine k_cons ?rdq ?_); (case rdq => refine rck_mk rfl ?_ ?_ <;> simp only [Option.isSome_some, bne, neqn_len, neqn_kind, neqn_left, neqn_right, neqn_init, neqn_node, neqn_args, neqn_every, neqn_ck, srows_cl, rows_cl, row_cl, ons_cl, h0, h1, h2, h3, SXR, noA, isAl, kA, udf, AOp.dst, Nat.beq, putAt, bldE, evIo, isNil, Nat.ble, Int.reduceAdd, Int.reduceSub, Int.reduceNeg, Int.reduceBNe, Nat.reduceEqDiff, Nat.reduceSub, Nat.reduceAdd, Nat.reduceLeDiff, Nat.reduceBEq, Nat.reduceLT, Nat.reduceMul, Int.reduceBEq, Int.reduceLT, Int.reduceLE, reduceIte, reduceCtorEq]))
              | (with_reducible refine pcl_intro (h4) (by simp only [SXR, bne, neqn_len, neqn_kind, neqn_left, neqn_right, neqn_init, neqn_node, neqn_args, neqn_every, neqn_ck, srows_cl, rows_cl, row_cl, ons_cl, h0, h1, h2, h3]) (by simp only [SXR, bne, neqn_len, neqn_kind, neqn_left, neqn_right, neqn_init, neqn_node, neqn_args, neqn_every, neqn_ck, srows_cl, rows_cl, row_cl, ons_cl, h0, h1, h2, h3]) ?_)
              | (simp only [c58, bne, neqn_len, neqn_kind, neqn_left, neqn_right, neqn_init, neqn_node, neqn_args, neqn_every, neqn_ck, srows_cl, rows_cl, row_cl, ons_cl, h0, h1, h2, h3, SXR, noA, isAl, kA, udf, AOp.dst, Nat.beq, putAt, bldE, evIo, isNil, Nat.ble, Int.reduceAdd, Int.reduceSub, Int.reduceNeg, Int.reduceBNe, Nat.reduceEqDiff, Nat.reduceSub, Nat.reduceAdd, Nat.reduceLeDiff, Nat.reduceBEq, Nat.reduceLT, Nat.reduceMul, Int.reduceBEq, Int.reduceLT, Int.reduceLE, reduceIte, reduceCtorEq]))
          | true =>
            have h4 := same12_pc x.ck y.ck hk.2.2.2.2.1
            rw [g4] at h4
            have he : eqNEqn x y = (eqB eqStr x.left y.left && (exB x.right y.right && eqB exB x.args y.args)) := by
              simp only [eqNEqn, g0, g1, g2, g3, g4, Bool.true_and, Bool.and_true, Bool.and_assoc]
            rw [he]
            clear he
            generalize hR : (eqB eqStr x.left y.left && (exB x.right y.right && eqB exB x.args y.args)) = R at hs
            cases hxa : x.args with
            | nil =>
              have hcx := neqn_args x
              rw [hxa] at hcx hax
              cases hya : y.args with
              | nil =>
                have hcy := neqn_args y
                rw [hya] at hcy hay
                have hle : (((0 : Nat) : Int) == ((0 : Nat) : Int)) = true := by simp
                refine pc_of Tryz.func58 k58 rfl ?_
                repeat' (first
                  | ((with_reducible refine k_cons ?rdq ?_); (case rdq => refine rck_mk rfl ?_ ?_ <;> simp only [Option.isSome_some, bne, neqn_len, neqn_kind, neqn_left, neqn_right, neqn_init, neqn_node, hcx, hcy, neqn_every, neqn_ck, srows_cl, rows_cl, row_cl, ons_cl, row_len, row_take, rows_len, rall, Ex.rows, List.flatten_nil, h0, h1, h2, h3, hle, SXR, noA, isAl, kA, udf, AOp.dst, Nat.beq, putAt, bldE, evIo, isNil, Nat.ble, Int.reduceAdd, Int.reduceSub, Int.reduceNeg, Int.reduceBNe, Nat.reduceEqDiff, Nat.reduceSub, Nat.reduceAdd, Nat.reduceLeDiff, Nat.reduceBEq, Nat.reduceLT, Nat.reduceMul, Int.reduceBEq, Int.reduceLT, Int.reduceLE, reduceIte, reduceCtorEq]))
                  | (with_reducible refine pcl_intro (h4) (by simp only [SXR, bne, neqn_len, neqn_kind, neqn_left, neqn_right, neqn_init, neqn_node, hcx, hcy, neqn_every, neqn_ck, srows_cl, rows_cl, row_cl, ons_cl, row_len, row_take, rows_len, rall, Ex.rows, List.flatten_nil, h0, h1, h2, h3, hle]) (by simp only [SXR, bne, neqn_len, neqn_kind, neqn_left, neqn_right, neqn_init, neqn_node, hcx, hcy, neqn_every, neqn_ck, srows_cl, rows_cl, row_cl, ons_cl, row_len, row_take, rows_len, rall, Ex.rows, List.flatten_nil, h0, h1, h2, h3, hle]) ?_)
                  | (simp only [c58, bne, neqn_len, neqn_kind, neqn_left, neqn_right, neqn_init, neqn_node, hcx, hcy, neqn_every, neqn_ck, srows_cl, rows_cl, row_cl, ons_cl, row_len, row_take, rows_len, rall, Ex.rows, List.flatten_nil, h0, h1, h2, h3, hle, SXR, noA, isAl, kA, udf, AOp.dst, Nat.beq, putAt, bldE, evIo, isNil, Nat.ble, Int.reduceAdd, Int.reduceSub, Int.reduceNeg, Int.reduceBNe, Nat.reduceEqDiff, Nat.reduceSub, Nat.reduceAdd, Nat.reduceLeDiff, Nat.reduceBEq, Nat.reduceLT, Nat.reduceMul, Int.reduceBEq, Int.reduceLT, Int.reduceLE, reduceIte, reduceCtorEq]))
                refine fcl_intro hh1 [2] rfl rfl (by rw [argE, hxa]; exact sl2 (.same _) (se_args0 (gr := false) rfl (by simp))) (by simp only [clL, V.cl, srows_cl, row_cl, Bool.and_self]) (by simp only [V.cl, hcl1]) ?_
                repeat' (first
                  | ((with_reducible refine k_cons ?rdq ?_); (case rdq => refine rck_mk rfl ?_ ?_ <;> simp only [Option.isSome_some, bne, neqn_len, neqn_kind, neqn_left, neqn_right, neqn_init, neqn_node, hcx, hcy, neqn_every, neqn_ck, srows_cl, rows_cl, row_cl, ons_cl, row_len, row_take, rows_len, rall, Ex.rows, List.flatten_nil, h0, h1, h2, h3, SXR, noA, isAl, kA, udf, AOp.dst, Nat.beq, putAt, bldE, evIo, isNil, Nat.ble, Int.reduceAdd, Int.reduceSub, Int.reduceNeg, Int.reduceBNe, Nat.reduceEqDiff, Nat.reduceSub, Nat.reduceAdd, Nat.reduceLeDiff, Nat.reduceBEq, Nat.reduceLT, Nat.reduceMul, Int.reduceBEq, Int.reduceLT, Int.reduceLE, reduceIte, reduceCtorEq]))
                  | (with_reducible refine pcl_intro (h4) (by simp only [SXR, bne, neqn_len, neqn_kind, neqn_left, neqn_right, neqn_init, neqn_node, hcx, hcy, neqn_every, neqn_ck, srows_cl, rows_cl, row_cl, ons_cl, row_len, row_take, rows_len, rall, Ex.rows, List.flatten_nil, h0, h1, h2, h3]) (by simp only [SXR, bne, neqn_len, neqn_kind, neqn_left, neqn_right, neqn_init, neqn_node, hcx, hcy, neqn_every, neqn_ck, srows_cl, rows_cl, row_cl, ons_cl, row_len, row_take, rows_len, rall, Ex.rows, List.flatten_nil, h0, h1, h2, h3]) ?_)
                  | (simp only [c58, bne, neqn_len, neqn_kind, neqn_left, neqn_right, neqn_init, neqn_node, hcx, hcy, neqn_every, neqn_ck, srows_cl, rows_cl, row_cl, ons_cl, row_len, row_take, rows_len, rall, Ex.rows, List.flatten_nil, h0, h1, h2, h3, SXR, noA, isAl, kA, udf, AOp.dst, Nat.beq, putAt, bldE, evIo, isNil, Nat.ble, Int.reduceAdd, Int.reduceSub, Int.reduceNeg, Int.reduceBNe, Nat.reduceEqDiff, Nat.reduceSub, Nat.reduceAdd, Nat.reduceLeDiff, Nat.reduceBEq, Nat.reduceLT, Nat.reduceMul, Int.reduceBEq, Int.reduceLT, Int.reduceLE, reduceIte, reduceCtorEq]))
                refine fcl_intro hh2 [5] rfl rfl (by rw [argE, hya]; exact sl2 (.same _) (se_args0 (gr := false) rfl (by simp))) (by simp only [clL, V.cl, srows_cl, row_cl, Bool.and_self]) (by simp only [V.cl, hcl2]) ?_
                repeat' (first
                  | ((with_reducible refine k_cons ?rdq ?_); (case rdq => refine rck_mk rfl ?_ ?_ <;> simp only [Option.isSome_some, hcl1, hcl2, bne, neqn_len, neqn_kind, neqn_left, neqn_right, neqn_init, neqn_node, hcx, hcy, neqn_every, neqn_ck, srows_cl, rows_cl, row_cl, ons_cl, row_len, row_take, rows_len, rall, Ex.rows, List.flatten_nil, h0, h1, h2, h3, SXR, noA, isAl, kA, udf, AOp.dst, Nat.beq, putAt, bldE, evIo, isNil, Nat.ble, Int.reduceAdd, Int.reduceSub, Int.reduceNeg, Int.reduceBNe, Nat.reduceEqDiff, Nat.reduceSub, Nat.reduceAdd, Nat.reduceLeDiff, Nat.reduceBEq, Nat.reduceLT, Nat.reduceMul, Int.reduceBEq, Int.reduceLT, Int.reduceLE, reduceIte, reduceCtorEq]))
                  | (with_reducible refine pcl_intro (hs) (by simp only [SXR, hcl1, hcl2, bne, neqn_len, neqn_kind, neqn_left, neqn_right, neqn_init, neqn_node, hcx, hcy, neqn_every, neqn_ck, srows_cl, rows_cl, row_cl, ons_cl, row_len, row_take, rows_len, rall, Ex.rows, List.flatten_nil, h0, h1, h2, h3]) (by simp only [SXR, hcl1, hcl2, bne, neqn_len, neqn_kind, neqn_left, neqn_right, neqn_init, neqn_node, hcx, hcy, neqn_every, neqn_ck, srows_cl, rows_cl, row_cl, ons_cl, row_len, row_take, rows_len, rall, Ex.rows, List.flatten_nil, h0, h1, h2, h3]) ?_)
                  | (with_reducible refine pcl_intro (h4) (by simp only [SXR, hcl1, hcl2, bne, neqn_len, neqn_kind, neqn_left, neqn_right, neqn_init, neqn_node, hcx, hcy, neqn_every, neqn_ck, srows_cl, rows_cl, row_cl, ons_cl, row_len, row_take, rows_len, rall, Ex.rows, List.flatten_nil, h0, h1, h2, h3]) (by simp only [SXR, hcl1, hcl2, bne, neqn_len, neqn_kind, neqn_left, neqn_right, neqn_init, neqn_node, hcx, hcy, neqn_every, neqn_ck, srows_cl, rows_cl, row_cl, ons_cl, row_len, row_take, rows_len, rall, Ex.rows, List.flatten_nil, h0, h1, h2, h3]) ?_)
                  | (simp only [c58, hcl1, hcl2, bne, neqn_len, neqn_kind, neqn_left, neqn_right, neqn_init, neqn_node, hcx, hcy, neqn_every, neqn_ck, srows_cl, rows_cl, row_cl, ons_cl, row_len, row_take, rows_len, rall, Ex.rows, List.flatten_nil, h0, h1, h2, h3, SXR, noA, isAl, kA, udf, AOp.dst, Nat.beq, putAt, bldE, evIo, isNil, Nat.ble, Int.reduceAdd, Int.reduceSub, Int.reduceNeg, Int.reduceBNe, Nat.reduceEqDiff, Nat.reduceSub, Nat.reduceAdd, Nat.reduceLeDiff, Nat.reduceBEq, Nat.reduceLT, Nat.reduceMul, Int.reduceBEq, Int.reduceLT, Int.reduceLE, reduceIte, reduceCtorEq]))
              | cons b m =>
                have hcy := neqn_args y
                rw [hya] at hcy hay
                simp only [List.length_cons] at hay
                have hroom2 := room_ok (n := 1 + (m.length + 1)) (b := 72) (by omega) (by omega)
                have hRf : R = false := by rw [← hR, hxa, hya]; simp [eqB]
                rw [hRf]
                have hle : (((0 : Nat) : Int) == ((m.length + 1 : Nat) : Int)) = false := by simp; omega
                refine pc_of Tryz.func58 k58 rfl ?_
                repeat' (first
                  | ((with_reducible refine k_cons ?rdq ?_); (case rdq => refine rck_mk rfl ?_ ?_ <;> simp only [Option.isSome_some, bne, neqn_len, neqn_kind, neqn_left, neqn_right, neqn_init, neqn_node, hcx, hcy, neqn_every, neqn_ck, srows_cl, rows_cl, row_cl, ons_cl, row_len, row_take, rows_len, rall, hroom2, Ex.rows, List.flatten_nil, h0, h1, h2, h3, hle, SXR, noA, isAl, kA, udf, AOp.dst, Nat.beq, putAt, bldE, evIo, isNil, Nat.ble, Int.reduceAdd, Int.reduceSub, Int.reduceNeg, Int.reduceBNe, Nat.reduceEqDiff, Nat.reduceSub, Nat.reduceAdd, Nat.reduceLeDiff, Nat.reduceBEq, Nat.reduceLT, Nat.reduceMul, Int.reduceBEq, Int.reduceLT, Int.reduceLE, reduceIte, reduceCtorEq]))
                  | (with_reducible refine pcl_intro (h4) (by simp only [SXR, bne, neqn_len, neqn_kind, neqn_left, neqn_right, neqn_init, neqn_node, hcx, hcy, neqn_every, neqn_ck, srows_cl, rows_cl, row_cl, ons_cl, row_len, row_take, rows_len, rall, hroom2, Ex.rows, List.flatten_nil, h0, h1, h2, h3, hle]) (by simp only [SXR, bne, neqn_len, neqn_kind, neqn_left, neqn_right, neqn_init, neqn_node, hcx, hcy, neqn_every, neqn_ck, srows_cl, rows_cl, row_cl, ons_cl, row_len, row_take, rows_len, rall, hroom2, Ex.rows, List.flatten_nil, h0, h1, h2, h3, hle]) ?_)
                  | (simp only [c58, bne, neqn_len, neqn_kind, neqn_left, neqn_right, neqn_init, neqn_node, hcx, hcy, neqn_every, neqn_ck, srows_cl, rows_cl, row_cl, ons_cl, row_len, row_take, rows_len, rall, hroom2, Ex.rows, List.flatten_nil, h0, h1, h2, h3, hle, SXR, noA, isAl, kA, udf, AOp.dst, Nat.beq, putAt, bldE, evIo, isNil, Nat.ble, Int.reduceAdd, Int.reduceSub, Int.reduceNeg, Int.reduceBNe, Nat.reduceEqDiff, Nat.reduceSub, Nat.reduceAdd, Nat.reduceLeDiff, Nat.reduceBEq, Nat.reduceLT, Nat.reduceMul, Int.reduceBEq, Int.reduceLT, Int.reduceLE, reduceIte, reduceCtorEq]))
            | cons a l =>
              have hcx := neqn_args x
              rw [hxa] at hcx hax
              simp only [List.length_cons] at hax
              have hroom1 := room_ok (n := 1 + (l.length + 1)) (b := 72) (by omega) (by omega)
              cases hya : y.args with
              | nil =>
                have hcy := neqn_args y
                rw [hya] at hcy hay
                have hRf : R = false := by rw [← hR, hxa, hya]; simp [eqB]
                rw [hRf]
                have hle : (((l.length + 1 : Nat) : Int) == ((0 : Nat) : Int)) = false := by simp; omega
                refine pc_of Tryz.func58 k58 rfl ?_
                repeat' (first
                  | ((with_reducible refine k_cons ?rdq ?_); (case rdq => refine rck_mk rfl ?_ ?_ <;> simp only [Option.isSome_some, bne, neqn_len, neqn_kind, neqn_left, neqn_right, neqn_init, neqn_node, hcx, hcy, neqn_every, neqn_ck, srows_cl, rows_cl, row_cl, ons_cl, row_len, row_take, rows_len, rall, hroom1, Ex.rows, List.flatten_nil, h0, h1, h2, h3, hle, SXR, noA, isAl, kA, udf, AOp.dst, Nat.beq, putAt, bldE, evIo, isNil, Nat.ble, Int.reduceAdd, Int.reduceSub, Int.reduceNeg, Int.reduceBNe, Nat.reduceEqDiff, Nat.reduceSub, Nat.reduceAdd, Nat.reduceLeDiff, Nat.reduceBEq, Nat.reduceLT, Nat.reduceMul, Int.reduceBEq, Int.reduceLT, Int.reduceLE, reduceIte, reduceCtorEq]))
                  | (with_reducible refine pcl_intro (h4) (by simp only [SXR, bne, neqn_len, neqn_kind, neqn_left, neqn_right, neqn_init, neqn_node, hcx, hcy, neqn_every, neqn_ck, srows_cl, rows_cl, row_cl, ons_cl, row_len, row_take, rows_len, rall, hroom1, Ex.rows, List.flatten_nil, h0, h1, h2, h3, hle]) (by simp only [SXR, bne, neqn_len, neqn_kind, neqn_left, neqn_right, neqn_init, neqn_node, hcx, hcy, neqn_every, neqn_ck, srows_cl, rows_cl, row_cl, ons_cl, row_len, row_take, rows_len, rall, hroom1, Ex.rows, List.flatten_nil, h0, h1, h2, h3, hle]) ?_)
                  | (simp only [c58, bne, neqn_len, neqn_kind, neqn_left, neqn_right, neqn_init, neqn_node, hcx, hcy, neqn_every, neqn_ck, srows_cl, rows_cl, row_cl, ons_cl, row_len, row_take, rows_len, rall, hroom1, Ex.rows, List.flatten_nil, h0, h1, h2, h3, hle, SXR, noA, isAl, kA, udf, AOp.dst, Nat.beq, putAt, bldE, evIo, isNil, Nat.ble, Int.reduceAdd, Int.reduceSub, Int.reduceNeg, Int.reduceBNe, Nat.reduceEqDiff, Nat.reduceSub, Nat.reduceAdd, Nat.reduceLeDiff, Nat.reduceBEq, Nat.reduceLT, Nat.reduceMul, Int.reduceBEq, Int.reduceLT, Int.reduceLE, reduceIte, reduceCtorEq]))
              | cons b m =>
                have hcy := neqn_args y
                rw [hya] at hcy hay
                simp only [List.length_cons] at hay
                have hroom2 := room_ok (n := 1 + (m.length + 1)) (b := 72) (by omega) (by omega)
                by_cases hl : l.length = m.length
                · skip
                  have hle : (((l.length + 1 : Nat) : Int) == ((m.length + 1 : Nat) : Int)) = true := by rw [hl]; simp
                  refine pc_of Tryz.func58 k58 rfl ?_
                  repeat' (first
                    | ((with_reducible refine k_cons ?rdq ?_); (case rdq => refine rck_mk rfl ?_ ?_ <;> simp only [Option.isSome_some, bne, neqn_len, neqn_kind, neqn_left, neqn_right, neqn_init, neqn_node, hcx, hcy, neqn_every, neqn_ck, srows_cl, rows_cl, row_cl, ons_cl, row_len, row_take, rows_len, rall, hroom1, hroom2, Ex.rows, List.flatten_nil, h0, h1, h2, h3, hle, SXR, noA, isAl, kA, udf, AOp.dst, Nat.beq, putAt, bldE, evIo, isNil, Nat.ble, Int.reduceAdd, Int.reduceSub, Int.reduceNeg, Int.reduceBNe, Nat.reduceEqDiff, Nat.reduceSub, Nat.reduceAdd, Nat.reduceLeDiff, Nat.reduceBEq, Nat.reduceLT, Nat.reduceMul, Int.reduceBEq, Int.reduceLT, Int.reduceLE, reduceIte, reduceCtorEq]))
                    | (with_reducible refine pcl_intro (h4) (by simp only [SXR, bne, neqn_len, neqn_kind, neqn_left, neqn_right, neqn_init, neqn_node, hcx, hcy, neqn_every, neqn_ck, srows_cl, rows_cl, row_cl, ons_cl, row_len, row_take, rows_len, rall, hroom1, hroom2, Ex.rows, List.flatten_nil, h0, h1, h2, h3, hle]) (by simp only [SXR, bne, neqn_len, neqn_kind, neqn_left, neqn_right, neqn_init, neqn_node, hcx, hcy, neqn_every, neqn_ck, srows_cl, rows_cl, row_cl, ons_cl, row_len, row_take, rows_len, rall, hroom1, hroom2, Ex.rows, List.flatten_nil, h0, h1, h2, h3, hle]) ?_)
                    | (simp only [c58, bne, neqn_len, neqn_kind, neqn_left, neqn_right, neqn_init, neqn_node, hcx, hcy, neqn_every, neqn_ck, srows_cl, rows_cl, row_cl, ons_cl, row_len, row_take, rows_len, rall, hroom1, hroom2, Ex.rows, List.flatten_nil, h0, h1, h2, h3, hle, SXR, noA, isAl, kA, udf, AOp.dst, Nat.beq, putAt, bldE, evIo, isNil, Nat.ble, Int.reduceAdd, Int.reduceSub, Int.reduceNeg, Int.reduceBNe, Nat.reduceEqDiff, Nat.reduceSub, Nat.reduceAdd, Nat.reduceLeDiff, Nat.reduceBEq, Nat.reduceLT, Nat.reduceMul, Int.reduceBEq, Int.reduceLT, Int.reduceLE, reduceIte, reduceCtorEq]))
                  refine fcl_intro hh1 [3] rfl rfl (by rw [argE, hxa]; exact sl2 (.same _) (se_args1 (gr := true) (by first | rfl | (simp [Ex.rows]; rfl)) (by simp; omega) (by simp))) (by simp only [clL, V.cl, srows_cl, row_cl, Bool.and_self]) (by simp only [V.cl, hcl1]) ?_
                  repeat' (first
                    | ((with_reducible refine k_cons ?rdq ?_); (case rdq => refine rck_mk rfl ?_ ?_ <;> simp only [Option.isSome_some, bne, neqn_len, neqn_kind, neqn_left, neqn_right, neqn_init, neqn_node, hcx, hcy, neqn_every, neqn_ck, srows_cl, rows_cl, row_cl, ons_cl, row_len, row_take, rows_len, rall, hroom1, hroom2, Ex.rows, List.flatten_nil, h0, h1, h2, h3, SXR, noA, isAl, kA, udf, AOp.dst, Nat.beq, putAt, bldE, evIo, isNil, Nat.ble, Int.reduceAdd, Int.reduceSub, Int.reduceNeg, Int.reduceBNe, Nat.reduceEqDiff, Nat.reduceSub, Nat.reduceAdd, Nat.reduceLeDiff, Nat.reduceBEq, Nat.reduceLT, Nat.reduceMul, Int.reduceBEq, Int.reduceLT, Int.reduceLE, reduceIte, reduceCtorEq]))
                    | (with_reducible refine pcl_intro (h4) (by simp only [SXR, bne, neqn_len, neqn_kind, neqn_left, neqn_right, neqn_init, neqn_node, hcx, hcy, neqn_every, neqn_ck, srows_cl, rows_cl, row_cl, ons_cl, row_len, row_take, rows_len, rall, hroom1, hroom2, Ex.rows, List.flatten_nil, h0, h1, h2, h3]) (by simp only [SXR, bne, neqn_len, neqn_kind, neqn_left, neqn_right, neqn_init, neqn_node, hcx, hcy, neqn_every, neqn_ck, srows_cl, rows_cl, row_cl, ons_cl, row_len, row_take, rows_len, rall, hroom1, hroom2, Ex.rows, List.flatten_nil, h0, h1, h2, h3]) ?_)
                    | (simp only [c58, bne, neqn_len, neqn_kind, neqn_left, neqn_right, neqn_init, neqn_node, hcx, hcy, neqn_every, neqn_ck, srows_cl, rows_cl, row_cl, ons_cl, row_len, row_take, rows_len, rall, hroom1, hroom2, Ex.rows, List.flatten_nil, h0, h1, h2, h3, SXR, noA, isAl, kA, udf, AOp.dst, Nat.beq, putAt, bldE, evIo, isNil, Nat.ble, Int.reduceAdd, Int.reduceSub, Int.reduceNeg, Int.reduceBNe, Nat.reduceEqDiff, Nat.reduceSub, Nat.reduceAdd, Nat.reduceLeDiff, Nat.reduceBEq, Nat.reduceLT, Nat.reduceMul, Int.reduceBEq, Int.reduceLT, Int.reduceLE, reduceIte, reduceCtorEq]))
                  refine fcl_intro hh2 [6] rfl rfl (by rw [argE, hya]; exact sl2 (.same _) (se_args1 (gr := true) (by first | rfl | (simp [Ex.rows]; rfl)) (by simp; omega) (by simp))) (by simp only [clL, V.cl, srows_cl, row_cl, Bool.and_self]) (by simp only [V.cl, hcl2]) ?_
                  repeat' (first
                    | ((with_reducible refine k_cons ?rdq ?_); (case rdq => refine rck_mk rfl ?_ ?_ <;> simp only [Option.isSome_some, hcl1, hcl2, bne, neqn_len, neqn_kind, neqn_left, neqn_right, neqn_init, neqn_node, hcx, hcy, neqn_every, neqn_ck, srows_cl, rows_cl, row_cl, ons_cl, row_len, row_take, rows_len, rall, hroom1, hroom2, Ex.rows, List.flatten_nil, h0, h1, h2, h3, SXR, noA, isAl, kA, udf, AOp.dst, Nat.beq, putAt, bldE, evIo, isNil, Nat.ble, Int.reduceAdd, Int.reduceSub, Int.reduceNeg, Int.reduceBNe, Nat.reduceEqDiff, Nat.reduceSub, Nat.reduceAdd, Nat.reduceLeDiff, Nat.reduceBEq, Nat.reduceLT, Nat.reduceMul, Int.reduceBEq, Int.reduceLT, Int.reduceLE, reduceIte, reduceCtorEq]))
                    | (with_reducible refine pcl_intro (hs) (by simp only [SXR, hcl1, hcl2, bne, neqn_len, neqn_kind, neqn_left, neqn_right, neqn_init, neqn_node, hcx, hcy, neqn_every, neqn_ck, srows_cl, rows_cl, row_cl, ons_cl, row_len, row_take, rows_len, rall, hroom1, hroom2, Ex.rows, List.flatten_nil, h0, h1, h2, h3]) (by simp only [SXR, hcl1, hcl2, bne, neqn_len, neqn_kind, neqn_left, neqn_right, neqn_init, neqn_node, hcx, hcy, neqn_every, neqn_ck, srows_cl, rows_cl, row_cl, ons_cl, row_len, row_take, rows_len, rall, hroom1, hroom2, Ex.rows, List.flatten_nil, h0, h1, h2, h3]) ?_)
                    | (with_reducible refine pcl_intro (h4) (by simp only [SXR, hcl1, hcl2, bne, neqn_len, neqn_kind, neqn_left, neqn_right, neqn_init, neqn_node, hcx, hcy, neqn_every, neqn_ck, srows_cl, rows_cl, row_cl, ons_cl, row_len, row_take, rows_len, rall, hroom1, hroom2, Ex.rows, List.flatten_nil, h0, h1, h2, h3]) (by simp only [SXR, hcl1, hcl2, bne, neqn_len, neqn_kind, neqn_left, neqn_right, neqn_init, neqn_node, hcx, hcy, neqn_every, neqn_ck, srows_cl, rows_cl, row_cl, ons_cl, row_len, row_take, rows_len, rall, hroom1, hroom2, Ex.rows, List.flatten_nil, h0, h1, h2, h3]) ?_)
                    | (simp only [c58, hcl1, hcl2, bne, neqn_len, neqn_kind, neqn_left, neqn_right, neqn_init, neqn_node, hcx, hcy, neqn_every, neqn_ck, srows_cl, rows_cl, row_cl, ons_cl, row_len, row_take, rows_len, rall, hroom1, hroom2, Ex.rows, List.flatten_nil, h0, h1, h2, h3, SXR, noA, isAl, kA, udf, AOp.dst, Nat.beq, putAt, bldE, evIo, isNil, Nat.ble, Int.reduceAdd, Int.reduceSub, Int.reduceNeg, Int.reduceBNe, Nat.reduceEqDiff, Nat.reduceSub, Nat.reduceAdd, Nat.reduceLeDiff, Nat.reduceBEq, Nat.reduceLT, Nat.reduceMul, Int.reduceBEq, Int.reduceLT, Int.reduceLE, reduceIte, reduceCtorEq]))
                · have hRf : R = false := by rw [← hR, hxa, hya, eqB_ne (a := a :: l) (b := b :: m) (by simpa using hl)]; simp
                  rw [hRf]
                  have hle : (((l.length + 1 : Nat) : Int) == ((m.length + 1 : Nat) : Int)) = false := by simp; omega
                  refine pc_of Tryz.func58 k58 rfl ?_
                  repeat' (first
                    | ((with_reducible refine k_cons ?rdq ?_); (case rdq => refine rck_mk rfl ?_ ?_ <;> simp only [Option.isSome_some, bne, neqn_len, neqn_kind, neqn_left, neqn_right, neqn_init, neqn_node, hcx, hcy, neqn_every, neqn_ck, srows_cl, rows_cl, row_cl, ons_cl, row_len, row_take, rows_len, rall, hroom1, hroom2, Ex.rows, List.flatten_nil, h0, h1, h2, h3, hle, SXR, noA, isAl, kA, udf, AOp.dst, Nat.beq, putAt, bldE, evIo, isNil, Nat.ble, Int.reduceAdd, Int.reduceSub, Int.reduceNeg, Int.reduceBNe, Nat.reduceEqDiff, Nat.reduceSub, Nat.reduceAdd, Nat.reduceLeDiff, Nat.reduceBEq, Nat.reduceLT, Nat.reduceMul, Int.reduceBEq, Int.reduceLT, Int.reduceLE, reduceIte, reduceCtorEq]))
                    | (with_reducible refine pcl_intro (h4) (by simp only [SXR, bne, neqn_len, neqn_kind, neqn_left, neqn_right, neqn_init, neqn_node, hcx, hcy, neqn_every, neqn_ck, srows_cl, rows_cl, row_cl, ons_cl, row_len, row_take, rows_len, rall, hroom1, hroom2, Ex.rows, List.flatten_nil, h0, h1, h2, h3, hle]) (by simp only [SXR, bne, neqn_len, neqn_kind, neqn_left, neqn_right, neqn_init, neqn_node, hcx, hcy, neqn_every, neqn_ck, srows_cl, rows_cl, row_cl, ons_cl, row_len, row_take, rows_len, rall, hroom1, hroom2, Ex.rows, List.flatten_nil, h0, h1, h2, h3, hle]) ?_)
                    | (simp only [c58, bne, neqn_len, neqn_kind, neqn_left, neqn_right, neqn_init, neqn_node, hcx, hcy, neqn_every, neqn_ck, srows_cl, rows_cl, row_cl, ons_cl, row_len, row_take, rows_len, rall, hroom1, hroom2, Ex.rows, List.flatten_nil, h0, h1, h2, h3, hle, SXR, noA, isAl, kA, udf, AOp.dst, Nat.beq, putAt, bldE, evIo, isNil, Nat.ble, Int.reduceAdd, Int.reduceSub, Int.reduceNeg, Int.reduceBNe, Nat.reduceEqDiff, Nat.reduceSub, Nat.reduceAdd, Nat.reduceLeDiff, Nat.reduceBEq, Nat.reduceLT, Nat.reduceMul, Int.reduceBEq, Int.reduceLT, Int.reduceLE, reduceIte, reduceCtorEq]))
end Go.Proofs.YtpnamdkgodedmaaGreatDoor
