/-
  Nodes and programs in normal form that are compared by the reference. Printed by mkeq.py.
  A node is found by its name.
  The law on programs in normal form, up to its closed run: equality, Find.
-/
import Derived.Test.YtpnamdkgodedmaaGreatDoorMe
set_option linter.unusedSimpArgs false
set_option linter.unusedVariables false
namespace Go.Proofs.YtpnamdkgodedmaaGreatDoor
open Go Go.B
set_option maxRecDepth 10000 in
set_option maxHeartbeats 1000000 in
theorem rnode_pc (x y : NNode) (hk : x.ok) (hk2 : y.ok) : PC Tryz.prog 28 [.ag x.row, .ag y.row] (.b (eqNNode x y)) := by
  obtain ⟨o1, o2, o3, o4, o5⟩ := hk
  obtain ⟨_, _, _, _, p5⟩ := hk2
  have hn := o4
  unfold Lst.ok at hn
  cases g0 : eqStr x.nm y.nm with
  | false =>
    have h0 := g0
    simp only [eqStr] at h0
    have hr : eqNNode x y = false := by simp [eqNNode, g0]
    rw [hr]
    refine pc_of Tryz.func28 k28 rfl ?_
    repeat' (first
      | (simp only [c28, bne, NNode.row, List.length_map, decls_cl, h0, SXR, noA, isAl, kA, udf, AOp.dst, Nat.beq, putAt, bldE, evIo, isNil, Nat.ble, Int.reduceAdd, Int.reduceSub, Int.reduceNeg, Int.reduceBNe, Nat.reduceEqDiff, Nat.reduceSub, Nat.reduceAdd, Nat.reduceLeDiff, Nat.reduceBEq, Nat.reduceLT, Nat.reduceMul, Int.reduceBEq, Int.reduceLT, Int.reduceLE, reduceIte, reduceCtorEq]))
  | true =>
    have h0 := g0
    simp only [eqStr] at h0
    cases g1 : eqB eqDecl x.ins y.ins with
    | false =>
      have h1 := decls_pc x.ins y.ins o1.1 o1.2
      rw [g1] at h1
      by_cases hl : x.eqs.length = y.eqs.length
      · have hne : ((x.eqs.length : Int) == (y.eqs.length : Int)) = true := by rw [hl]; simp
        have hr : eqNNode x y = false := by simp [eqNNode, g0, g1]
        rw [hr]
        refine pc_of Tryz.func28 k28 rfl ?_
        repeat' (first
          | (with_reducible refine pcl_intro (h1) (by simp only [SXR, hne, bne, NNode.row, List.length_map, decls_cl, h0]) (by simp only [SXR, hne, bne, NNode.row, List.length_map, decls_cl, h0]) ?_)
          | (simp only [c28, hne, bne, NNode.row, List.length_map, decls_cl, h0, SXR, noA, isAl, kA, udf, AOp.dst, Nat.beq, putAt, bldE, evIo, isNil, Nat.ble, Int.reduceAdd, Int.reduceSub, Int.reduceNeg, Int.reduceBNe, Nat.reduceEqDiff, Nat.reduceSub, Nat.reduceAdd, Nat.reduceLeDiff, Nat.reduceBEq, Nat.reduceLT, Nat.reduceMul, Int.reduceBEq, Int.reduceLT, Int.reduceLE, reduceIte, reduceCtorEq]))
      · have hne : ((x.eqs.length : Int) == (y.eqs.length : Int)) = false := by simp; omega
        have hr : eqNNode x y = false := by simp [eqNNode, g0, g1]
        rw [hr]
        refine pc_of Tryz.func28 k28 rfl ?_
        repeat' (first
          | (with_reducible refine pcl_intro (h1) (by simp only [SXR, hne, bne, NNode.row, List.length_map, decls_cl, h0]) (by simp only [SXR, hne, bne, NNode.row, List.length_map, decls_cl, h0]) ?_)
          | (simp only [c28, hne, bne, NNode.row, List.length_map, decls_cl, h0, SXR, noA, isAl, kA, udf, AOp.dst, Nat.beq, putAt, bldE, evIo, isNil, Nat.ble, Int.reduceAdd, Int.reduceSub, Int.reduceNeg, Int.reduceBNe, Nat.reduceEqDiff, Nat.reduceSub, Nat.reduceAdd, Nat.reduceLeDiff, Nat.reduceBEq, Nat.reduceLT, Nat.reduceMul, Int.reduceBEq, Int.reduceLT, Int.reduceLE, reduceIte, reduceCtorEq]))
    | true =>
      have h1 := decls_pc x.ins y.ins o1.1 o1.2
      rw [g1] at h1
      cases g2 : eqB eqDecl x.outs y.outs with
      | false =>
        have h2 := decls_pc x.outs y.outs o2.1 o2.2
        rw [g2] at h2
        by_cases hl : x.eqs.length = y.eqs.length
        · have hne : ((x.eqs.length : Int) == (y.eqs.length : Int)) = true := by rw [hl]; simp
          have hr : eqNNode x y = false := by simp [eqNNode, g0, g1, g2]
          rw [hr]
          refine pc_of Tryz.func28 k28 rfl ?_
          repeat' (first
            | (with_reducible refine pcl_intro (h1) (by simp only [SXR, hne, bne, NNode.row, List.length_map, decls_cl, h0]) (by simp only [SXR, hne, bne, NNode.row, List.length_map, decls_cl, h0]) ?_)
            | (with_reducible refine pcl_intro (h2) (by simp only [SXR, hne, bne, NNode.row, List.length_map, decls_cl, h0]) (by simp only [SXR, hne, bne, NNode.row, List.length_map, decls_cl, h0]) ?_)
            | (simp only [c28, hne, bne, NNode.row, List.length_map, decls_cl, h0, SXR, noA, isAl, kA, udf, AOp.dst, Nat.beq, putAt, bldE, evIo, isNil, Nat.ble, Int.reduceAdd, Int.reduceSub, Int.reduceNeg, Int.reduceBNe, Nat.reduceEqDiff, Nat.reduceSub, Nat.reduceAdd, Nat.reduceLeDiff, Nat.reduceBEq, Nat.reduceLT, Nat.reduceMul, Int.reduceBEq, Int.reduceLT, Int.reduceLE, reduceIte, reduceCtorEq]))
        · have hne : ((x.eqs.length : Int) == (y.eqs.length : Int)) = false := by simp; omega
          have hr : eqNNode x y = false := by simp [eqNNode, g0, g1, g2]
          rw [hr]
          refine pc_of Tryz.func28 k28 rfl ?_
          repeat' (first
            | (with_reducible refine pcl_intro (h1) (by simp only [SXR, hne, bne, NNode.row, List.length_map, decls_cl, h0]) (by simp only [SXR, hne, bne, NNode.row, List.length_map, decls_cl, h0]) ?_)
            | (with_reducible refine pcl_intro (h2) (by simp only [SXR, hne, bne, NNode.row, List.length_map, decls_cl, h0]) (by simp only [SXR, hne, bne, NNode.row, List.length_map, decls_cl, h0]) ?_)
            | (simp only [c28, hne, bne, NNode.row, List.length_map, decls_cl, h0, SXR, noA, isAl, kA, udf, AOp.dst, Nat.beq, putAt, bldE, evIo, isNil, Nat.ble, Int.reduceAdd, Int.reduceSub, Int.reduceNeg, Int.reduceBNe, Nat.reduceEqDiff, Nat.reduceSub, Nat.reduceAdd, Nat.reduceLeDiff, Nat.reduceBEq, Nat.reduceLT, Nat.reduceMul, Int.reduceBEq, Int.reduceLT, Int.reduceLE, reduceIte, reduceCtorEq]))
      | true =>
        have h2 := decls_pc x.outs y.outs o2.1 o2.2
        rw [g2] at h2
        cases g3 : eqB eqDecl x.locals y.locals with
        | false =>
          have h3 := decls_pc x.locals y.locals o3.1 o3.2
          rw [g3] at h3
          by_cases hl : x.eqs.length = y.eqs.length
          · have hne : ((x.eqs.length : Int) == (y.eqs.length : Int)) = true := by rw [hl]; simp
            have hr : eqNNode x y = false := by simp [eqNNode, g0, g1, g2, g3]
            rw [hr]
            refine pc_of Tryz.func28 k28 rfl ?_
            repeat' (first
              | (with_reducible refine pcl_intro (h1) (by simp only [SXR, hne, bne, NNode.row, List.length_map, decls_cl, h0]) (by simp only [SXR, hne, bne, NNode.row, List.length_map, decls_cl, h0]) ?_)
              | (with_reducible refine pcl_intro (h2) (by simp only [SXR, hne, bne, NNode.row, List.length_map, decls_cl, h0]) (by simp only [SXR, hne, bne, NNode.row, List.length_map, decls_cl, h0]) ?_)
              | (with_reducible refine pcl_intro (h3) (by simp only [SXR, hne, bne, NNode.row, List.length_map, decls_cl, h0]) (by simp only [SXR, hne, bne, NNode.row, List.length_map, decls_cl, h0]) ?_)
              | (simp only [c28, hne, bne, NNode.row, List.length_map, decls_cl, h0, SXR, noA, isAl, kA, udf, AOp.dst, Nat.beq, putAt, bldE, evIo, isNil, Nat.ble, Int.reduceAdd, Int.reduceSub, Int.reduceNeg, Int.reduceBNe, Nat.reduceEqDiff, Nat.reduceSub, Nat.reduceAdd, Nat.reduceLeDiff, Nat.reduceBEq, Nat.reduceLT, Nat.reduceMul, Int.reduceBEq, Int.reduceLT, Int.reduceLE, reduceIte, reduceCtorEq]))
          · have hne : ((x.eqs.length : Int) == (y.eqs.length : Int)) = false := by simp; omega
            have hr : eqNNode x y = false := by simp [eqNNode, g0, g1, g2, g3]
            rw [hr]
            refine pc_of Tryz.func28 k28 rfl ?_
            repeat' (first
              | (with_reducible refine pcl_intro (h1) (by simp only [SXR, hne, bne, NNode.row, List.length_map, decls_cl, h0]) (by simp only [SXR, hne, bne, NNode.row, List.length_map, decls_cl, h0]) ?_)
              | (with_reducible refine pcl_intro (h2) (by simp only [SXR, hne, bne, NNode.row, List.length_map, decls_cl, h0]) (by simp only [SXR, hne, bne, NNode.row, List.length_map, decls_cl, h0]) ?_)
              | (with_reducible refine pcl_intro (h3) (by simp only [SXR, hne, bne, NNode.row, List.length_map, decls_cl, h0]) (by simp only [SXR, hne, bne, NNode.row, List.length_map, decls_cl, h0]) ?_)
              | (simp only [c28, hne, bne, NNode.row, List.length_map, decls_cl, h0, SXR, noA, isAl, kA, udf, AOp.dst, Nat.beq, putAt, bldE, evIo, isNil, Nat.ble, Int.reduceAdd, Int.reduceSub, Int.reduceNeg, Int.reduceBNe, Nat.reduceEqDiff, Nat.reduceSub, Nat.reduceAdd, Nat.reduceLeDiff, Nat.reduceBEq, Nat.reduceLT, Nat.reduceMul, Int.reduceBEq, Int.reduceLT, Int.reduceLE, reduceIte, reduceCtorEq]))
        | true =>
          have h3 := decls_pc x.locals y.locals o3.1 o3.2
          rw [g3] at h3
          have he : eqNNode x y = eqB eqNEqn x.eqs y.eqs := by simp [eqNNode, g0, g1, g2, g3]
          rw [he]
          by_cases hl : x.eqs.length = y.eqs.length
          · have hne : ((x.eqs.length : Int) == (y.eqs.length : Int)) = true := by rw [hl]; simp
            refine pc_of Tryz.func28 k28 rfl ?_
            repeat' (first
              | (with_reducible refine pcl_intro (h1) (by simp only [SXR, bne, NNode.row, List.length_map, decls_cl, hne, h0]) (by simp only [SXR, bne, NNode.row, List.length_map, decls_cl, hne, h0]) ?_)
              | (with_reducible refine pcl_intro (h2) (by simp only [SXR, bne, NNode.row, List.length_map, decls_cl, hne, h0]) (by simp only [SXR, bne, NNode.row, List.length_map, decls_cl, hne, h0]) ?_)
              | (with_reducible refine pcl_intro (h3) (by simp only [SXR, bne, NNode.row, List.length_map, decls_cl, hne, h0]) (by simp only [SXR, bne, NNode.row, List.length_map, decls_cl, hne, h0]) ?_)
              | (simp only [c28, bne, NNode.row, List.length_map, decls_cl, hne, h0, SXR, noA, isAl, kA, udf, AOp.dst, Nat.beq, putAt, bldE, evIo, isNil, Nat.ble, Int.reduceAdd, Int.reduceSub, Int.reduceNeg, Int.reduceBNe, Nat.reduceEqDiff, Nat.reduceSub, Nat.reduceAdd, Nat.reduceLeDiff, Nat.reduceBEq, Nat.reduceLT, Nat.reduceMul, Int.reduceBEq, Int.reduceLT, Int.reduceLE, reduceIte, reduceCtorEq]))
            refine Lp_ind (X := Nat) (fun i ll hs => Hd (fun j => [.ag x.row, .ag y.row, .p 0 0, .p 1 0, .b false, .i .i64 (i : Int), j 6, j 7, j 8, j 9, j 10, j 11, j 12, j 13, j 14, j 15, j 16, j 17, j 18, j 19, j 20, j 21, j 22, j 23, j 24, j 25, j 26, j 27, j 28, j 29, j 30, j 31, j 32, j 33, j 34, j 35, j 36, j 37, j 38, j 39, j 40, j 41, j 42, j 43, j 44, j 45, j 46, j 47, j 48, j 49, j 50, j 51, j 52, j 53, j 54, j 55, j 56, j 57, j 58, j 59, j 60, j 61, j 62]) ll ∧ hs = [.c false x.row, .c false y.row])
              (fun i => i ≤ x.eqs.length ∧ eqB eqNEqn x.eqs y.eqs = eqB eqNEqn (x.eqs.drop i) (y.eqs.drop i)) (fun i => x.eqs.length - i) ?_ 0 _ _ (by exact ⟨rfl, rfl⟩) ⟨Nat.zero_le _, rfl⟩
            rintro i _ _ ⟨e, rfl⟩ ⟨hi, hinv⟩ IH
            obtain ⟨j, rfl⟩ := e.open
            clear e
            by_cases hlt : i < x.eqs.length
            · obtain ⟨u, hu, hum⟩ := ats hlt
              obtain ⟨v, hv, hvm⟩ := ats (show i < y.eqs.length by omega)
              have hur := mg (f := NEqn.row) hu
              have hvr := mg (f := NEqn.row) hv
              have hd := ltd hlt
              have hw := wrap_big (n := i) (by omega)
              rw [eqB_step hu hv] at hinv
              have hc := requation_pc u v (o5 u hum) (p5 v hvm)
              cases gv : eqNEqn u v with
              | false =>
                rw [gv] at hc
                have hr : eqB eqNEqn x.eqs y.eqs = false := by rw [hinv]; simp [gv]
                rw [hr]
                repeat' (first
                  | (with_reducible refine pcl_intro (hc) (by simp only [SXR, bne, NNode.row, List.length_map, decls_cl, hd, hur, hvr, hw, neqn_len, neqn_take, neqn_cl]) (by simp only [SXR, bne, NNode.row, List.length_map, decls_cl, hd, hur, hvr, hw, neqn_len, neqn_take, neqn_cl]) ?_)
                  | (simp only [c28, bne, NNode.row, List.length_map, decls_cl, hd, hur, hvr, hw, neqn_len, neqn_take, neqn_cl, SXR, noA, isAl, kA, udf, AOp.dst, Nat.beq, putAt, bldE, evIo, isNil, Nat.ble, Int.reduceAdd, Int.reduceSub, Int.reduceNeg, Int.reduceBNe, Nat.reduceEqDiff, Nat.reduceSub, Nat.reduceAdd, Nat.reduceLeDiff, Nat.reduceBEq, Nat.reduceLT, Nat.reduceMul, Int.reduceBEq, Int.reduceLT, Int.reduceLE, reduceIte, reduceCtorEq]))
              | true =>
                rw [gv] at hc
                repeat' (first
                  | (with_reducible refine pcl_intro (hc) (by simp only [SXR, bne, NNode.row, List.length_map, decls_cl, hd, hur, hvr, hw, neqn_len, neqn_take, neqn_cl]) (by simp only [SXR, bne, NNode.row, List.length_map, decls_cl, hd, hur, hvr, hw, neqn_len, neqn_take, neqn_cl]) ?_)
                  | (simp only [c28, bne, NNode.row, List.length_map, decls_cl, hd, hur, hvr, hw, neqn_len, neqn_take, neqn_cl, SXR, noA, isAl, kA, udf, AOp.dst, Nat.beq, putAt, bldE, evIo, isNil, Nat.ble, Int.reduceAdd, Int.reduceSub, Int.reduceNeg, Int.reduceBNe, Nat.reduceEqDiff, Nat.reduceSub, Nat.reduceAdd, Nat.reduceLeDiff, Nat.reduceBEq, Nat.reduceLT, Nat.reduceMul, Int.reduceBEq, Int.reduceLT, Int.reduceLE, reduceIte, reduceCtorEq]))
                exact IH (i + 1) _ _ (by exact ⟨rfl, rfl⟩) ⟨hlt, by rw [hinv]; simp [gv]⟩ (by omega)
            · have hd := ltn hlt
              clear IH
              rw [eqB_done hl hlt] at hinv
              rw [hinv]
              repeat' (first
                | (simp only [c28, bne, NNode.row, List.length_map, decls_cl, hd, SXR, noA, isAl, kA, udf, AOp.dst, Nat.beq, putAt, bldE, evIo, isNil, Nat.ble, Int.reduceAdd, Int.reduceSub, Int.reduceNeg, Int.reduceBNe, Nat.reduceEqDiff, Nat.reduceSub, Nat.reduceAdd, Nat.reduceLeDiff, Nat.reduceBEq, Nat.reduceLT, Nat.reduceMul, Int.reduceBEq, Int.reduceLT, Int.reduceLE, reduceIte, reduceCtorEq]))
          · have hne : ((x.eqs.length : Int) == (y.eqs.length : Int)) = false := by simp; omega
            rw [eqB_ne hl]
            refine pc_of Tryz.func28 k28 rfl ?_
            repeat' (first
              | (with_reducible refine pcl_intro (h1) (by simp only [SXR, bne, NNode.row, List.length_map, decls_cl, hne, h0]) (by simp only [SXR, bne, NNode.row, List.length_map, decls_cl, hne, h0]) ?_)
              | (with_reducible refine pcl_intro (h2) (by simp only [SXR, bne, NNode.row, List.length_map, decls_cl, hne, h0]) (by simp only [SXR, bne, NNode.row, List.length_map, decls_cl, hne, h0]) ?_)
              | (with_reducible refine pcl_intro (h3) (by simp only [SXR, bne, NNode.row, List.length_map, decls_cl, hne, h0]) (by simp only [SXR, bne, NNode.row, List.length_map, decls_cl, hne, h0]) ?_)
              | (simp only [c28, bne, NNode.row, List.length_map, decls_cl, hne, h0, SXR, noA, isAl, kA, udf, AOp.dst, Nat.beq, putAt, bldE, evIo, isNil, Nat.ble, Int.reduceAdd, Int.reduceSub, Int.reduceNeg, Int.reduceBNe, Nat.reduceEqDiff, Nat.reduceSub, Nat.reduceAdd, Nat.reduceLeDiff, Nat.reduceBEq, Nat.reduceLT, Nat.reduceMul, Int.reduceBEq, Int.reduceLT, Int.reduceLE, reduceIte, reduceCtorEq]))
set_option maxRecDepth 10000 in
set_option maxHeartbeats 1000000 in
theorem rsame_pc (x y : NPrg) (hk : x.ok) (hk2 : y.ok) : PC Tryz.prog 9 [.ag x.row, .ag y.row] (.b (eqNPrg x y)) := by
  obtain ⟨en, nd⟩ := x
  obtain ⟨en', nd'⟩ := y
  obtain ⟨he, hnd, hnn⟩ := hk
  obtain ⟨_, _, hnn'⟩ := hk2
  simp only at he hnd hnn hnn'
  unfold Lst.ok at hnd
  have hs := r7same_pc ⟨en, []⟩ ⟨en', []⟩ ⟨he, by simp [Lst.ok], by simp⟩
  have hse : eqPrg ⟨en, []⟩ ⟨en', []⟩ = eqB eqEnm en en' := by simp [eqPrg, eqB]
  rw [hse] at hs
  simp only [Prg.row, List.map_nil] at hs
  have sev : ∀ (h : Hp) (D : Nat → Prop) (l : List (List V)), Se h D (.ag [.ts l, .ns]) (.ag [.ts l, .ts []]) := fun h D l => Sl.ag ⟨.same _, .nil, trivial⟩
  have scl : ∀ l : List Enm, V.cl (.ag [.ts (l.map Enm.row), .ts []]) = true := fun l => by simp only [V.cl, clL, enms_cl, clR, Bool.and_self]
  by_cases hl : nd.length = nd'.length
  · have hne : ((nd.length : Int) == (nd'.length : Int)) = true := by rw [hl]; simp
    cases ge : eqB eqEnm en en' with
    | false =>
      rw [ge] at hs
      have hr : eqNPrg ⟨en, nd⟩ ⟨en', nd'⟩ = false := by simp [eqNPrg, ge]
      rw [hr]
      refine pc_of Tryz.func9 k9 rfl ?_
      repeat' (first
        | (simp only [c9, bne, NPrg.row, List.length_map, hne, SXR, noA, isAl, kA, udf, AOp.dst, Nat.beq, putAt, bldE, evIo, isNil, Nat.ble, Int.reduceAdd, Int.reduceSub, Int.reduceNeg, Int.reduceBNe, Nat.reduceEqDiff, Nat.reduceSub, Nat.reduceAdd, Nat.reduceLeDiff, Nat.reduceBEq, Nat.reduceLT, Nat.reduceMul, Int.reduceBEq, Int.reduceLT, Int.reduceLE, reduceIte, reduceCtorEq]))
      refine fcl_intro hs [] rfl rfl (sl2 (sev _ _ _) (sev _ _ _)) (by simp only [clL, scl, Bool.and_self]) (by simp only [V.cl]) ?_
      repeat' (first
        | (simp only [c9, bne, NPrg.row, List.length_map, SXR, noA, isAl, kA, udf, AOp.dst, Nat.beq, putAt, bldE, evIo, isNil, Nat.ble, Int.reduceAdd, Int.reduceSub, Int.reduceNeg, Int.reduceBNe, Nat.reduceEqDiff, Nat.reduceSub, Nat.reduceAdd, Nat.reduceLeDiff, Nat.reduceBEq, Nat.reduceLT, Nat.reduceMul, Int.reduceBEq, Int.reduceLT, Int.reduceLE, reduceIte, reduceCtorEq]))
    | true =>
      rw [ge] at hs
      have hr : eqNPrg ⟨en, nd⟩ ⟨en', nd'⟩ = eqB eqNNode nd nd' := by simp [eqNPrg, ge]
      rw [hr]
      refine pc_of Tryz.func9 k9 rfl ?_
      repeat' (first
        | (simp only [c9, bne, NPrg.row, List.length_map, hne, SXR, noA, isAl, kA, udf, AOp.dst, Nat.beq, putAt, bldE, evIo, isNil, Nat.ble, Int.reduceAdd, Int.reduceSub, Int.reduceNeg, Int.reduceBNe, Nat.reduceEqDiff, Nat.reduceSub, Nat.reduceAdd, Nat.reduceLeDiff, Nat.reduceBEq, Nat.reduceLT, Nat.reduceMul, Int.reduceBEq, Int.reduceLT, Int.reduceLE, reduceIte, reduceCtorEq]))
      refine fcl_intro hs [] rfl rfl (sl2 (sev _ _ _) (sev _ _ _)) (by simp only [clL, scl, Bool.and_self]) (by simp only [V.cl]) ?_
      repeat' (first
        | (simp only [c9, bne, NPrg.row, List.length_map, SXR, noA, isAl, kA, udf, AOp.dst, Nat.beq, putAt, bldE, evIo, isNil, Nat.ble, Int.reduceAdd, Int.reduceSub, Int.reduceNeg, Int.reduceBNe, Nat.reduceEqDiff, Nat.reduceSub, Nat.reduceAdd, Nat.reduceLeDiff, Nat.reduceBEq, Nat.reduceLT, Nat.reduceMul, Int.reduceBEq, Int.reduceLT, Int.reduceLE, reduceIte, reduceCtorEq]))
      refine Lp_ind (X := Nat) (fun i ll hs => Hd (fun j => [.ag (NPrg.row ⟨en, nd⟩), .ag (NPrg.row ⟨en', nd'⟩), .p 0 0, .p 1 0, .b false, .i .i64 (i : Int), j 6, j 7, j 8, j 9, j 10, j 11, j 12, j 13, j 14, j 15, j 16, j 17, j 18, j 19, j 20, j 21, j 22, j 23, j 24, j 25, j 26, j 27, j 28, j 29, j 30, j 31, j 32, j 33, j 34, j 35, j 36, j 37, j 38, j 39, j 40, j 41]) ll ∧ hs = [.c false (NPrg.row ⟨en, nd⟩), .c false (NPrg.row ⟨en', nd'⟩)])
        (fun i => i ≤ nd.length ∧ eqB eqNNode nd nd' = eqB eqNNode (nd.drop i) (nd'.drop i)) (fun i => nd.length - i) ?_ 0 _ _ (by exact ⟨rfl, rfl⟩) ⟨Nat.zero_le _, rfl⟩
      rintro i _ _ ⟨e, rfl⟩ ⟨hi, hinv⟩ IH
      obtain ⟨j, rfl⟩ := e.open
      clear e
      by_cases hlt : i < nd.length
      · obtain ⟨u, hu, hum⟩ := ats hlt
        obtain ⟨v, hv, hvm⟩ := ats (show i < nd'.length by omega)
        have hur := mg (f := NNode.row) hu
        have hvr := mg (f := NNode.row) hv
        have hd := ltd hlt
        have hw := wrap_big (n := i) (by omega)
        rw [eqB_step hu hv] at hinv
        have hc := rnode_pc u v (hnn u hum) (hnn' v hvm)
        cases gv : eqNNode u v with
        | false =>
          rw [gv] at hc
          have hr : eqB eqNNode nd nd' = false := by rw [hinv]; simp [gv]
          rw [hr]
          repeat' (first
            | (with_reducible refine pcl_intro (hc) (by simp only [SXR, NPrg.row, List.length_map, hd, hur, hvr, hw, nnode_len, nnode_take, nnode_cl]) (by simp only [SXR, NPrg.row, List.length_map, hd, hur, hvr, hw, nnode_len, nnode_take, nnode_cl]) ?_)
            | (simp only [c9, NPrg.row, List.length_map, hd, hur, hvr, hw, nnode_len, nnode_take, nnode_cl, SXR, noA, isAl, kA, udf, AOp.dst, Nat.beq, putAt, bldE, evIo, isNil, Nat.ble, Int.reduceAdd, Int.reduceSub, Int.reduceNeg, Int.reduceBNe, Nat.reduceEqDiff, Nat.reduceSub, Nat.reduceAdd, Nat.reduceLeDiff, Nat.reduceBEq, Nat.reduceLT, Nat.reduceMul, Int.reduceBEq, Int.reduceLT, Int.reduceLE, reduceIte, reduceCtorEq]))
        | true =>
          rw [gv] at hc
          repeat' (first
            | (with_reducible refine pcl_intro (hc) (by simp only [SXR, NPrg.row, List.length_map, hd, hur, hvr, hw, nnode_len, nnode_take, nnode_cl]) (by simp only [SXR, NPrg.row, List.length_map, hd, hur, hvr, hw, nnode_len, nnode_take, nnode_cl]) ?_)
            | (simp only [c9, NPrg.row, List.length_map, hd, hur, hvr, hw, nnode_len, nnode_take, nnode_cl, SXR, noA, isAl, kA, udf, AOp.dst, Nat.beq, putAt, bldE, evIo, isNil, Nat.ble, Int.reduceAdd, Int.reduceSub, Int.reduceNeg, Int.reduceBNe, Nat.reduceEqDiff, Nat.reduceSub, Nat.reduceAdd, Nat.reduceLeDiff, Nat.reduceBEq, Nat.reduceLT, Nat.reduceMul, Int.reduceBEq, Int.reduceLT, Int.reduceLE, reduceIte, reduceCtorEq]))
          exact IH (i + 1) _ _ (by exact ⟨rfl, rfl⟩) ⟨hlt, by rw [hinv]; simp [gv]⟩ (by omega)
      · have hd := ltn hlt
        clear IH
        rw [eqB_done hl hlt] at hinv
        rw [hinv]
        repeat' (first
          | (simp only [c9, NPrg.row, List.length_map, hd, SXR, noA, isAl, kA, udf, AOp.dst, Nat.beq, putAt, bldE, evIo, isNil, Nat.ble, Int.reduceAdd, Int.reduceSub, Int.reduceNeg, Int.reduceBNe, Nat.reduceEqDiff, Nat.reduceSub, Nat.reduceAdd, Nat.reduceLeDiff, Nat.reduceBEq, Nat.reduceLT, Nat.reduceMul, Int.reduceBEq, Int.reduceLT, Int.reduceLE, reduceIte, reduceCtorEq]))
  · have hne : ((nd.length : Int) == (nd'.length : Int)) = false := by simp; omega
    have hr : eqNPrg ⟨en, nd⟩ ⟨en', nd'⟩ = false := by simp [eqNPrg, eqB_ne hl]
    rw [hr]
    refine pc_of Tryz.func9 k9 rfl ?_
    repeat' (first
      | (simp only [c9, bne, NPrg.row, List.length_map, hne, SXR, noA, isAl, kA, udf, AOp.dst, Nat.beq, putAt, bldE, evIo, isNil, Nat.ble, Int.reduceAdd, Int.reduceSub, Int.reduceNeg, Int.reduceBNe, Nat.reduceEqDiff, Nat.reduceSub, Nat.reduceAdd, Nat.reduceLeDiff, Nat.reduceBEq, Nat.reduceLT, Nat.reduceMul, Int.reduceBEq, Int.reduceLT, Int.reduceLE, reduceIte, reduceCtorEq]))
def hitN (s : Str) (n : NNode) : Bool := n.nm.1 == s.1 && n.nm.2 == s.2
def placeN (s : Str) : List NNode → Nat → Option Nat
  | [], _ => none
  | n :: l, i => if hitN s n = true then some i else placeN s l (i + 1)
def idN : Option Nat → Int
  | some i => (i : Int)
  | none => -1
def foundV : Option Nat → V
  | some i => .tu [.i .i64 (i : Int), .b true]
  | none => .tu [.i .i64 0, .b false]
theorem find1_ac (s : Str) (n : NNode) (z : O) (js : List O) :
    ACalls Tryz.prog 18 [.ag n.row, .p 1 0] (hpL (z :: .c false [.s s.1 s.2] :: js)) (z :: .c false [.s s.1 s.2] :: js : List O).length (.b (hitN s n)) (hpL (z :: .c false [.s s.1 s.2] :: (js ++ [.c false n.row]))) (z :: .c false [.s s.1 s.2] :: (js ++ [.c false n.row]) : List O).length := by
  refine ac_of Tryz.func18 k18 rfl ?_
  repeat' (first
    | (simp only [c18, qh_n, qh_r, NNode.row, hitN, Nat.add_assoc, and_self, SXR, noA, isAl, kA, udf, AOp.dst, Nat.beq, putAt, bldE, evIo, isNil, Nat.ble, Int.reduceAdd, Int.reduceSub, Int.reduceNeg, Int.reduceBNe, Nat.reduceEqDiff, Nat.reduceSub, Nat.reduceAdd, Nat.reduceLeDiff, Nat.reduceBEq, Nat.reduceLT, Nat.reduceMul, Int.reduceBEq, Int.reduceLT, Int.reduceLE, reduceIte, reduceCtorEq]))
def scanN (s : Str) : List NNode → Nat
  | [] => 0
  | d :: l => if hitN s d = true then 1 else scanN s l + 1
def boxesN (l : List NNode) : List O := l.map fun d => .c false d.row
theorem boxesN_succ {l : List NNode} {i : Nat} {d : NNode} (h : l[i]? = some d) : boxesN (l.take i) ++ [.c false d.row] = boxesN (l.take (i + 1)) := by
  unfold boxesN; rw [List.take_add_one, h]; simp
theorem idxn_ac (s : Str) (z : O) (l : List NNode) (hn : l.length ≤ 90000000) :
    ACalls Tryz.prog 17 [.ts (l.map NNode.row), .fn 18 [] [.p 1 0]] (hpL [z, .c false [.s s.1 s.2]]) 2 (.i .i64 (idN (placeN s l 0)))
      (hpL (z :: .c false [.s s.1 s.2] :: boxesN (l.take (scanN s l)))) (z :: .c false [.s s.1 s.2] :: boxesN (l.take (scanN s l)) : List O).length := by
  refine ac_of (hs := [z, _]) Tryz.func17 k17 rfl ?_
  repeat' (first
    | (simp only [c17, qh_n, qh_r, List.length_map, SXR, noA, isAl, kA, udf, AOp.dst, Nat.beq, putAt, bldE, evIo, isNil, Nat.ble, Int.reduceAdd, Int.reduceSub, Int.reduceNeg, Int.reduceBNe, Nat.reduceEqDiff, Nat.reduceSub, Nat.reduceAdd, Nat.reduceLeDiff, Nat.reduceBEq, Nat.reduceLT, Nat.reduceMul, Int.reduceBEq, Int.reduceLT, Int.reduceLE, reduceIte, reduceCtorEq]))
  refine Lp_ind (X := Nat) (fun i ll hs => ∃ bs : List O, Hd (fun j => [.ts (l.map NNode.row), .fn 18 [] [.p 1 0], j 2, j 3, j 4, j 5, .ts (l.map NNode.row), .i .i64 (l.length : Int), .i .i64 (i : Int), j 9, j 10, j 11, j 12, j 13, j 14, j 15, j 16, j 17, j 18]) ll ∧ hs = z :: .c false [.s s.1 s.2] :: bs ∧ bs = boxesN (l.take i))
    (fun i => i ≤ l.length ∧ placeN s l 0 = placeN s (l.drop i) i ∧ scanN s l = scanN s (l.drop i) + i) (fun i => l.length - i) ?_ 0 _ _ (by exact ⟨[], rfl, rfl, rfl⟩) ⟨Nat.zero_le _, rfl, rfl⟩
  rintro i _ _ ⟨bs, e, rfl, hbs⟩ ⟨hi, hp, hsc⟩ IH
  obtain ⟨j, rfl⟩ := e.open
  clear e
  by_cases hlt : i < l.length
  · obtain ⟨x, hx, hxm⟩ := ats hlt
    have hr := mg (f := NNode.row) hx
    have hd := ltd hlt
    have hw := wrap_big (n := i) (by omega)
    have hc := find1_ac s x z bs
    have hbx : bs ++ [.c false x.row] = boxesN (l.take (i + 1)) := by rw [hbs]; exact boxesN_succ hx
    rw [drop_at hx] at hp hsc
    simp only [placeN, scanN] at hp hsc
    by_cases hh : hitN s x = true
    · rw [if_pos hh] at hp hsc
      clear IH
      rw [hp, hsc]
      simp only [hbx] at hc
      repeat' (first
        | (with_reducible refine acl_intro (hc) ?_)
        | (simp only [c17, qh_n, qh_r, List.length_map, hd, hr, nnode_len, nnode_take, hh, idN, SXR, noA, isAl, kA, udf, AOp.dst, Nat.beq, putAt, bldE, evIo, isNil, Nat.ble, Int.reduceAdd, Int.reduceSub, Int.reduceNeg, Int.reduceBNe, Nat.reduceEqDiff, Nat.reduceSub, Nat.reduceAdd, Nat.reduceLeDiff, Nat.reduceBEq, Nat.reduceLT, Nat.reduceMul, Int.reduceBEq, Int.reduceLT, Int.reduceLE, reduceIte, reduceCtorEq]))
      rw [Nat.add_comm]
    · rw [if_neg hh] at hp hsc
      have hh' : hitN s x = false := by simpa using hh
      simp only [hbx] at hc
      repeat' (first
        | (with_reducible refine acl_intro (hc) ?_)
        | (simp only [c17, qh_n, qh_r, List.length_map, hd, hr, nnode_len, nnode_take, hh', hw, SXR, noA, isAl, kA, udf, AOp.dst, Nat.beq, putAt, bldE, evIo, isNil, Nat.ble, Int.reduceAdd, Int.reduceSub, Int.reduceNeg, Int.reduceBNe, Nat.reduceEqDiff, Nat.reduceSub, Nat.reduceAdd, Nat.reduceLeDiff, Nat.reduceBEq, Nat.reduceLT, Nat.reduceMul, Int.reduceBEq, Int.reduceLT, Int.reduceLE, reduceIte, reduceCtorEq]))
      exact IH (i + 1) _ _ (by exact ⟨_, rfl, rfl, rfl⟩) ⟨hlt, hp, by omega⟩ (by omega)
  · have hd := ltn hlt
    clear IH
    have hdr : l.drop i = [] := List.drop_eq_nil_of_le (by omega)
    rw [hdr] at hp hsc
    simp only [placeN, scanN, Nat.zero_add] at hp hsc
    rw [hp, hsc, ← hbs]
    repeat' (first
      | (simp only [c17, qh_n, qh_r, List.length_map, hd, idN, SXR, noA, isAl, kA, udf, AOp.dst, Nat.beq, putAt, bldE, evIo, isNil, Nat.ble, Int.reduceAdd, Int.reduceSub, Int.reduceNeg, Int.reduceBNe, Nat.reduceEqDiff, Nat.reduceSub, Nat.reduceAdd, Nat.reduceLeDiff, Nat.reduceBEq, Nat.reduceLT, Nat.reduceMul, Int.reduceBEq, Int.reduceLT, Int.reduceLE, reduceIte, reduceCtorEq]))
theorem nfind_pc (p : NPrg) (s : Str) (hk : p.ok) : PC Tryz.prog 6 [.ag p.row, .s s.1 s.2] (foundV (placeN s p.nodes 0)) := by
  obtain ⟨_, hnd, _⟩ := hk
  unfold Lst.ok at hnd
  have hc := idxn_ac s (.c false p.row) p.nodes (by omega)
  obtain ⟨en, nd⟩ := p
  simp only at hc ⊢
  generalize boxesN (nd.take (scanN s nd)) = bs at hc
  cases hp : placeN s nd 0 with
  | none =>
    rw [hp] at hc
    simp only [NPrg.row, idN] at hc
    have h1 : decide ((0 : Int) > -1) = true := by decide
    have h2 : decide ((-1 : Int) ≥ 0) = false := by decide
    have h3 : (if (0 : Int) > -1 then (0 : Int) else -1) = 0 := by decide
    refine pc_of Tryz.func6 k6 rfl ?_
    repeat' (first
      | (with_reducible refine acl_intro (hc) ?_)
      | (simp only [c6, NPrg.row, foundV, h1, h2, h3, SXR, noA, isAl, kA, udf, AOp.dst, Nat.beq, putAt, bldE, evIo, isNil, Nat.ble, Int.reduceAdd, Int.reduceSub, Int.reduceNeg, Int.reduceBNe, Nat.reduceEqDiff, Nat.reduceSub, Nat.reduceAdd, Nat.reduceLeDiff, Nat.reduceBEq, Nat.reduceLT, Nat.reduceMul, Int.reduceBEq, Int.reduceLT, Int.reduceLE, reduceIte, reduceCtorEq]))
  | some m =>
    rw [hp] at hc
    simp only [NPrg.row, idN] at hc
    have h2 : decide ((m : Int) ≥ 0) = true := by simp
    have h3 : (if (0 : Int) > (m : Int) then (0 : Int) else (m : Int)) = (m : Int) := by rw [if_neg (by omega)]
    refine pc_of Tryz.func6 k6 rfl ?_
    repeat' (first
      | (with_reducible refine acl_intro (hc) ?_)
      | (simp only [c6, NPrg.row, foundV, h2, h3, SXR, noA, isAl, kA, udf, AOp.dst, Nat.beq, putAt, bldE, evIo, isNil, Nat.ble, Int.reduceAdd, Int.reduceSub, Int.reduceNeg, Int.reduceBNe, Nat.reduceEqDiff, Nat.reduceSub, Nat.reduceAdd, Nat.reduceLeDiff, Nat.reduceBEq, Nat.reduceLT, Nat.reduceMul, Int.reduceBEq, Int.reduceLT, Int.reduceLE, reduceIte, reduceCtorEq]))
theorem rfind_pc (p : NPrg) (s : Str) (hk : p.ok) : PC Tryz.prog 7 [.ag p.row, .s s.1 s.2] (foundV (placeN s p.nodes 0)) := by
  obtain ⟨_, hnd, _⟩ := hk
  unfold Lst.ok at hnd
  obtain ⟨en, l⟩ := p
  simp only at hnd ⊢
  refine pc_of Tryz.func7 k7 rfl ?_
  repeat' (first
    | (simp only [c7, NPrg.row, List.length_map, SXR, noA, isAl, kA, udf, AOp.dst, Nat.beq, putAt, bldE, evIo, isNil, Nat.ble, Int.reduceAdd, Int.reduceSub, Int.reduceNeg, Int.reduceBNe, Nat.reduceEqDiff, Nat.reduceSub, Nat.reduceAdd, Nat.reduceLeDiff, Nat.reduceBEq, Nat.reduceLT, Nat.reduceMul, Int.reduceBEq, Int.reduceLT, Int.reduceLE, reduceIte, reduceCtorEq]))
  refine Lp_ind (X := Nat) (fun i ll hs => Hd (fun j => [.ag (NPrg.row ⟨en, l⟩), .s s.1 s.2, .p 0 0, j 3, .i .i64 0, .b false, .i .i64 (i : Int), j 7, j 8, j 9, j 10, j 11, j 12, j 13, j 14, j 15, j 16, j 17, j 18, j 19, j 20, j 21, j 22]) ll ∧ hs = [.c false (NPrg.row ⟨en, l⟩)])
    (fun i => i ≤ l.length ∧ placeN s l 0 = placeN s (l.drop i) i) (fun i => l.length - i) ?_ 0 _ _ (by exact ⟨rfl, rfl⟩) ⟨Nat.zero_le _, rfl⟩
  rintro i _ _ ⟨e, rfl⟩ ⟨hi, hp⟩ IH
  obtain ⟨j, rfl⟩ := e.open
  clear e
  by_cases hlt : i < l.length
  · obtain ⟨x, hx, hxm⟩ := ats hlt
    have hr := mg (f := NNode.row) hx
    have hd := ltd hlt
    have hw := wrap_big (n := i) (by omega)
    rw [drop_at hx] at hp
    simp only [placeN] at hp
    cases hh : hitN s x with
    | true =>
      rw [if_pos hh] at hp
      clear IH
      rw [hp]
      unfold hitN at hh
      repeat' (first
        | (simp only [c7, NPrg.row, NNode.row, List.length_map, hd, hr, hh, foundV, SXR, noA, isAl, kA, udf, AOp.dst, Nat.beq, putAt, bldE, evIo, isNil, Nat.ble, Int.reduceAdd, Int.reduceSub, Int.reduceNeg, Int.reduceBNe, Nat.reduceEqDiff, Nat.reduceSub, Nat.reduceAdd, Nat.reduceLeDiff, Nat.reduceBEq, Nat.reduceLT, Nat.reduceMul, Int.reduceBEq, Int.reduceLT, Int.reduceLE, reduceIte, reduceCtorEq]))
    | false =>
      rw [if_neg (by simp [hh])] at hp
      unfold hitN at hh
      repeat' (first
        | (simp only [c7, NPrg.row, NNode.row, List.length_map, hd, hr, hh, hw, SXR, noA, isAl, kA, udf, AOp.dst, Nat.beq, putAt, bldE, evIo, isNil, Nat.ble, Int.reduceAdd, Int.reduceSub, Int.reduceNeg, Int.reduceBNe, Nat.reduceEqDiff, Nat.reduceSub, Nat.reduceAdd, Nat.reduceLeDiff, Nat.reduceBEq, Nat.reduceLT, Nat.reduceMul, Int.reduceBEq, Int.reduceLT, Int.reduceLE, reduceIte, reduceCtorEq]))
      exact IH (i + 1) _ _ (by exact ⟨rfl, rfl⟩) ⟨hlt, hp⟩ (by omega)
  · have hd := ltn hlt
    clear IH
    rw [List.drop_eq_nil_of_le (by omega)] at hp
    simp only [placeN] at hp
    rw [hp]
    repeat' (first
      | (simp only [c7, NPrg.row, List.length_map, hd, foundV, SXR, noA, isAl, kA, udf, AOp.dst, Nat.beq, putAt, bldE, evIo, isNil, Nat.ble, Int.reduceAdd, Int.reduceSub, Int.reduceNeg, Int.reduceBNe, Nat.reduceEqDiff, Nat.reduceSub, Nat.reduceAdd, Nat.reduceLeDiff, Nat.reduceBEq, Nat.reduceLT, Nat.reduceMul, Int.reduceBEq, Int.reduceLT, Int.reduceLE, reduceIte, reduceCtorEq]))
theorem eqStr_refl (s : Str) : eqStr s s = true := by simp [eqStr]
theorem eqOn_refl (o : On) : eqOn o o = true := by simp [eqOn, eqStr_refl]
theorem eqDecl_refl (x : Decl) : eqDecl x x = true := by simp [eqDecl, eqStr_refl, eqB_refl _ (fun o _ => eqOn_refl o)]
theorem exB_refl : ∀ (n : Nat) (x : Ex), x.sz ≤ n → exB x x = true
  | 0, x, h => by have := sz_pos x; omega
  | n + 1, .mk k op t v nl nn l, h => by
    have hszs : Ex.szs l ≤ n := by simp [Ex.sz] at h; omega
    simp [exB, exsB_eq, eqStr, eqB_refl l (fun y hy => exB_refl n y (by have := sz_mem hy; omega))]
theorem exB_refl' (x : Ex) : exB x x = true := exB_refl _ x (Nat.le_refl _)
theorem eqNEqn_refl (x : NEqn) : eqNEqn x x = true := by
  simp [eqNEqn, eqStr_refl, exB_refl', eqB_refl _ (fun o _ => eqOn_refl o), eqB_refl _ (fun s _ => eqStr_refl s), eqB_refl _ (fun e _ => exB_refl' e)]
theorem eqEnm_refl (x : Enm) : eqEnm x x = true := by simp [eqEnm, eqStr_refl, eqB_refl _ (fun s _ => eqStr_refl s)]
theorem eqNNode_refl (x : NNode) : eqNNode x x = true := by simp [eqNNode, eqStr_refl, eqB_refl _ (fun d _ => eqDecl_refl d), eqB_refl _ (fun q _ => eqNEqn_refl q)]
theorem eqNPrg_refl (p : NPrg) : eqNPrg p p = true := by simp [eqNPrg, eqB_refl _ (fun u _ => eqEnm_refl u), eqB_refl _ (fun n _ => eqNNode_refl n)]
theorem foundV_cl (o : Option Nat) : (foundV o).cl = true := by cases o <;> simp only [foundV, V.cl, clL, Bool.and_self]
theorem sames_pc (a b : NPrg) (s : Str) (ha : a.ok) (hb : b.ok) (haw : PC Tryz.prog 5 [] (.b true)) : PC Tryz.prog 3 [.ag a.row, .ag b.row, .s s.1 s.2] (.b true) := by
  have hla := large_pc a ha
  have hlb := large_pc b hb
  have hf := nfind_pc a s ha
  have hg := rfind_pc a s ha
  have hn := nsame_pc a b ha
  have hr := rsame_pc a b ha hb
  have hs := nsame_pc a a ha
  rw [eqNPrg_refl] at hs
  have hcl := foundV_cl (placeN s a.nodes 0)
  generalize eqNPrg a b = c at hn hr
  obtain ⟨en, nd⟩ := a
  obtain ⟨en', nd'⟩ := b
  simp only [NPrg.row] at hla hlb hf hg hn hr hs
  generalize largeB ⟨en, nd⟩ = la at hla
  generalize largeB ⟨en', nd'⟩ = lb at hlb
  simp only at hf hg hcl
  cases la with
  | true =>
    refine pc_of Tryz.func3 k3 rfl ?_
    repeat' (first
      | ((with_reducible refine k_cons ?rdq ?_); (case rdq => refine rck_mk rfl ?_ ?_ <;> simp only [Option.isSome_some, NPrg.row, enms_cl, nnodes_cl, SXR, noA, isAl, kA, udf, AOp.dst, Nat.beq, putAt, bldE, evIo, isNil, Nat.ble, Int.reduceAdd, Int.reduceSub, Int.reduceNeg, Int.reduceBNe, Nat.reduceEqDiff, Nat.reduceSub, Nat.reduceAdd, Nat.reduceLeDiff, Nat.reduceBEq, Nat.reduceLT, Nat.reduceMul, Int.reduceBEq, Int.reduceLT, Int.reduceLE, reduceIte, reduceCtorEq]))
      | (with_reducible refine pcl_intro (hla) (by simp only [SXR, NPrg.row, enms_cl, nnodes_cl]) (by simp only [SXR, NPrg.row, enms_cl, nnodes_cl]) ?_)
      | (with_reducible refine pcl_intro (haw) (by simp only [SXR, NPrg.row, enms_cl, nnodes_cl]) (by simp only [SXR, NPrg.row, enms_cl, nnodes_cl]) ?_)
      | (simp only [c3, NPrg.row, enms_cl, nnodes_cl, SXR, noA, isAl, kA, udf, AOp.dst, Nat.beq, putAt, bldE, evIo, isNil, Nat.ble, Int.reduceAdd, Int.reduceSub, Int.reduceNeg, Int.reduceBNe, Nat.reduceEqDiff, Nat.reduceSub, Nat.reduceAdd, Nat.reduceLeDiff, Nat.reduceBEq, Nat.reduceLT, Nat.reduceMul, Int.reduceBEq, Int.reduceLT, Int.reduceLE, reduceIte, reduceCtorEq]))
  | false =>
    cases lb with
    | true =>
      refine pc_of Tryz.func3 k3 rfl ?_
      repeat' (first
        | ((with_reducible refine k_cons ?rdq ?_); (case rdq => refine rck_mk rfl ?_ ?_ <;> simp only [Option.isSome_some, NPrg.row, enms_cl, nnodes_cl, SXR, noA, isAl, kA, udf, AOp.dst, Nat.beq, putAt, bldE, evIo, isNil, Nat.ble, Int.reduceAdd, Int.reduceSub, Int.reduceNeg, Int.reduceBNe, Nat.reduceEqDiff, Nat.reduceSub, Nat.reduceAdd, Nat.reduceLeDiff, Nat.reduceBEq, Nat.reduceLT, Nat.reduceMul, Int.reduceBEq, Int.reduceLT, Int.reduceLE, reduceIte, reduceCtorEq]))
        | (with_reducible refine pcl_intro (hla) (by simp only [SXR, NPrg.row, enms_cl, nnodes_cl]) (by simp only [SXR, NPrg.row, enms_cl, nnodes_cl]) ?_)
        | (with_reducible refine pcl_intro (hlb) (by simp only [SXR, NPrg.row, enms_cl, nnodes_cl]) (by simp only [SXR, NPrg.row, enms_cl, nnodes_cl]) ?_)
        | (with_reducible refine pcl_intro (haw) (by simp only [SXR, NPrg.row, enms_cl, nnodes_cl]) (by simp only [SXR, NPrg.row, enms_cl, nnodes_cl]) ?_)
        | (simp only [c3, NPrg.row, enms_cl, nnodes_cl, SXR, noA, isAl, kA, udf, AOp.dst, Nat.beq, putAt, bldE, evIo, isNil, Nat.ble, Int.reduceAdd, Int.reduceSub, Int.reduceNeg, Int.reduceBNe, Nat.reduceEqDiff, Nat.reduceSub, Nat.reduceAdd, Nat.reduceLeDiff, Nat.reduceBEq, Nat.reduceLT, Nat.reduceMul, Int.reduceBEq, Int.reduceLT, Int.reduceLE, reduceIte, reduceCtorEq]))
    | false =>
      generalize placeN s nd 0 = o at hf hg hcl
      cases o with
      | none =>
        simp only [foundV] at hf hg
        refine pc_of Tryz.func3 k3 rfl ?_
        repeat' (first
          | ((with_reducible refine k_cons ?rdq ?_); (case rdq => refine rck_mk rfl ?_ ?_ <;> simp only [Option.isSome_some, NPrg.row, enms_cl, nnodes_cl, beq_self_eq_true, SXR, noA, isAl, kA, udf, AOp.dst, Nat.beq, putAt, bldE, evIo, isNil, Nat.ble, Int.reduceAdd, Int.reduceSub, Int.reduceNeg, Int.reduceBNe, Nat.reduceEqDiff, Nat.reduceSub, Nat.reduceAdd, Nat.reduceLeDiff, Nat.reduceBEq, Nat.reduceLT, Nat.reduceMul, Int.reduceBEq, Int.reduceLT, Int.reduceLE, reduceIte, reduceCtorEq]))
          | (with_reducible refine pcl_intro (hla) (by simp only [SXR, NPrg.row, enms_cl, nnodes_cl, beq_self_eq_true]) (by simp only [SXR, NPrg.row, enms_cl, nnodes_cl, beq_self_eq_true]) ?_)
          | (with_reducible refine pcl_intro (hlb) (by simp only [SXR, NPrg.row, enms_cl, nnodes_cl, beq_self_eq_true]) (by simp only [SXR, NPrg.row, enms_cl, nnodes_cl, beq_self_eq_true]) ?_)
          | (with_reducible refine pcl_intro (hf) (by simp only [SXR, NPrg.row, enms_cl, nnodes_cl, beq_self_eq_true]) (by simp only [SXR, NPrg.row, enms_cl, nnodes_cl, beq_self_eq_true]) ?_)
          | (with_reducible refine pcl_intro (hg) (by simp only [SXR, NPrg.row, enms_cl, nnodes_cl, beq_self_eq_true]) (by simp only [SXR, NPrg.row, enms_cl, nnodes_cl, beq_self_eq_true]) ?_)
          | (with_reducible refine pcl_intro (hn) (by simp only [SXR, NPrg.row, enms_cl, nnodes_cl, beq_self_eq_true]) (by simp only [SXR, NPrg.row, enms_cl, nnodes_cl, beq_self_eq_true]) ?_)
          | (with_reducible refine pcl_intro (hr) (by simp only [SXR, NPrg.row, enms_cl, nnodes_cl, beq_self_eq_true]) (by simp only [SXR, NPrg.row, enms_cl, nnodes_cl, beq_self_eq_true]) ?_)
          | (with_reducible refine pcl_intro (hs) (by simp only [SXR, NPrg.row, enms_cl, nnodes_cl, beq_self_eq_true]) (by simp only [SXR, NPrg.row, enms_cl, nnodes_cl, beq_self_eq_true]) ?_)
          | (with_reducible refine pcl_intro (haw) (by simp only [SXR, NPrg.row, enms_cl, nnodes_cl, beq_self_eq_true]) (by simp only [SXR, NPrg.row, enms_cl, nnodes_cl, beq_self_eq_true]) ?_)
          | (simp only [c3, NPrg.row, enms_cl, nnodes_cl, beq_self_eq_true, SXR, noA, isAl, kA, udf, AOp.dst, Nat.beq, putAt, bldE, evIo, isNil, Nat.ble, Int.reduceAdd, Int.reduceSub, Int.reduceNeg, Int.reduceBNe, Nat.reduceEqDiff, Nat.reduceSub, Nat.reduceAdd, Nat.reduceLeDiff, Nat.reduceBEq, Nat.reduceLT, Nat.reduceMul, Int.reduceBEq, Int.reduceLT, Int.reduceLE, reduceIte, reduceCtorEq]))
      | some m =>
        simp only [foundV] at hf hg
        refine pc_of Tryz.func3 k3 rfl ?_
        repeat' (first
          | ((with_reducible refine k_cons ?rdq ?_); (case rdq => refine rck_mk rfl ?_ ?_ <;> simp only [Option.isSome_some, NPrg.row, enms_cl, nnodes_cl, beq_self_eq_true, SXR, noA, isAl, kA, udf, AOp.dst, Nat.beq, putAt, bldE, evIo, isNil, Nat.ble, Int.reduceAdd, Int.reduceSub, Int.reduceNeg, Int.reduceBNe, Nat.reduceEqDiff, Nat.reduceSub, Nat.reduceAdd, Nat.reduceLeDiff, Nat.reduceBEq, Nat.reduceLT, Nat.reduceMul, Int.reduceBEq, Int.reduceLT, Int.reduceLE, reduceIte, reduceCtorEq]))
          | (with_reducible refine pcl_intro (hla) (by simp only [SXR, NPrg.row, enms_cl, nnodes_cl, beq_self_eq_true]) (by simp only [SXR, NPrg.row, enms_cl, nnodes_cl, beq_self_eq_true]) ?_)
          | (with_reducible refine pcl_intro (hlb) (by simp only [SXR, NPrg.row, enms_cl, nnodes_cl, beq_self_eq_true]) (by simp only [SXR, NPrg.row, enms_cl, nnodes_cl, beq_self_eq_true]) ?_)
          | (with_reducible refine pcl_intro (hf) (by simp only [SXR, NPrg.row, enms_cl, nnodes_cl, beq_self_eq_true]) (by simp only [SXR, NPrg.row, enms_cl, nnodes_cl, beq_self_eq_true]) ?_)
          | (with_reducible refine pcl_intro (hg) (by simp only [SXR, NPrg.row, enms_cl, nnodes_cl, beq_self_eq_true]) (by simp only [SXR, NPrg.row, enms_cl, nnodes_cl, beq_self_eq_true]) ?_)
          | (with_reducible refine pcl_intro (hn) (by simp only [SXR, NPrg.row, enms_cl, nnodes_cl, beq_self_eq_true]) (by simp only [SXR, NPrg.row, enms_cl, nnodes_cl, beq_self_eq_true]) ?_)
          | (with_reducible refine pcl_intro (hr) (by simp only [SXR, NPrg.row, enms_cl, nnodes_cl, beq_self_eq_true]) (by simp only [SXR, NPrg.row, enms_cl, nnodes_cl, beq_self_eq_true]) ?_)
          | (with_reducible refine pcl_intro (hs) (by simp only [SXR, NPrg.row, enms_cl, nnodes_cl, beq_self_eq_true]) (by simp only [SXR, NPrg.row, enms_cl, nnodes_cl, beq_self_eq_true]) ?_)
          | (with_reducible refine pcl_intro (haw) (by simp only [SXR, NPrg.row, enms_cl, nnodes_cl, beq_self_eq_true]) (by simp only [SXR, NPrg.row, enms_cl, nnodes_cl, beq_self_eq_true]) ?_)
          | (simp only [c3, NPrg.row, enms_cl, nnodes_cl, beq_self_eq_true, SXR, noA, isAl, kA, udf, AOp.dst, Nat.beq, putAt, bldE, evIo, isNil, Nat.ble, Int.reduceAdd, Int.reduceSub, Int.reduceNeg, Int.reduceBNe, Nat.reduceEqDiff, Nat.reduceSub, Nat.reduceAdd, Nat.reduceLeDiff, Nat.reduceBEq, Nat.reduceLT, Nat.reduceMul, Int.reduceBEq, Int.reduceLT, Int.reduceLE, reduceIte, reduceCtorEq]))
end Go.Proofs.YtpnamdkgodedmaaGreatDoor
