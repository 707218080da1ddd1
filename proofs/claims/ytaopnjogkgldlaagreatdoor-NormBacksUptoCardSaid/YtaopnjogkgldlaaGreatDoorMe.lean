/-
  The reference's program of a program in normal form.
  Whether a program in normal form is too large to be looked at.
  The law on programs in normal form, up to its closed run.
-/
import Derived.Test.YtaopnjogkgldlaaGreatDoorMd
set_option linter.unusedSimpArgs false
set_option linter.unusedVariables false
namespace Go.Proofs.YtaopnjogkgldlaaGreatDoor
open Go Go.B
theorem nn4 (n : NNode) : (n.row.drop 4).take 1 = [.ts (n.eqs.map NEqn.row)] := rfl
set_option maxHeartbeats 1000000 in
theorem rback_pc (p : NPrg) (hok : p.ok) : PC Tryz.prog 8 [.ag p.row] (.ag (backP p).row) := by
  obtain ⟨en, nd⟩ := p
  obtain ⟨he, hnd, hnn⟩ := hok
  simp only at he hnd hnn
  unfold Lst.ok at hnd
  refine pc_frz Tryz.func8 k8 rfl ?_
  repeat' (first
    | ((with_reducible refine k_cons ?rdq ?_); (case rdq => refine rck_mk rfl ?_ ?_ <;> simp only [Option.isSome_some, qt_n, qt_r, NPrg.row, List.length_map, SXR, noA, isAl, kA, udf, AOp.dst, Nat.beq, putAt, bldE, evIo, isNil, Nat.ble, Int.reduceAdd, Int.reduceSub, Int.reduceNeg, Int.reduceBNe, Nat.reduceEqDiff, Nat.reduceSub, Nat.reduceAdd, Nat.reduceLeDiff, Nat.reduceBEq, Nat.reduceLT, Nat.reduceMul, Int.reduceBEq, Int.reduceLT, Int.reduceLE, reduceIte, reduceCtorEq]))
    | (simp only [c8, qt_n, qt_r, NPrg.row, List.length_map, SXR, noA, isAl, kA, udf, AOp.dst, Nat.beq, putAt, bldE, evIo, isNil, Nat.ble, Int.reduceAdd, Int.reduceSub, Int.reduceNeg, Int.reduceBNe, Nat.reduceEqDiff, Nat.reduceSub, Nat.reduceAdd, Nat.reduceLeDiff, Nat.reduceBEq, Nat.reduceLT, Nat.reduceMul, Int.reduceBEq, Int.reduceLT, Int.reduceLE, reduceIte, reduceCtorEq]))
  refine Lp_ind (X := Nat) (fun i ll hs => ∃ (v : V) (T0 T : List O) (rs : List (List V)), Hd (fun j => [.ag (NPrg.row ⟨en, nd⟩), .p 0 0, .p 1 0, .p 2 0, .i .i64 (i : Int), j 5, j 6, j 7, j 8, j 9, j 10, j 11, j 12, j 13, j 14, j 15, j 16, j 17, j 18, j 19, j 20, j 21, j 22, j 23, j 24, j 25, j 26, j 27, j 28, j 29, j 30, j 31, j 32, j 33, j 34, j 35, j 36, j 37, j 38, j 39, j 40, j 41, j 42, j 43, j 44, j 45, j 46, j 47, j 48, j 49, j 50, j 51, j 52, j 53, j 54, j 55, j 56, j 57, j 58, j 59, j 60, j 61, j 62, j 63, j 64, j 65, j 66, j 67]) ll ∧ hs = .c false (NPrg.row ⟨en, nd⟩) :: .c false [.ns, .ns] :: .c false [.ts (en.map Enm.row), v] :: T ∧
      GT 3 8 i v T0 T rs.flatten ∧ rs.length = i ∧ (∀ r, r ∈ rs → r.length = 8) ∧ Sll (hpL (.no :: .no :: .no :: T0)) (fun _ => True) rs ((nd.take i).map fun n => (backNode n).row))
    (fun i => i ≤ nd.length) (fun i => nd.length - i) ?_ 0 _ _ (by exact ⟨.ns, [], [], [], rfl, rfl, .inl ⟨rfl, rfl, rfl, rfl⟩, rfl, by simp, trivial⟩) (Nat.zero_le _)
  rintro i _ _ ⟨v, T0, T, rs, e, rfl, hGT, hrl, hrw, hse⟩ hi IH
  obtain ⟨j, rfl⟩ := e.open
  clear e
  by_cases hlt : i < nd.length
  · obtain ⟨n, hx, hxm⟩ := ats hlt
    have hr := mg (f := NNode.row) hx
    have hd := ltd hlt
    have hw := wrap_big (n := i) (by omega)
    have hnok := hnn n hxm
    have hvl := NNode.vars_len hnok
    obtain ⟨o1, o2, o3, o4, o5⟩ := hnok
    have hcv := rvars_pc n.nm (n.eqs.map NEqn.row) n.ins n.outs n.locals (by unfold NNode.vars at hvl; simp at hvl; omega)
    rw [show n.ins ++ n.outs ++ n.locals = n.vars from rfl] at hcv
    have e1 : (n.row.drop 0).take 1 = [.s n.nm.1 n.nm.2] := rfl
    have el := o4
    unfold Lst.ok at el
    repeat' (first
      | ((with_reducible refine k_cons ?rdq ?_); (case rdq => refine rck_mk rfl ?_ ?_ <;> simp only [Option.isSome_some, qt_n, qt_r, List.length_map, hd, hr, NPrg.row, NNode.row, decls_cl, neqns_cl, Nat.add_assoc, SXR, noA, isAl, kA, udf, AOp.dst, Nat.beq, putAt, bldE, evIo, isNil, Nat.ble, Int.reduceAdd, Int.reduceSub, Int.reduceNeg, Int.reduceBNe, Nat.reduceEqDiff, Nat.reduceSub, Nat.reduceAdd, Nat.reduceLeDiff, Nat.reduceBEq, Nat.reduceLT, Nat.reduceMul, Int.reduceBEq, Int.reduceLT, Int.reduceLE, reduceIte, reduceCtorEq]))
      | (with_reducible refine pcl_intro (hcv) (by simp only [SXR, qt_n, qt_r, List.length_map, hd, hr, NPrg.row, NNode.row, decls_cl, neqns_cl, Nat.add_assoc]) (by simp only [SXR, qt_n, qt_r, List.length_map, hd, hr, NPrg.row, NNode.row, decls_cl, neqns_cl, Nat.add_assoc]) ?_)
      | (simp only [c8, qt_n, qt_r, List.length_map, hd, hr, NPrg.row, NNode.row, decls_cl, neqns_cl, Nat.add_assoc, SXR, noA, isAl, kA, udf, AOp.dst, Nat.beq, putAt, bldE, evIo, isNil, Nat.ble, Int.reduceAdd, Int.reduceSub, Int.reduceNeg, Int.reduceBNe, Nat.reduceEqDiff, Nat.reduceSub, Nat.reduceAdd, Nat.reduceLeDiff, Nat.reduceBEq, Nat.reduceLT, Nat.reduceMul, Int.reduceBEq, Int.reduceLT, Int.reduceLE, reduceIte, reduceCtorEq]))
    obtain ⟨us, hus⟩ : ∃ us, us = (.c false (NPrg.row ⟨en, nd⟩) :: .c false [.ns, .ns] :: .c false [.ts (en.map Enm.row), v] :: T : List O) := ⟨_, rfl⟩
    have husl : us.length = T.length + 3 := by rw [hus]; rfl
    refine Lp_ind (X := Nat) (fun k ll hs => ∃ (v' : V) (I0 I : List O), Hd (fun j => [.ag (NPrg.row ⟨en, nd⟩), .p 0 0, .p 1 0, .p 2 0, .i .i64 (i : Int), .p us.length 0, .p (us.length + 1) 0, .ts (n.vars.map Decl.row), .i .i64 (k : Int), j 9, j 10, j 11, j 12, j 13, j 14, j 15, j 16, j 17, j 18, j 19, j 20, j 21, j 22, j 23, j 24, j 25, j 26, j 27, j 28, j 29, j 30, j 31, j 32, j 33, j 34, j 35, j 36, j 37, j 38, j 39, j 40, j 41, j 42, j 43, j 44, j 45, j 46, j 47, j 48, j 49, j 50, j 51, j 52, j 53, j 54, j 55, j 56, j 57, j 58, j 59, j 60, j 61, j 62, j 63, j 64, j 65, j 66, j 67]) ll ∧ hs = us ++ .c false n.row :: .c false [.s n.nm.1 n.nm.2, .ts (n.ins.map Decl.row), .ts (n.outs.map Decl.row), .ts (n.locals.map Decl.row), v', .ns, .ns, .ns] :: I ∧
        GT (us.length + 2) 7 k v' I0 I (cells (fun q => (backEq n.vars q).row) n.eqs k))
      (fun k => k ≤ n.eqs.length) (fun k => n.eqs.length - k) ?_ 0 _ _ (by exact ⟨.ns, [], [], by rw [husl]; rfl, by rw [hus]; rfl, .inl ⟨rfl, rfl, rfl, rfl⟩⟩) (Nat.zero_le _)
    rintro k _ _ ⟨v', I0, I, e, rfl, hIT⟩ hk IK
    obtain ⟨j, rfl⟩ := e.open
    clear e
    by_cases hkl : k < n.eqs.length
    · clear IH
      obtain ⟨q, hq, hqm⟩ := ats hkl
      have hqr := mg (f := NEqn.row) hq
      have hd := ltd hkl
      have hw := wrap_big (n := k) (by omega)
      have hqok := o5 q hqm
      have hc2 := rright_pc n.vars hvl q hqok
      have hroom := room_ok (n := k + 1) (b := 96) (by omega) (by omega)
      obtain ⟨I1, _, hI1, hap, hgt⟩ := hIT.app (by omega) (eqn_len (backEq n.vars q)) hroom
      have hcs : cells (fun q => (backEq n.vars q).row) n.eqs k ++ (backEq n.vars q).row = cells (fun q => (backEq n.vars q).row) n.eqs (k + 1) := cells_succ (f := fun q => (backEq n.vars q).row) hq
      have hap' : ∀ (b : O) (rb k' : Nat), rb + k' = us.length + (I.length + 3) → appB rb (us ++ .c false n.row :: .c false [.s n.nm.1 n.nm.2, .ts (n.ins.map Decl.row), .ts (n.outs.map Decl.row), .ts (n.locals.map Decl.row), v', .ns, .ns, .ns] :: (I ++ [b, .no])) k' v' (some (.ts (q.left.map srow) :: (backE n.vars q).row)) (some 1) 7 96
          = some (.sl (us.length + (I.length + 3)) 0 7 (k + 1) none, us ++ .c false n.row :: .c false [.s n.nm.1 n.nm.2, .ts (n.ins.map Decl.row), .ts (n.outs.map Decl.row), .ts (n.locals.map Decl.row), v', .ns, .ns, .ns] :: (I1 ++ [b, .c true (cells (fun q => (backEq n.vars q).row) n.eqs (k + 1))])) := by
        intro b rb k' h
        have := hap (us ++ [.c false n.row, .c false [.s n.nm.1 n.nm.2, .ts (n.ins.map Decl.row), .ts (n.outs.map Decl.row), .ts (n.locals.map Decl.row), v', .ns, .ns, .ns]]) [b] rb k' (by simp) (by rw [h]; simp; omega)
        rw [show us.length + 2 + (I.length + [b].length) = us.length + (I.length + 3) by simp; omega] at this
        rw [hcs] at this
        simp only [List.append_assoc, List.cons_append, List.nil_append] at this
        exact this
      have hgt' : ∀ b, GT (us.length + 2) 7 (k + 1) (.sl (us.length + (I.length + 3)) 0 7 (k + 1) none) (I1 ++ [b]) (I1 ++ [b, .c true (cells (fun q => (backEq n.vars q).row) n.eqs (k + 1))]) (cells (fun q => (backEq n.vars q).row) n.eqs (k + 1)) := by
        intro b
        have := hgt [b]
        rw [hcs, show us.length + 2 + (I.length + [b].length) = us.length + (I.length + 3) by simp; omega] at this
        exact this
      repeat' (first
        | ((with_reducible refine k_cons ?rdq ?_); (case rdq => refine rck_mk rfl ?_ ?_ <;> simp only [Option.isSome_some, qt_n, qt_r, List.length_map, hd, hw, nnode_len, nn4, hqr, neqn_len, neqn_take, neqn_left, put13, put_row1, decls_cl, hap', row_len, row_take, row_cl, neqn_cl, srows_cl, Nat.add_assoc, SXR, noA, isAl, kA, udf, AOp.dst, Nat.beq, putAt, bldE, evIo, isNil, Nat.ble, Int.reduceAdd, Int.reduceSub, Int.reduceNeg, Int.reduceBNe, Nat.reduceEqDiff, Nat.reduceSub, Nat.reduceAdd, Nat.reduceLeDiff, Nat.reduceBEq, Nat.reduceLT, Nat.reduceMul, Int.reduceBEq, Int.reduceLT, Int.reduceLE, reduceIte, reduceCtorEq]))
        | (with_reducible refine pcl_intro (hc2) (by simp only [SXR, qt_n, qt_r, List.length_map, hd, hw, nnode_len, nn4, hqr, neqn_len, neqn_take, neqn_left, put13, put_row1, decls_cl, hap', row_len, row_take, row_cl, neqn_cl, srows_cl, Nat.add_assoc]) (by simp only [SXR, qt_n, qt_r, List.length_map, hd, hw, nnode_len, nn4, hqr, neqn_len, neqn_take, neqn_left, put13, put_row1, decls_cl, hap', row_len, row_take, row_cl, neqn_cl, srows_cl, Nat.add_assoc]) ?_)
        | (simp only [c8, qt_n, qt_r, List.length_map, hd, hw, nnode_len, nn4, hqr, neqn_len, neqn_take, neqn_left, put13, put_row1, decls_cl, hap', row_len, row_take, row_cl, neqn_cl, srows_cl, Nat.add_assoc, SXR, noA, isAl, kA, udf, AOp.dst, Nat.beq, putAt, bldE, evIo, isNil, Nat.ble, Int.reduceAdd, Int.reduceSub, Int.reduceNeg, Int.reduceBNe, Nat.reduceEqDiff, Nat.reduceSub, Nat.reduceAdd, Nat.reduceLeDiff, Nat.reduceBEq, Nat.reduceLT, Nat.reduceMul, Int.reduceBEq, Int.reduceLT, Int.reduceLE, reduceIte, reduceCtorEq]))
      exact IK (k + 1) _ _ (by exact ⟨_, _, _, rfl, rfl, hgt' _⟩) hkl (by omega)
    · clear IK
      have hd := ltn hkl
      have hke : k = n.eqs.length := by omega
      subst hke
      have hvw : (.s n.nm.1 n.nm.2 :: .ts (n.ins.map Decl.row) :: .ts (n.outs.map Decl.row) :: .ts (n.locals.map Decl.row) :: v' :: .ns :: .ns :: .ns :: [] : List V).length = 8 := rfl
      have hroom := room_ok (n := i + 1) (b := 184) (by omega) (by omega)
      obtain ⟨T1, hT1, hT1l, hap, hgt⟩ := hGT.app (by omega) hvw hroom
      have hap' : ∀ (b : O) (rb k' : Nat), rb + k' = T.length + (I.length + 6) → appB rb (.c false (NPrg.row ⟨en, nd⟩) :: .c false [.ns, .ns] :: .c false [.ts (en.map Enm.row), v] :: (T ++ .c false n.row :: .c false [.s n.nm.1 n.nm.2, .ts (n.ins.map Decl.row), .ts (n.outs.map Decl.row), .ts (n.locals.map Decl.row), v', .ns, .ns, .ns] :: (I ++ [b, .no]))) k' v (some [.s n.nm.1 n.nm.2, .ts (n.ins.map Decl.row), .ts (n.outs.map Decl.row), .ts (n.locals.map Decl.row), v', .ns, .ns, .ns]) (some 1) 8 184
          = some (.sl (T.length + (I.length + 6)) 0 8 (i + 1) none, .c false (NPrg.row ⟨en, nd⟩) :: .c false [.ns, .ns] :: .c false [.ts (en.map Enm.row), v] :: (T1 ++ .c false n.row :: .c false [.s n.nm.1 n.nm.2, .ts (n.ins.map Decl.row), .ts (n.outs.map Decl.row), .ts (n.locals.map Decl.row), v', .ns, .ns, .ns] :: (I ++ [b, .c true (rs.flatten ++ [.s n.nm.1 n.nm.2, .ts (n.ins.map Decl.row), .ts (n.outs.map Decl.row), .ts (n.locals.map Decl.row), v', .ns, .ns, .ns])]))) := by
        intro b rb k' h
        have := hap [.c false (NPrg.row ⟨en, nd⟩), .c false [.ns, .ns], .c false [.ts (en.map Enm.row), v]] (.c false n.row :: .c false [.s n.nm.1 n.nm.2, .ts (n.ins.map Decl.row), .ts (n.outs.map Decl.row), .ts (n.locals.map Decl.row), v', .ns, .ns, .ns] :: (I ++ [b])) rb k' rfl (by rw [h]; simp; omega)
        rw [show ∀ (x y : O), 3 + (T.length + (x :: y :: (I ++ [b])).length) = T.length + (I.length + 6) by intro x y; simp; omega] at this
        simp only [List.append_assoc, List.cons_append, List.nil_append] at this
        exact this
      subst hus
      repeat' (first
        | ((with_reducible refine k_cons ?rdq ?_); (case rdq => refine rck_mk rfl ?_ ?_ <;> simp only [Option.isSome_some, qt_n, qt_r, nnode_len, nn4, List.length_map, hd, hw, hap', hset_in, hp_in, Nat.add_assoc, SXR, noA, isAl, kA, udf, AOp.dst, Nat.beq, putAt, bldE, evIo, isNil, Nat.ble, Int.reduceAdd, Int.reduceSub, Int.reduceNeg, Int.reduceBNe, Nat.reduceEqDiff, Nat.reduceSub, Nat.reduceAdd, Nat.reduceLeDiff, Nat.reduceBEq, Nat.reduceLT, Nat.reduceMul, Int.reduceBEq, Int.reduceLT, Int.reduceLE, reduceIte, reduceCtorEq]))
        | (simp only [c8, qt_n, qt_r, nnode_len, nn4, List.length_map, hd, hw, hap', hset_in, hp_in, Nat.add_assoc, SXR, noA, isAl, kA, udf, AOp.dst, Nat.beq, putAt, bldE, evIo, isNil, Nat.ble, Int.reduceAdd, Int.reduceSub, Int.reduceNeg, Int.reduceBNe, Nat.reduceEqDiff, Nat.reduceSub, Nat.reduceAdd, Nat.reduceLeDiff, Nat.reduceBEq, Nat.reduceLT, Nat.reduceMul, Int.reduceBEq, Int.reduceLT, Int.reduceLE, reduceIte, reduceCtorEq]))
      refine IH (i + 1) _ _ ?_ hlt (by omega)
      obtain ⟨t, hT1⟩ := hT1
      refine ⟨_, T1 ++ (.c false n.row :: .c false [.s n.nm.1 n.nm.2, .ts (n.ins.map Decl.row), .ts (n.outs.map Decl.row), .ts (n.locals.map Decl.row), v', .ns, .ns, .ns] :: (I ++ [.c false [.s n.nm.1 n.nm.2, .ts (n.ins.map Decl.row), .ts (n.outs.map Decl.row), .ts (n.locals.map Decl.row), v', .ns, .ns, .ns]])), _, rs ++ [[.s n.nm.1 n.nm.2, .ts (n.ins.map Decl.row), .ts (n.outs.map Decl.row), .ts (n.locals.map Decl.row), v', .ns, .ns, .ns]], by exact rfl, rfl, ?_, by simp [hrl], ?_, ?_⟩
      · have := hgt (.c false n.row :: .c false [.s n.nm.1 n.nm.2, .ts (n.ins.map Decl.row), .ts (n.outs.map Decl.row), .ts (n.locals.map Decl.row), v', .ns, .ns, .ns] :: (I ++ [.c false [.s n.nm.1 n.nm.2, .ts (n.ins.map Decl.row), .ts (n.outs.map Decl.row), .ts (n.locals.map Decl.row), v', .ns, .ns, .ns]]))
        rw [show ∀ (x y z : O), 3 + (T.length + (x :: y :: (I ++ [z])).length) = T.length + (I.length + 6) by intro x y z; simp; omega] at this
        rw [List.flatten_append, List.flatten_singleton]
        simp only [List.append_assoc, List.cons_append, List.nil_append] at this ⊢
        exact this
      · intro r hr
        rcases List.mem_append.1 hr with h | h
        · exact hrw r h
        · simp at h; subst h; rfl
      · rw [take_succ_map hx]
        refine Sll.app (se_node ?_) (Sll.mono (fun a gr cs h => ?_) (fun _ h => h) hse)
        · rw [List.map_map]
          rcases hIT with ⟨h0, rfl, _, _⟩ | ⟨_, rfl, rfl, _⟩
          · rw [List.length_eq_zero_iff.1 h0]; exact .nil
          · refine Se.flat' (hp_tail hT1l) ?_ (by simp) trivial (fun r hr => ?_)
            · exact cells_all
            · obtain ⟨q, _, rfl⟩ := List.mem_map.1 hr
              exact eqn_len _
        · rw [hT1, List.append_assoc]
          exact hpL_three (by simp) (by simp) (by simp) h
  · have hd := ltn hlt
    clear IH
    have hie : i = nd.length := by omega
    subst hie
    repeat' (first
      | ((with_reducible refine k_cons ?rdq ?_); (case rdq => refine rck_mk rfl ?_ ?_ <;> simp only [Option.isSome_some, qt_n, qt_r, NPrg.row, NNode.row, List.length_map, hd, SXR, noA, isAl, kA, udf, AOp.dst, Nat.beq, putAt, bldE, evIo, isNil, Nat.ble, Int.reduceAdd, Int.reduceSub, Int.reduceNeg, Int.reduceBNe, Nat.reduceEqDiff, Nat.reduceSub, Nat.reduceAdd, Nat.reduceLeDiff, Nat.reduceBEq, Nat.reduceLT, Nat.reduceMul, Int.reduceBEq, Int.reduceLT, Int.reduceLE, reduceIte, reduceCtorEq]))
      | (simp only [c8, qt_n, qt_r, NPrg.row, NNode.row, List.length_map, hd, SXR, noA, isAl, kA, udf, AOp.dst, Nat.beq, putAt, bldE, evIo, isNil, Nat.ble, Int.reduceAdd, Int.reduceSub, Int.reduceNeg, Int.reduceBNe, Nat.reduceEqDiff, Nat.reduceSub, Nat.reduceAdd, Nat.reduceLeDiff, Nat.reduceBEq, Nat.reduceLT, Nat.reduceMul, Int.reduceBEq, Int.reduceLT, Int.reduceLE, reduceIte, reduceCtorEq]))
    rw [List.take_length] at hse
    refine Sl.ag ⟨.same _, ?_, trivial⟩
    show Se _ _ v (.ts ((nd.map backNode).map PNode.row))
    rw [List.map_map]
    rcases hGT with ⟨h0, rfl, _, _⟩ | ⟨_, rfl, rfl, _⟩
    · rw [List.length_eq_zero_iff.1 h0]; exact .nil
    · refine Se.rowsL (rs := rs) (cs := rs.flatten) (gr := true) ?_ rfl hrl trivial hrw (fun r hr => ?_) (Sll.mono (fun a gr cs h => hpL_three (by simp) (by simp) (by simp) h) (fun _ h => h) hse)
      · rw [Nat.add_comm 3]
        exact hp_ap0 (l := T0) (xs := []) (x := .c true rs.flatten)
      · obtain ⟨q, _, rfl⟩ := List.mem_map.1 hr
        rfl
theorem cst_ok (t v : Int) : (cst t v).ok := by simp [cst, Ex.ok, Ex.oks, Lst.ok]
theorem vrb_ok (s : Str) : (vrb s).ok := by simp [vrb, Ex.ok, Ex.oks, Lst.ok]
theorem oks_app : ∀ {a b : List Ex}, Ex.oks a → Ex.oks b → Ex.oks (a ++ b)
  | [], b, _, h => h
  | e :: a, b, h, h' => by simp only [List.cons_append, Ex.oks] at h ⊢; exact ⟨h.1, oks_app h.2 h'⟩
theorem backE_ok (vars : List Decl) (q : NEqn) (hq : q.ok) : (backE vars q).ok := by
  obtain ⟨h1, h2, h3, h4, h5, h6⟩ := hq
  unfold backE
  split
  · simp only [Ex.ok, Ex.oks, Lst.ok, and_true]
    exact ⟨by simp, cst_ok _ _, h2⟩
  split
  · simp only [Ex.ok, Lst.ok]
    split
    · rw [List.append_nil]; exact ⟨h3, h4⟩
    · refine ⟨by simp; omega, oks_app h4 ?_⟩
      simp only [Ex.oks, and_true]; exact vrb_ok _
  split
  · simp [Ex.ok, Ex.oks, Lst.ok]
  · exact h2
theorem backP_ok (p : NPrg) (hp : p.ok) : (backP p).ok := by
  obtain ⟨h1, h2, h3⟩ := hp
  refine ⟨h1, ?_, ?_⟩
  · show Lst.ok (p.nodes.map backNode)
    unfold Lst.ok at *; simpa using h2
  · intro n hn
    obtain ⟨m, hm, rfl⟩ := List.mem_map.1 hn
    obtain ⟨k1, k2, k3, k4, k5⟩ := h3 m hm
    refine ⟨k1, k2, k3, ?_, ?_⟩
    · show Lst.ok (m.eqs.map _)
      unfold Lst.ok at *; simpa using k4
    · intro q hq
      obtain ⟨r, hr, rfl⟩ := List.mem_map.1 hq
      exact ⟨(k5 r hr).1, backE_ok _ r (k5 r hr)⟩
def wArg (e : Ex) (k : Int) : Int := IntKind.i64.wrap (k + w6 e 1500)
def wEq (q : NEqn) (k : Int) : Int := IntKind.i64.wrap (k + IntKind.i64.wrap (IntKind.i64.wrap (IntKind.i64.wrap (1 + (q.ck.length : Int)) + (q.left.length : Int)) + w6 q.right 1500))
def lEqs (K : Int → Bool) : List NEqn → Int → Bool
  | [], k => K k
  | q :: l, k => if wl wArg 1500 q.args (wEq q k) ≥ 1500 then true else lEqs K l (wl wArg 1500 q.args (wEq q k))
def lNodes : List NNode → Int → Bool
  | [], _ => false
  | n :: l, k => lEqs (lNodes l) n.eqs k
def largeB (p : NPrg) : Bool := if (p.nodes.length : Int) > 100 then true else if w10 (backP p) 1500 ≥ 1500 then true else lNodes p.nodes 0
theorem neqn_ck (q : NEqn) : (q.row.drop 12).take 1 = [.ts (q.ck.map On.row)] := by obtain ⟨_, _, ⟨_, _, _, _, _, _, _⟩, _, _, _, _, _⟩ := q; rfl
theorem neqn_right (q : NEqn) : (q.row.drop 2).take 6 = q.right.row := by obtain ⟨_, _, ⟨_, _, _, _, _, _, _⟩, _, _, _, _, _⟩ := q; rfl
theorem neqn_args (q : NEqn) : (q.row.drop 10).take 1 = [.ts (Ex.rows q.args)] := by obtain ⟨_, _, ⟨_, _, _, _, _, _, _⟩, _, _, _, _, _⟩ := q; rfl
theorem prg_row_cl (p : Prg) : clL p.row = true := prg_cl p
set_option maxHeartbeats 1000000 in
theorem large_pc (p : NPrg) (hok : p.ok) : PC Tryz.prog 4 [.ag p.row] (.b (largeB p)) := by
  have hrb := rback_pc p hok
  have hhv := heavy_pc (backP p) (backP_ok p hok)
  obtain ⟨en, nd⟩ := p
  have hpcl : clL (backP ⟨en, nd⟩).row = true := prg_cl _
  generalize hbr : (backP ⟨en, nd⟩).row = br at hrb hhv hpcl
  generalize hw10 : w10 (backP ⟨en, nd⟩) 1500 = wv at hhv
  obtain ⟨_, hnd, hnn⟩ := hok
  simp only at hnd hnn
  unfold Lst.ok at hnd
  unfold largeB
  simp only [hw10]
  simp only [NPrg.row] at hrb
  by_cases h100 : (nd.length : Int) > 100
  · have hd100 : decide ((nd.length : Int) > 100) = true := by simpa using h100
    rw [if_pos h100]
    refine pc_of Tryz.func4 k4 rfl ?_
    repeat' (first
      | ((with_reducible refine k_cons ?rdq ?_); (case rdq => refine rck_mk rfl ?_ ?_ <;> simp only [Option.isSome_some, NPrg.row, List.length_map, hd100, SXR, noA, isAl, kA, udf, AOp.dst, Nat.beq, putAt, bldE, evIo, isNil, Nat.ble, Int.reduceAdd, Int.reduceSub, Int.reduceNeg, Int.reduceBNe, Nat.reduceEqDiff, Nat.reduceSub, Nat.reduceAdd, Nat.reduceLeDiff, Nat.reduceBEq, Nat.reduceLT, Nat.reduceMul, Int.reduceBEq, Int.reduceLT, Int.reduceLE, reduceIte, reduceCtorEq]))
      | (simp only [c4, NPrg.row, List.length_map, hd100, SXR, noA, isAl, kA, udf, AOp.dst, Nat.beq, putAt, bldE, evIo, isNil, Nat.ble, Int.reduceAdd, Int.reduceSub, Int.reduceNeg, Int.reduceBNe, Nat.reduceEqDiff, Nat.reduceSub, Nat.reduceAdd, Nat.reduceLeDiff, Nat.reduceBEq, Nat.reduceLT, Nat.reduceMul, Int.reduceBEq, Int.reduceLT, Int.reduceLE, reduceIte, reduceCtorEq]))
  have hd100 : decide ((nd.length : Int) > 100) = false := by simpa using h100
  rw [if_neg h100]
  by_cases hhe : wv ≥ 1500
  · have hdh : decide (wv ≥ 1500) = true := by simpa using hhe
    rw [if_pos hhe]
    refine pc_of Tryz.func4 k4 rfl ?_
    repeat' (first
      | ((with_reducible refine k_cons ?rdq ?_); (case rdq => refine rck_mk rfl ?_ ?_ <;> simp only [Option.isSome_some, NPrg.row, List.length_map, hd100, hdh, enms_cl, nnodes_cl, hpcl, SXR, noA, isAl, kA, udf, AOp.dst, Nat.beq, putAt, bldE, evIo, isNil, Nat.ble, Int.reduceAdd, Int.reduceSub, Int.reduceNeg, Int.reduceBNe, Nat.reduceEqDiff, Nat.reduceSub, Nat.reduceAdd, Nat.reduceLeDiff, Nat.reduceBEq, Nat.reduceLT, Nat.reduceMul, Int.reduceBEq, Int.reduceLT, Int.reduceLE, reduceIte, reduceCtorEq]))
      | (with_reducible refine pcl_intro (hrb) (by simp only [SXR, NPrg.row, List.length_map, hd100, hdh, enms_cl, nnodes_cl, hpcl]) (by simp only [SXR, NPrg.row, List.length_map, hd100, hdh, enms_cl, nnodes_cl, hpcl]) ?_)
      | (with_reducible refine pcl_intro (hhv) (by simp only [SXR, NPrg.row, List.length_map, hd100, hdh, enms_cl, nnodes_cl, hpcl]) (by simp only [SXR, NPrg.row, List.length_map, hd100, hdh, enms_cl, nnodes_cl, hpcl]) ?_)
      | (simp only [c4, NPrg.row, List.length_map, hd100, hdh, enms_cl, nnodes_cl, hpcl, SXR, noA, isAl, kA, udf, AOp.dst, Nat.beq, putAt, bldE, evIo, isNil, Nat.ble, Int.reduceAdd, Int.reduceSub, Int.reduceNeg, Int.reduceBNe, Nat.reduceEqDiff, Nat.reduceSub, Nat.reduceAdd, Nat.reduceLeDiff, Nat.reduceBEq, Nat.reduceLT, Nat.reduceMul, Int.reduceBEq, Int.reduceLT, Int.reduceLE, reduceIte, reduceCtorEq]))
  have hdh : decide (wv ≥ 1500) = false := by simpa using hhe
  rw [if_neg hhe]
  refine pc_of Tryz.func4 k4 rfl ?_
  repeat' (first
    | ((with_reducible refine k_cons ?rdq ?_); (case rdq => refine rck_mk rfl ?_ ?_ <;> simp only [Option.isSome_some, NPrg.row, List.length_map, hd100, hdh, enms_cl, nnodes_cl, hpcl, SXR, noA, isAl, kA, udf, AOp.dst, Nat.beq, putAt, bldE, evIo, isNil, Nat.ble, Int.reduceAdd, Int.reduceSub, Int.reduceNeg, Int.reduceBNe, Nat.reduceEqDiff, Nat.reduceSub, Nat.reduceAdd, Nat.reduceLeDiff, Nat.reduceBEq, Nat.reduceLT, Nat.reduceMul, Int.reduceBEq, Int.reduceLT, Int.reduceLE, reduceIte, reduceCtorEq]))
    | (with_reducible refine pcl_intro (hrb) (by simp only [SXR, NPrg.row, List.length_map, hd100, hdh, enms_cl, nnodes_cl, hpcl]) (by simp only [SXR, NPrg.row, List.length_map, hd100, hdh, enms_cl, nnodes_cl, hpcl]) ?_)
    | (with_reducible refine pcl_intro (hhv) (by simp only [SXR, NPrg.row, List.length_map, hd100, hdh, enms_cl, nnodes_cl, hpcl]) (by simp only [SXR, NPrg.row, List.length_map, hd100, hdh, enms_cl, nnodes_cl, hpcl]) ?_)
    | (simp only [c4, NPrg.row, List.length_map, hd100, hdh, enms_cl, nnodes_cl, hpcl, SXR, noA, isAl, kA, udf, AOp.dst, Nat.beq, putAt, bldE, evIo, isNil, Nat.ble, Int.reduceAdd, Int.reduceSub, Int.reduceNeg, Int.reduceBNe, Nat.reduceEqDiff, Nat.reduceSub, Nat.reduceAdd, Nat.reduceLeDiff, Nat.reduceBEq, Nat.reduceLT, Nat.reduceMul, Int.reduceBEq, Int.reduceLT, Int.reduceLE, reduceIte, reduceCtorEq]))
  refine Lp_ind (X := Nat × Int) (fun x ll hs => ∃ js : List O, Hd (fun j => [.ag (NPrg.row ⟨en, nd⟩), .p 0 0, .b false, .i .i64 x.2, .i .i64 (x.1 : Int), j 5, j 6, j 7, j 8, j 9, j 10, j 11, j 12, j 13, j 14, j 15, j 16, j 17, j 18, j 19, j 20, j 21, j 22, j 23, j 24, j 25, j 26, j 27, j 28, j 29, j 30, j 31, j 32, j 33, j 34, j 35, j 36, j 37, j 38, j 39, j 40, j 41, j 42, j 43, j 44, j 45, j 46, j 47, j 48, j 49, j 50, j 51, j 52, j 53, j 54, j 55, j 56, j 57, j 58, j 59, j 60, j 61, j 62, j 63, j 64, j 65, j 66, j 67, j 68, j 69, j 70, j 71, j 72, j 73, j 74, j 75, j 76, j 77, j 78]) ll ∧ hs = .c false (NPrg.row ⟨en, nd⟩) :: js)
    (fun x => x.1 ≤ nd.length ∧ lNodes nd 0 = lNodes (nd.drop x.1) x.2) (fun x => nd.length - x.1) ?_ (0, 0) _ _ (by exact ⟨[], rfl, rfl⟩) ⟨Nat.zero_le _, rfl⟩
  rintro ⟨i, k⟩ _ _ ⟨js, e, rfl⟩ ⟨hi, hln⟩ IH
  obtain ⟨j, rfl⟩ := e.open
  clear e
  simp only at hi hln IH
  by_cases hlt : i < nd.length
  · obtain ⟨n, hx, hxm⟩ := ats hlt
    have hr := mg (f := NNode.row) hx
    have hd := ltd hlt
    have hw := wrap_big (n := i) (by omega)
    obtain ⟨_, _, _, o4, o5⟩ := hnn n hxm
    unfold Lst.ok at o4
    rw [drop_at hx] at hln
    simp only [lNodes] at hln
    repeat' (first
      | ((with_reducible refine k_cons ?rdq ?_); (case rdq => refine rck_mk rfl ?_ ?_ <;> simp only [Option.isSome_some, NPrg.row, List.length_map, hd, SXR, noA, isAl, kA, udf, AOp.dst, Nat.beq, putAt, bldE, evIo, isNil, Nat.ble, Int.reduceAdd, Int.reduceSub, Int.reduceNeg, Int.reduceBNe, Nat.reduceEqDiff, Nat.reduceSub, Nat.reduceAdd, Nat.reduceLeDiff, Nat.reduceBEq, Nat.reduceLT, Nat.reduceMul, Int.reduceBEq, Int.reduceLT, Int.reduceLE, reduceIte, reduceCtorEq]))
      | (simp only [c4, NPrg.row, List.length_map, hd, SXR, noA, isAl, kA, udf, AOp.dst, Nat.beq, putAt, bldE, evIo, isNil, Nat.ble, Int.reduceAdd, Int.reduceSub, Int.reduceNeg, Int.reduceBNe, Nat.reduceEqDiff, Nat.reduceSub, Nat.reduceAdd, Nat.reduceLeDiff, Nat.reduceBEq, Nat.reduceLT, Nat.reduceMul, Int.reduceBEq, Int.reduceLT, Int.reduceLE, reduceIte, reduceCtorEq]))
    refine Lp_ind (X := Nat × Int) (fun x ll hs => ∃ js : List O, Hd (fun j => [.ag (NPrg.row ⟨en, nd⟩), .p 0 0, .b false, .i .i64 x.2, .i .i64 (i : Int), .i .i64 (x.1 : Int), j 6, j 7, j 8, j 9, j 10, j 11, j 12, j 13, j 14, j 15, j 16, j 17, j 18, j 19, j 20, j 21, j 22, j 23, j 24, j 25, j 26, j 27, j 28, j 29, j 30, j 31, j 32, j 33, j 34, j 35, j 36, j 37, j 38, j 39, j 40, j 41, j 42, j 43, j 44, j 45, j 46, j 47, j 48, j 49, j 50, j 51, j 52, j 53, j 54, j 55, j 56, j 57, j 58, j 59, j 60, j 61, j 62, j 63, j 64, j 65, j 66, j 67, j 68, j 69, j 70, j 71, j 72, j 73, j 74, j 75, j 76, j 77, j 78]) ll ∧ hs = .c false (NPrg.row ⟨en, nd⟩) :: js)
      (fun x => x.1 ≤ n.eqs.length ∧ lNodes nd 0 = lEqs (lNodes (nd.drop (i + 1))) (n.eqs.drop x.1) x.2) (fun x => n.eqs.length - x.1) ?_ (0, k) _ _ (by exact ⟨js, rfl, rfl⟩) ⟨Nat.zero_le _, hln⟩
    rintro ⟨m, k⟩ _ _ ⟨js, e, rfl⟩ ⟨hm, hln⟩ IM
    obtain ⟨j, rfl⟩ := e.open
    clear e
    simp only at hm hln IM
    by_cases hml : m < n.eqs.length
    · clear IH
      obtain ⟨q, hq, hqm⟩ := ats hml
      have hqr := mg (f := NEqn.row) hq
      have hdm := ltd hml
      have hwm := wrap_big (n := m) (by omega)
      obtain ⟨k1, k2, k3, k4, k5, _⟩ := o5 q hqm
      unfold Lst.ok at k3
      have hc := weigh6_pc _ q.right 1500 (Nat.le_refl _) k2
      have hf : ∀ a, a ∈ q.args → PC Tryz.prog 10 [xg a, .i .i64 1500] (.i .i64 (w6 a 1500)) := fun a ha => weigh6_pc _ a 1500 (Nat.le_refl _) (oks_mem k4 ha)
      rw [drop_at hq] at hln
      simp only [lEqs] at hln
      generalize hk1 : wEq q k = k1' at hln
      unfold wEq at hk1
      repeat' (first
        | ((with_reducible refine k_cons ?rdq ?_); (case rdq => refine rck_mk rfl ?_ ?_ <;> simp only [Option.isSome_some, NPrg.row, NNode.row, List.length_map, hr, hqr, hdm, neqn_len, neqn_take, neqn_left, neqn_ck, neqn_right, put13, row_cl, hk1, Nat.add_assoc, SXR, noA, isAl, kA, udf, AOp.dst, Nat.beq, putAt, bldE, evIo, isNil, Nat.ble, Int.reduceAdd, Int.reduceSub, Int.reduceNeg, Int.reduceBNe, Nat.reduceEqDiff, Nat.reduceSub, Nat.reduceAdd, Nat.reduceLeDiff, Nat.reduceBEq, Nat.reduceLT, Nat.reduceMul, Int.reduceBEq, Int.reduceLT, Int.reduceLE, reduceIte, reduceCtorEq]))
        | (with_reducible refine pcl_intro (hc) (by simp only [SXR, NPrg.row, NNode.row, List.length_map, hr, hqr, hdm, neqn_len, neqn_take, neqn_left, neqn_ck, neqn_right, put13, row_cl, hk1, Nat.add_assoc]) (by simp only [SXR, NPrg.row, NNode.row, List.length_map, hr, hqr, hdm, neqn_len, neqn_take, neqn_left, neqn_ck, neqn_right, put13, row_cl, hk1, Nat.add_assoc]) ?_)
        | (simp only [c4, NPrg.row, NNode.row, List.length_map, hr, hqr, hdm, neqn_len, neqn_take, neqn_left, neqn_ck, neqn_right, put13, row_cl, hk1, Nat.add_assoc, SXR, noA, isAl, kA, udf, AOp.dst, Nat.beq, putAt, bldE, evIo, isNil, Nat.ble, Int.reduceAdd, Int.reduceSub, Int.reduceNeg, Int.reduceBNe, Nat.reduceEqDiff, Nat.reduceSub, Nat.reduceAdd, Nat.reduceLeDiff, Nat.reduceBEq, Nat.reduceLT, Nat.reduceMul, Int.reduceBEq, Int.reduceLT, Int.reduceLE, reduceIte, reduceCtorEq]))
      refine Lp_ind (X := Nat × Int) (fun x ll hs => Hd (fun j => [.ag (NPrg.row ⟨en, nd⟩), .p 0 0, .b false, .i .i64 x.2, .i .i64 (i : Int), .i .i64 (m : Int), .p (js.length + 1) 0, .i .i64 (x.1 : Int), j 8, j 9, j 10, j 11, j 12, j 13, j 14, j 15, j 16, j 17, j 18, j 19, j 20, j 21, j 22, j 23, j 24, j 25, j 26, j 27, j 28, j 29, j 30, j 31, j 32, j 33, j 34, j 35, j 36, j 37, j 38, j 39, j 40, j 41, j 42, j 43, j 44, j 45, j 46, j 47, j 48, j 49, j 50, j 51, j 52, j 53, j 54, j 55, j 56, j 57, j 58, j 59, j 60, j 61, j 62, j 63, j 64, j 65, j 66, j 67, j 68, j 69, j 70, j 71, j 72, j 73, j 74, j 75, j 76, j 77, j 78]) ll ∧ hs = .c false (NPrg.row ⟨en, nd⟩) :: (js ++ [.c false q.row]))
        (fun x => x.1 ≤ q.args.length ∧ wl wArg 1500 q.args k1' = wl wArg 1500 (q.args.drop x.1) x.2) (fun x => q.args.length - x.1) ?_ (0, k1') _ _ (by exact ⟨rfl, rfl⟩) ⟨Nat.zero_le _, rfl⟩
      rintro ⟨a, b⟩ _ _ ⟨e, rfl⟩ ⟨ha, hwl⟩ IA
      obtain ⟨j, rfl⟩ := e.open
      clear e
      simp only at ha hwl IA
      by_cases hgo : a < q.args.length ∧ b < 1500
      · clear IM
        obtain ⟨hal, hg⟩ := hgo
        obtain ⟨x, hx, hxm⟩ := ats hal
        have hxr : (Ex.rows q.args)[a]? = some x.row := by rw [rows_get, hx]; rfl
        have hda := ltd hal
        have hwa := wrap_big (n := a) (by omega)
        have hgd : decide (b < 1500) = true := by simpa using hg
        have hc := hf x hxm
        rw [drop_at hx] at hwl
        simp only [wl] at hwl
        rw [if_pos hg] at hwl
        repeat' (first
          | ((with_reducible refine k_cons ?rdq ?_); (case rdq => refine rck_mk rfl ?_ ?_ <;> simp only [Option.isSome_some, rows_len, hxr, hda, hwa, hgd, neqn_len, neqn_args, row_len, row_take, row_cl, Nat.add_assoc, SXR, noA, isAl, kA, udf, AOp.dst, Nat.beq, putAt, bldE, evIo, isNil, Nat.ble, Int.reduceAdd, Int.reduceSub, Int.reduceNeg, Int.reduceBNe, Nat.reduceEqDiff, Nat.reduceSub, Nat.reduceAdd, Nat.reduceLeDiff, Nat.reduceBEq, Nat.reduceLT, Nat.reduceMul, Int.reduceBEq, Int.reduceLT, Int.reduceLE, reduceIte, reduceCtorEq]))
          | (with_reducible refine pcl_intro (hc) (by simp only [SXR, rows_len, hxr, hda, hwa, hgd, neqn_len, neqn_args, row_len, row_take, row_cl, Nat.add_assoc]) (by simp only [SXR, rows_len, hxr, hda, hwa, hgd, neqn_len, neqn_args, row_len, row_take, row_cl, Nat.add_assoc]) ?_)
          | (simp only [c4, rows_len, hxr, hda, hwa, hgd, neqn_len, neqn_args, row_len, row_take, row_cl, Nat.add_assoc, SXR, noA, isAl, kA, udf, AOp.dst, Nat.beq, putAt, bldE, evIo, isNil, Nat.ble, Int.reduceAdd, Int.reduceSub, Int.reduceNeg, Int.reduceBNe, Nat.reduceEqDiff, Nat.reduceSub, Nat.reduceAdd, Nat.reduceLeDiff, Nat.reduceBEq, Nat.reduceLT, Nat.reduceMul, Int.reduceBEq, Int.reduceLT, Int.reduceLE, reduceIte, reduceCtorEq]))
        exact IA (a + 1, _) _ _ (by exact ⟨rfl, rfl⟩) ⟨hal, hwl⟩ (by simp only; omega)
      · have hend : wl wArg 1500 (q.args.drop a) b = b := by
          by_cases hal : a < q.args.length
          · obtain ⟨x, hx, hxm⟩ := ats hal
            have hg : ¬ b < 1500 := fun h => hgo ⟨hal, h⟩
            rw [drop_at hx]
            simp only [wl]
            rw [if_neg hg]
          · have : q.args.drop a = [] := List.drop_eq_nil_of_le (by omega)
            rw [this]
            rfl
        rw [hend] at hwl
        rw [hwl] at hln
        have hgb : (decide ((a : Int) < (q.args.length : Int)) = false) ∨ (decide ((a : Int) < (q.args.length : Int)) = true ∧ decide (b < 1500) = false) := by
          by_cases hal : a < q.args.length
          · exact .inr ⟨ltd hal, by have : ¬ b < 1500 := fun h => hgo ⟨hal, h⟩; simpa using this⟩
          · exact .inl (ltn hal)
        clear IA hwl hend hgo
        by_cases hb : b ≥ 1500
        · clear IM
          have hbd : decide (b ≥ 1500) = true := by simpa using hb
          rw [if_pos hb] at hln
          rw [hln]
          rcases hgb with hd0 | ⟨hd0, hgd0⟩
          · skip
            repeat' (first
              | ((with_reducible refine k_cons ?rdq ?_); (case rdq => refine rck_mk rfl ?_ ?_ <;> simp only [Option.isSome_some, rows_len, hd0, hbd, neqn_len, neqn_args, Nat.add_assoc, SXR, noA, isAl, kA, udf, AOp.dst, Nat.beq, putAt, bldE, evIo, isNil, Nat.ble, Int.reduceAdd, Int.reduceSub, Int.reduceNeg, Int.reduceBNe, Nat.reduceEqDiff, Nat.reduceSub, Nat.reduceAdd, Nat.reduceLeDiff, Nat.reduceBEq, Nat.reduceLT, Nat.reduceMul, Int.reduceBEq, Int.reduceLT, Int.reduceLE, reduceIte, reduceCtorEq]))
              | (simp only [c4, rows_len, hd0, hbd, neqn_len, neqn_args, Nat.add_assoc, SXR, noA, isAl, kA, udf, AOp.dst, Nat.beq, putAt, bldE, evIo, isNil, Nat.ble, Int.reduceAdd, Int.reduceSub, Int.reduceNeg, Int.reduceBNe, Nat.reduceEqDiff, Nat.reduceSub, Nat.reduceAdd, Nat.reduceLeDiff, Nat.reduceBEq, Nat.reduceLT, Nat.reduceMul, Int.reduceBEq, Int.reduceLT, Int.reduceLE, reduceIte, reduceCtorEq]))
          · skip
            repeat' (first
              | ((with_reducible refine k_cons ?rdq ?_); (case rdq => refine rck_mk rfl ?_ ?_ <;> simp only [Option.isSome_some, rows_len, hd0, hgd0, hbd, neqn_len, neqn_args, Nat.add_assoc, SXR, noA, isAl, kA, udf, AOp.dst, Nat.beq, putAt, bldE, evIo, isNil, Nat.ble, Int.reduceAdd, Int.reduceSub, Int.reduceNeg, Int.reduceBNe, Nat.reduceEqDiff, Nat.reduceSub, Nat.reduceAdd, Nat.reduceLeDiff, Nat.reduceBEq, Nat.reduceLT, Nat.reduceMul, Int.reduceBEq, Int.reduceLT, Int.reduceLE, reduceIte, reduceCtorEq]))
              | (simp only [c4, rows_len, hd0, hgd0, hbd, neqn_len, neqn_args, Nat.add_assoc, SXR, noA, isAl, kA, udf, AOp.dst, Nat.beq, putAt, bldE, evIo, isNil, Nat.ble, Int.reduceAdd, Int.reduceSub, Int.reduceNeg, Int.reduceBNe, Nat.reduceEqDiff, Nat.reduceSub, Nat.reduceAdd, Nat.reduceLeDiff, Nat.reduceBEq, Nat.reduceLT, Nat.reduceMul, Int.reduceBEq, Int.reduceLT, Int.reduceLE, reduceIte, reduceCtorEq]))
        · have hbd : decide (b ≥ 1500) = false := by simpa using hb
          rw [if_neg hb] at hln
          rcases hgb with hd0 | ⟨hd0, hgd0⟩
          · skip
            repeat' (first
              | ((with_reducible refine k_cons ?rdq ?_); (case rdq => refine rck_mk rfl ?_ ?_ <;> simp only [Option.isSome_some, rows_len, hd0, hbd, hwm, neqn_len, neqn_args, Nat.add_assoc, SXR, noA, isAl, kA, udf, AOp.dst, Nat.beq, putAt, bldE, evIo, isNil, Nat.ble, Int.reduceAdd, Int.reduceSub, Int.reduceNeg, Int.reduceBNe, Nat.reduceEqDiff, Nat.reduceSub, Nat.reduceAdd, Nat.reduceLeDiff, Nat.reduceBEq, Nat.reduceLT, Nat.reduceMul, Int.reduceBEq, Int.reduceLT, Int.reduceLE, reduceIte, reduceCtorEq]))
              | (simp only [c4, rows_len, hd0, hbd, hwm, neqn_len, neqn_args, Nat.add_assoc, SXR, noA, isAl, kA, udf, AOp.dst, Nat.beq, putAt, bldE, evIo, isNil, Nat.ble, Int.reduceAdd, Int.reduceSub, Int.reduceNeg, Int.reduceBNe, Nat.reduceEqDiff, Nat.reduceSub, Nat.reduceAdd, Nat.reduceLeDiff, Nat.reduceBEq, Nat.reduceLT, Nat.reduceMul, Int.reduceBEq, Int.reduceLT, Int.reduceLE, reduceIte, reduceCtorEq]))
            exact IM (m + 1, _) _ _ (by exact ⟨_, rfl, rfl⟩) ⟨hml, hln⟩ (by simp only; omega)
          · exact (by simp only [decide_eq_false_iff_not] at hgd0; omega : False).elim
    · clear IM
      have hdm := ltn hml
      have hdr : n.eqs.drop m = [] := List.drop_eq_nil_of_le (by omega)
      rw [hdr] at hln
      simp only [lEqs] at hln
      repeat' (first
        | ((with_reducible refine k_cons ?rdq ?_); (case rdq => refine rck_mk rfl ?_ ?_ <;> simp only [Option.isSome_some, NPrg.row, NNode.row, List.length_map, hr, hdm, hw, Nat.add_assoc, SXR, noA, isAl, kA, udf, AOp.dst, Nat.beq, putAt, bldE, evIo, isNil, Nat.ble, Int.reduceAdd, Int.reduceSub, Int.reduceNeg, Int.reduceBNe, Nat.reduceEqDiff, Nat.reduceSub, Nat.reduceAdd, Nat.reduceLeDiff, Nat.reduceBEq, Nat.reduceLT, Nat.reduceMul, Int.reduceBEq, Int.reduceLT, Int.reduceLE, reduceIte, reduceCtorEq]))
        | (simp only [c4, NPrg.row, NNode.row, List.length_map, hr, hdm, hw, Nat.add_assoc, SXR, noA, isAl, kA, udf, AOp.dst, Nat.beq, putAt, bldE, evIo, isNil, Nat.ble, Int.reduceAdd, Int.reduceSub, Int.reduceNeg, Int.reduceBNe, Nat.reduceEqDiff, Nat.reduceSub, Nat.reduceAdd, Nat.reduceLeDiff, Nat.reduceBEq, Nat.reduceLT, Nat.reduceMul, Int.reduceBEq, Int.reduceLT, Int.reduceLE, reduceIte, reduceCtorEq]))
      exact IH (i + 1, _) _ _ (by exact ⟨_, rfl, rfl⟩) ⟨hlt, hln⟩ (by simp only; omega)
  · have hd := ltn hlt
    clear IH
    have : nd.drop i = [] := List.drop_eq_nil_of_le (by omega)
    rw [this] at hln
    simp only [lNodes] at hln
    rw [hln]
    repeat' (first
      | ((with_reducible refine k_cons ?rdq ?_); (case rdq => refine rck_mk rfl ?_ ?_ <;> simp only [Option.isSome_some, NPrg.row, List.length_map, hd, SXR, noA, isAl, kA, udf, AOp.dst, Nat.beq, putAt, bldE, evIo, isNil, Nat.ble, Int.reduceAdd, Int.reduceSub, Int.reduceNeg, Int.reduceBNe, Nat.reduceEqDiff, Nat.reduceSub, Nat.reduceAdd, Nat.reduceLeDiff, Nat.reduceBEq, Nat.reduceLT, Nat.reduceMul, Int.reduceBEq, Int.reduceLT, Int.reduceLE, reduceIte, reduceCtorEq]))
      | (simp only [c4, NPrg.row, List.length_map, hd, SXR, noA, isAl, kA, udf, AOp.dst, Nat.beq, putAt, bldE, evIo, isNil, Nat.ble, Int.reduceAdd, Int.reduceSub, Int.reduceNeg, Int.reduceBNe, Nat.reduceEqDiff, Nat.reduceSub, Nat.reduceAdd, Nat.reduceLeDiff, Nat.reduceBEq, Nat.reduceLT, Nat.reduceMul, Int.reduceBEq, Int.reduceLT, Int.reduceLE, reduceIte, reduceCtorEq]))
theorem backs_pc (p : NPrg) (hok : p.ok) (haw : PC Tryz.prog 5 [] (.b true)) : PC Tryz.prog 3 [.ag p.row] (.b true) := by
  have hl := large_pc p hok
  have hn := nback_pc p hok
  have hr := rback_pc p hok
  have hs := r7_refl (backP p) (backP_ok p hok)
  have hcl : clL (backP p).row = true := prg_cl _
  obtain ⟨en, nd⟩ := p
  generalize (backP ⟨en, nd⟩).row = br at hn hr hs hcl
  simp only [NPrg.row] at hl hn hr
  cases hb : largeB ⟨en, nd⟩ with
  | true =>
    rw [hb] at hl
    refine pc_of Tryz.func3 k3 rfl ?_
    repeat' (first
      | ((with_reducible refine k_cons ?rdq ?_); (case rdq => refine rck_mk rfl ?_ ?_ <;> simp only [Option.isSome_some, NPrg.row, enms_cl, nnodes_cl, SXR, noA, isAl, kA, udf, AOp.dst, Nat.beq, putAt, bldE, evIo, isNil, Nat.ble, Int.reduceAdd, Int.reduceSub, Int.reduceNeg, Int.reduceBNe, Nat.reduceEqDiff, Nat.reduceSub, Nat.reduceAdd, Nat.reduceLeDiff, Nat.reduceBEq, Nat.reduceLT, Nat.reduceMul, Int.reduceBEq, Int.reduceLT, Int.reduceLE, reduceIte, reduceCtorEq]))
      | (with_reducible refine pcl_intro (hl) (by simp only [SXR, NPrg.row, enms_cl, nnodes_cl]) (by simp only [SXR, NPrg.row, enms_cl, nnodes_cl]) ?_)
      | (with_reducible refine pcl_intro (haw) (by simp only [SXR, NPrg.row, enms_cl, nnodes_cl]) (by simp only [SXR, NPrg.row, enms_cl, nnodes_cl]) ?_)
      | (simp only [c3, NPrg.row, enms_cl, nnodes_cl, SXR, noA, isAl, kA, udf, AOp.dst, Nat.beq, putAt, bldE, evIo, isNil, Nat.ble, Int.reduceAdd, Int.reduceSub, Int.reduceNeg, Int.reduceBNe, Nat.reduceEqDiff, Nat.reduceSub, Nat.reduceAdd, Nat.reduceLeDiff, Nat.reduceBEq, Nat.reduceLT, Nat.reduceMul, Int.reduceBEq, Int.reduceLT, Int.reduceLE, reduceIte, reduceCtorEq]))
  | false =>
    rw [hb] at hl
    refine pc_of Tryz.func3 k3 rfl ?_
    repeat' (first
      | ((with_reducible refine k_cons ?rdq ?_); (case rdq => refine rck_mk rfl ?_ ?_ <;> simp only [Option.isSome_some, NPrg.row, enms_cl, nnodes_cl, hcl, SXR, noA, isAl, kA, udf, AOp.dst, Nat.beq, putAt, bldE, evIo, isNil, Nat.ble, Int.reduceAdd, Int.reduceSub, Int.reduceNeg, Int.reduceBNe, Nat.reduceEqDiff, Nat.reduceSub, Nat.reduceAdd, Nat.reduceLeDiff, Nat.reduceBEq, Nat.reduceLT, Nat.reduceMul, Int.reduceBEq, Int.reduceLT, Int.reduceLE, reduceIte, reduceCtorEq]))
      | (with_reducible refine pcl_intro (hl) (by simp only [SXR, NPrg.row, enms_cl, nnodes_cl, hcl]) (by simp only [SXR, NPrg.row, enms_cl, nnodes_cl, hcl]) ?_)
      | (with_reducible refine pcl_intro (hn) (by simp only [SXR, NPrg.row, enms_cl, nnodes_cl, hcl]) (by simp only [SXR, NPrg.row, enms_cl, nnodes_cl, hcl]) ?_)
      | (with_reducible refine pcl_intro (hr) (by simp only [SXR, NPrg.row, enms_cl, nnodes_cl, hcl]) (by simp only [SXR, NPrg.row, enms_cl, nnodes_cl, hcl]) ?_)
      | (with_reducible refine pcl_intro (hs) (by simp only [SXR, NPrg.row, enms_cl, nnodes_cl, hcl]) (by simp only [SXR, NPrg.row, enms_cl, nnodes_cl, hcl]) ?_)
      | (with_reducible refine pcl_intro (haw) (by simp only [SXR, NPrg.row, enms_cl, nnodes_cl, hcl]) (by simp only [SXR, NPrg.row, enms_cl, nnodes_cl, hcl]) ?_)
      | (simp only [c3, NPrg.row, enms_cl, nnodes_cl, hcl, SXR, noA, isAl, kA, udf, AOp.dst, Nat.beq, putAt, bldE, evIo, isNil, Nat.ble, Int.reduceAdd, Int.reduceSub, Int.reduceNeg, Int.reduceBNe, Nat.reduceEqDiff, Nat.reduceSub, Nat.reduceAdd, Nat.reduceLeDiff, Nat.reduceBEq, Nat.reduceLT, Nat.reduceMul, Int.reduceBEq, Int.reduceLT, Int.reduceLE, reduceIte, reduceCtorEq]))
end Go.Proofs.YtaopnjogkgldlaaGreatDoor
