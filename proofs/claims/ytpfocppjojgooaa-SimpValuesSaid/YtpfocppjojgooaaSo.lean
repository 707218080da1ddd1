/-
  Contracts of folding in the reference.
-/
import Derived.Test.YtpfocppjojgooaaSn
set_option linter.unusedSimpArgs false
namespace Go.Proofs.Ytpfocppjojgooaa
open Go.Abs
def oWT (l : List (List TV)) : TV := if l = [] then .ns else .ts l
def zT (b : Bool) (l : List (List TV)) : TV := if b then oWT l else .ts l
theorem rd_oW (wd : Nat) (l : List (List TV)) : rdE (.c (oW wd l)) = .c (.t (oWT l)) := by
  unfold oW oWT
  split <;> rfl
theorem st_oWT (l : List (List TV)) : Go.Abs.stored (.c (.t (oWT l))) = some [.t (oWT l)] := by
  unfold oWT
  split <;> rfl
theorem fin_zT (b : Bool) (l : List (List TV)) : nzA (.t (zT b l)) = .t (.ts l) := by
  unfold zT oWT
  split
  · split
    · rename_i h; subst h; rfl
    · rfl
  · rfl
theorem zarg {f : FuncId} {k op t v : Int} {nm : List UInt8} {R : List (List TV)} {r : SV} (b : Bool) (h : PCalls Try.prog f [xg k op t v nm R] r) :
    PCalls Try.prog f [.ag [.i .i64 k, .i .i64 op, .i .i64 t, .i .i64 v, .s nm, zT b R]] r := by
  have hz : LeT0 (zT b R) (.ts R) := by
    unfold zT oWT
    split
    · split
      · rename_i h; subst h; exact .inr ⟨rfl, rfl⟩
      · exact .inl rfl
    · exact .inl rfl
  refine h.args rfl (fun i x y e1 e2 => ?_)
  match i, e1, e2 with
  | 0, e1, e2 =>
    simp at e1 e2; subst e1 e2
    refine .inr ⟨_, _, rfl, rfl, rfl, fun i a b e1 e2 => ?_⟩
    match i, e1, e2 with
    | 0, e1, e2 => simp at e1 e2; subst e1 e2; exact .inl rfl
    | 1, e1, e2 => simp at e1 e2; subst e1 e2; exact .inl rfl
    | 2, e1, e2 => simp at e1 e2; subst e1 e2; exact .inl rfl
    | 3, e1, e2 => simp at e1 e2; subst e1 e2; exact .inl rfl
    | 4, e1, e2 => simp at e1 e2; subst e1 e2; exact .inl rfl
    | 5, e1, e2 => simp at e1 e2; subst e1 e2; exact hz
theorem opt_none {f : FuncId} {x : Ex} {F : Option Ex} (h : PCalls Try.prog f [xg x.k x.op x.t x.v x.nm (Ex.rows x.args)] (.tu [xE (F.getD (.mk x.k x.op x.t x.v x.nm x.args)), eB F.isSome])) (hF : F = none) (b : Bool) :
    PCalls Try.prog f [.ag [.i .i64 x.k, .i .i64 x.op, .i .i64 x.t, .i .i64 x.v, .s x.nm, zT b (Ex.rows x.args)]] (.tu [xE x, eB false]) := by
  rw [hF] at h
  refine zarg b ?_
  cases x; exact h
theorem opt_some {f : FuncId} {x y : Ex} {F : Option Ex} (h : PCalls Try.prog f [xg x.k x.op x.t x.v x.nm (Ex.rows x.args)] (.tu [xE (F.getD (.mk x.k x.op x.t x.v x.nm x.args)), eB F.isSome])) (hF : F = some y) (b : Bool) :
    PCalls Try.prog f [.ag [.i .i64 x.k, .i .i64 x.op, .i .i64 x.t, .i .i64 x.v, .s x.nm, zT b (Ex.rows x.args)]] (.tu [xE y, eB true]) := by
  rw [hF] at h
  exact zarg b h
set_option maxHeartbeats 4000000 in
theorem f9 : ∀ (n : Nat) (e : Ex), e.sz ≤ n → n ≤ 500 → PCalls Try.prog 9 [xg e.k e.op e.t e.v e.nm (Ex.rows e.args)] (.e (xE e.fold))
  | 0, e, h, _ => by have := sz_args e; omega
  | n + 1, .mk k op t v nm args, h, hn => by
    have hszs : Ex.szs args ≤ n := by simp [Ex.sz] at h; omega
    have hlen : args.length < 1000 := by have := szs_len args; omega
    have hf : ∀ a, a ∈ args → PCalls Try.prog 9 [xg a.k a.op a.t a.v a.nm (Ex.rows a.args)] (.e (xE a.fold)) := fun a ha => f9 n a (by have := sz_mem ha; omega) (by omega)
    simp only [k_mk, op_mk, t_mk, v_mk, nm_mk, args_mk]
    have hfs := folds_sz args
    refine pcalls_fin Try.func9 k9 (Nat.le_of_ble_eq_true rfl) ?_
    repeat' (first
      | ((with_reducible refine cnd_intro (fun h => ?_) (fun h => ?_)) <;> simp only [h, SXR, udf, AOp.dst, und, Nat.beq, exop, putAt, bldE, evI, evIo, isNil, List.replicate, Nat.ble, initS, initH, AR.slot, Int.reduceAdd, Int.reduceSub, Int.reduceNeg, Int.reduceBNe, Nat.reduceEqDiff, Nat.reduceSub, Nat.reduceAdd, Nat.reduceLeDiff, Nat.reduceBEq, Nat.reduceLT, Nat.reduceMul, Int.reduceBEq, Int.reduceLT, Int.reduceLE, reduceIte, reduceCtorEq])
      | (simp only [c9, SXR, udf, AOp.dst, und, Nat.beq, exop, putAt, bldE, evI, evIo, isNil, List.replicate, Nat.ble, initS, initH, AR.slot, Int.reduceAdd, Int.reduceSub, Int.reduceNeg, Int.reduceBNe, Nat.reduceEqDiff, Nat.reduceSub, Nat.reduceAdd, Nat.reduceLeDiff, Nat.reduceBEq, Nat.reduceLT, Nat.reduceMul, Int.reduceBEq, Int.reduceLT, Int.reduceLE, reduceIte, reduceCtorEq]))
    refine Lp_ind (X := List Ex × List Ex) (fun x => ⟨[.e (.c .und), .bx [.t (.i .i64 k), .t (.i .i64 op), .t (.i .i64 t), .t (.i .i64 v), .t (.s nm), .t (.ts (Ex.rows args))], .bx [.t (.i .i64 0), .t (.i .i64 0), .t (.i .i64 0), .t (.i .i64 0), .t (.s []), .t .ns], .e (.c (oW 6 (Ex.rows (x.1.map Ex.fold)))), .e (.c (.t (.i .i64 x.1.length))), .e (.c .und), .e (.c .und), .e (.c .und), .e (.c .und), .e (.c .und), .e (.c .und), .e (.c .und), .e (.c .und), .e (.c .und), .e (.c .und), .e (.c .und), .e (.c .und), .e (.c .und), .e (.c .und), .e (.c .und), .e (.c .und), .e (.c .und), .e (.c .und), .e (.c .und), .e (.c .und), .e (.c .und), .e (.c .und), .e (.c .und), .e (.c .und), .e (.c .und), .e (.c .und), .e (.c .und), .e (.c .und), .e (.c .und), .e (.c .und), .e (.c .und), .e (.c .und), .e (.c .und), .e (.c .und), .e (.c .und), .e (.c .und), .e (.c .und), .e (.c .und), .e (.c .und), .e (.c .und), .e (.c .und), .e (.c .und), .e (.c .und), .e (.c .und), .e (.c .und), .e (.c .und), .e (.c .und), .e (.c .und), .e (.c .und), .e (.c .und)], []⟩)
      (fun x => args = x.1 ++ x.2) (fun x => x.2.length) ([], args) ?_ rfl ?_
    · simp only [msk_eq, msk_t, msk_f, msk_n, List.map_nil, oW_nil, Ex.rows, List.length_nil, rows_len, Int.natCast_zero]
    · rintro ⟨done, rest⟩ hI IH
      simp only at hI IH ⊢
      have hd : done.length < 1000 := by rw [hI] at hlen; simp at hlen; omega
      cases rest with
      | cons x rest =>
        have hlt : decide ((done.length : Int) < args.length) = true := by rw [hI]; simp; omega
        have hx := rows_at hI
        have a1 := appd_oW (wd := 6) (by_ := 72) (Ex.rows (done.map Ex.fold)) [.i .i64 x.fold.k, .i .i64 x.fold.op, .i .i64 x.fold.t, .i .i64 x.fold.v, .s x.fold.nm, .ts (Ex.rows x.fold.args)] rfl (by rw [rows_len]; simp; omega) (by omega)
        have hw := wrap_len (n := done.length) (by omega)
        have hc := hf x (by rw [hI]; simp)
        repeat' (first
          | ((with_reducible refine cnd_intro (fun h => ?_) (fun h => ?_)) <;> simp only [h, hlt, hx, a1, hw, rows_len, SXR, udf, AOp.dst, und, Nat.beq, exop, putAt, bldE, evI, evIo, isNil, List.replicate, Nat.ble, initS, initH, AR.slot, Int.reduceAdd, Int.reduceSub, Int.reduceNeg, Int.reduceBNe, Nat.reduceEqDiff, Nat.reduceSub, Nat.reduceAdd, Nat.reduceLeDiff, Nat.reduceBEq, Nat.reduceLT, Nat.reduceMul, Int.reduceBEq, Int.reduceLT, Int.reduceLE, reduceIte, reduceCtorEq])
          | (with_reducible refine pcl_intro (hc) ?_)
          | (simp only [nr_e, hlt, hx, a1, hw, rows_len, SXR, udf, AOp.dst, und, Nat.beq, exop, putAt, bldE, evI, evIo, isNil, List.replicate, Nat.ble, initS, initH, AR.slot, Int.reduceAdd, Int.reduceSub, Int.reduceNeg, Int.reduceBNe, Nat.reduceEqDiff, Nat.reduceSub, Nat.reduceAdd, Nat.reduceLeDiff, Nat.reduceBEq, Nat.reduceLT, Nat.reduceMul, Int.reduceBEq, Int.reduceLT, Int.reduceLE, reduceIte, reduceCtorEq]))
        refine IH (done ++ [x], rest) (by simp [hI]) (by simp) _ ?_
        simp only [msk_eq, msk_t, msk_f, msk_n, List.map_append, List.map_cons, List.map_nil, List.length_append, List.length_cons, List.length_nil, rows_snoc, row_eq]
      | nil =>
        have hlt : decide ((done.length : Int) < args.length) = false := by rw [hI]; simp
        rw [List.append_nil] at hI
        subst hI
        clear IH
        repeat' (first
          | ((with_reducible refine cnd_intro (fun h => ?_) (fun h => ?_)) <;> simp only [h, hlt, rows_len, rd_oW, st_oWT, SXR, udf, AOp.dst, und, Nat.beq, exop, putAt, bldE, evI, evIo, isNil, List.replicate, Nat.ble, initS, initH, AR.slot, Int.reduceAdd, Int.reduceSub, Int.reduceNeg, Int.reduceBNe, Nat.reduceEqDiff, Nat.reduceSub, Nat.reduceAdd, Nat.reduceLeDiff, Nat.reduceBEq, Nat.reduceLT, Nat.reduceMul, Int.reduceBEq, Int.reduceLT, Int.reduceLE, reduceIte, reduceCtorEq])
          | (simp only [nr_e, hlt, rows_len, rd_oW, st_oWT, SXR, udf, AOp.dst, und, Nat.beq, exop, putAt, bldE, evI, evIo, isNil, List.replicate, Nat.ble, initS, initH, AR.slot, Int.reduceAdd, Int.reduceSub, Int.reduceNeg, Int.reduceBNe, Nat.reduceEqDiff, Nat.reduceSub, Nat.reduceAdd, Nat.reduceLeDiff, Nat.reduceBEq, Nat.reduceLT, Nat.reduceMul, Int.reduceBEq, Int.reduceLT, Int.reduceLE, reduceIte, reduceCtorEq]))
        refine Lp_ind (X := Ex × Bool) (fun x => ⟨[.e (.c .und), .bx [.t (.i .i64 x.1.k), .t (.i .i64 x.1.op), .t (.i .i64 x.1.t), .t (.i .i64 x.1.v), .t (.s x.1.nm), .t (zT x.2 (Ex.rows x.1.args))], .bx [.t (.i .i64 0), .t (.i .i64 0), .t (.i .i64 0), .t (.i .i64 0), .t (.s []), .t .ns], .e (.c .und), .e (.c .und), .e (.c .und), .e (.c .und), .e (.c .und), .e (.c .und), .e (.c .und), .e (.c .und), .e (.c .und), .e (.c .und), .e (.c .und), .e (.c .und), .e (.c .und), .e (.c .und), .e (.c .und), .e (.c .und), .e (.c .und), .e (.c .und), .e (.c .und), .e (.c .und), .e (.c .und), .e (.c .und), .e (.c .und), .e (.c .und), .e (.c .und), .e (.c .und), .e (.c .und), .e (.c .und), .e (.c .und), .e (.c .und), .e (.c .und), .e (.c .und), .e (.c .und), .e (.c .und), .e (.c .und), .e (.c .und), .e (.c .und), .e (.c .und), .e (.c .und), .e (.c .und), .e (.c .und), .e (.c .und), .e (.c .und), .e (.c .und), .e (.c .und), .e (.c .und), .e (.c .und), .e (.c .und), .e (.c .und), .e (.c .und), .e (.c .und), .e (.c .und)], []⟩)
          (fun x => x.1.sz ≤ 600 ∧ ∃ m, x.1.sz ≤ m ∧ itF m x.1 = Ex.fold (.mk k op t v nm args)) (fun x => x.1.sz) (.mk k op t v nm (args.map Ex.fold), true) ?_ ?_ ?_
        · simp only [msk_eq, msk_t, msk_f, msk_n, k_mk, op_mk, t_mk, v_mk, nm_mk, args_mk, zT, if_true]
        · rw [← folds_map]
          refine ⟨?_, _, Nat.le_refl _, rfl⟩
          simp only [Ex.sz]; omega
        · rintro ⟨x, b⟩ ⟨hs, m, hm, hi⟩ IH2
          simp only at IH2 hs hm hi ⊢
          have hxl : x.args.length < 1000 := by have := sz_len x; omega
          have c22 := f22 x.k x.op x.t x.v x.nm x.args hxl
          have c23 := f23 x.k x.op x.t x.v x.nm x.args
          have c24 := f24 x.k x.op x.t x.v x.nm x.args
          have c25 := f25 x.k x.op x.t x.v x.nm x.args
          -- the next round
          have next : ∀ (y : Ex), onceE x = some y → (y.sz ≤ 600 ∧ ∃ m, y.sz ≤ m ∧ itF m y = Ex.fold (.mk k op t v nm args)) ∧ y.sz < x.sz := by
            intro y hO
            have hlt := sz_once hO
            refine ⟨⟨by omega, ?_⟩, hlt⟩
            match m, hm, hi with
            | 0, hm, _ => have := sz_args x; omega
            | m + 1, hm, hi => exact ⟨m, by omega, by simpa [itF, hO] using hi⟩
          cases hA : compF x.k x.op x.args with
          | some y =>
            have hO : onceE x = some y := by simp [onceE, onceF, hA]
            have d22 := opt_some c22 hA b
            clear c22 c23 c24 c25
            repeat' (first
              | ((with_reducible refine cnd_intro (fun h => ?_) (fun h => ?_)) <;> simp only [h, SXR, udf, AOp.dst, und, Nat.beq, exop, putAt, bldE, evI, evIo, isNil, List.replicate, Nat.ble, initS, initH, AR.slot, Int.reduceAdd, Int.reduceSub, Int.reduceNeg, Int.reduceBNe, Nat.reduceEqDiff, Nat.reduceSub, Nat.reduceAdd, Nat.reduceLeDiff, Nat.reduceBEq, Nat.reduceLT, Nat.reduceMul, Int.reduceBEq, Int.reduceLT, Int.reduceLE, reduceIte, reduceCtorEq])
              | (with_reducible refine pcl_intro (d22) ?_)
              | (simp only [nr_e, SXR, udf, AOp.dst, und, Nat.beq, exop, putAt, bldE, evI, evIo, isNil, List.replicate, Nat.ble, initS, initH, AR.slot, Int.reduceAdd, Int.reduceSub, Int.reduceNeg, Int.reduceBNe, Nat.reduceEqDiff, Nat.reduceSub, Nat.reduceAdd, Nat.reduceLeDiff, Nat.reduceBEq, Nat.reduceLT, Nat.reduceMul, Int.reduceBEq, Int.reduceLT, Int.reduceLE, reduceIte, reduceCtorEq]))
            refine IH2 (y, false) (next y hO).1 (next y hO).2 _ ?_
            simp only [msk_eq, msk_t, msk_f, msk_n, zT, if_false, Bool.false_eq_true]
          | none =>
          have d22 := opt_none c22 hA b
          cases hB : choiceF x.k x.args with
          | some y =>
            have hO : onceE x = some y := by simp [onceE, onceF, hA, hB]
            have d23 := opt_some c23 hB b
            clear c22 c23 c24 c25
            repeat' (first
              | ((with_reducible refine cnd_intro (fun h => ?_) (fun h => ?_)) <;> simp only [h, SXR, udf, AOp.dst, und, Nat.beq, exop, putAt, bldE, evI, evIo, isNil, List.replicate, Nat.ble, initS, initH, AR.slot, Int.reduceAdd, Int.reduceSub, Int.reduceNeg, Int.reduceBNe, Nat.reduceEqDiff, Nat.reduceSub, Nat.reduceAdd, Nat.reduceLeDiff, Nat.reduceBEq, Nat.reduceLT, Nat.reduceMul, Int.reduceBEq, Int.reduceLT, Int.reduceLE, reduceIte, reduceCtorEq])
              | (with_reducible refine pcl_intro (d22) ?_)
              | (with_reducible refine pcl_intro (d23) ?_)
              | (simp only [nr_e, SXR, udf, AOp.dst, und, Nat.beq, exop, putAt, bldE, evI, evIo, isNil, List.replicate, Nat.ble, initS, initH, AR.slot, Int.reduceAdd, Int.reduceSub, Int.reduceNeg, Int.reduceBNe, Nat.reduceEqDiff, Nat.reduceSub, Nat.reduceAdd, Nat.reduceLeDiff, Nat.reduceBEq, Nat.reduceLT, Nat.reduceMul, Int.reduceBEq, Int.reduceLT, Int.reduceLE, reduceIte, reduceCtorEq]))
            refine IH2 (y, false) (next y hO).1 (next y hO).2 _ ?_
            simp only [msk_eq, msk_t, msk_f, msk_n, zT, if_false, Bool.false_eq_true]
          | none =>
          have d23 := opt_none c23 hB b
          cases hC : ((twiceF x.k x.op x.args).orElse fun _ => whenF x.k x.args) with
          | some y =>
            have hO : onceE x = some y := by
              simp only [onceE, onceF, hA, hB, Option.orElse_none]
              cases hT : twiceF x.k x.op x.args with
              | some z => rw [hT] at hC; simpa using hC
              | none => rw [hT] at hC; simp at hC; simp [hC]
            have d24 := opt_some c24 hC b
            clear c22 c23 c24 c25
            repeat' (first
              | ((with_reducible refine cnd_intro (fun h => ?_) (fun h => ?_)) <;> simp only [h, SXR, udf, AOp.dst, und, Nat.beq, exop, putAt, bldE, evI, evIo, isNil, List.replicate, Nat.ble, initS, initH, AR.slot, Int.reduceAdd, Int.reduceSub, Int.reduceNeg, Int.reduceBNe, Nat.reduceEqDiff, Nat.reduceSub, Nat.reduceAdd, Nat.reduceLeDiff, Nat.reduceBEq, Nat.reduceLT, Nat.reduceMul, Int.reduceBEq, Int.reduceLT, Int.reduceLE, reduceIte, reduceCtorEq])
              | (with_reducible refine pcl_intro (d22) ?_)
              | (with_reducible refine pcl_intro (d23) ?_)
              | (with_reducible refine pcl_intro (d24) ?_)
              | (simp only [nr_e, SXR, udf, AOp.dst, und, Nat.beq, exop, putAt, bldE, evI, evIo, isNil, List.replicate, Nat.ble, initS, initH, AR.slot, Int.reduceAdd, Int.reduceSub, Int.reduceNeg, Int.reduceBNe, Nat.reduceEqDiff, Nat.reduceSub, Nat.reduceAdd, Nat.reduceLeDiff, Nat.reduceBEq, Nat.reduceLT, Nat.reduceMul, Int.reduceBEq, Int.reduceLT, Int.reduceLE, reduceIte, reduceCtorEq]))
            refine IH2 (y, false) (next y hO).1 (next y hO).2 _ ?_
            simp only [msk_eq, msk_t, msk_f, msk_n, zT, if_false, Bool.false_eq_true]
          | none =>
          have d24 := opt_none c24 hC b
          have hTW : twiceF x.k x.op x.args = none ∧ whenF x.k x.args = none := by
            cases hT : twiceF x.k x.op x.args with
            | some z => rw [hT] at hC; simp at hC
            | none => rw [hT] at hC; exact ⟨rfl, by simpa using hC⟩
          cases hD : otherF x.k x.op x.args with
          | some y =>
            have hO : onceE x = some y := by simp [onceE, onceF, hA, hB, hTW, hD]
            have d25 := opt_some c25 hD b
            clear c22 c23 c24 c25
            repeat' (first
              | ((with_reducible refine cnd_intro (fun h => ?_) (fun h => ?_)) <;> simp only [h, SXR, udf, AOp.dst, und, Nat.beq, exop, putAt, bldE, evI, evIo, isNil, List.replicate, Nat.ble, initS, initH, AR.slot, Int.reduceAdd, Int.reduceSub, Int.reduceNeg, Int.reduceBNe, Nat.reduceEqDiff, Nat.reduceSub, Nat.reduceAdd, Nat.reduceLeDiff, Nat.reduceBEq, Nat.reduceLT, Nat.reduceMul, Int.reduceBEq, Int.reduceLT, Int.reduceLE, reduceIte, reduceCtorEq])
              | (with_reducible refine pcl_intro (d22) ?_)
              | (with_reducible refine pcl_intro (d23) ?_)
              | (with_reducible refine pcl_intro (d24) ?_)
              | (with_reducible refine pcl_intro (d25) ?_)
              | (simp only [nr_e, SXR, udf, AOp.dst, und, Nat.beq, exop, putAt, bldE, evI, evIo, isNil, List.replicate, Nat.ble, initS, initH, AR.slot, Int.reduceAdd, Int.reduceSub, Int.reduceNeg, Int.reduceBNe, Nat.reduceEqDiff, Nat.reduceSub, Nat.reduceAdd, Nat.reduceLeDiff, Nat.reduceBEq, Nat.reduceLT, Nat.reduceMul, Int.reduceBEq, Int.reduceLT, Int.reduceLE, reduceIte, reduceCtorEq]))
            refine IH2 (y, false) (next y hO).1 (next y hO).2 _ ?_
            simp only [msk_eq, msk_t, msk_f, msk_n, zT, if_false, Bool.false_eq_true]
          | none =>
            have hO : onceE x = none := by simp [onceE, onceF, hA, hB, hTW, hD]
            have d25 := opt_none c25 hD b
            clear c22 c23 c24 c25
            rw [itF_none hO] at hi
            rw [← hi]
            repeat' (first
              | ((with_reducible refine cnd_intro (fun h => ?_) (fun h => ?_)) <;> simp only [h, fin_zT, SXR, udf, AOp.dst, und, Nat.beq, exop, putAt, bldE, evI, evIo, isNil, List.replicate, Nat.ble, initS, initH, AR.slot, Int.reduceAdd, Int.reduceSub, Int.reduceNeg, Int.reduceBNe, Nat.reduceEqDiff, Nat.reduceSub, Nat.reduceAdd, Nat.reduceLeDiff, Nat.reduceBEq, Nat.reduceLT, Nat.reduceMul, Int.reduceBEq, Int.reduceLT, Int.reduceLE, reduceIte, reduceCtorEq])
              | (with_reducible refine pcl_intro (d22) ?_)
              | (with_reducible refine pcl_intro (d23) ?_)
              | (with_reducible refine pcl_intro (d24) ?_)
              | (with_reducible refine pcl_intro (d25) ?_)
              | (simp only [nr_e, fin_zT, SXR, udf, AOp.dst, und, Nat.beq, exop, putAt, bldE, evI, evIo, isNil, List.replicate, Nat.ble, initS, initH, AR.slot, Int.reduceAdd, Int.reduceSub, Int.reduceNeg, Int.reduceBNe, Nat.reduceEqDiff, Nat.reduceSub, Nat.reduceAdd, Nat.reduceLeDiff, Nat.reduceBEq, Nat.reduceLT, Nat.reduceMul, Int.reduceBEq, Int.reduceLT, Int.reduceLE, reduceIte, reduceCtorEq]))
end Go.Proofs.Ytpfocppjojgooaa
