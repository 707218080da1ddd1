/-
  Contracts of folding, in both texts.
-/
import Derived.Test.YtpfocppjojgooaaSm
set_option linter.unusedSimpArgs false
namespace Go.Proofs.Ytpfocppjojgooaa
open Go.Abs
theorem sz_len (e : Ex) : e.args.length < e.sz := by have := sz_args e; have := szs_len e.args; omega
theorem once_none {x : Ex} (h : onceE x = none) (hl : x.args.length < 1000) : PCalls Try.prog 21 [xg x.k x.op x.t x.v x.nm (Ex.rows x.args)] (.tu [xE x, eB false]) := by
  have q := f21 x.k x.op x.t x.v x.nm x.args hl
  have h' : onceF x.k x.op x.args = none := h
  rw [h'] at q
  cases x; exact q
theorem once_some {x y : Ex} (h : onceE x = some y) (hl : x.args.length < 1000) : PCalls Try.prog 21 [xg x.k x.op x.t x.v x.nm (Ex.rows x.args)] (.tu [xE y, eB true]) := by
  have q := f21 x.k x.op x.t x.v x.nm x.args hl
  have h' : onceF x.k x.op x.args = some y := h
  rw [h'] at q
  exact q
theorem f7 : ∀ (n : Nat) (e : Ex), e.sz ≤ n → n ≤ 500 → PCalls Try.prog 7 [xg e.k e.op e.t e.v e.nm (Ex.rows e.args)] (.e (xE e.fold))
  | 0, e, h, _ => by have := sz_args e; omega
  | n + 1, .mk k op t v nm args, h, hn => by
    have hszs : Ex.szs args ≤ n := by simp [Ex.sz] at h; omega
    have hlen : args.length < 1000 := by have := szs_len args; omega
    have hl := list_any 7 Ex.fold args hlen (fun a ha => f7 n a (by have := sz_mem ha; omega) (by omega))
    simp only [k_mk, op_mk, t_mk, v_mk, nm_mk, args_mk]
    have hfs := folds_sz args
    refine pcalls_fin Try.func7 k7 (Nat.le_of_ble_eq_true rfl) ?_
    repeat' (first
      | ((with_reducible refine cnd_intro (fun h => ?_) (fun h => ?_)) <;> simp only [h, SXR, udf, AOp.dst, und, Nat.beq, exop, putAt, bldE, evI, evIo, isNil, List.replicate, Nat.ble, initS, initH, AR.slot, Int.reduceAdd, Int.reduceSub, Int.reduceNeg, Int.reduceBNe, Nat.reduceEqDiff, Nat.reduceSub, Nat.reduceAdd, Nat.reduceLeDiff, Nat.reduceBEq, Nat.reduceLT, Nat.reduceMul, Int.reduceBEq, Int.reduceLT, Int.reduceLE, reduceIte, reduceCtorEq])
      | (with_reducible refine pcl_intro (hl) ?_)
      | (simp only [c7, SXR, udf, AOp.dst, und, Nat.beq, exop, putAt, bldE, evI, evIo, isNil, List.replicate, Nat.ble, initS, initH, AR.slot, Int.reduceAdd, Int.reduceSub, Int.reduceNeg, Int.reduceBNe, Nat.reduceEqDiff, Nat.reduceSub, Nat.reduceAdd, Nat.reduceLeDiff, Nat.reduceBEq, Nat.reduceLT, Nat.reduceMul, Int.reduceBEq, Int.reduceLT, Int.reduceLE, reduceIte, reduceCtorEq]))
    refine Lp_ind (X := Ex) (fun x => ⟨[.e (.c .und), .bx [.t (.i .i64 x.k), .t (.i .i64 x.op), .t (.i .i64 x.t), .t (.i .i64 x.v), .t (.s x.nm), .t (.ts (Ex.rows x.args))], .bx [.t (.i .i64 0), .t (.i .i64 0), .t (.i .i64 0), .t (.i .i64 0), .t (.s []), .t .ns], .e (.c .und), .e (.c .und), .e (.c .und), .e (.c .und), .e (.c .und), .e (.c .und), .e (.c .und), .e (.c .und), .e (.c .und), .e (.c .und), .e (.c .und), .e (.c .und), .e (.c .und), .e (.c .und), .e (.c .und)], []⟩)
      (fun x => x.sz ≤ 600 ∧ ∃ m, x.sz ≤ m ∧ itF m x = Ex.fold (.mk k op t v nm args)) Ex.sz (.mk k op t v nm (args.map Ex.fold)) ?_ ?_ ?_
    · simp only [msk_eq, msk_t, msk_f, msk_n, k_mk, op_mk, t_mk, v_mk, nm_mk, args_mk]
    · rw [← folds_map]
      refine ⟨?_, _, Nat.le_refl _, rfl⟩
      simp only [Ex.sz]; omega
    · rintro x ⟨hs, m, hm, hi⟩ IH2
      have hxl : x.args.length < 1000 := by have := sz_len x; omega
      cases hO : onceE x with
      | none =>
        have c21 := once_none hO hxl
        rw [itF_none hO] at hi
        rw [← hi]
        repeat' (first
          | ((with_reducible refine cnd_intro (fun h => ?_) (fun h => ?_)) <;> simp only [h, SXR, udf, AOp.dst, und, Nat.beq, exop, putAt, bldE, evI, evIo, isNil, List.replicate, Nat.ble, initS, initH, AR.slot, Int.reduceAdd, Int.reduceSub, Int.reduceNeg, Int.reduceBNe, Nat.reduceEqDiff, Nat.reduceSub, Nat.reduceAdd, Nat.reduceLeDiff, Nat.reduceBEq, Nat.reduceLT, Nat.reduceMul, Int.reduceBEq, Int.reduceLT, Int.reduceLE, reduceIte, reduceCtorEq])
          | (with_reducible refine pcl_intro (c21) ?_)
          | (simp only [nr_e, SXR, udf, AOp.dst, und, Nat.beq, exop, putAt, bldE, evI, evIo, isNil, List.replicate, Nat.ble, initS, initH, AR.slot, Int.reduceAdd, Int.reduceSub, Int.reduceNeg, Int.reduceBNe, Nat.reduceEqDiff, Nat.reduceSub, Nat.reduceAdd, Nat.reduceLeDiff, Nat.reduceBEq, Nat.reduceLT, Nat.reduceMul, Int.reduceBEq, Int.reduceLT, Int.reduceLE, reduceIte, reduceCtorEq]))
      | some y =>
        have c21 := once_some hO hxl
        repeat' (first
          | ((with_reducible refine cnd_intro (fun h => ?_) (fun h => ?_)) <;> simp only [h, SXR, udf, AOp.dst, und, Nat.beq, exop, putAt, bldE, evI, evIo, isNil, List.replicate, Nat.ble, initS, initH, AR.slot, Int.reduceAdd, Int.reduceSub, Int.reduceNeg, Int.reduceBNe, Nat.reduceEqDiff, Nat.reduceSub, Nat.reduceAdd, Nat.reduceLeDiff, Nat.reduceBEq, Nat.reduceLT, Nat.reduceMul, Int.reduceBEq, Int.reduceLT, Int.reduceLE, reduceIte, reduceCtorEq])
          | (with_reducible refine pcl_intro (c21) ?_)
          | (simp only [nr_e, SXR, udf, AOp.dst, und, Nat.beq, exop, putAt, bldE, evI, evIo, isNil, List.replicate, Nat.ble, initS, initH, AR.slot, Int.reduceAdd, Int.reduceSub, Int.reduceNeg, Int.reduceBNe, Nat.reduceEqDiff, Nat.reduceSub, Nat.reduceAdd, Nat.reduceLeDiff, Nat.reduceBEq, Nat.reduceLT, Nat.reduceMul, Int.reduceBEq, Int.reduceLT, Int.reduceLE, reduceIte, reduceCtorEq]))
        have hlt := sz_once hO
        refine IH2 y ⟨by omega, ?_⟩ hlt _ ?_
        · match m, hm, hi with
          | 0, hm, _ => have := sz_args x; omega
          | m + 1, hm, hi => exact ⟨m, by omega, by simpa [itF, hO] using hi⟩
        · simp only [msk_eq, msk_t, msk_f, msk_n]
end Go.Proofs.Ytpfocppjojgooaa
