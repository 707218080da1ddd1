/-
  Contracts of one step of folding: constants.
-/
import Derived.Test.YtpfocppjojgooaaSe
set_option linter.unusedSimpArgs false
namespace Go.Proofs.Ytpfocppjojgooaa
open Go.Abs
/-- expressions -/
inductive Ex where
  | mk (k op t v : Int) (nm : List UInt8) (args : List Ex)
namespace Ex
def k : Ex → Int | mk k _ _ _ _ _ => k
def op : Ex → Int | mk _ op _ _ _ _ => op
def t : Ex → Int | mk _ _ t _ _ _ => t
def v : Ex → Int | mk _ _ _ v _ _ => v
def nm : Ex → List UInt8 | mk _ _ _ _ nm _ => nm
def args : Ex → List Ex | mk _ _ _ _ _ rs => rs
end Ex
theorem k_mk {k op t v : Int} {nm : List UInt8} {rs : List Ex} : (Ex.mk k op t v nm rs).k = k := rfl
theorem op_mk {k op t v : Int} {nm : List UInt8} {rs : List Ex} : (Ex.mk k op t v nm rs).op = op := rfl
theorem t_mk {k op t v : Int} {nm : List UInt8} {rs : List Ex} : (Ex.mk k op t v nm rs).t = t := rfl
theorem v_mk {k op t v : Int} {nm : List UInt8} {rs : List Ex} : (Ex.mk k op t v nm rs).v = v := rfl
theorem nm_mk {k op t v : Int} {nm : List UInt8} {rs : List Ex} : (Ex.mk k op t v nm rs).nm = nm := rfl
theorem args_mk {k op t v : Int} {nm : List UInt8} {rs : List Ex} : (Ex.mk k op t v nm rs).args = rs := rfl
mutual
def Ex.row : Ex → List TV
  | .mk k op t v nm rs => [.i .i64 k, .i .i64 op, .i .i64 t, .i .i64 v, .s nm, .ts (Ex.rows rs)]
def Ex.rows : List Ex → List (List TV)
  | [] => []
  | e :: l => e.row :: Ex.rows l
end
theorem rows_map (l : List Ex) : Ex.rows l = l.map Ex.row := by
  induction l with
  | nil => rfl
  | cons e l ih => simp [Ex.rows, ih]
theorem rows_get (l : List Ex) (j : Nat) : (Ex.rows l)[j]? = (l[j]?).map Ex.row := by rw [rows_map, List.getElem?_map]
theorem rows_len (l : List Ex) : (Ex.rows l).length = l.length := by rw [rows_map, List.length_map]
theorem row_eq (e : Ex) : e.row = [.i .i64 e.k, .i .i64 e.op, .i .i64 e.t, .i .i64 e.v, .s e.nm, .ts (Ex.rows e.args)] := by cases e; rfl
abbrev xg (k op t v : Int) (nm : List UInt8) (rs : List (List TV)) : TV := .ag [.i .i64 k, .i .i64 op, .i .i64 t, .i .i64 v, .s nm, .ts rs]
abbrev xr (k op t v : Int) (nm : List UInt8) (rs : List (List TV)) : EV := .ag [.t (.i .i64 k), .t (.i .i64 op), .t (.i .i64 t), .t (.i .i64 v), .t (.s nm), .t (.ts rs)]
/-- a slice that was made by appends -/
def oL (l : List Int) : AC := if l = [] then .t .ns else .os 1 (l.map fun t => [.i .i64 t])
def oT (l : List Int) : TV := if l = [] then .ns else iL l
theorem rd_oL (l : List Int) : rdE (.c (oL l)) = .c (.t (oT l)) := by
  unfold oL oT iL
  split <;> rfl
theorem oL_nil : oL [] = .t .ns := rfl
theorem appd_oL (l : List Int) (t : Int) (h : l.length < 100000) : appd true 1 8 (oL l) (.c (.t (.ts [[.i .i64 t]]))) = some (oL (l ++ [t])) := by
  have hr : room (l.length + 1) 8 = true := by simp [room]; omega
  by_cases he : l = []
  · subst he
    have : room 1 8 = true := by simp [room]
    simp [appd, oL, ownC, this]
  · simp [appd, oL, he, hr]
theorem oT_args {f : FuncId} {o : TV} {l : List Int} {r : SV} (h : PCalls Try.prog f [o, iL l] r) : PCalls Try.prog f [o, oT l] r := by
  refine h.args rfl (fun i x y e1 e2 => ?_)
  match i, e1, e2 with
  | 0, e1, e2 => simp at e1 e2; subst e1 e2; exact .inl (.inl rfl)
  | 1, e1, e2 =>
    simp at e1 e2; subst e1 e2
    unfold oT
    split
    · rename_i h; subst h; exact .inl (.inr ⟨rfl, rfl⟩)
    · exact .inl (.inl rfl)
def isF (k t v t' v' : Int) : Bool := k == 1 && (t == t' && v == v')
theorem f68 (k op t v : Int) (nm : List UInt8) (rs : List (List TV)) (t' v' : Int) : PCalls Try.prog 68 [xg k op t v nm rs, .i .i64 t', .i .i64 v'] (rB (isF k t v t' v')) := by
  refine pcalls_of Try.func68 k68 rfl (Nat.le_of_ble_eq_true rfl) ?_
  repeat' (first
    | ((with_reducible refine cnd_intro (fun h => ?_) (fun h => ?_)) <;> simp only [h, SXR, udf, AOp.dst, und, Nat.beq, exop, putAt, bldE, evI, evIo, isNil, List.replicate, Nat.ble, initS, initH, AR.slot, Int.reduceAdd, Int.reduceSub, Int.reduceNeg, Int.reduceBNe, Nat.reduceEqDiff, Nat.reduceSub, Nat.reduceAdd, Nat.reduceLeDiff, Nat.reduceBEq, Nat.reduceLT, Nat.reduceMul, Int.reduceBEq, Int.reduceLT, Int.reduceLE, reduceIte, reduceCtorEq])
    | (simp only [c68, SXR, udf, AOp.dst, und, Nat.beq, exop, putAt, bldE, evI, evIo, isNil, List.replicate, Nat.ble, initS, initH, AR.slot, Int.reduceAdd, Int.reduceSub, Int.reduceNeg, Int.reduceBNe, Nat.reduceEqDiff, Nat.reduceSub, Nat.reduceAdd, Nat.reduceLeDiff, Nat.reduceBEq, Nat.reduceLT, Nat.reduceMul, Int.reduceBEq, Int.reduceLT, Int.reduceLE, reduceIte, reduceCtorEq]))
  all_goals simp_all [isF]
theorem f14 (k op t v : Int) (nm : List UInt8) (rs : List (List TV)) (t' v' : Int) : PCalls Try.prog 14 [xg k op t v nm rs, .i .i64 t', .i .i64 v'] (rB (isF k t v t' v')) := by
  refine pcalls_of Try.func14 k14 rfl (Nat.le_of_ble_eq_true rfl) ?_
  repeat' (first
    | ((with_reducible refine cnd_intro (fun h => ?_) (fun h => ?_)) <;> simp only [h, SXR, udf, AOp.dst, und, Nat.beq, exop, putAt, bldE, evI, evIo, isNil, List.replicate, Nat.ble, initS, initH, AR.slot, Int.reduceAdd, Int.reduceSub, Int.reduceNeg, Int.reduceBNe, Nat.reduceEqDiff, Nat.reduceSub, Nat.reduceAdd, Nat.reduceLeDiff, Nat.reduceBEq, Nat.reduceLT, Nat.reduceMul, Int.reduceBEq, Int.reduceLT, Int.reduceLE, reduceIte, reduceCtorEq])
    | (simp only [c14, SXR, udf, AOp.dst, und, Nat.beq, exop, putAt, bldE, evI, evIo, isNil, List.replicate, Nat.ble, initS, initH, AR.slot, Int.reduceAdd, Int.reduceSub, Int.reduceNeg, Int.reduceBNe, Nat.reduceEqDiff, Nat.reduceSub, Nat.reduceAdd, Nat.reduceLeDiff, Nat.reduceBEq, Nat.reduceLT, Nat.reduceMul, Int.reduceBEq, Int.reduceLT, Int.reduceLE, reduceIte, reduceCtorEq]))
  all_goals simp_all [isF]
theorem f69 (k op t v : Int) (nm : List UInt8) (rs : List (List TV)) (o n : Int) : PCalls Try.prog 69 [xg k op t v nm rs, .i .i64 o, .i .i64 n] (rB (k == 3 && (op == o && (rs.length : Int) == n))) := by
  refine pcalls_of Try.func69 k69 rfl (Nat.le_of_ble_eq_true rfl) ?_
  repeat' (first
    | ((with_reducible refine cnd_intro (fun h => ?_) (fun h => ?_)) <;> simp only [h, SXR, udf, AOp.dst, und, Nat.beq, exop, putAt, bldE, evI, evIo, isNil, List.replicate, Nat.ble, initS, initH, AR.slot, Int.reduceAdd, Int.reduceSub, Int.reduceNeg, Int.reduceBNe, Nat.reduceEqDiff, Nat.reduceSub, Nat.reduceAdd, Nat.reduceLeDiff, Nat.reduceBEq, Nat.reduceLT, Nat.reduceMul, Int.reduceBEq, Int.reduceLT, Int.reduceLE, reduceIte, reduceCtorEq])
    | (simp only [c69, SXR, udf, AOp.dst, und, Nat.beq, exop, putAt, bldE, evI, evIo, isNil, List.replicate, Nat.ble, initS, initH, AR.slot, Int.reduceAdd, Int.reduceSub, Int.reduceNeg, Int.reduceBNe, Nat.reduceEqDiff, Nat.reduceSub, Nat.reduceAdd, Nat.reduceLeDiff, Nat.reduceBEq, Nat.reduceLT, Nat.reduceMul, Int.reduceBEq, Int.reduceLT, Int.reduceLE, reduceIte, reduceCtorEq]))
  all_goals simp_all
def consts (l : List Ex) : Bool := l.all fun e => e.k == 1
def kT (o : Int) (l : List Ex) : Int := (rsl o (l.map Ex.t)).1
def kV (o : Int) (l : List Ex) : Int := (apl o (l.map Ex.v)).1
def kOk (o : Int) (l : List Ex) : Bool := (rsl o (l.map Ex.t)).2 == 0 && (apl o (l.map Ex.v)).2 == 0
theorem f12o (o : Int) (ts : List Int) : PCalls Try.prog 12 [.i .i64 o, oT ts] (rII (rsl o ts).1 (rsl o ts).2) := oT_args (f12 o ts)
theorem f13o (o : Int) (ts : List Int) : PCalls Try.prog 13 [.i .i64 o, oT ts] (rII (apl o ts).1 (apl o ts).2) := oT_args (f13 o ts)
theorem f48o (o : Int) (ts : List Int) : PCalls Try.prog 48 [.i .i64 o, oT ts] (rII (rsl o ts).1 (rsl o ts).2) := oT_args (f48 o ts)
theorem f49o (o : Int) (ts : List Int) : PCalls Try.prog 49 [.i .i64 o, oT ts] (rII (apl o ts).1 (apl o ts).2) := oT_args (f49 o ts)
theorem rows_at {args done rest : List Ex} {x : Ex} (h : args = done ++ x :: rest) : (Ex.rows args)[done.length]? = some [.i .i64 x.k, .i .i64 x.op, .i .i64 x.t, .i .i64 x.v, .s x.nm, .ts (Ex.rows x.args)] := by
  rw [rows_get, h]; simp [row_eq]
theorem consts_snoc (l : List Ex) (x : Ex) : consts (l ++ [x]) = (consts l && x.k == 1) := by simp [consts]
theorem consts_mid {args done rest : List Ex} {x : Ex} (h : args = done ++ x :: rest) (hx : (x.k != 1) = true) : consts args = false := by
  subst h
  simp [consts] at *
  exact fun _ h => (hx h).elim
/-- an operator of constants -/
theorem f44 (k op t v : Int) (nm : List UInt8) (args : List Ex) (hlen : args.length < 1000) :
    PCalls Try.prog 44 [xg k op t v nm (Ex.rows args)] (.tu [if k == 3 && consts args then xr 1 0 (kT op args) (kV op args) [] [] else xr k op t v nm (Ex.rows args), .c (.t (.b (k == 3 && (consts args && kOk op args))))]) := by
  refine pcalls_fin Try.func44 k44 (Nat.le_of_ble_eq_true rfl) ?_
  repeat' (first
    | ((with_reducible refine cnd_intro (fun h => ?_) (fun h => ?_)) <;> simp only [h, SXR, udf, AOp.dst, und, Nat.beq, exop, putAt, bldE, evI, evIo, isNil, List.replicate, Nat.ble, initS, initH, AR.slot, Int.reduceAdd, Int.reduceSub, Int.reduceNeg, Int.reduceBNe, Nat.reduceEqDiff, Nat.reduceSub, Nat.reduceAdd, Nat.reduceLeDiff, Nat.reduceBEq, Nat.reduceLT, Nat.reduceMul, Int.reduceBEq, Int.reduceLT, Int.reduceLE, reduceIte, reduceCtorEq])
    | (simp only [c44, SXR, udf, AOp.dst, und, Nat.beq, exop, putAt, bldE, evI, evIo, isNil, List.replicate, Nat.ble, initS, initH, AR.slot, Int.reduceAdd, Int.reduceSub, Int.reduceNeg, Int.reduceBNe, Nat.reduceEqDiff, Nat.reduceSub, Nat.reduceAdd, Nat.reduceLeDiff, Nat.reduceBEq, Nat.reduceLT, Nat.reduceMul, Int.reduceBEq, Int.reduceLT, Int.reduceLE, reduceIte, reduceCtorEq]))
  · simp_all
  · have hk : (k == 3) = true := by simpa using h
    refine Lp_ind (X := List Ex × List Ex) (fun x => ⟨[.e (.c .und), .bx [.t (.i .i64 k), .t (.i .i64 op), .t (.i .i64 t), .t (.i .i64 v), .t (.s nm), .t (.ts (Ex.rows args))], .bx [.t (.i .i64 0), .t (.i .i64 0), .t (.i .i64 0), .t (.i .i64 0), .t (.s []), .t .ns], .e (.c .und), .e (.c (oL (x.1.map Ex.t))), .e (.c (oL (x.1.map Ex.v))), .e (.c .und), .e (.c .und), .e (.c .und), .e (.c .und), .e (.c .und), .e (.c .und), .e (.c .und), .e (.c .und), .e (.c .und), .e (.c .und), .e (.c .und), .e (.c (.t (.ts (Ex.rows args)))), .e (.c (.t (.i .i64 args.length))), .e (.c (.t (.i .i64 x.1.length))), .e (.c .und), .e (.c .und), .e (.c .und), .e (.c .und), .e (.c .und), .e (.c .und), .e (.c .und), .e (.c .und), .e (.c .und), .e (.c .und), .e (.c .und), .e (.c .und), .e (.c .und), .e (.c .und), .e (.c .und), .e (.c .und), .e (.c .und), .e (.c .und), .e (.c .und), .e (.c .und), .e (.c .und), .e (.c .und), .e (.c .und), .e (.c .und), .e (.c .und), .e (.c .und), .e (.c .und), .e (.c .und), .e (.c .und), .e (.c .und), .e (.c .und), .e (.c .und), .e (.c .und), .e (.c .und), .e (.c .und), .e (.c .und), .e (.c .und), .e (.c .und), .e (.c .und), .e (.c .und), .e (.c .und)], []⟩)
      (fun x => args = x.1 ++ x.2 ∧ consts x.1 = true) (fun x => x.2.length) ([], args) ?_ ⟨rfl, rfl⟩ ?_
    · simp only [msk_eq, msk_t, msk_f, msk_n, List.map_nil, oL_nil, List.length_nil, rows_len, Int.natCast_zero]
    · rintro ⟨done, rest⟩ ⟨hI, hc⟩ IH
      simp only at hI hc IH ⊢
      have hd : done.length < 1000 := by rw [hI] at hlen; simp at hlen; omega
      cases rest with
      | nil =>
        have hlt : decide ((done.length : Int) < args.length) = false := by rw [hI]; simp
        repeat' (first
          | ((with_reducible refine cnd_intro (fun h => ?_) (fun h => ?_)) <;> simp only [h, hlt, rd_oL, SXR, udf, AOp.dst, und, Nat.beq, exop, putAt, bldE, evI, evIo, isNil, List.replicate, Nat.ble, initS, initH, AR.slot, Int.reduceAdd, Int.reduceSub, Int.reduceNeg, Int.reduceBNe, Nat.reduceEqDiff, Nat.reduceSub, Nat.reduceAdd, Nat.reduceLeDiff, Nat.reduceBEq, Nat.reduceLT, Nat.reduceMul, Int.reduceBEq, Int.reduceLT, Int.reduceLE, reduceIte, reduceCtorEq])
          | (with_reducible refine pcl_intro (f12o _ _) ?_)
          | (with_reducible refine pcl_intro (f13o _ _) ?_)
          | (simp only [nr_e, hlt, rd_oL, SXR, udf, AOp.dst, und, Nat.beq, exop, putAt, bldE, evI, evIo, isNil, List.replicate, Nat.ble, initS, initH, AR.slot, Int.reduceAdd, Int.reduceSub, Int.reduceNeg, Int.reduceBNe, Nat.reduceEqDiff, Nat.reduceSub, Nat.reduceAdd, Nat.reduceLeDiff, Nat.reduceBEq, Nat.reduceLT, Nat.reduceMul, Int.reduceBEq, Int.reduceLT, Int.reduceLE, reduceIte, reduceCtorEq]))
        all_goals
          clear IH
          rw [List.append_nil] at hI
          subst hI
          simp_all [kT, kV, kOk]
      | cons x rest =>
        have hlt : decide ((done.length : Int) < args.length) = true := by rw [hI]; simp; omega
        have hx := rows_at hI
        have a1 := appd_oL (done.map Ex.t) x.t (by simp; omega)
        have a2 := appd_oL (done.map Ex.v) x.v (by simp; omega)
        have hw := wrap_len (n := done.length) (by omega)
        repeat' (first
          | ((with_reducible refine cnd_intro (fun h => ?_) (fun h => ?_)) <;> simp only [h, hlt, hx, a1, a2, hw, SXR, udf, AOp.dst, und, Nat.beq, exop, putAt, bldE, evI, evIo, isNil, List.replicate, Nat.ble, initS, initH, AR.slot, Int.reduceAdd, Int.reduceSub, Int.reduceNeg, Int.reduceBNe, Nat.reduceEqDiff, Nat.reduceSub, Nat.reduceAdd, Nat.reduceLeDiff, Nat.reduceBEq, Nat.reduceLT, Nat.reduceMul, Int.reduceBEq, Int.reduceLT, Int.reduceLE, reduceIte, reduceCtorEq])
          | (simp only [nr_e, hlt, hx, a1, a2, hw, SXR, udf, AOp.dst, und, Nat.beq, exop, putAt, bldE, evI, evIo, isNil, List.replicate, Nat.ble, initS, initH, AR.slot, Int.reduceAdd, Int.reduceSub, Int.reduceNeg, Int.reduceBNe, Nat.reduceEqDiff, Nat.reduceSub, Nat.reduceAdd, Nat.reduceLeDiff, Nat.reduceBEq, Nat.reduceLT, Nat.reduceMul, Int.reduceBEq, Int.reduceLT, Int.reduceLE, reduceIte, reduceCtorEq]))
        · have hcm := consts_mid hI h
          clear IH
          simp_all
        · refine IH (done ++ [x], rest) ⟨by simp [hI], by rw [consts_snoc, hc]; simp_all⟩ (by simp) _ ?_
          simp only [msk_eq, msk_t, msk_f, msk_n, List.map_append, List.map_cons, List.map_nil, List.length_append, List.length_cons, List.length_nil]
end Go.Proofs.Ytpfocppjojgooaa
