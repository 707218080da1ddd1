/-
  The law on the values of operators of constants, on trees.
-/
import Derived.Test.YtpfocppjojgooaaSp
set_option linter.unusedSimpArgs false
set_option linter.unusedVariables false
namespace Go.Proofs.Ytpfocppjojgooaa
open Go.Abs
mutual
/-- every nil slice seen as an empty one -/
def nzD : TV → TV
  | .ns => .ts []
  | .ts rows => .ts (nzR rows)
  | .ag cs => .ag (nzL cs)
  | x => x
def nzL : List TV → List TV
  | [] => []
  | x :: l => nzD x :: nzL l
def nzR : List (List TV) → List (List TV)
  | [] => []
  | x :: l => nzL x :: nzR l
end
theorem nzL_map : ∀ l : List TV, nzL l = l.map nzD
  | [] => rfl
  | x :: l => by simp [nzL, nzL_map l]
theorem nzR_map : ∀ l : List (List TV), nzR l = l.map fun r => r.map nzD
  | [] => rfl
  | x :: l => by simp [nzR, nzR_map l, nzL_map]
theorem tvr_nz {w : World} {Fz : Nat → Nat → Prop} {x : TV} {v : Value} (h : TVR w Fz x v) : TVR w Fz (nzD x) v := by
  induction h with
  | ns => exact .ts0
  | ts0 => exact .ts0
  | tse a cap => exact .tse a cap
  | ts rows wd c o cap u hw hcap hc hr h1 ih =>
    simp only [nzD, nzR_map]
    have e : rows.length = (rows.map fun r => r.map nzD).length := by simp
    rw [e]
    refine .ts _ wd c o cap u (fun i row hi => ?_) (by simpa using hcap) (fun i j row x hi hj => ?_) (fun i j row x hi hj => ?_) (fun i j row x hi hj => ?_)
    all_goals
      obtain ⟨r, hr', rfl⟩ := map_get hi
    · simpa using hw i r hr'
    all_goals
      obtain ⟨y, hy, rfl⟩ := map_get hj
    · exact hc i j r y hr' hy
    · exact ih i j r y hr' hy
    · exact h1 i j r y hr' hy
  | ag cs a hs h1 hr ih =>
    simp only [nzD, nzL_map]
    refine .ag _ a (by simpa using hs) (fun j x v hj hv => ?_) (fun j x v hj hv => ?_)
    all_goals
      obtain ⟨y, hy, rfl⟩ := map_get hj
    · exact h1 j y v hy hv
    · exact ih j y v hy hv
  | _ => simp only [nzD]; constructor <;> assumption
def cst (t x : Int) : Ex := .mk 1 0 t x [] []
theorem fold_cst (t x : Int) : (cst t x).fold = cst t x := by
  simp [cst, Ex.fold, Ex.folds, Ex.sz, Ex.szs, itF, onceE, onceF, compF, choiceF, twiceF, whenF, otherF, k_mk, op_mk, args_mk]
theorem once_cst (t x : Int) : onceE (cst t x) = none := by
  simp [cst, onceE, onceF, compF, choiceF, twiceF, whenF, otherF, k_mk, op_mk, args_mk]
theorem folds_cst (t : Int) : ∀ l : List Int, Ex.folds (l.map (cst t)) = l.map (cst t)
  | [] => rfl
  | x :: l => by simp [Ex.folds, fold_cst, folds_cst t l]
theorem consts_cst (t : Int) (l : List Int) : consts (l.map (cst t)) = true := by simp [consts, cst, k_mk]
/-- an operator of constants whose types and values fit -/
theorem fold_vals (o t : Int) (l : List Int) (h : kOk o (l.map (cst t)) = true) : (Ex.mk 3 o 0 0 [] (l.map (cst t))).fold = cst (kT o (l.map (cst t))) (kV o (l.map (cst t))) := by
  have h1 : onceE (Ex.mk 3 o 0 0 [] (l.map (cst t))) = some (cst (kT o (l.map (cst t))) (kV o (l.map (cst t)))) := by
    simp [onceE, onceF, compF, k_mk, op_mk, args_mk, consts_cst, h, cst]
  simp only [Ex.fold, folds_cst]
  rw [show Ex.sz (Ex.mk 3 o 0 0 [] (l.map (cst t))) = Ex.szs (l.map (cst t)) + 1 by simp [Ex.sz]; omega]
  simp only [itF, h1]
  exact itF_none (once_cst _ _) _
theorem pcalls_nz {f : FuncId} {xs : List TV} {r : SV} (h : PCalls Try.prog f (xs.map nzD) r) : PCalls Try.prog f xs r :=
  ⟨h.1, fun w Fz be vs h1 h2 h3 => h.2 w Fz be vs h1 (by simpa using h2) (fun i y v e1 e2 => by
    obtain ⟨x, hx, rfl⟩ := map_get e1
    exact tvr_nz (h3 i x v hx e2))⟩
theorem b_and {k : IntKind} {a b : Int} : bin2E .and (some (.c (.t (.i k a)))) (some (.c (.t (.i k b)))) = some (.c (.t (.i k (k.wrap ((BitVec.ofInt k.bits a &&& BitVec.ofInt k.bits b).toNat))))) := by simp [bin2E, bin2]
def slT (wd : Nat) (o : Option EV) : Option EV := match o with
  | some (.c (.t (.ts rows))) => if 1 ≤ rows.length ∧ (rows.all fun r => r.length == wd) then some (.c (.t (.ts (rows.take 1)))) else none
  | some (.c (.sl blk wd' r len)) => if 1 ≤ len ∧ wd = wd' then some (.c (.sl blk wd r 1)) else none
  | _ => none
theorem x_ssl {st : St} {x : AO} {wd : Nat} : evX st (.ssl false x none (some (.k (.i .i64 1))) wd) = slT wd (evO st x) := by
  have h1 : evIo st 0 none = some 0 := rfl
  have h2 : ∀ d, evIo st d (some (.k (.i .i64 1))) = some 1 := fun d => rfl
  simp only [evX, h1, h2]
  cases evO st x with
  | none => rfl
  | some e =>
    cases e with
    | ag cs => rfl
    | c a => cases a with
      | t y => cases y with
        | ts rows =>
          simp only [slT]
          by_cases h : 1 ≤ rows.length ∧ (rows.all fun r => r.length == wd) = true
          · rw [if_pos h, if_pos ⟨by omega, by omega, by omega, h.2⟩]; rfl
          · rw [if_neg h, if_neg (fun q => h ⟨by omega, q.2.2.2⟩)]
        | _ => rfl
      | sl blk wd' r len =>
        simp only [slT]
        by_cases h : 1 ≤ len ∧ wd = wd'
        · rw [if_pos h, if_pos ⟨by omega, by omega, by omega, h.2⟩]; rfl
        · rw [if_neg h, if_neg (fun q => h ⟨by omega, q.2.2.2⟩)]
      | _ => rfl
theorem slT_two {wd : Nat} {r1 r2 : List TV} (h1 : Nat.beq r1.length wd = true) (h2 : Nat.beq r2.length wd = true) : slT wd (some (.c (.t (.ts [r1, r2])))) = some (.c (.t (.ts [r1]))) := by
  have e1 := Nat.eq_of_beq_eq_true h1
  have e2 := Nat.eq_of_beq_eq_true h2
  simp [slT, e1, e2]
theorem ap0 {t : Int} : appd true 1 8 (.t .ns) (.c (.t (.ts [[.i .i64 t]]))) = some (.os 1 [[.i .i64 t]]) := appd_oL [] t (by simp)
theorem ap1 {t u : Int} : appd true 1 8 (.os 1 [[.i .i64 t]]) (.c (.t (.ts [[.i .i64 u]]))) = some (.os 1 [[.i .i64 t], [.i .i64 u]]) := appd_oL [t] u (by simp)
theorem v11 (o : Int) (rs : List (List TV)) : PCalls Try.prog 11 [.i .i64 o, .ts rs] (.e (xr 3 o 0 0 [] rs)) := by
  refine pcalls_of Try.func11 k11 rfl (Nat.le_of_ble_eq_true rfl) ?_
  repeat' (first
    | ((with_reducible refine cnd_intro (fun h => ?_) (fun h => ?_)) <;> simp only [h, SXR, udf, AOp.dst, und, Nat.beq, exop, putAt, bldE, evI, evIo, isNil, List.replicate, Nat.ble, initS, initH, AR.slot, Int.reduceAdd, Int.reduceSub, Int.reduceNeg, Int.reduceBNe, Nat.reduceEqDiff, Nat.reduceSub, Nat.reduceAdd, Nat.reduceLeDiff, Nat.reduceBEq, Nat.reduceLT, Nat.reduceMul, Int.reduceBEq, Int.reduceLT, Int.reduceLE, reduceIte, reduceCtorEq])
    | (simp only [c11, SXR, udf, AOp.dst, und, Nat.beq, exop, putAt, bldE, evI, evIo, isNil, List.replicate, Nat.ble, initS, initH, AR.slot, Int.reduceAdd, Int.reduceSub, Int.reduceNeg, Int.reduceBNe, Nat.reduceEqDiff, Nat.reduceSub, Nat.reduceAdd, Nat.reduceLeDiff, Nat.reduceBEq, Nat.reduceLT, Nat.reduceMul, Int.reduceBEq, Int.reduceLT, Int.reduceLE, reduceIte, reduceCtorEq]))
abbrev cr (t x : Int) : List TV := [.i .i64 1, .i .i64 0, .i .i64 t, .i .i64 x, .s [], .ns]
abbrev EX (o t : Int) (l : List Int) : Ex := .mk 3 o 0 0 [] (l.map (cst t))
theorem nz_cr (t : Int) : ∀ l : List Int, nzR (l.map (cr t)) = Ex.rows (l.map (cst t))
  | [] => rfl
  | x :: l => by simp only [List.map_cons, nzR, Ex.rows, nz_cr t l]; rfl
theorem sz_ex (o t : Int) (l : List Int) : (EX o t l).sz = 1 + l.length := by
  have : ∀ l : List Int, Ex.szs (l.map (cst t)) = l.length := fun l => by
    induction l with
    | nil => rfl
    | cons x l ih => simp [Ex.szs, ih, cst, Ex.sz]; omega
  simp [Ex.sz, this]
theorem v7 (o t : Int) (l : List Int) (hl : l.length ≤ 2) : PCalls Try.prog 7 [xg 3 o 0 0 [] (l.map (cr t))] (.e (xE (EX o t l).fold)) := by
  refine pcalls_nz ?_
  have := f7 (EX o t l).sz (EX o t l) (Nat.le_refl _) (by rw [sz_ex]; omega)
  simpa only [List.map_cons, List.map_nil, nzD, nzL, nz_cr, k_mk, op_mk, t_mk, v_mk, nm_mk, args_mk] using this
theorem v9 (o t : Int) (l : List Int) (hl : l.length ≤ 2) : PCalls Try.prog 9 [xg 3 o 0 0 [] (l.map (cr t))] (.e (xE (EX o t l).fold)) := by
  refine pcalls_nz ?_
  have := f9 (EX o t l).sz (EX o t l) (Nat.le_refl _) (by rw [sz_ex]; omega)
  simpa only [List.map_cons, List.map_nil, nzD, nzL, nz_cr, k_mk, op_mk, t_mk, v_mk, nm_mk, args_mk] using this
theorem v8 (o t : Int) (l : List Int) (hl : l.length ≤ 2) : PCalls Try.prog 8 [xg (EX o t l).fold.k (EX o t l).fold.op (EX o t l).fold.t (EX o t l).fold.v (EX o t l).fold.nm (Ex.rows (EX o t l).fold.args), xg (EX o t l).fold.k (EX o t l).fold.op (EX o t l).fold.t (EX o t l).fold.v (EX o t l).fold.nm (Ex.rows (EX o t l).fold.args)] (rB true) :=
  f8 (EX o t l).fold.sz _ (Nat.le_refl _) (by have := fold_sz (EX o t l); rw [sz_ex] at this; omega)
theorem v14 (o t : Int) (l : List Int) (h1 : ((rsl o (l.map fun _ => t)).2 == 0) = true) (h2 : ((apl o l).2 == 0) = true) :
    PCalls Try.prog 14 [xg (EX o t l).fold.k (EX o t l).fold.op (EX o t l).fold.t (EX o t l).fold.v (EX o t l).fold.nm (Ex.rows (EX o t l).fold.args), .i .i64 (rsl o (l.map fun _ => t)).1, .i .i64 (apl o l).1] (rB true) := by
  have e1 : (l.map (cst t)).map Ex.t = l.map fun _ => t := by simp [Function.comp_def, cst, t_mk]
  have e2 : (l.map (cst t)).map Ex.v = l := by simp [Function.comp_def, cst, v_mk]
  have hf := fold_vals o t l (by simp only [kOk, e1, e2, h1, h2, Bool.and_true])
  have := f14 (EX o t l).fold.k (EX o t l).fold.op (EX o t l).fold.t (EX o t l).fold.v (EX o t l).fold.nm (Ex.rows (EX o t l).fold.args) (rsl o (l.map fun _ => t)).1 (apl o l).1
  have hi : isF (EX o t l).fold.k (EX o t l).fold.t (EX o t l).fold.v (rsl o (l.map fun _ => t)).1 (apl o l).1 = true := by
    rw [hf]; simp [isF, cst, k_mk, t_mk, v_mk, kT, kV, e1, e2]
  rwa [hi] at this
def E1 (o t x : Int) : Ex := (EX o t [x]).fold
def E2 (o t x y : Int) : Ex := (EX o t [x, y]).fold
abbrev xF (e : Ex) : TV := xg e.k e.op e.t e.v e.nm (Ex.rows e.args)
theorem v7a (o t x : Int) : PCalls Try.prog 7 [xg 3 o 0 0 [] [cr t x]] (.e (xE (E1 o t x))) := v7 o t [x] (by simp)
theorem v7b (o t x y : Int) : PCalls Try.prog 7 [xg 3 o 0 0 [] [cr t x, cr t y]] (.e (xE (E2 o t x y))) := v7 o t [x, y] (by simp)
theorem v9a (o t x : Int) : PCalls Try.prog 9 [xg 3 o 0 0 [] [cr t x]] (.e (xE (E1 o t x))) := v9 o t [x] (by simp)
theorem v9b (o t x y : Int) : PCalls Try.prog 9 [xg 3 o 0 0 [] [cr t x, cr t y]] (.e (xE (E2 o t x y))) := v9 o t [x, y] (by simp)
theorem v8a (o t x : Int) : PCalls Try.prog 8 [xF (E1 o t x), xF (E1 o t x)] (rB true) := v8 o t [x] (by simp)
theorem v8b (o t x y : Int) : PCalls Try.prog 8 [xF (E2 o t x y), xF (E2 o t x y)] (rB true) := v8 o t [x, y] (by simp)
theorem v12a (o t : Int) : PCalls Try.prog 12 [.i .i64 o, .ts [[.i .i64 t]]] (rII (rsl o [t]).1 (rsl o [t]).2) := f12 o [t]
theorem v12b (o t u : Int) : PCalls Try.prog 12 [.i .i64 o, .ts [[.i .i64 t], [.i .i64 u]]] (rII (rsl o [t, u]).1 (rsl o [t, u]).2) := f12 o [t, u]
theorem v13a (o t : Int) : PCalls Try.prog 13 [.i .i64 o, .ts [[.i .i64 t]]] (rII (apl o [t]).1 (apl o [t]).2) := f13 o [t]
theorem v13b (o t u : Int) : PCalls Try.prog 13 [.i .i64 o, .ts [[.i .i64 t], [.i .i64 u]]] (rII (apl o [t, u]).1 (apl o [t, u]).2) := f13 o [t, u]
theorem v14a (o t x : Int) (h1 : ((rsl o [t]).2 == 0) = true) (h2 : ((apl o [x]).2 == 0) = true) : PCalls Try.prog 14 [xF (E1 o t x), .i .i64 (rsl o [t]).1, .i .i64 (apl o [x]).1] (rB true) := v14 o t [x] h1 h2
theorem v14b (o t x y : Int) (h1 : ((rsl o [t, t]).2 == 0) = true) (h2 : ((apl o [x, y]).2 == 0) = true) : PCalls Try.prog 14 [xF (E2 o t x y), .i .i64 (rsl o [t, t]).1, .i .i64 (apl o [x, y]).1] (rB true) := v14 o t [x, y] h1 h2
set_option maxHeartbeats 4000000 in
theorem values_law (o a b : Int) (q : Bool) : PCalls Try.prog 4 [.i .i64 o, .i .i16 a, .i .i16 b, .b q] (rB true) := by
  cases h1 : (o == 1) <;> cases h2 : (o == 2) <;> cases q
  all_goals
    refine pcalls_of Try.func4 k4 rfl (Nat.le_of_ble_eq_true rfl) ?_
    repeat' (first
      | ((with_reducible refine cnd_intro (fun h => ?_) (fun h => ?_)) <;> simp only [h, h1, h2, x_ssl, slT_two, ap0, ap1, b_and, SXR, udf, AOp.dst, und, Nat.beq, exop, putAt, bldE, evI, evIo, isNil, List.replicate, Nat.ble, initS, initH, AR.slot, Int.reduceAdd, Int.reduceSub, Int.reduceNeg, Int.reduceBNe, Nat.reduceEqDiff, Nat.reduceSub, Nat.reduceAdd, Nat.reduceLeDiff, Nat.reduceBEq, Nat.reduceLT, Nat.reduceMul, Int.reduceBEq, Int.reduceLT, Int.reduceLE, reduceIte, reduceCtorEq])
      | (with_reducible refine Lp_step ?_)
      | (with_reducible refine pcl_intro (v11 _ _) ?_)
      | (with_reducible refine pcl_intro (v7a _ _ _) ?_)
      | (with_reducible refine pcl_intro (v7b _ _ _ _) ?_)
      | (with_reducible refine pcl_intro (v12a _ _) ?_)
      | (with_reducible refine pcl_intro (v12b _ _ _) ?_)
      | (with_reducible refine pcl_intro (v13a _ _) ?_)
      | (with_reducible refine pcl_intro (v13b _ _ _) ?_)
      | (with_reducible refine pcl_intro (v14a _ _ _ (by assumption) (by assumption)) ?_)
      | (with_reducible refine pcl_intro (v14b _ _ _ _ (by assumption) (by assumption)) ?_)
      | (with_reducible refine pcl_intro (v9a _ _ _) ?_)
      | (with_reducible refine pcl_intro (v9b _ _ _ _) ?_)
      | (with_reducible refine pcl_intro (v8a _ _ _) ?_)
      | (with_reducible refine pcl_intro (v8b _ _ _ _) ?_)
      | (with_reducible refine pcl_intro (lives_true) ?_)
      | (simp only [c4, h1, h2, x_ssl, slT_two, ap0, ap1, b_and, SXR, udf, AOp.dst, und, Nat.beq, exop, putAt, bldE, evI, evIo, isNil, List.replicate, Nat.ble, initS, initH, AR.slot, Int.reduceAdd, Int.reduceSub, Int.reduceNeg, Int.reduceBNe, Nat.reduceEqDiff, Nat.reduceSub, Nat.reduceAdd, Nat.reduceLeDiff, Nat.reduceBEq, Nat.reduceLT, Nat.reduceMul, Int.reduceBEq, Int.reduceLT, Int.reduceLE, reduceIte, reduceCtorEq]))
end Go.Proofs.Ytpfocppjojgooaa
