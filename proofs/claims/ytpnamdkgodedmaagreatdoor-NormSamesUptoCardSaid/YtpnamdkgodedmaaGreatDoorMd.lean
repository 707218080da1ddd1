/-
  Lists and structures that are compared. Printed by mkeq.py.
  Declarations that are compared; slices.EqualFunc. Printed by mkeq.py.
  Structures that are compared by the program. Printed by mkeq.py.
-/
import Derived.Test.YtpnamdkgodedmaaGreatDoorMc
set_option linter.unusedSimpArgs false
set_option linter.unusedVariables false
namespace Go.Proofs.YtpnamdkgodedmaaGreatDoor
open Go Go.B
/-- two lists, element by element -/
def eqB {α : Type} (f : α → α → Bool) : List α → List α → Bool
  | [], [] => true
  | x :: l, y :: m => f x y && eqB f l m
  | _, _ => false
theorem eqB_ne {α : Type} {f : α → α → Bool} : ∀ {a b : List α}, a.length ≠ b.length → eqB f a b = false
  | [], [], h => (h rfl).elim
  | [], _ :: _, _ => rfl
  | _ :: _, [], _ => rfl
  | x :: a, y :: b, h => by simp only [eqB, eqB_ne (a := a) (b := b) (fun e => h (by simp [e])), Bool.and_false]
theorem eqB_step {α : Type} {f : α → α → Bool} {a b : List α} {i : Nat} {x y : α} (hx : a[i]? = some x) (hy : b[i]? = some y) : eqB f (a.drop i) (b.drop i) = (f x y && eqB f (a.drop (i + 1)) (b.drop (i + 1))) := by
  rw [drop_at hx, drop_at hy]; rfl
theorem eqB_done {α : Type} {f : α → α → Bool} {a b : List α} {i : Nat} (hl : a.length = b.length) (h : ¬ i < a.length) : eqB f (a.drop i) (b.drop i) = true := by
  rw [List.drop_eq_nil_of_le (by omega), List.drop_eq_nil_of_le (by omega)]; rfl
theorem eqB_refl {α : Type} {f : α → α → Bool} : ∀ (l : List α), (∀ x, x ∈ l → f x x = true) → eqB f l l = true
  | [], _ => rfl
  | x :: l, h => by simp only [eqB, h x (List.mem_cons_self ..), eqB_refl l (fun y hy => h y (List.mem_cons_of_mem _ hy)), Bool.and_true]
def eqStr (s t : Str) : Bool := s.1 == t.1 && s.2 == t.2
def eqOn (o p : On) : Bool := eqStr o.nm p.nm && o.t == p.t && o.tag == p.tag
def eqDecl (x y : Decl) : Bool := eqStr x.nm y.nm && x.ty == y.ty && eqB eqOn x.ck y.ck
mutual
def exB : Ex → Ex → Bool
  | .mk k op t v nl nn l, .mk k' op' t' v' nl' nn' l' => k == k' && op == op' && t == t' && v == v' && eqStr (nl, nn) (nl', nn') && exsB l l'
def exsB : List Ex → List Ex → Bool
  | [], [] => true
  | x :: l, y :: m => exB x y && exsB l m
  | [], _ :: _ => false
  | _ :: _, [] => false
end
theorem exsB_eq : ∀ (l m : List Ex), exsB l m = eqB exB l m
  | [], [] => by simp only [exsB, eqB]
  | [], _ :: _ => by simp only [exsB, eqB]
  | _ :: _, [] => by simp only [exsB, eqB]
  | x :: l, y :: m => by simp only [exsB, eqB, exsB_eq l m]
def eqEqn (x y : Eqn) : Bool := eqB eqStr x.left y.left && exB x.right y.right
def eqEnm (x y : Enm) : Bool := eqStr x.nm y.nm && eqB eqStr x.tags y.tags
def eqPNode (x y : PNode) : Bool := eqStr x.nm y.nm && eqB eqDecl x.ins y.ins && eqB eqDecl x.outs y.outs && eqB eqDecl x.locals y.locals && eqB eqEqn x.eqs y.eqs
def eqPrg (p q : Prg) : Bool := eqB eqEnm p.enums q.enums && eqB eqPNode p.nodes q.nodes
def eqNEqn (x y : NEqn) : Bool := x.kind == y.kind && eqB eqStr x.left y.left && exB x.right y.right && x.init == y.init && eqStr x.node y.node && eqB exB x.args y.args && eqStr x.every y.every && eqB eqOn x.ck y.ck
def eqNNode (x y : NNode) : Bool := eqStr x.nm y.nm && eqB eqDecl x.ins y.ins && eqB eqDecl x.outs y.outs && eqB eqDecl x.locals y.locals && eqB eqNEqn x.eqs y.eqs
def eqNPrg (p q : NPrg) : Bool := eqB eqEnm p.enums q.enums && eqB eqNNode p.nodes q.nodes
theorem on_sqs (o p : On) : sqs [2, 1, 1] o.row p.row = some (eqOn o p) := by
  unfold eqOn eqStr
  simp only [On.row, sqs, sq1, if_true]
  generalize (o.nm.1 == p.nm.1 && o.nm.2 == p.nm.2) = a
  generalize (o.t == p.t) = b
  generalize (o.tag == p.tag) = c
  cases a <;> cases b <;> cases c <;> rfl
theorem seqstr_pc (a b : List Str) (hn : Lst.ok a) : PC Tryz.prog 21 [.ts (a.map srow), .ts (b.map srow)] (.b (eqB eqStr a b)) := by
  unfold Lst.ok at hn
  by_cases hl : a.length = b.length
  · have hne : ((a.length : Int) != (b.length : Int)) = false := by rw [hl]; simp
    refine pc_of Tryz.func21 k21 rfl ?_
    repeat' (first
      | (simp only [c21, List.length_map, hne, SXR, noA, isAl, kA, udf, AOp.dst, Nat.beq, putAt, bldE, evIo, isNil, Nat.ble, Int.reduceAdd, Int.reduceSub, Int.reduceNeg, Int.reduceBNe, Nat.reduceEqDiff, Nat.reduceSub, Nat.reduceAdd, Nat.reduceLeDiff, Nat.reduceBEq, Nat.reduceLT, Nat.reduceMul, Int.reduceBEq, Int.reduceLT, Int.reduceLE, reduceIte, reduceCtorEq]))
    refine Lp_ind (X := Nat) (fun i ll hs => Hd (fun j => [.ts (a.map srow), .ts (b.map srow), j 2, j 3, .b false, j 5, j 6, j 7, j 8, j 9, j 10, .ts (a.map srow), .i .i64 (a.length : Int), .i .i64 (i : Int), j 14, j 15, j 16, j 17, j 18, j 19, j 20, j 21, j 22, j 23, j 24, j 25]) ll ∧ hs = [])
      (fun i => i ≤ a.length ∧ eqB eqStr a b = eqB eqStr (a.drop i) (b.drop i)) (fun i => a.length - i) ?_ 0 _ _ (by exact ⟨rfl, rfl⟩) ⟨Nat.zero_le _, rfl⟩
    rintro i _ _ ⟨e, rfl⟩ ⟨hi, hinv⟩ IH
    obtain ⟨j, rfl⟩ := e.open
    clear e
    by_cases hlt : i < a.length
    · obtain ⟨x, hx, hxm⟩ := ats hlt
      obtain ⟨y, hy, hym⟩ := ats (show i < b.length by omega)
      have hxr := mg (f := srow) hx
      have hyr := mg (f := srow) hy
      have hd := ltd hlt
      have hw := wrap_big (n := i) (by omega)
      rw [eqB_step hx hy] at hinv
      cases g0 : eqStr x y with
      | false =>
        have h0 := g0
        simp only [eqStr] at h0
        have hr : eqB eqStr a b = false := by rw [hinv]; simp [g0]
        rw [hr]
        repeat' (first
          | (simp only [c21, List.length_map, hd, hxr, hyr, hw, bne, srow, h0, SXR, noA, isAl, kA, udf, AOp.dst, Nat.beq, putAt, bldE, evIo, isNil, Nat.ble, Int.reduceAdd, Int.reduceSub, Int.reduceNeg, Int.reduceBNe, Nat.reduceEqDiff, Nat.reduceSub, Nat.reduceAdd, Nat.reduceLeDiff, Nat.reduceBEq, Nat.reduceLT, Nat.reduceMul, Int.reduceBEq, Int.reduceLT, Int.reduceLE, reduceIte, reduceCtorEq]))
      | true =>
        have h0 := g0
        simp only [eqStr] at h0
        repeat' (first
          | (simp only [c21, List.length_map, hd, hxr, hyr, hw, bne, srow, h0, SXR, noA, isAl, kA, udf, AOp.dst, Nat.beq, putAt, bldE, evIo, isNil, Nat.ble, Int.reduceAdd, Int.reduceSub, Int.reduceNeg, Int.reduceBNe, Nat.reduceEqDiff, Nat.reduceSub, Nat.reduceAdd, Nat.reduceLeDiff, Nat.reduceBEq, Nat.reduceLT, Nat.reduceMul, Int.reduceBEq, Int.reduceLT, Int.reduceLE, reduceIte, reduceCtorEq]))
        exact IH (i + 1) _ _ (by exact ⟨rfl, rfl⟩) ⟨hlt, by rw [hinv]; simp [g0]⟩ (by omega)
    · have hd := ltn hlt
      clear IH
      rw [eqB_done hl hlt] at hinv
      rw [hinv]
      repeat' (first
        | (simp only [c21, List.length_map, hd, SXR, noA, isAl, kA, udf, AOp.dst, Nat.beq, putAt, bldE, evIo, isNil, Nat.ble, Int.reduceAdd, Int.reduceSub, Int.reduceNeg, Int.reduceBNe, Nat.reduceEqDiff, Nat.reduceSub, Nat.reduceAdd, Nat.reduceLeDiff, Nat.reduceBEq, Nat.reduceLT, Nat.reduceMul, Int.reduceBEq, Int.reduceLT, Int.reduceLE, reduceIte, reduceCtorEq]))
  · have hne : ((a.length : Int) != (b.length : Int)) = true := by simp; omega
    rw [eqB_ne hl]
    refine pc_of Tryz.func21 k21 rfl ?_
    repeat' (first
      | (simp only [c21, List.length_map, hne, SXR, noA, isAl, kA, udf, AOp.dst, Nat.beq, putAt, bldE, evIo, isNil, Nat.ble, Int.reduceAdd, Int.reduceSub, Int.reduceNeg, Int.reduceBNe, Nat.reduceEqDiff, Nat.reduceSub, Nat.reduceAdd, Nat.reduceLeDiff, Nat.reduceBEq, Nat.reduceLT, Nat.reduceMul, Int.reduceBEq, Int.reduceLT, Int.reduceLE, reduceIte, reduceCtorEq]))
theorem texts_pc (a b : List Str) (hn : Lst.ok a) : PC Tryz.prog 53 [.ts (a.map srow), .ts (b.map srow)] (.b (eqB eqStr a b)) := by
  unfold Lst.ok at hn
  by_cases hl : a.length = b.length
  · have hne : ((a.length : Int) != (b.length : Int)) = false := by rw [hl]; simp
    refine pc_of Tryz.func53 k53 rfl ?_
    repeat' (first
      | (simp only [c53, List.length_map, hne, SXR, noA, isAl, kA, udf, AOp.dst, Nat.beq, putAt, bldE, evIo, isNil, Nat.ble, Int.reduceAdd, Int.reduceSub, Int.reduceNeg, Int.reduceBNe, Nat.reduceEqDiff, Nat.reduceSub, Nat.reduceAdd, Nat.reduceLeDiff, Nat.reduceBEq, Nat.reduceLT, Nat.reduceMul, Int.reduceBEq, Int.reduceLT, Int.reduceLE, reduceIte, reduceCtorEq]))
    refine Lp_ind (X := Nat) (fun i ll hs => Hd (fun j => [.ts (a.map srow), .ts (b.map srow), j 2, j 3, .b false, .i .i64 (i : Int), j 6, j 7, j 8, j 9, j 10, j 11, j 12, j 13, j 14, j 15, j 16, j 17, j 18, j 19, j 20, j 21, j 22, j 23, j 24, j 25]) ll ∧ hs = [])
      (fun i => i ≤ a.length ∧ eqB eqStr a b = eqB eqStr (a.drop i) (b.drop i)) (fun i => a.length - i) ?_ 0 _ _ (by exact ⟨rfl, rfl⟩) ⟨Nat.zero_le _, rfl⟩
    rintro i _ _ ⟨e, rfl⟩ ⟨hi, hinv⟩ IH
    obtain ⟨j, rfl⟩ := e.open
    clear e
    by_cases hlt : i < a.length
    · obtain ⟨x, hx, hxm⟩ := ats hlt
      obtain ⟨y, hy, hym⟩ := ats (show i < b.length by omega)
      have hxr := mg (f := srow) hx
      have hyr := mg (f := srow) hy
      have hd := ltd hlt
      have hw := wrap_big (n := i) (by omega)
      rw [eqB_step hx hy] at hinv
      cases g0 : eqStr x y with
      | false =>
        have h0 := g0
        simp only [eqStr] at h0
        have hr : eqB eqStr a b = false := by rw [hinv]; simp [g0]
        rw [hr]
        repeat' (first
          | (simp only [c53, List.length_map, hd, hxr, hyr, hw, bne, srow, h0, SXR, noA, isAl, kA, udf, AOp.dst, Nat.beq, putAt, bldE, evIo, isNil, Nat.ble, Int.reduceAdd, Int.reduceSub, Int.reduceNeg, Int.reduceBNe, Nat.reduceEqDiff, Nat.reduceSub, Nat.reduceAdd, Nat.reduceLeDiff, Nat.reduceBEq, Nat.reduceLT, Nat.reduceMul, Int.reduceBEq, Int.reduceLT, Int.reduceLE, reduceIte, reduceCtorEq]))
      | true =>
        have h0 := g0
        simp only [eqStr] at h0
        repeat' (first
          | (simp only [c53, List.length_map, hd, hxr, hyr, hw, bne, srow, h0, SXR, noA, isAl, kA, udf, AOp.dst, Nat.beq, putAt, bldE, evIo, isNil, Nat.ble, Int.reduceAdd, Int.reduceSub, Int.reduceNeg, Int.reduceBNe, Nat.reduceEqDiff, Nat.reduceSub, Nat.reduceAdd, Nat.reduceLeDiff, Nat.reduceBEq, Nat.reduceLT, Nat.reduceMul, Int.reduceBEq, Int.reduceLT, Int.reduceLE, reduceIte, reduceCtorEq]))
        exact IH (i + 1) _ _ (by exact ⟨rfl, rfl⟩) ⟨hlt, by rw [hinv]; simp [g0]⟩ (by omega)
    · have hd := ltn hlt
      clear IH
      rw [eqB_done hl hlt] at hinv
      rw [hinv]
      repeat' (first
        | (simp only [c53, List.length_map, hd, SXR, noA, isAl, kA, udf, AOp.dst, Nat.beq, putAt, bldE, evIo, isNil, Nat.ble, Int.reduceAdd, Int.reduceSub, Int.reduceNeg, Int.reduceBNe, Nat.reduceEqDiff, Nat.reduceSub, Nat.reduceAdd, Nat.reduceLeDiff, Nat.reduceBEq, Nat.reduceLT, Nat.reduceMul, Int.reduceBEq, Int.reduceLT, Int.reduceLE, reduceIte, reduceCtorEq]))
  · have hne : ((a.length : Int) != (b.length : Int)) = true := by simp; omega
    rw [eqB_ne hl]
    refine pc_of Tryz.func53 k53 rfl ?_
    repeat' (first
      | (simp only [c53, List.length_map, hne, SXR, noA, isAl, kA, udf, AOp.dst, Nat.beq, putAt, bldE, evIo, isNil, Nat.ble, Int.reduceAdd, Int.reduceSub, Int.reduceNeg, Int.reduceBNe, Nat.reduceEqDiff, Nat.reduceSub, Nat.reduceAdd, Nat.reduceLeDiff, Nat.reduceBEq, Nat.reduceLT, Nat.reduceMul, Int.reduceBEq, Int.reduceLT, Int.reduceLE, reduceIte, reduceCtorEq]))
theorem seqon_pc (a b : List On) (hn : Lst.ok a) : PC Tryz.prog 45 [.ts (a.map On.row), .ts (b.map On.row)] (.b (eqB eqOn a b)) := by
  unfold Lst.ok at hn
  by_cases hl : a.length = b.length
  · have hne : ((a.length : Int) != (b.length : Int)) = false := by rw [hl]; simp
    refine pc_of Tryz.func45 k45 rfl ?_
    repeat' (first
      | (simp only [c45, List.length_map, hne, SXR, noA, isAl, kA, udf, AOp.dst, Nat.beq, putAt, bldE, evIo, isNil, Nat.ble, Int.reduceAdd, Int.reduceSub, Int.reduceNeg, Int.reduceBNe, Nat.reduceEqDiff, Nat.reduceSub, Nat.reduceAdd, Nat.reduceLeDiff, Nat.reduceBEq, Nat.reduceLT, Nat.reduceMul, Int.reduceBEq, Int.reduceLT, Int.reduceLE, reduceIte, reduceCtorEq]))
    refine Lp_ind (X := Nat) (fun i ll hs => Hd (fun j => [.ts (a.map On.row), .ts (b.map On.row), j 2, j 3, .b false, j 5, j 6, j 7, j 8, j 9, j 10, .ts (a.map On.row), .i .i64 (a.length : Int), .i .i64 (i : Int), j 14, j 15, j 16, j 17, j 18, j 19, j 20, j 21, j 22, j 23, j 24, j 25]) ll ∧ hs = [])
      (fun i => i ≤ a.length ∧ eqB eqOn a b = eqB eqOn (a.drop i) (b.drop i)) (fun i => a.length - i) ?_ 0 _ _ (by exact ⟨rfl, rfl⟩) ⟨Nat.zero_le _, rfl⟩
    rintro i _ _ ⟨e, rfl⟩ ⟨hi, hinv⟩ IH
    obtain ⟨j, rfl⟩ := e.open
    clear e
    by_cases hlt : i < a.length
    · obtain ⟨x, hx, hxm⟩ := ats hlt
      obtain ⟨y, hy, hym⟩ := ats (show i < b.length by omega)
      have hxr := mg (f := On.row) hx
      have hyr := mg (f := On.row) hy
      have hd := ltd hlt
      have hw := wrap_big (n := i) (by omega)
      rw [eqB_step hx hy] at hinv
      cases g0 : eqOn x y with
      | false =>
        have h0 := g0
        have hr : eqB eqOn a b = false := by rw [hinv]; simp [g0]
        rw [hr]
        repeat' (first
          | (simp only [c45, List.length_map, hd, hxr, hyr, hw, bne, on_len, on_take, on_sqs, h0, SXR, noA, isAl, kA, udf, AOp.dst, Nat.beq, putAt, bldE, evIo, isNil, Nat.ble, Int.reduceAdd, Int.reduceSub, Int.reduceNeg, Int.reduceBNe, Nat.reduceEqDiff, Nat.reduceSub, Nat.reduceAdd, Nat.reduceLeDiff, Nat.reduceBEq, Nat.reduceLT, Nat.reduceMul, Int.reduceBEq, Int.reduceLT, Int.reduceLE, reduceIte, reduceCtorEq]))
      | true =>
        have h0 := g0
        repeat' (first
          | (simp only [c45, List.length_map, hd, hxr, hyr, hw, bne, on_len, on_take, on_sqs, h0, SXR, noA, isAl, kA, udf, AOp.dst, Nat.beq, putAt, bldE, evIo, isNil, Nat.ble, Int.reduceAdd, Int.reduceSub, Int.reduceNeg, Int.reduceBNe, Nat.reduceEqDiff, Nat.reduceSub, Nat.reduceAdd, Nat.reduceLeDiff, Nat.reduceBEq, Nat.reduceLT, Nat.reduceMul, Int.reduceBEq, Int.reduceLT, Int.reduceLE, reduceIte, reduceCtorEq]))
        exact IH (i + 1) _ _ (by exact ⟨rfl, rfl⟩) ⟨hlt, by rw [hinv]; simp [g0]⟩ (by omega)
    · have hd := ltn hlt
      clear IH
      rw [eqB_done hl hlt] at hinv
      rw [hinv]
      repeat' (first
        | (simp only [c45, List.length_map, hd, SXR, noA, isAl, kA, udf, AOp.dst, Nat.beq, putAt, bldE, evIo, isNil, Nat.ble, Int.reduceAdd, Int.reduceSub, Int.reduceNeg, Int.reduceBNe, Nat.reduceEqDiff, Nat.reduceSub, Nat.reduceAdd, Nat.reduceLeDiff, Nat.reduceBEq, Nat.reduceLT, Nat.reduceMul, Int.reduceBEq, Int.reduceLT, Int.reduceLE, reduceIte, reduceCtorEq]))
  · have hne : ((a.length : Int) != (b.length : Int)) = true := by simp; omega
    rw [eqB_ne hl]
    refine pc_of Tryz.func45 k45 rfl ?_
    repeat' (first
      | (simp only [c45, List.length_map, hne, SXR, noA, isAl, kA, udf, AOp.dst, Nat.beq, putAt, bldE, evIo, isNil, Nat.ble, Int.reduceAdd, Int.reduceSub, Int.reduceNeg, Int.reduceBNe, Nat.reduceEqDiff, Nat.reduceSub, Nat.reduceAdd, Nat.reduceLeDiff, Nat.reduceBEq, Nat.reduceLT, Nat.reduceMul, Int.reduceBEq, Int.reduceLT, Int.reduceLE, reduceIte, reduceCtorEq]))
theorem clocks_pc (a b : List On) (hn : Lst.ok a) : PC Tryz.prog 82 [.ts (a.map On.row), .ts (b.map On.row)] (.b (eqB eqOn a b)) := by
  unfold Lst.ok at hn
  by_cases hl : a.length = b.length
  · have hne : ((a.length : Int) != (b.length : Int)) = false := by rw [hl]; simp
    refine pc_of Tryz.func82 k82 rfl ?_
    repeat' (first
      | (simp only [c82, List.length_map, hne, SXR, noA, isAl, kA, udf, AOp.dst, Nat.beq, putAt, bldE, evIo, isNil, Nat.ble, Int.reduceAdd, Int.reduceSub, Int.reduceNeg, Int.reduceBNe, Nat.reduceEqDiff, Nat.reduceSub, Nat.reduceAdd, Nat.reduceLeDiff, Nat.reduceBEq, Nat.reduceLT, Nat.reduceMul, Int.reduceBEq, Int.reduceLT, Int.reduceLE, reduceIte, reduceCtorEq]))
    refine Lp_ind (X := Nat) (fun i ll hs => Hd (fun j => [.ts (a.map On.row), .ts (b.map On.row), j 2, j 3, .b false, .i .i64 (i : Int), j 6, j 7, j 8, j 9, j 10, j 11, j 12, j 13, j 14, j 15, j 16, j 17, j 18, j 19, j 20, j 21, j 22, j 23, j 24, j 25]) ll ∧ hs = [])
      (fun i => i ≤ a.length ∧ eqB eqOn a b = eqB eqOn (a.drop i) (b.drop i)) (fun i => a.length - i) ?_ 0 _ _ (by exact ⟨rfl, rfl⟩) ⟨Nat.zero_le _, rfl⟩
    rintro i _ _ ⟨e, rfl⟩ ⟨hi, hinv⟩ IH
    obtain ⟨j, rfl⟩ := e.open
    clear e
    by_cases hlt : i < a.length
    · obtain ⟨x, hx, hxm⟩ := ats hlt
      obtain ⟨y, hy, hym⟩ := ats (show i < b.length by omega)
      have hxr := mg (f := On.row) hx
      have hyr := mg (f := On.row) hy
      have hd := ltd hlt
      have hw := wrap_big (n := i) (by omega)
      rw [eqB_step hx hy] at hinv
      cases g0 : eqOn x y with
      | false =>
        have h0 := g0
        have hr : eqB eqOn a b = false := by rw [hinv]; simp [g0]
        rw [hr]
        repeat' (first
          | (simp only [c82, List.length_map, hd, hxr, hyr, hw, bne, on_len, on_take, on_sqs, h0, SXR, noA, isAl, kA, udf, AOp.dst, Nat.beq, putAt, bldE, evIo, isNil, Nat.ble, Int.reduceAdd, Int.reduceSub, Int.reduceNeg, Int.reduceBNe, Nat.reduceEqDiff, Nat.reduceSub, Nat.reduceAdd, Nat.reduceLeDiff, Nat.reduceBEq, Nat.reduceLT, Nat.reduceMul, Int.reduceBEq, Int.reduceLT, Int.reduceLE, reduceIte, reduceCtorEq]))
      | true =>
        have h0 := g0
        repeat' (first
          | (simp only [c82, List.length_map, hd, hxr, hyr, hw, bne, on_len, on_take, on_sqs, h0, SXR, noA, isAl, kA, udf, AOp.dst, Nat.beq, putAt, bldE, evIo, isNil, Nat.ble, Int.reduceAdd, Int.reduceSub, Int.reduceNeg, Int.reduceBNe, Nat.reduceEqDiff, Nat.reduceSub, Nat.reduceAdd, Nat.reduceLeDiff, Nat.reduceBEq, Nat.reduceLT, Nat.reduceMul, Int.reduceBEq, Int.reduceLT, Int.reduceLE, reduceIte, reduceCtorEq]))
        exact IH (i + 1) _ _ (by exact ⟨rfl, rfl⟩) ⟨hlt, by rw [hinv]; simp [g0]⟩ (by omega)
    · have hd := ltn hlt
      clear IH
      rw [eqB_done hl hlt] at hinv
      rw [hinv]
      repeat' (first
        | (simp only [c82, List.length_map, hd, SXR, noA, isAl, kA, udf, AOp.dst, Nat.beq, putAt, bldE, evIo, isNil, Nat.ble, Int.reduceAdd, Int.reduceSub, Int.reduceNeg, Int.reduceBNe, Nat.reduceEqDiff, Nat.reduceSub, Nat.reduceAdd, Nat.reduceLeDiff, Nat.reduceBEq, Nat.reduceLT, Nat.reduceMul, Int.reduceBEq, Int.reduceLT, Int.reduceLE, reduceIte, reduceCtorEq]))
  · have hne : ((a.length : Int) != (b.length : Int)) = true := by simp; omega
    rw [eqB_ne hl]
    refine pc_of Tryz.func82 k82 rfl ?_
    repeat' (first
      | (simp only [c82, List.length_map, hne, SXR, noA, isAl, kA, udf, AOp.dst, Nat.beq, putAt, bldE, evIo, isNil, Nat.ble, Int.reduceAdd, Int.reduceSub, Int.reduceNeg, Int.reduceBNe, Nat.reduceEqDiff, Nat.reduceSub, Nat.reduceAdd, Nat.reduceLeDiff, Nat.reduceBEq, Nat.reduceLT, Nat.reduceMul, Int.reduceBEq, Int.reduceLT, Int.reduceLE, reduceIte, reduceCtorEq]))
theorem same12_pc (a b : List On) (hn : Lst.ok a) : PC Tryz.prog 85 [.ts (a.map On.row), .ts (b.map On.row)] (.b (eqB eqOn a b)) := by
  unfold Lst.ok at hn
  by_cases hl : a.length = b.length
  · have hne : ((a.length : Int) != (b.length : Int)) = false := by rw [hl]; simp
    refine pc_of Tryz.func85 k85 rfl ?_
    repeat' (first
      | (simp only [c85, List.length_map, hne, SXR, noA, isAl, kA, udf, AOp.dst, Nat.beq, putAt, bldE, evIo, isNil, Nat.ble, Int.reduceAdd, Int.reduceSub, Int.reduceNeg, Int.reduceBNe, Nat.reduceEqDiff, Nat.reduceSub, Nat.reduceAdd, Nat.reduceLeDiff, Nat.reduceBEq, Nat.reduceLT, Nat.reduceMul, Int.reduceBEq, Int.reduceLT, Int.reduceLE, reduceIte, reduceCtorEq]))
    refine Lp_ind (X := Nat) (fun i ll hs => Hd (fun j => [.ts (a.map On.row), .ts (b.map On.row), j 2, j 3, .b false, .i .i64 (i : Int), j 6, j 7, j 8, j 9, j 10, j 11, j 12, j 13, j 14, j 15, j 16, j 17, j 18, j 19, j 20, j 21, j 22, j 23, j 24, j 25]) ll ∧ hs = [])
      (fun i => i ≤ a.length ∧ eqB eqOn a b = eqB eqOn (a.drop i) (b.drop i)) (fun i => a.length - i) ?_ 0 _ _ (by exact ⟨rfl, rfl⟩) ⟨Nat.zero_le _, rfl⟩
    rintro i _ _ ⟨e, rfl⟩ ⟨hi, hinv⟩ IH
    obtain ⟨j, rfl⟩ := e.open
    clear e
    by_cases hlt : i < a.length
    · obtain ⟨x, hx, hxm⟩ := ats hlt
      obtain ⟨y, hy, hym⟩ := ats (show i < b.length by omega)
      have hxr := mg (f := On.row) hx
      have hyr := mg (f := On.row) hy
      have hd := ltd hlt
      have hw := wrap_big (n := i) (by omega)
      rw [eqB_step hx hy] at hinv
      cases g0 : eqOn x y with
      | false =>
        have h0 := g0
        have hr : eqB eqOn a b = false := by rw [hinv]; simp [g0]
        rw [hr]
        repeat' (first
          | (simp only [c85, List.length_map, hd, hxr, hyr, hw, bne, on_len, on_take, on_sqs, h0, SXR, noA, isAl, kA, udf, AOp.dst, Nat.beq, putAt, bldE, evIo, isNil, Nat.ble, Int.reduceAdd, Int.reduceSub, Int.reduceNeg, Int.reduceBNe, Nat.reduceEqDiff, Nat.reduceSub, Nat.reduceAdd, Nat.reduceLeDiff, Nat.reduceBEq, Nat.reduceLT, Nat.reduceMul, Int.reduceBEq, Int.reduceLT, Int.reduceLE, reduceIte, reduceCtorEq]))
      | true =>
        have h0 := g0
        repeat' (first
          | (simp only [c85, List.length_map, hd, hxr, hyr, hw, bne, on_len, on_take, on_sqs, h0, SXR, noA, isAl, kA, udf, AOp.dst, Nat.beq, putAt, bldE, evIo, isNil, Nat.ble, Int.reduceAdd, Int.reduceSub, Int.reduceNeg, Int.reduceBNe, Nat.reduceEqDiff, Nat.reduceSub, Nat.reduceAdd, Nat.reduceLeDiff, Nat.reduceBEq, Nat.reduceLT, Nat.reduceMul, Int.reduceBEq, Int.reduceLT, Int.reduceLE, reduceIte, reduceCtorEq]))
        exact IH (i + 1) _ _ (by exact ⟨rfl, rfl⟩) ⟨hlt, by rw [hinv]; simp [g0]⟩ (by omega)
    · have hd := ltn hlt
      clear IH
      rw [eqB_done hl hlt] at hinv
      rw [hinv]
      repeat' (first
        | (simp only [c85, List.length_map, hd, SXR, noA, isAl, kA, udf, AOp.dst, Nat.beq, putAt, bldE, evIo, isNil, Nat.ble, Int.reduceAdd, Int.reduceSub, Int.reduceNeg, Int.reduceBNe, Nat.reduceEqDiff, Nat.reduceSub, Nat.reduceAdd, Nat.reduceLeDiff, Nat.reduceBEq, Nat.reduceLT, Nat.reduceMul, Int.reduceBEq, Int.reduceLT, Int.reduceLE, reduceIte, reduceCtorEq]))
  · have hne : ((a.length : Int) != (b.length : Int)) = true := by simp; omega
    rw [eqB_ne hl]
    refine pc_of Tryz.func85 k85 rfl ?_
    repeat' (first
      | (simp only [c85, List.length_map, hne, SXR, noA, isAl, kA, udf, AOp.dst, Nat.beq, putAt, bldE, evIo, isNil, Nat.ble, Int.reduceAdd, Int.reduceSub, Int.reduceNeg, Int.reduceBNe, Nat.reduceEqDiff, Nat.reduceSub, Nat.reduceAdd, Nat.reduceLeDiff, Nat.reduceBEq, Nat.reduceLT, Nat.reduceMul, Int.reduceBEq, Int.reduceLT, Int.reduceLE, reduceIte, reduceCtorEq]))
theorem decls_pc (a b : List Decl) (hn : Lst.ok a) (hk : ∀ x, x ∈ a → Decl.ok x) : PC Tryz.prog 54 [.ts (a.map Decl.row), .ts (b.map Decl.row)] (.b (eqB eqDecl a b)) := by
  unfold Lst.ok at hn
  by_cases hl : a.length = b.length
  · have hne : ((a.length : Int) != (b.length : Int)) = false := by rw [hl]; simp
    refine pc_of Tryz.func54 k54 rfl ?_
    repeat' (first
      | (simp only [c54, List.length_map, hne, SXR, noA, isAl, kA, udf, AOp.dst, Nat.beq, putAt, bldE, evIo, isNil, Nat.ble, Int.reduceAdd, Int.reduceSub, Int.reduceNeg, Int.reduceBNe, Nat.reduceEqDiff, Nat.reduceSub, Nat.reduceAdd, Nat.reduceLeDiff, Nat.reduceBEq, Nat.reduceLT, Nat.reduceMul, Int.reduceBEq, Int.reduceLT, Int.reduceLE, reduceIte, reduceCtorEq]))
    refine Lp_ind (X := Nat) (fun i ll hs => Hd (fun j => [.ts (a.map Decl.row), .ts (b.map Decl.row), j 2, j 3, .b false, .i .i64 (i : Int), j 6, j 7, j 8, j 9, j 10, j 11, j 12, j 13, j 14, j 15, j 16, j 17, j 18, j 19, j 20, j 21, j 22, j 23, j 24, j 25, j 26, j 27, j 28, j 29, j 30, j 31, j 32, j 33, j 34, j 35, j 36, j 37, j 38, j 39, j 40, j 41, j 42, j 43, j 44, j 45, j 46, j 47, j 48, j 49, j 50, j 51, j 52, j 53, j 54]) ll ∧ hs = [])
      (fun i => i ≤ a.length ∧ eqB eqDecl a b = eqB eqDecl (a.drop i) (b.drop i)) (fun i => a.length - i) ?_ 0 _ _ (by exact ⟨rfl, rfl⟩) ⟨Nat.zero_le _, rfl⟩
    rintro i _ _ ⟨e, rfl⟩ ⟨hi, hinv⟩ IH
    obtain ⟨j, rfl⟩ := e.open
    clear e
    by_cases hlt : i < a.length
    · obtain ⟨x, hx, hxm⟩ := ats hlt
      obtain ⟨y, hy, hym⟩ := ats (show i < b.length by omega)
      have hxr := mg (f := Decl.row) hx
      have hyr := mg (f := Decl.row) hy
      have hd := ltd hlt
      have hw := wrap_big (n := i) (by omega)
      rw [eqB_step hx hy] at hinv
      cases g0 : eqStr x.nm y.nm with
      | false =>
        have h0 := g0
        simp only [eqStr] at h0
        have hr : eqB eqDecl a b = false := by rw [hinv]; simp [eqDecl, g0]
        rw [hr]
        repeat' (first
          | (simp only [c54, List.length_map, hd, hxr, hyr, hw, bne, Decl.row, ons_cl, h0, SXR, noA, isAl, kA, udf, AOp.dst, Nat.beq, putAt, bldE, evIo, isNil, Nat.ble, Int.reduceAdd, Int.reduceSub, Int.reduceNeg, Int.reduceBNe, Nat.reduceEqDiff, Nat.reduceSub, Nat.reduceAdd, Nat.reduceLeDiff, Nat.reduceBEq, Nat.reduceLT, Nat.reduceMul, Int.reduceBEq, Int.reduceLT, Int.reduceLE, reduceIte, reduceCtorEq]))
      | true =>
        have h0 := g0
        simp only [eqStr] at h0
        cases g1 : x.ty == y.ty with
        | false =>
          have h1 := g1
          have hr : eqB eqDecl a b = false := by rw [hinv]; simp [eqDecl, g0, g1]
          rw [hr]
          repeat' (first
            | (simp only [c54, List.length_map, hd, hxr, hyr, hw, bne, Decl.row, ons_cl, h0, h1, SXR, noA, isAl, kA, udf, AOp.dst, Nat.beq, putAt, bldE, evIo, isNil, Nat.ble, Int.reduceAdd, Int.reduceSub, Int.reduceNeg, Int.reduceBNe, Nat.reduceEqDiff, Nat.reduceSub, Nat.reduceAdd, Nat.reduceLeDiff, Nat.reduceBEq, Nat.reduceLT, Nat.reduceMul, Int.reduceBEq, Int.reduceLT, Int.reduceLE, reduceIte, reduceCtorEq]))
        | true =>
          have h1 := g1
          cases g2 : eqB eqOn x.ck y.ck with
          | false =>
            have h2 := clocks_pc x.ck y.ck (hk x hxm)
            rw [g2] at h2
            have hr : eqB eqDecl a b = false := by rw [hinv]; simp [eqDecl, g0, g1, g2]
            rw [hr]
            repeat' (first
              | (with_reducible refine pcl_intro (h2) (by simp only [SXR, List.length_map, hd, hxr, hyr, hw, bne, Decl.row, ons_cl, h0, h1]) (by simp only [SXR, List.length_map, hd, hxr, hyr, hw, bne, Decl.row, ons_cl, h0, h1]) ?_)
              | (simp only [c54, List.length_map, hd, hxr, hyr, hw, bne, Decl.row, ons_cl, h0, h1, SXR, noA, isAl, kA, udf, AOp.dst, Nat.beq, putAt, bldE, evIo, isNil, Nat.ble, Int.reduceAdd, Int.reduceSub, Int.reduceNeg, Int.reduceBNe, Nat.reduceEqDiff, Nat.reduceSub, Nat.reduceAdd, Nat.reduceLeDiff, Nat.reduceBEq, Nat.reduceLT, Nat.reduceMul, Int.reduceBEq, Int.reduceLT, Int.reduceLE, reduceIte, reduceCtorEq]))
          | true =>
            have h2 := clocks_pc x.ck y.ck (hk x hxm)
            rw [g2] at h2
            repeat' (first
              | (with_reducible refine pcl_intro (h2) (by simp only [SXR, List.length_map, hd, hxr, hyr, hw, bne, Decl.row, ons_cl, h0, h1]) (by simp only [SXR, List.length_map, hd, hxr, hyr, hw, bne, Decl.row, ons_cl, h0, h1]) ?_)
              | (simp only [c54, List.length_map, hd, hxr, hyr, hw, bne, Decl.row, ons_cl, h0, h1, SXR, noA, isAl, kA, udf, AOp.dst, Nat.beq, putAt, bldE, evIo, isNil, Nat.ble, Int.reduceAdd, Int.reduceSub, Int.reduceNeg, Int.reduceBNe, Nat.reduceEqDiff, Nat.reduceSub, Nat.reduceAdd, Nat.reduceLeDiff, Nat.reduceBEq, Nat.reduceLT, Nat.reduceMul, Int.reduceBEq, Int.reduceLT, Int.reduceLE, reduceIte, reduceCtorEq]))
            exact IH (i + 1) _ _ (by exact ⟨rfl, rfl⟩) ⟨hlt, by rw [hinv]; simp [eqDecl, g0, g1, g2]⟩ (by omega)
    · have hd := ltn hlt
      clear IH
      rw [eqB_done hl hlt] at hinv
      rw [hinv]
      repeat' (first
        | (simp only [c54, List.length_map, hd, SXR, noA, isAl, kA, udf, AOp.dst, Nat.beq, putAt, bldE, evIo, isNil, Nat.ble, Int.reduceAdd, Int.reduceSub, Int.reduceNeg, Int.reduceBNe, Nat.reduceEqDiff, Nat.reduceSub, Nat.reduceAdd, Nat.reduceLeDiff, Nat.reduceBEq, Nat.reduceLT, Nat.reduceMul, Int.reduceBEq, Int.reduceLT, Int.reduceLE, reduceIte, reduceCtorEq]))
  · have hne : ((a.length : Int) != (b.length : Int)) = true := by simp; omega
    rw [eqB_ne hl]
    refine pc_of Tryz.func54 k54 rfl ?_
    repeat' (first
      | (simp only [c54, List.length_map, hne, SXR, noA, isAl, kA, udf, AOp.dst, Nat.beq, putAt, bldE, evIo, isNil, Nat.ble, Int.reduceAdd, Int.reduceSub, Int.reduceNeg, Int.reduceBNe, Nat.reduceEqDiff, Nat.reduceSub, Nat.reduceAdd, Nat.reduceLeDiff, Nat.reduceBEq, Nat.reduceLT, Nat.reduceMul, Int.reduceBEq, Int.reduceLT, Int.reduceLE, reduceIte, reduceCtorEq]))
theorem putd {a b c : V} (x : Decl) : putAt [a, b, c] 0 x.row = x.row := rfl
theorem decl_take (x : Decl) : x.row.take 3 = x.row := rfl
theorem putu {a b : V} (x : Enm) : putAt [a, b] 0 x.row = x.row := rfl
theorem enm_take (x : Enm) : x.row.take 2 = x.row := rfl
theorem efdecl_pc (f : Nat) (e : Decl → Decl → Bool) (a b : List Decl) (hn : Lst.ok a) (hf : ∀ x y, x ∈ a → y ∈ b → PC Tryz.prog f [.ag (Decl.row x), .ag (Decl.row y)] (.b (e x y))) : PC Tryz.prog 49 [.ts (a.map Decl.row), .ts (b.map Decl.row), .fn f [] []] (.b (eqB e a b)) := by
  unfold Lst.ok at hn
  by_cases hl : a.length = b.length
  · have hne : ((a.length : Int) != (b.length : Int)) = false := by rw [hl]; simp
    refine pc_of Tryz.func49 k49 rfl ?_
    repeat' (first
      | (simp only [c49, List.length_map, hne, SXR, noA, isAl, kA, udf, AOp.dst, Nat.beq, putAt, bldE, evIo, isNil, Nat.ble, Int.reduceAdd, Int.reduceSub, Int.reduceNeg, Int.reduceBNe, Nat.reduceEqDiff, Nat.reduceSub, Nat.reduceAdd, Nat.reduceLeDiff, Nat.reduceBEq, Nat.reduceLT, Nat.reduceMul, Int.reduceBEq, Int.reduceLT, Int.reduceLE, reduceIte, reduceCtorEq]))
    refine Lp_ind (X := Nat) (fun i ll hs => ∃ js : List O, Hd (fun j => [.ts (a.map Decl.row), .ts (b.map Decl.row), .fn f [] [], j 3, j 4, j 5, .b false, j 7, j 8, j 9, j 10, j 11, j 12, j 13, j 14, .ts (a.map Decl.row), .i .i64 (a.length : Int), .i .i64 (i : Int), j 18, j 19, j 20, j 21, j 22, j 23, j 24, j 25, j 26, j 27, j 28, j 29, j 30, j 31]) ll ∧ hs = js)
      (fun i => i ≤ a.length ∧ eqB e a b = eqB e (a.drop i) (b.drop i)) (fun i => a.length - i) ?_ 0 _ _ (by exact ⟨[], rfl, rfl⟩) ⟨Nat.zero_le _, rfl⟩
    rintro i _ _ ⟨js, e, rfl⟩ ⟨hi, hinv⟩ IH
    obtain ⟨j, rfl⟩ := e.open
    clear e
    by_cases hlt : i < a.length
    · obtain ⟨x, hx, hxm⟩ := ats hlt
      obtain ⟨y, hy, hym⟩ := ats (show i < b.length by omega)
      have hxr := mg (f := Decl.row) hx
      have hyr := mg (f := Decl.row) hy
      have hd := ltd hlt
      have hw := wrap_big (n := i) (by omega)
      rw [eqB_step hx hy] at hinv
      cases g0 : e x y with
      | false =>
        have h0 := hf x y hxm hym
        rw [g0] at h0
        have hr : eqB e a b = false := by rw [hinv]; simp [g0]
        rw [hr]
        repeat' (first
          | (with_reducible refine pcl_intro (h0) (by simp only [SXR, List.length_map, hd, hxr, hyr, hw, bne, decl_len, decl_take, putd, decl_cl, Nat.add_assoc]) (by simp only [SXR, List.length_map, hd, hxr, hyr, hw, bne, decl_len, decl_take, putd, decl_cl, Nat.add_assoc]) ?_)
          | (simp only [c49, List.length_map, hd, hxr, hyr, hw, bne, decl_len, decl_take, putd, decl_cl, Nat.add_assoc, SXR, noA, isAl, kA, udf, AOp.dst, Nat.beq, putAt, bldE, evIo, isNil, Nat.ble, Int.reduceAdd, Int.reduceSub, Int.reduceNeg, Int.reduceBNe, Nat.reduceEqDiff, Nat.reduceSub, Nat.reduceAdd, Nat.reduceLeDiff, Nat.reduceBEq, Nat.reduceLT, Nat.reduceMul, Int.reduceBEq, Int.reduceLT, Int.reduceLE, reduceIte, reduceCtorEq]))
      | true =>
        have h0 := hf x y hxm hym
        rw [g0] at h0
        repeat' (first
          | (with_reducible refine pcl_intro (h0) (by simp only [SXR, List.length_map, hd, hxr, hyr, hw, bne, decl_len, decl_take, putd, decl_cl, Nat.add_assoc]) (by simp only [SXR, List.length_map, hd, hxr, hyr, hw, bne, decl_len, decl_take, putd, decl_cl, Nat.add_assoc]) ?_)
          | (simp only [c49, List.length_map, hd, hxr, hyr, hw, bne, decl_len, decl_take, putd, decl_cl, Nat.add_assoc, SXR, noA, isAl, kA, udf, AOp.dst, Nat.beq, putAt, bldE, evIo, isNil, Nat.ble, Int.reduceAdd, Int.reduceSub, Int.reduceNeg, Int.reduceBNe, Nat.reduceEqDiff, Nat.reduceSub, Nat.reduceAdd, Nat.reduceLeDiff, Nat.reduceBEq, Nat.reduceLT, Nat.reduceMul, Int.reduceBEq, Int.reduceLT, Int.reduceLE, reduceIte, reduceCtorEq]))
        exact IH (i + 1) _ _ (by exact ⟨_, rfl, rfl⟩) ⟨hlt, by rw [hinv]; simp [g0]⟩ (by omega)
    · have hd := ltn hlt
      clear IH
      rw [eqB_done hl hlt] at hinv
      rw [hinv]
      repeat' (first
        | (simp only [c49, List.length_map, hd, SXR, noA, isAl, kA, udf, AOp.dst, Nat.beq, putAt, bldE, evIo, isNil, Nat.ble, Int.reduceAdd, Int.reduceSub, Int.reduceNeg, Int.reduceBNe, Nat.reduceEqDiff, Nat.reduceSub, Nat.reduceAdd, Nat.reduceLeDiff, Nat.reduceBEq, Nat.reduceLT, Nat.reduceMul, Int.reduceBEq, Int.reduceLT, Int.reduceLE, reduceIte, reduceCtorEq]))
  · have hne : ((a.length : Int) != (b.length : Int)) = true := by simp; omega
    rw [eqB_ne hl]
    refine pc_of Tryz.func49 k49 rfl ?_
    repeat' (first
      | (simp only [c49, List.length_map, hne, SXR, noA, isAl, kA, udf, AOp.dst, Nat.beq, putAt, bldE, evIo, isNil, Nat.ble, Int.reduceAdd, Int.reduceSub, Int.reduceNeg, Int.reduceBNe, Nat.reduceEqDiff, Nat.reduceSub, Nat.reduceAdd, Nat.reduceLeDiff, Nat.reduceBEq, Nat.reduceLT, Nat.reduceMul, Int.reduceBEq, Int.reduceLT, Int.reduceLE, reduceIte, reduceCtorEq]))
theorem efenm_pc (f : Nat) (e : Enm → Enm → Bool) (a b : List Enm) (hn : Lst.ok a) (hf : ∀ x y, x ∈ a → y ∈ b → PC Tryz.prog f [.ag (Enm.row x), .ag (Enm.row y)] (.b (e x y))) : PC Tryz.prog 19 [.ts (a.map Enm.row), .ts (b.map Enm.row), .fn f [] []] (.b (eqB e a b)) := by
  unfold Lst.ok at hn
  by_cases hl : a.length = b.length
  · have hne : ((a.length : Int) != (b.length : Int)) = false := by rw [hl]; simp
    refine pc_of Tryz.func19 k19 rfl ?_
    repeat' (first
      | (simp only [c19, List.length_map, hne, SXR, noA, isAl, kA, udf, AOp.dst, Nat.beq, putAt, bldE, evIo, isNil, Nat.ble, Int.reduceAdd, Int.reduceSub, Int.reduceNeg, Int.reduceBNe, Nat.reduceEqDiff, Nat.reduceSub, Nat.reduceAdd, Nat.reduceLeDiff, Nat.reduceBEq, Nat.reduceLT, Nat.reduceMul, Int.reduceBEq, Int.reduceLT, Int.reduceLE, reduceIte, reduceCtorEq]))
    refine Lp_ind (X := Nat) (fun i ll hs => ∃ js : List O, Hd (fun j => [.ts (a.map Enm.row), .ts (b.map Enm.row), .fn f [] [], j 3, j 4, j 5, .b false, j 7, j 8, j 9, j 10, j 11, j 12, j 13, j 14, .ts (a.map Enm.row), .i .i64 (a.length : Int), .i .i64 (i : Int), j 18, j 19, j 20, j 21, j 22, j 23, j 24, j 25, j 26, j 27, j 28, j 29, j 30, j 31]) ll ∧ hs = js)
      (fun i => i ≤ a.length ∧ eqB e a b = eqB e (a.drop i) (b.drop i)) (fun i => a.length - i) ?_ 0 _ _ (by exact ⟨[], rfl, rfl⟩) ⟨Nat.zero_le _, rfl⟩
    rintro i _ _ ⟨js, e, rfl⟩ ⟨hi, hinv⟩ IH
    obtain ⟨j, rfl⟩ := e.open
    clear e
    by_cases hlt : i < a.length
    · obtain ⟨x, hx, hxm⟩ := ats hlt
      obtain ⟨y, hy, hym⟩ := ats (show i < b.length by omega)
      have hxr := mg (f := Enm.row) hx
      have hyr := mg (f := Enm.row) hy
      have hd := ltd hlt
      have hw := wrap_big (n := i) (by omega)
      rw [eqB_step hx hy] at hinv
      cases g0 : e x y with
      | false =>
        have h0 := hf x y hxm hym
        rw [g0] at h0
        have hr : eqB e a b = false := by rw [hinv]; simp [g0]
        rw [hr]
        repeat' (first
          | (with_reducible refine pcl_intro (h0) (by simp only [SXR, List.length_map, hd, hxr, hyr, hw, bne, enm_len, enm_take, putu, enm_cl, Nat.add_assoc]) (by simp only [SXR, List.length_map, hd, hxr, hyr, hw, bne, enm_len, enm_take, putu, enm_cl, Nat.add_assoc]) ?_)
          | (simp only [c19, List.length_map, hd, hxr, hyr, hw, bne, enm_len, enm_take, putu, enm_cl, Nat.add_assoc, SXR, noA, isAl, kA, udf, AOp.dst, Nat.beq, putAt, bldE, evIo, isNil, Nat.ble, Int.reduceAdd, Int.reduceSub, Int.reduceNeg, Int.reduceBNe, Nat.reduceEqDiff, Nat.reduceSub, Nat.reduceAdd, Nat.reduceLeDiff, Nat.reduceBEq, Nat.reduceLT, Nat.reduceMul, Int.reduceBEq, Int.reduceLT, Int.reduceLE, reduceIte, reduceCtorEq]))
      | true =>
        have h0 := hf x y hxm hym
        rw [g0] at h0
        repeat' (first
          | (with_reducible refine pcl_intro (h0) (by simp only [SXR, List.length_map, hd, hxr, hyr, hw, bne, enm_len, enm_take, putu, enm_cl, Nat.add_assoc]) (by simp only [SXR, List.length_map, hd, hxr, hyr, hw, bne, enm_len, enm_take, putu, enm_cl, Nat.add_assoc]) ?_)
          | (simp only [c19, List.length_map, hd, hxr, hyr, hw, bne, enm_len, enm_take, putu, enm_cl, Nat.add_assoc, SXR, noA, isAl, kA, udf, AOp.dst, Nat.beq, putAt, bldE, evIo, isNil, Nat.ble, Int.reduceAdd, Int.reduceSub, Int.reduceNeg, Int.reduceBNe, Nat.reduceEqDiff, Nat.reduceSub, Nat.reduceAdd, Nat.reduceLeDiff, Nat.reduceBEq, Nat.reduceLT, Nat.reduceMul, Int.reduceBEq, Int.reduceLT, Int.reduceLE, reduceIte, reduceCtorEq]))
        exact IH (i + 1) _ _ (by exact ⟨_, rfl, rfl⟩) ⟨hlt, by rw [hinv]; simp [g0]⟩ (by omega)
    · have hd := ltn hlt
      clear IH
      rw [eqB_done hl hlt] at hinv
      rw [hinv]
      repeat' (first
        | (simp only [c19, List.length_map, hd, SXR, noA, isAl, kA, udf, AOp.dst, Nat.beq, putAt, bldE, evIo, isNil, Nat.ble, Int.reduceAdd, Int.reduceSub, Int.reduceNeg, Int.reduceBNe, Nat.reduceEqDiff, Nat.reduceSub, Nat.reduceAdd, Nat.reduceLeDiff, Nat.reduceBEq, Nat.reduceLT, Nat.reduceMul, Int.reduceBEq, Int.reduceLT, Int.reduceLE, reduceIte, reduceCtorEq]))
  · have hne : ((a.length : Int) != (b.length : Int)) = true := by simp; omega
    rw [eqB_ne hl]
    refine pc_of Tryz.func19 k19 rfl ?_
    repeat' (first
      | (simp only [c19, List.length_map, hne, SXR, noA, isAl, kA, udf, AOp.dst, Nat.beq, putAt, bldE, evIo, isNil, Nat.ble, Int.reduceAdd, Int.reduceSub, Int.reduceNeg, Int.reduceBNe, Nat.reduceEqDiff, Nat.reduceSub, Nat.reduceAdd, Nat.reduceLeDiff, Nat.reduceBEq, Nat.reduceLT, Nat.reduceMul, Int.reduceBEq, Int.reduceLT, Int.reduceLE, reduceIte, reduceCtorEq]))
theorem efneq_pc (f : Nat) (e : NEqn → NEqn → Bool) (a b : List NEqn) (hn : Lst.ok a) (hf : ∀ x y, x ∈ a → y ∈ b → PC Tryz.prog f [.ag (NEqn.row x), .ag (NEqn.row y)] (.b (e x y))) : PC Tryz.prog 25 [.ts (a.map NEqn.row), .ts (b.map NEqn.row), .fn f [] []] (.b (eqB e a b)) := by
  unfold Lst.ok at hn
  by_cases hl : a.length = b.length
  · have hne : ((a.length : Int) != (b.length : Int)) = false := by rw [hl]; simp
    refine pc_of Tryz.func25 k25 rfl ?_
    repeat' (first
      | (simp only [c25, List.length_map, hne, SXR, noA, isAl, kA, udf, AOp.dst, Nat.beq, putAt, bldE, evIo, isNil, Nat.ble, Int.reduceAdd, Int.reduceSub, Int.reduceNeg, Int.reduceBNe, Nat.reduceEqDiff, Nat.reduceSub, Nat.reduceAdd, Nat.reduceLeDiff, Nat.reduceBEq, Nat.reduceLT, Nat.reduceMul, Int.reduceBEq, Int.reduceLT, Int.reduceLE, reduceIte, reduceCtorEq]))
    refine Lp_ind (X := Nat) (fun i ll hs => ∃ js : List O, Hd (fun j => [.ts (a.map NEqn.row), .ts (b.map NEqn.row), .fn f [] [], j 3, j 4, j 5, .b false, j 7, j 8, j 9, j 10, j 11, j 12, j 13, j 14, .ts (a.map NEqn.row), .i .i64 (a.length : Int), .i .i64 (i : Int), j 18, j 19, j 20, j 21, j 22, j 23, j 24, j 25, j 26, j 27, j 28, j 29, j 30, j 31]) ll ∧ hs = js)
      (fun i => i ≤ a.length ∧ eqB e a b = eqB e (a.drop i) (b.drop i)) (fun i => a.length - i) ?_ 0 _ _ (by exact ⟨[], rfl, rfl⟩) ⟨Nat.zero_le _, rfl⟩
    rintro i _ _ ⟨js, e, rfl⟩ ⟨hi, hinv⟩ IH
    obtain ⟨j, rfl⟩ := e.open
    clear e
    by_cases hlt : i < a.length
    · obtain ⟨x, hx, hxm⟩ := ats hlt
      obtain ⟨y, hy, hym⟩ := ats (show i < b.length by omega)
      have hxr := mg (f := NEqn.row) hx
      have hyr := mg (f := NEqn.row) hy
      have hd := ltd hlt
      have hw := wrap_big (n := i) (by omega)
      rw [eqB_step hx hy] at hinv
      cases g0 : e x y with
      | false =>
        have h0 := hf x y hxm hym
        rw [g0] at h0
        have hr : eqB e a b = false := by rw [hinv]; simp [g0]
        rw [hr]
        repeat' (first
          | (with_reducible refine pcl_intro (h0) (by simp only [SXR, List.length_map, hd, hxr, hyr, hw, bne, neqn_len, neqn_take, put13, neqn_cl, Nat.add_assoc]) (by simp only [SXR, List.length_map, hd, hxr, hyr, hw, bne, neqn_len, neqn_take, put13, neqn_cl, Nat.add_assoc]) ?_)
          | (simp only [c25, List.length_map, hd, hxr, hyr, hw, bne, neqn_len, neqn_take, put13, neqn_cl, Nat.add_assoc, SXR, noA, isAl, kA, udf, AOp.dst, Nat.beq, putAt, bldE, evIo, isNil, Nat.ble, Int.reduceAdd, Int.reduceSub, Int.reduceNeg, Int.reduceBNe, Nat.reduceEqDiff, Nat.reduceSub, Nat.reduceAdd, Nat.reduceLeDiff, Nat.reduceBEq, Nat.reduceLT, Nat.reduceMul, Int.reduceBEq, Int.reduceLT, Int.reduceLE, reduceIte, reduceCtorEq]))
      | true =>
        have h0 := hf x y hxm hym
        rw [g0] at h0
        repeat' (first
          | (with_reducible refine pcl_intro (h0) (by simp only [SXR, List.length_map, hd, hxr, hyr, hw, bne, neqn_len, neqn_take, put13, neqn_cl, Nat.add_assoc]) (by simp only [SXR, List.length_map, hd, hxr, hyr, hw, bne, neqn_len, neqn_take, put13, neqn_cl, Nat.add_assoc]) ?_)
          | (simp only [c25, List.length_map, hd, hxr, hyr, hw, bne, neqn_len, neqn_take, put13, neqn_cl, Nat.add_assoc, SXR, noA, isAl, kA, udf, AOp.dst, Nat.beq, putAt, bldE, evIo, isNil, Nat.ble, Int.reduceAdd, Int.reduceSub, Int.reduceNeg, Int.reduceBNe, Nat.reduceEqDiff, Nat.reduceSub, Nat.reduceAdd, Nat.reduceLeDiff, Nat.reduceBEq, Nat.reduceLT, Nat.reduceMul, Int.reduceBEq, Int.reduceLT, Int.reduceLE, reduceIte, reduceCtorEq]))
        exact IH (i + 1) _ _ (by exact ⟨_, rfl, rfl⟩) ⟨hlt, by rw [hinv]; simp [g0]⟩ (by omega)
    · have hd := ltn hlt
      clear IH
      rw [eqB_done hl hlt] at hinv
      rw [hinv]
      repeat' (first
        | (simp only [c25, List.length_map, hd, SXR, noA, isAl, kA, udf, AOp.dst, Nat.beq, putAt, bldE, evIo, isNil, Nat.ble, Int.reduceAdd, Int.reduceSub, Int.reduceNeg, Int.reduceBNe, Nat.reduceEqDiff, Nat.reduceSub, Nat.reduceAdd, Nat.reduceLeDiff, Nat.reduceBEq, Nat.reduceLT, Nat.reduceMul, Int.reduceBEq, Int.reduceLT, Int.reduceLE, reduceIte, reduceCtorEq]))
  · have hne : ((a.length : Int) != (b.length : Int)) = true := by simp; omega
    rw [eqB_ne hl]
    refine pc_of Tryz.func25 k25 rfl ?_
    repeat' (first
      | (simp only [c25, List.length_map, hne, SXR, noA, isAl, kA, udf, AOp.dst, Nat.beq, putAt, bldE, evIo, isNil, Nat.ble, Int.reduceAdd, Int.reduceSub, Int.reduceNeg, Int.reduceBNe, Nat.reduceEqDiff, Nat.reduceSub, Nat.reduceAdd, Nat.reduceLeDiff, Nat.reduceBEq, Nat.reduceLT, Nat.reduceMul, Int.reduceBEq, Int.reduceLT, Int.reduceLE, reduceIte, reduceCtorEq]))
theorem efnode_pc (f : Nat) (e : NNode → NNode → Bool) (a b : List NNode) (hn : Lst.ok a) (hf : ∀ x y, x ∈ a → y ∈ b → PC Tryz.prog f [.ag (NNode.row x), .ag (NNode.row y)] (.b (e x y))) : PC Tryz.prog 22 [.ts (a.map NNode.row), .ts (b.map NNode.row), .fn f [] []] (.b (eqB e a b)) := by
  unfold Lst.ok at hn
  by_cases hl : a.length = b.length
  · have hne : ((a.length : Int) != (b.length : Int)) = false := by rw [hl]; simp
    refine pc_of Tryz.func22 k22 rfl ?_
    repeat' (first
      | (simp only [c22, List.length_map, hne, SXR, noA, isAl, kA, udf, AOp.dst, Nat.beq, putAt, bldE, evIo, isNil, Nat.ble, Int.reduceAdd, Int.reduceSub, Int.reduceNeg, Int.reduceBNe, Nat.reduceEqDiff, Nat.reduceSub, Nat.reduceAdd, Nat.reduceLeDiff, Nat.reduceBEq, Nat.reduceLT, Nat.reduceMul, Int.reduceBEq, Int.reduceLT, Int.reduceLE, reduceIte, reduceCtorEq]))
    refine Lp_ind (X := Nat) (fun i ll hs => ∃ js : List O, Hd (fun j => [.ts (a.map NNode.row), .ts (b.map NNode.row), .fn f [] [], j 3, j 4, j 5, .b false, j 7, j 8, j 9, j 10, j 11, j 12, j 13, j 14, .ts (a.map NNode.row), .i .i64 (a.length : Int), .i .i64 (i : Int), j 18, j 19, j 20, j 21, j 22, j 23, j 24, j 25, j 26, j 27, j 28, j 29, j 30, j 31]) ll ∧ hs = js)
      (fun i => i ≤ a.length ∧ eqB e a b = eqB e (a.drop i) (b.drop i)) (fun i => a.length - i) ?_ 0 _ _ (by exact ⟨[], rfl, rfl⟩) ⟨Nat.zero_le _, rfl⟩
    rintro i _ _ ⟨js, e, rfl⟩ ⟨hi, hinv⟩ IH
    obtain ⟨j, rfl⟩ := e.open
    clear e
    by_cases hlt : i < a.length
    · obtain ⟨x, hx, hxm⟩ := ats hlt
      obtain ⟨y, hy, hym⟩ := ats (show i < b.length by omega)
      have hxr := mg (f := NNode.row) hx
      have hyr := mg (f := NNode.row) hy
      have hd := ltd hlt
      have hw := wrap_big (n := i) (by omega)
      rw [eqB_step hx hy] at hinv
      cases g0 : e x y with
      | false =>
        have h0 := hf x y hxm hym
        rw [g0] at h0
        have hr : eqB e a b = false := by rw [hinv]; simp [g0]
        rw [hr]
        repeat' (first
          | (with_reducible refine pcl_intro (h0) (by simp only [SXR, List.length_map, hd, hxr, hyr, hw, bne, nnode_len, nnode_take, put5, nnode_cl, Nat.add_assoc]) (by simp only [SXR, List.length_map, hd, hxr, hyr, hw, bne, nnode_len, nnode_take, put5, nnode_cl, Nat.add_assoc]) ?_)
          | (simp only [c22, List.length_map, hd, hxr, hyr, hw, bne, nnode_len, nnode_take, put5, nnode_cl, Nat.add_assoc, SXR, noA, isAl, kA, udf, AOp.dst, Nat.beq, putAt, bldE, evIo, isNil, Nat.ble, Int.reduceAdd, Int.reduceSub, Int.reduceNeg, Int.reduceBNe, Nat.reduceEqDiff, Nat.reduceSub, Nat.reduceAdd, Nat.reduceLeDiff, Nat.reduceBEq, Nat.reduceLT, Nat.reduceMul, Int.reduceBEq, Int.reduceLT, Int.reduceLE, reduceIte, reduceCtorEq]))
      | true =>
        have h0 := hf x y hxm hym
        rw [g0] at h0
        repeat' (first
          | (with_reducible refine pcl_intro (h0) (by simp only [SXR, List.length_map, hd, hxr, hyr, hw, bne, nnode_len, nnode_take, put5, nnode_cl, Nat.add_assoc]) (by simp only [SXR, List.length_map, hd, hxr, hyr, hw, bne, nnode_len, nnode_take, put5, nnode_cl, Nat.add_assoc]) ?_)
          | (simp only [c22, List.length_map, hd, hxr, hyr, hw, bne, nnode_len, nnode_take, put5, nnode_cl, Nat.add_assoc, SXR, noA, isAl, kA, udf, AOp.dst, Nat.beq, putAt, bldE, evIo, isNil, Nat.ble, Int.reduceAdd, Int.reduceSub, Int.reduceNeg, Int.reduceBNe, Nat.reduceEqDiff, Nat.reduceSub, Nat.reduceAdd, Nat.reduceLeDiff, Nat.reduceBEq, Nat.reduceLT, Nat.reduceMul, Int.reduceBEq, Int.reduceLT, Int.reduceLE, reduceIte, reduceCtorEq]))
        exact IH (i + 1) _ _ (by exact ⟨_, rfl, rfl⟩) ⟨hlt, by rw [hinv]; simp [g0]⟩ (by omega)
    · have hd := ltn hlt
      clear IH
      rw [eqB_done hl hlt] at hinv
      rw [hinv]
      repeat' (first
        | (simp only [c22, List.length_map, hd, SXR, noA, isAl, kA, udf, AOp.dst, Nat.beq, putAt, bldE, evIo, isNil, Nat.ble, Int.reduceAdd, Int.reduceSub, Int.reduceNeg, Int.reduceBNe, Nat.reduceEqDiff, Nat.reduceSub, Nat.reduceAdd, Nat.reduceLeDiff, Nat.reduceBEq, Nat.reduceLT, Nat.reduceMul, Int.reduceBEq, Int.reduceLT, Int.reduceLE, reduceIte, reduceCtorEq]))
  · have hne : ((a.length : Int) != (b.length : Int)) = true := by simp; omega
    rw [eqB_ne hl]
    refine pc_of Tryz.func22 k22 rfl ?_
    repeat' (first
      | (simp only [c22, List.length_map, hne, SXR, noA, isAl, kA, udf, AOp.dst, Nat.beq, putAt, bldE, evIo, isNil, Nat.ble, Int.reduceAdd, Int.reduceSub, Int.reduceNeg, Int.reduceBNe, Nat.reduceEqDiff, Nat.reduceSub, Nat.reduceAdd, Nat.reduceLeDiff, Nat.reduceBEq, Nat.reduceLT, Nat.reduceMul, Int.reduceBEq, Int.reduceLT, Int.reduceLE, reduceIte, reduceCtorEq]))
theorem efexm_pc (f : Nat) (e : Ex → Ex → Bool) (a b : List Ex) (hn : Lst.ok a) (hf : ∀ x y, x ∈ a → y ∈ b → PC Tryz.prog f [.ag (Ex.row x), .ag (Ex.row y)] (.b (e x y))) : PC Tryz.prog 52 [.ts (a.map Ex.row), .ts (b.map Ex.row), .fn f [] []] (.b (eqB e a b)) := by
  unfold Lst.ok at hn
  by_cases hl : a.length = b.length
  · have hne : ((a.length : Int) != (b.length : Int)) = false := by rw [hl]; simp
    refine pc_of Tryz.func52 k52 rfl ?_
    repeat' (first
      | (simp only [c52, List.length_map, hne, SXR, noA, isAl, kA, udf, AOp.dst, Nat.beq, putAt, bldE, evIo, isNil, Nat.ble, Int.reduceAdd, Int.reduceSub, Int.reduceNeg, Int.reduceBNe, Nat.reduceEqDiff, Nat.reduceSub, Nat.reduceAdd, Nat.reduceLeDiff, Nat.reduceBEq, Nat.reduceLT, Nat.reduceMul, Int.reduceBEq, Int.reduceLT, Int.reduceLE, reduceIte, reduceCtorEq]))
    refine Lp_ind (X := Nat) (fun i ll hs => ∃ js : List O, Hd (fun j => [.ts (a.map Ex.row), .ts (b.map Ex.row), .fn f [] [], j 3, j 4, j 5, .b false, j 7, j 8, j 9, j 10, j 11, j 12, j 13, j 14, .ts (a.map Ex.row), .i .i64 (a.length : Int), .i .i64 (i : Int), j 18, j 19, j 20, j 21, j 22, j 23, j 24, j 25, j 26, j 27, j 28, j 29, j 30, j 31]) ll ∧ hs = js)
      (fun i => i ≤ a.length ∧ eqB e a b = eqB e (a.drop i) (b.drop i)) (fun i => a.length - i) ?_ 0 _ _ (by exact ⟨[], rfl, rfl⟩) ⟨Nat.zero_le _, rfl⟩
    rintro i _ _ ⟨js, e, rfl⟩ ⟨hi, hinv⟩ IH
    obtain ⟨j, rfl⟩ := e.open
    clear e
    by_cases hlt : i < a.length
    · obtain ⟨x, hx, hxm⟩ := ats hlt
      obtain ⟨y, hy, hym⟩ := ats (show i < b.length by omega)
      have hxr := mg (f := Ex.row) hx
      have hyr := mg (f := Ex.row) hy
      have hd := ltd hlt
      have hw := wrap_big (n := i) (by omega)
      rw [eqB_step hx hy] at hinv
      cases g0 : e x y with
      | false =>
        have h0 := hf x y hxm hym
        rw [g0] at h0
        have hr : eqB e a b = false := by rw [hinv]; simp [g0]
        rw [hr]
        repeat' (first
          | (with_reducible refine pcl_intro (h0) (by simp only [SXR, List.length_map, hd, hxr, hyr, hw, bne, row_len, row_take, put_row, row_cl, Nat.add_assoc]) (by simp only [SXR, List.length_map, hd, hxr, hyr, hw, bne, row_len, row_take, put_row, row_cl, Nat.add_assoc]) ?_)
          | (simp only [c52, List.length_map, hd, hxr, hyr, hw, bne, row_len, row_take, put_row, row_cl, Nat.add_assoc, SXR, noA, isAl, kA, udf, AOp.dst, Nat.beq, putAt, bldE, evIo, isNil, Nat.ble, Int.reduceAdd, Int.reduceSub, Int.reduceNeg, Int.reduceBNe, Nat.reduceEqDiff, Nat.reduceSub, Nat.reduceAdd, Nat.reduceLeDiff, Nat.reduceBEq, Nat.reduceLT, Nat.reduceMul, Int.reduceBEq, Int.reduceLT, Int.reduceLE, reduceIte, reduceCtorEq]))
      | true =>
        have h0 := hf x y hxm hym
        rw [g0] at h0
        repeat' (first
          | (with_reducible refine pcl_intro (h0) (by simp only [SXR, List.length_map, hd, hxr, hyr, hw, bne, row_len, row_take, put_row, row_cl, Nat.add_assoc]) (by simp only [SXR, List.length_map, hd, hxr, hyr, hw, bne, row_len, row_take, put_row, row_cl, Nat.add_assoc]) ?_)
          | (simp only [c52, List.length_map, hd, hxr, hyr, hw, bne, row_len, row_take, put_row, row_cl, Nat.add_assoc, SXR, noA, isAl, kA, udf, AOp.dst, Nat.beq, putAt, bldE, evIo, isNil, Nat.ble, Int.reduceAdd, Int.reduceSub, Int.reduceNeg, Int.reduceBNe, Nat.reduceEqDiff, Nat.reduceSub, Nat.reduceAdd, Nat.reduceLeDiff, Nat.reduceBEq, Nat.reduceLT, Nat.reduceMul, Int.reduceBEq, Int.reduceLT, Int.reduceLE, reduceIte, reduceCtorEq]))
        exact IH (i + 1) _ _ (by exact ⟨_, rfl, rfl⟩) ⟨hlt, by rw [hinv]; simp [g0]⟩ (by omega)
    · have hd := ltn hlt
      clear IH
      rw [eqB_done hl hlt] at hinv
      rw [hinv]
      repeat' (first
        | (simp only [c52, List.length_map, hd, SXR, noA, isAl, kA, udf, AOp.dst, Nat.beq, putAt, bldE, evIo, isNil, Nat.ble, Int.reduceAdd, Int.reduceSub, Int.reduceNeg, Int.reduceBNe, Nat.reduceEqDiff, Nat.reduceSub, Nat.reduceAdd, Nat.reduceLeDiff, Nat.reduceBEq, Nat.reduceLT, Nat.reduceMul, Int.reduceBEq, Int.reduceLT, Int.reduceLE, reduceIte, reduceCtorEq]))
  · have hne : ((a.length : Int) != (b.length : Int)) = true := by simp; omega
    rw [eqB_ne hl]
    refine pc_of Tryz.func52 k52 rfl ?_
    repeat' (first
      | (simp only [c52, List.length_map, hne, SXR, noA, isAl, kA, udf, AOp.dst, Nat.beq, putAt, bldE, evIo, isNil, Nat.ble, Int.reduceAdd, Int.reduceSub, Int.reduceNeg, Int.reduceBNe, Nat.reduceEqDiff, Nat.reduceSub, Nat.reduceAdd, Nat.reduceLeDiff, Nat.reduceBEq, Nat.reduceLT, Nat.reduceMul, Int.reduceBEq, Int.reduceLT, Int.reduceLE, reduceIte, reduceCtorEq]))
theorem efex_pc (f : Nat) (e : Ex → Ex → Bool) (a b : List Ex) (hn : Lst.ok a) (hf : ∀ x y, x ∈ a → y ∈ b → PC Tryz.prog f [xg x, xg y] (.b (e x y))) : PC Tryz.prog 52 [.ts (Ex.rows a), .ts (Ex.rows b), .fn f [] []] (.b (eqB e a b)) := by
  rw [rows_map, rows_map]
  exact efexm_pc f e a b hn hf
theorem samedecl1_pc (x y : Decl) (hk : x.ok) : PC Tryz.prog 50 [.ag x.row, .ag y.row] (.b (eqDecl x y)) := by
  cases g0 : eqStr x.nm y.nm with
  | false =>
    have h0 := g0
    simp only [eqStr] at h0
    have hr : eqDecl x y = false := by simp [eqDecl, g0]
    rw [hr]
    refine pc_of Tryz.func50 k50 rfl ?_
    repeat' (first
      | (simp only [c50, bne, Decl.row, ons_cl, h0, SXR, noA, isAl, kA, udf, AOp.dst, Nat.beq, putAt, bldE, evIo, isNil, Nat.ble, Int.reduceAdd, Int.reduceSub, Int.reduceNeg, Int.reduceBNe, Nat.reduceEqDiff, Nat.reduceSub, Nat.reduceAdd, Nat.reduceLeDiff, Nat.reduceBEq, Nat.reduceLT, Nat.reduceMul, Int.reduceBEq, Int.reduceLT, Int.reduceLE, reduceIte, reduceCtorEq]))
  | true =>
    have h0 := g0
    simp only [eqStr] at h0
    cases g1 : x.ty == y.ty with
    | false =>
      have h1 := g1
      have hr : eqDecl x y = false := by simp [eqDecl, g0, g1]
      rw [hr]
      refine pc_of Tryz.func50 k50 rfl ?_
      repeat' (first
        | (simp only [c50, bne, Decl.row, ons_cl, h0, h1, SXR, noA, isAl, kA, udf, AOp.dst, Nat.beq, putAt, bldE, evIo, isNil, Nat.ble, Int.reduceAdd, Int.reduceSub, Int.reduceNeg, Int.reduceBNe, Nat.reduceEqDiff, Nat.reduceSub, Nat.reduceAdd, Nat.reduceLeDiff, Nat.reduceBEq, Nat.reduceLT, Nat.reduceMul, Int.reduceBEq, Int.reduceLT, Int.reduceLE, reduceIte, reduceCtorEq]))
    | true =>
      have h1 := g1
      cases g2 : eqB eqOn x.ck y.ck with
      | false =>
        have h2 := seqon_pc x.ck y.ck hk
        rw [g2] at h2
        have hr : eqDecl x y = false := by simp [eqDecl, g0, g1, g2]
        rw [hr]
        refine pc_of Tryz.func50 k50 rfl ?_
        repeat' (first
          | (with_reducible refine pcl_intro (h2) (by simp only [SXR, bne, Decl.row, ons_cl, h0, h1]) (by simp only [SXR, bne, Decl.row, ons_cl, h0, h1]) ?_)
          | (simp only [c50, bne, Decl.row, ons_cl, h0, h1, SXR, noA, isAl, kA, udf, AOp.dst, Nat.beq, putAt, bldE, evIo, isNil, Nat.ble, Int.reduceAdd, Int.reduceSub, Int.reduceNeg, Int.reduceBNe, Nat.reduceEqDiff, Nat.reduceSub, Nat.reduceAdd, Nat.reduceLeDiff, Nat.reduceBEq, Nat.reduceLT, Nat.reduceMul, Int.reduceBEq, Int.reduceLT, Int.reduceLE, reduceIte, reduceCtorEq]))
      | true =>
        have h2 := seqon_pc x.ck y.ck hk
        rw [g2] at h2
        have hr : eqDecl x y = true := by simp [eqDecl, g0, g1, g2]
        rw [hr]
        refine pc_of Tryz.func50 k50 rfl ?_
        repeat' (first
          | (with_reducible refine pcl_intro (h2) (by simp only [SXR, bne, Decl.row, ons_cl, h0, h1]) (by simp only [SXR, bne, Decl.row, ons_cl, h0, h1]) ?_)
          | (simp only [c50, bne, Decl.row, ons_cl, h0, h1, SXR, noA, isAl, kA, udf, AOp.dst, Nat.beq, putAt, bldE, evIo, isNil, Nat.ble, Int.reduceAdd, Int.reduceSub, Int.reduceNeg, Int.reduceBNe, Nat.reduceEqDiff, Nat.reduceSub, Nat.reduceAdd, Nat.reduceLeDiff, Nat.reduceBEq, Nat.reduceLT, Nat.reduceMul, Int.reduceBEq, Int.reduceLT, Int.reduceLE, reduceIte, reduceCtorEq]))
theorem samedecls_pc (a b : List Decl) (hn : decOk a) : PC Tryz.prog 24 [.ts (a.map Decl.row), .ts (b.map Decl.row)] (.b (eqB eqDecl a b)) := by
  have hc := efdecl_pc 50 eqDecl a b hn.1 (fun x y hx _ => samedecl1_pc x y (hn.2 x hx))
  refine pc_of Tryz.func24 k24 rfl ?_
  repeat' (first
    | (with_reducible refine pcl_intro (hc) (by simp only [SXR, decls_cl]) (by simp only [SXR, decls_cl]) ?_)
    | (simp only [c24, decls_cl, SXR, noA, isAl, kA, udf, AOp.dst, Nat.beq, putAt, bldE, evIo, isNil, Nat.ble, Int.reduceAdd, Int.reduceSub, Int.reduceNeg, Int.reduceBNe, Nat.reduceEqDiff, Nat.reduceSub, Nat.reduceAdd, Nat.reduceLeDiff, Nat.reduceBEq, Nat.reduceLT, Nat.reduceMul, Int.reduceBEq, Int.reduceLT, Int.reduceLE, reduceIte, reduceCtorEq]))
theorem exsame_pc : ∀ (n : Nat) (x y : Ex), x.sz ≤ n → x.ok → PC Tryz.prog 51 [xg x, xg y] (.b (exB x y))
  | 0, x, y, h, _ => by have := sz_pos x; omega
  | n + 1, .mk k op t v nl nn l, .mk k' op' t' v' nl' nn' l', h, hok => by
    have hszs : Ex.szs l ≤ n := by simp [Ex.sz] at h; omega
    simp only [Ex.ok] at hok
    have hf : PC Tryz.prog 52 [.ts (Ex.rows l), .ts (Ex.rows l'), .fn 51 [] []] (.b (eqB exB l l')) := efex_pc 51 exB l l' hok.1 (fun x y hx _ => exsame_pc n x y (by have := sz_mem hx; omega) (oks_mem hok.2 hx))
    cases g0 : k == k' with
    | false =>
      have h0 := g0
      have hr : exB (.mk k op t v nl nn l) (.mk k' op' t' v' nl' nn' l') = false := by simp [exB, exsB_eq, g0]
      rw [hr]
      refine pc_of Tryz.func51 k51 rfl ?_
      repeat' (first
        | (simp only [c51, bne, Ex.row, rows_cl, h0, SXR, noA, isAl, kA, udf, AOp.dst, Nat.beq, putAt, bldE, evIo, isNil, Nat.ble, Int.reduceAdd, Int.reduceSub, Int.reduceNeg, Int.reduceBNe, Nat.reduceEqDiff, Nat.reduceSub, Nat.reduceAdd, Nat.reduceLeDiff, Nat.reduceBEq, Nat.reduceLT, Nat.reduceMul, Int.reduceBEq, Int.reduceLT, Int.reduceLE, reduceIte, reduceCtorEq]))
    | true =>
      have h0 := g0
      cases g1 : op == op' with
      | false =>
        have h1 := g1
        have hr : exB (.mk k op t v nl nn l) (.mk k' op' t' v' nl' nn' l') = false := by simp [exB, exsB_eq, g0, g1]
        rw [hr]
        refine pc_of Tryz.func51 k51 rfl ?_
        repeat' (first
          | (simp only [c51, bne, Ex.row, rows_cl, h0, h1, SXR, noA, isAl, kA, udf, AOp.dst, Nat.beq, putAt, bldE, evIo, isNil, Nat.ble, Int.reduceAdd, Int.reduceSub, Int.reduceNeg, Int.reduceBNe, Nat.reduceEqDiff, Nat.reduceSub, Nat.reduceAdd, Nat.reduceLeDiff, Nat.reduceBEq, Nat.reduceLT, Nat.reduceMul, Int.reduceBEq, Int.reduceLT, Int.reduceLE, reduceIte, reduceCtorEq]))
      | true =>
        have h1 := g1
        cases g2 : t == t' with
        | false =>
          have h2 := g2
          have hr : exB (.mk k op t v nl nn l) (.mk k' op' t' v' nl' nn' l') = false := by simp [exB, exsB_eq, g0, g1, g2]
          rw [hr]
          refine pc_of Tryz.func51 k51 rfl ?_
          repeat' (first
            | (simp only [c51, bne, Ex.row, rows_cl, h0, h1, h2, SXR, noA, isAl, kA, udf, AOp.dst, Nat.beq, putAt, bldE, evIo, isNil, Nat.ble, Int.reduceAdd, Int.reduceSub, Int.reduceNeg, Int.reduceBNe, Nat.reduceEqDiff, Nat.reduceSub, Nat.reduceAdd, Nat.reduceLeDiff, Nat.reduceBEq, Nat.reduceLT, Nat.reduceMul, Int.reduceBEq, Int.reduceLT, Int.reduceLE, reduceIte, reduceCtorEq]))
        | true =>
          have h2 := g2
          cases g3 : v == v' with
          | false =>
            have h3 := g3
            have hr : exB (.mk k op t v nl nn l) (.mk k' op' t' v' nl' nn' l') = false := by simp [exB, exsB_eq, g0, g1, g2, g3]
            rw [hr]
            refine pc_of Tryz.func51 k51 rfl ?_
            repeat' (first
              | (simp only [c51, bne, Ex.row, rows_cl, h0, h1, h2, h3, SXR, noA, isAl, kA, udf, AOp.dst, Nat.beq, putAt, bldE, evIo, isNil, Nat.ble, Int.reduceAdd, Int.reduceSub, Int.reduceNeg, Int.reduceBNe, Nat.reduceEqDiff, Nat.reduceSub, Nat.reduceAdd, Nat.reduceLeDiff, Nat.reduceBEq, Nat.reduceLT, Nat.reduceMul, Int.reduceBEq, Int.reduceLT, Int.reduceLE, reduceIte, reduceCtorEq]))
          | true =>
            have h3 := g3
            cases g4 : eqStr (nl, nn) (nl', nn') with
            | false =>
              have h4 := g4
              simp only [eqStr] at h4
              have hr : exB (.mk k op t v nl nn l) (.mk k' op' t' v' nl' nn' l') = false := by simp [exB, exsB_eq, g0, g1, g2, g3, g4]
              rw [hr]
              refine pc_of Tryz.func51 k51 rfl ?_
              repeat' (first
                | (simp only [c51, bne, Ex.row, rows_cl, h0, h1, h2, h3, h4, SXR, noA, isAl, kA, udf, AOp.dst, Nat.beq, putAt, bldE, evIo, isNil, Nat.ble, Int.reduceAdd, Int.reduceSub, Int.reduceNeg, Int.reduceBNe, Nat.reduceEqDiff, Nat.reduceSub, Nat.reduceAdd, Nat.reduceLeDiff, Nat.reduceBEq, Nat.reduceLT, Nat.reduceMul, Int.reduceBEq, Int.reduceLT, Int.reduceLE, reduceIte, reduceCtorEq]))
            | true =>
              have h4 := g4
              simp only [eqStr] at h4
              cases g5 : eqB exB l l' with
              | false =>
                have h5 := hf
                rw [g5] at h5
                have hr : exB (.mk k op t v nl nn l) (.mk k' op' t' v' nl' nn' l') = false := by simp [exB, exsB_eq, g0, g1, g2, g3, g4, g5]
                rw [hr]
                refine pc_of Tryz.func51 k51 rfl ?_
                repeat' (first
                  | (with_reducible refine pcl_intro (h5) (by simp only [SXR, bne, Ex.row, rows_cl, h0, h1, h2, h3, h4]) (by simp only [SXR, bne, Ex.row, rows_cl, h0, h1, h2, h3, h4]) ?_)
                  | (simp only [c51, bne, Ex.row, rows_cl, h0, h1, h2, h3, h4, SXR, noA, isAl, kA, udf, AOp.dst, Nat.beq, putAt, bldE, evIo, isNil, Nat.ble, Int.reduceAdd, Int.reduceSub, Int.reduceNeg, Int.reduceBNe, Nat.reduceEqDiff, Nat.reduceSub, Nat.reduceAdd, Nat.reduceLeDiff, Nat.reduceBEq, Nat.reduceLT, Nat.reduceMul, Int.reduceBEq, Int.reduceLT, Int.reduceLE, reduceIte, reduceCtorEq]))
              | true =>
                have h5 := hf
                rw [g5] at h5
                have hr : exB (.mk k op t v nl nn l) (.mk k' op' t' v' nl' nn' l') = true := by simp [exB, exsB_eq, g0, g1, g2, g3, g4, g5]
                rw [hr]
                refine pc_of Tryz.func51 k51 rfl ?_
                repeat' (first
                  | (with_reducible refine pcl_intro (h5) (by simp only [SXR, bne, Ex.row, rows_cl, h0, h1, h2, h3, h4]) (by simp only [SXR, bne, Ex.row, rows_cl, h0, h1, h2, h3, h4]) ?_)
                  | (simp only [c51, bne, Ex.row, rows_cl, h0, h1, h2, h3, h4, SXR, noA, isAl, kA, udf, AOp.dst, Nat.beq, putAt, bldE, evIo, isNil, Nat.ble, Int.reduceAdd, Int.reduceSub, Int.reduceNeg, Int.reduceBNe, Nat.reduceEqDiff, Nat.reduceSub, Nat.reduceAdd, Nat.reduceLeDiff, Nat.reduceBEq, Nat.reduceLT, Nat.reduceMul, Int.reduceBEq, Int.reduceLT, Int.reduceLE, reduceIte, reduceCtorEq]))
theorem neqn_kind (q : NEqn) : q.row.take 1 = [.i .i64 q.kind] := by obtain ⟨_, _, ⟨_, _, _, _, _, _, _⟩, _, _, _, _, _⟩ := q; rfl
theorem neqn_init (q : NEqn) : (q.row.drop 8).take 1 = [.i .i64 q.init] := by obtain ⟨_, _, ⟨_, _, _, _, _, _, _⟩, _, _, _, _, _⟩ := q; rfl
theorem neqn_node (q : NEqn) : (q.row.drop 9).take 1 = [.s q.node.1 q.node.2] := by obtain ⟨_, _, ⟨_, _, _, _, _, _, _⟩, _, _, _, _, _⟩ := q; rfl
theorem neqn_every (q : NEqn) : (q.row.drop 11).take 1 = [.s q.every.1 q.every.2] := by obtain ⟨_, _, ⟨_, _, _, _, _, _, _⟩, _, _, _, _, _⟩ := q; rfl
set_option maxHeartbeats 1000000 in
theorem sameeq_pc (x y : NEqn) (hk : x.ok) : PC Tryz.prog 26 [.ag x.row, .ag y.row] (.b (eqNEqn x y)) := by
  cases g0 : x.kind == y.kind with
  | false =>
    have h0 := g0
    have hr : eqNEqn x y = false := by simp [eqNEqn, g0]
    rw [hr]
    refine pc_of Tryz.func26 k26 rfl ?_
    repeat' (first
      | (simp only [c26, bne, neqn_len, neqn_kind, neqn_left, neqn_right, neqn_init, neqn_node, neqn_args, neqn_every, neqn_ck, srows_cl, rows_cl, row_cl, ons_cl, h0, SXR, noA, isAl, kA, udf, AOp.dst, Nat.beq, putAt, bldE, evIo, isNil, Nat.ble, Int.reduceAdd, Int.reduceSub, Int.reduceNeg, Int.reduceBNe, Nat.reduceEqDiff, Nat.reduceSub, Nat.reduceAdd, Nat.reduceLeDiff, Nat.reduceBEq, Nat.reduceLT, Nat.reduceMul, Int.reduceBEq, Int.reduceLT, Int.reduceLE, reduceIte, reduceCtorEq]))
  | true =>
    have h0 := g0
    cases g1 : eqB eqStr x.left y.left with
    | false =>
      have h1 := seqstr_pc x.left y.left hk.1
      rw [g1] at h1
      have hr : eqNEqn x y = false := by simp [eqNEqn, g0, g1]
      rw [hr]
      refine pc_of Tryz.func26 k26 rfl ?_
      repeat' (first
        | (with_reducible refine pcl_intro (h1) (by simp only [SXR, bne, neqn_len, neqn_kind, neqn_left, neqn_right, neqn_init, neqn_node, neqn_args, neqn_every, neqn_ck, srows_cl, rows_cl, row_cl, ons_cl, h0]) (by simp only [SXR, bne, neqn_len, neqn_kind, neqn_left, neqn_right, neqn_init, neqn_node, neqn_args, neqn_every, neqn_ck, srows_cl, rows_cl, row_cl, ons_cl, h0]) ?_)
        | (simp only [c26, bne, neqn_len, neqn_kind, neqn_left, neqn_right, neqn_init, neqn_node, neqn_args, neqn_every, neqn_ck, srows_cl, rows_cl, row_cl, ons_cl, h0, SXR, noA, isAl, kA, udf, AOp.dst, Nat.beq, putAt, bldE, evIo, isNil, Nat.ble, Int.reduceAdd, Int.reduceSub, Int.reduceNeg, Int.reduceBNe, Nat.reduceEqDiff, Nat.reduceSub, Nat.reduceAdd, Nat.reduceLeDiff, Nat.reduceBEq, Nat.reduceLT, Nat.reduceMul, Int.reduceBEq, Int.reduceLT, Int.reduceLE, reduceIte, reduceCtorEq]))
    | true =>
      have h1 := seqstr_pc x.left y.left hk.1
      rw [g1] at h1
      cases g2 : exB x.right y.right with
      | false =>
        have h2 := exsame_pc _ x.right y.right (Nat.le_refl _) hk.2.1
        rw [g2] at h2
        have hr : eqNEqn x y = false := by simp [eqNEqn, g0, g1, g2]
        rw [hr]
        refine pc_of Tryz.func26 k26 rfl ?_
        repeat' (first
          | (with_reducible refine pcl_intro (h1) (by simp only [SXR, bne, neqn_len, neqn_kind, neqn_left, neqn_right, neqn_init, neqn_node, neqn_args, neqn_every, neqn_ck, srows_cl, rows_cl, row_cl, ons_cl, h0]) (by simp only [SXR, bne, neqn_len, neqn_kind, neqn_left, neqn_right, neqn_init, neqn_node, neqn_args, neqn_every, neqn_ck, srows_cl, rows_cl, row_cl, ons_cl, h0]) ?_)
          | (with_reducible refine pcl_intro (h2) (by simp only [SXR, bne, neqn_len, neqn_kind, neqn_left, neqn_right, neqn_init, neqn_node, neqn_args, neqn_every, neqn_ck, srows_cl, rows_cl, row_cl, ons_cl, h0]) (by simp only [SXR, bne, neqn_len, neqn_kind, neqn_left, neqn_right, neqn_init, neqn_node, neqn_args, neqn_every, neqn_ck, srows_cl, rows_cl, row_cl, ons_cl, h0]) ?_)
          | (simp only [c26, bne, neqn_len, neqn_kind, neqn_left, neqn_right, neqn_init, neqn_node, neqn_args, neqn_every, neqn_ck, srows_cl, rows_cl, row_cl, ons_cl, h0, SXR, noA, isAl, kA, udf, AOp.dst, Nat.beq, putAt, bldE, evIo, isNil, Nat.ble, Int.reduceAdd, Int.reduceSub, Int.reduceNeg, Int.reduceBNe, Nat.reduceEqDiff, Nat.reduceSub, Nat.reduceAdd, Nat.reduceLeDiff, Nat.reduceBEq, Nat.reduceLT, Nat.reduceMul, Int.reduceBEq, Int.reduceLT, Int.reduceLE, reduceIte, reduceCtorEq]))
      | true =>
        have h2 := exsame_pc _ x.right y.right (Nat.le_refl _) hk.2.1
        rw [g2] at h2
        cases g3 : x.init == y.init with
        | false =>
          have h3 := g3
          have hr : eqNEqn x y = false := by simp [eqNEqn, g0, g1, g2, g3]
          rw [hr]
          refine pc_of Tryz.func26 k26 rfl ?_
          repeat' (first
            | (with_reducible refine pcl_intro (h1) (by simp only [SXR, bne, neqn_len, neqn_kind, neqn_left, neqn_right, neqn_init, neqn_node, neqn_args, neqn_every, neqn_ck, srows_cl, rows_cl, row_cl, ons_cl, h0, h3]) (by simp only [SXR, bne, neqn_len, neqn_kind, neqn_left, neqn_right, neqn_init, neqn_node, neqn_args, neqn_every, neqn_ck, srows_cl, rows_cl, row_cl, ons_cl, h0, h3]) ?_)
            | (with_reducible refine pcl_intro (h2) (by simp only [SXR, bne, neqn_len, neqn_kind, neqn_left, neqn_right, neqn_init, neqn_node, neqn_args, neqn_every, neqn_ck, srows_cl, rows_cl, row_cl, ons_cl, h0, h3]) (by simp only [SXR, bne, neqn_len, neqn_kind, neqn_left, neqn_right, neqn_init, neqn_node, neqn_args, neqn_every, neqn_ck, srows_cl, rows_cl, row_cl, ons_cl, h0, h3]) ?_)
            | (simp only [c26, bne, neqn_len, neqn_kind, neqn_left, neqn_right, neqn_init, neqn_node, neqn_args, neqn_every, neqn_ck, srows_cl, rows_cl, row_cl, ons_cl, h0, h3, SXR, noA, isAl, kA, udf, AOp.dst, Nat.beq, putAt, bldE, evIo, isNil, Nat.ble, Int.reduceAdd, Int.reduceSub, Int.reduceNeg, Int.reduceBNe, Nat.reduceEqDiff, Nat.reduceSub, Nat.reduceAdd, Nat.reduceLeDiff, Nat.reduceBEq, Nat.reduceLT, Nat.reduceMul, Int.reduceBEq, Int.reduceLT, Int.reduceLE, reduceIte, reduceCtorEq]))
        | true =>
          have h3 := g3
          cases g4 : eqStr x.node y.node with
          | false =>
            have h4 := g4
            simp only [eqStr] at h4
            have hr : eqNEqn x y = false := by simp [eqNEqn, g0, g1, g2, g3, g4]
            rw [hr]
            refine pc_of Tryz.func26 k26 rfl ?_
            repeat' (first
              | (with_reducible refine pcl_intro (h1) (by simp only [SXR, bne, neqn_len, neqn_kind, neqn_left, neqn_right, neqn_init, neqn_node, neqn_args, neqn_every, neqn_ck, srows_cl, rows_cl, row_cl, ons_cl, h0, h3, h4]) (by simp only [SXR, bne, neqn_len, neqn_kind, neqn_left, neqn_right, neqn_init, neqn_node, neqn_args, neqn_every, neqn_ck, srows_cl, rows_cl, row_cl, ons_cl, h0, h3, h4]) ?_)
              | (with_reducible refine pcl_intro (h2) (by simp only [SXR, bne, neqn_len, neqn_kind, neqn_left, neqn_right, neqn_init, neqn_node, neqn_args, neqn_every, neqn_ck, srows_cl, rows_cl, row_cl, ons_cl, h0, h3, h4]) (by simp only [SXR, bne, neqn_len, neqn_kind, neqn_left, neqn_right, neqn_init, neqn_node, neqn_args, neqn_every, neqn_ck, srows_cl, rows_cl, row_cl, ons_cl, h0, h3, h4]) ?_)
              | (simp only [c26, bne, neqn_len, neqn_kind, neqn_left, neqn_right, neqn_init, neqn_node, neqn_args, neqn_every, neqn_ck, srows_cl, rows_cl, row_cl, ons_cl, h0, h3, h4, SXR, noA, isAl, kA, udf, AOp.dst, Nat.beq, putAt, bldE, evIo, isNil, Nat.ble, Int.reduceAdd, Int.reduceSub, Int.reduceNeg, Int.reduceBNe, Nat.reduceEqDiff, Nat.reduceSub, Nat.reduceAdd, Nat.reduceLeDiff, Nat.reduceBEq, Nat.reduceLT, Nat.reduceMul, Int.reduceBEq, Int.reduceLT, Int.reduceLE, reduceIte, reduceCtorEq]))
          | true =>
            have h4 := g4
            simp only [eqStr] at h4
            cases g5 : eqB exB x.args y.args with
            | false =>
              have h5 := efex_pc 51 exB x.args y.args hk.2.2.1 (fun a b ha _ => exsame_pc _ a b (Nat.le_refl _) (oks_mem hk.2.2.2.1 ha))
              rw [g5] at h5
              have hr : eqNEqn x y = false := by simp [eqNEqn, g0, g1, g2, g3, g4, g5]
              rw [hr]
              refine pc_of Tryz.func26 k26 rfl ?_
              repeat' (first
                | (with_reducible refine pcl_intro (h1) (by simp only [SXR, bne, neqn_len, neqn_kind, neqn_left, neqn_right, neqn_init, neqn_node, neqn_args, neqn_every, neqn_ck, srows_cl, rows_cl, row_cl, ons_cl, h0, h3, h4]) (by simp only [SXR, bne, neqn_len, neqn_kind, neqn_left, neqn_right, neqn_init, neqn_node, neqn_args, neqn_every, neqn_ck, srows_cl, rows_cl, row_cl, ons_cl, h0, h3, h4]) ?_)
                | (with_reducible refine pcl_intro (h2) (by simp only [SXR, bne, neqn_len, neqn_kind, neqn_left, neqn_right, neqn_init, neqn_node, neqn_args, neqn_every, neqn_ck, srows_cl, rows_cl, row_cl, ons_cl, h0, h3, h4]) (by simp only [SXR, bne, neqn_len, neqn_kind, neqn_left, neqn_right, neqn_init, neqn_node, neqn_args, neqn_every, neqn_ck, srows_cl, rows_cl, row_cl, ons_cl, h0, h3, h4]) ?_)
                | (with_reducible refine pcl_intro (h5) (by simp only [SXR, bne, neqn_len, neqn_kind, neqn_left, neqn_right, neqn_init, neqn_node, neqn_args, neqn_every, neqn_ck, srows_cl, rows_cl, row_cl, ons_cl, h0, h3, h4]) (by simp only [SXR, bne, neqn_len, neqn_kind, neqn_left, neqn_right, neqn_init, neqn_node, neqn_args, neqn_every, neqn_ck, srows_cl, rows_cl, row_cl, ons_cl, h0, h3, h4]) ?_)
                | (simp only [c26, bne, neqn_len, neqn_kind, neqn_left, neqn_right, neqn_init, neqn_node, neqn_args, neqn_every, neqn_ck, srows_cl, rows_cl, row_cl, ons_cl, h0, h3, h4, SXR, noA, isAl, kA, udf, AOp.dst, Nat.beq, putAt, bldE, evIo, isNil, Nat.ble, Int.reduceAdd, Int.reduceSub, Int.reduceNeg, Int.reduceBNe, Nat.reduceEqDiff, Nat.reduceSub, Nat.reduceAdd, Nat.reduceLeDiff, Nat.reduceBEq, Nat.reduceLT, Nat.reduceMul, Int.reduceBEq, Int.reduceLT, Int.reduceLE, reduceIte, reduceCtorEq]))
            | true =>
              have h5 := efex_pc 51 exB x.args y.args hk.2.2.1 (fun a b ha _ => exsame_pc _ a b (Nat.le_refl _) (oks_mem hk.2.2.2.1 ha))
              rw [g5] at h5
              cases g6 : eqStr x.every y.every with
              | false =>
                have h6 := g6
                simp only [eqStr] at h6
                have hr : eqNEqn x y = false := by simp [eqNEqn, g0, g1, g2, g3, g4, g5, g6]
                rw [hr]
                refine pc_of Tryz.func26 k26 rfl ?_
                repeat' (first
                  | (with_reducible refine pcl_intro (h1) (by simp only [SXR, bne, neqn_len, neqn_kind, neqn_left, neqn_right, neqn_init, neqn_node, neqn_args, neqn_every, neqn_ck, srows_cl, rows_cl, row_cl, ons_cl, h0, h3, h4, h6]) (by simp only [SXR, bne, neqn_len, neqn_kind, neqn_left, neqn_right, neqn_init, neqn_node, neqn_args, neqn_every, neqn_ck, srows_cl, rows_cl, row_cl, ons_cl, h0, h3, h4, h6]) ?_)
                  | (with_reducible refine pcl_intro (h2) (by simp only [SXR, bne, neqn_len, neqn_kind, neqn_left, neqn_right, neqn_init, neqn_node, neqn_args, neqn_every, neqn_ck, srows_cl, rows_cl, row_cl, ons_cl, h0, h3, h4, h6]) (by simp only [SXR, bne, neqn_len, neqn_kind, neqn_left, neqn_right, neqn_init, neqn_node, neqn_args, neqn_every, neqn_ck, srows_cl, rows_cl, row_cl, ons_cl, h0, h3, h4, h6]) ?_)
                  | (with_reducible refine pcl_intro (h5) (by simp only [SXR, bne, neqn_len, neqn_kind, neqn_left, neqn_right, neqn_init, neqn_node, neqn_args, neqn_every, neqn_ck, srows_cl, rows_cl, row_cl, ons_cl, h0, h3, h4, h6]) (by simp only [SXR, bne, neqn_len, neqn_kind, neqn_left, neqn_right, neqn_init, neqn_node, neqn_args, neqn_every, neqn_ck, srows_cl, rows_cl, row_cl, ons_cl, h0, h3, h4, h6]) ?_)
                  | (simp only [c26, bne, neqn_len, neqn_kind, neqn_left, neqn_right, neqn_init, neqn_node, neqn_args, neqn_every, neqn_ck, srows_cl, rows_cl, row_cl, ons_cl, h0, h3, h4, h6, SXR, noA, isAl, kA, udf, AOp.dst, Nat.beq, putAt, bldE, evIo, isNil, Nat.ble, Int.reduceAdd, Int.reduceSub, Int.reduceNeg, Int.reduceBNe, Nat.reduceEqDiff, Nat.reduceSub, Nat.reduceAdd, Nat.reduceLeDiff, Nat.reduceBEq, Nat.reduceLT, Nat.reduceMul, Int.reduceBEq, Int.reduceLT, Int.reduceLE, reduceIte, reduceCtorEq]))
              | true =>
                have h6 := g6
                simp only [eqStr] at h6
                cases g7 : eqB eqOn x.ck y.ck with
                | false =>
                  have h7 := seqon_pc x.ck y.ck hk.2.2.2.2.1
                  rw [g7] at h7
                  have hr : eqNEqn x y = false := by simp [eqNEqn, g0, g1, g2, g3, g4, g5, g6, g7]
                  rw [hr]
                  refine pc_of Tryz.func26 k26 rfl ?_
                  repeat' (first
                    | (with_reducible refine pcl_intro (h1) (by simp only [SXR, bne, neqn_len, neqn_kind, neqn_left, neqn_right, neqn_init, neqn_node, neqn_args, neqn_every, neqn_ck, srows_cl, rows_cl, row_cl, ons_cl, h0, h3, h4, h6]) (by simp only [SXR, bne, neqn_len, neqn_kind, neqn_left, neqn_right, neqn_init, neqn_node, neqn_args, neqn_every, neqn_ck, srows_cl, rows_cl, row_cl, ons_cl, h0, h3, h4, h6]) ?_)
                    | (with_reducible refine pcl_intro (h2) (by simp only [SXR, bne, neqn_len, neqn_kind, neqn_left, neqn_right, neqn_init, neqn_node, neqn_args, neqn_every, neqn_ck, srows_cl, rows_cl, row_cl, ons_cl, h0, h3, h4, h6]) (by simp only [SXR, bne, neqn_len, neqn_kind, neqn_left, neqn_right, neqn_init, neqn_node, neqn_args, neqn_every, neqn_ck, srows_cl, rows_cl, row_cl, ons_cl, h0, h3, h4, h6]) ?_)
                    | (with_reducible refine pcl_intro (h5) (by simp only [SXR, bne, neqn_len, neqn_kind, neqn_left, neqn_right, neqn_init, neqn_node, neqn_args, neqn_every, neqn_ck, srows_cl, rows_cl, row_cl, ons_cl, h0, h3, h4, h6]) (by simp only [SXR, bne, neqn_len, neqn_kind, neqn_left, neqn_right, neqn_init, neqn_node, neqn_args, neqn_every, neqn_ck, srows_cl, rows_cl, row_cl, ons_cl, h0, h3, h4, h6]) ?_)
                    | (with_reducible refine pcl_intro (h7) (by simp only [SXR, bne, neqn_len, neqn_kind, neqn_left, neqn_right, neqn_init, neqn_node, neqn_args, neqn_every, neqn_ck, srows_cl, rows_cl, row_cl, ons_cl, h0, h3, h4, h6]) (by simp only [SXR, bne, neqn_len, neqn_kind, neqn_left, neqn_right, neqn_init, neqn_node, neqn_args, neqn_every, neqn_ck, srows_cl, rows_cl, row_cl, ons_cl, h0, h3, h4, h6]) ?_)
                    | (simp only [c26, bne, neqn_len, neqn_kind, neqn_left, neqn_right, neqn_init, neqn_node, neqn_args, neqn_every, neqn_ck, srows_cl, rows_cl, row_cl, ons_cl, h0, h3, h4, h6, SXR, noA, isAl, kA, udf, AOp.dst, Nat.beq, putAt, bldE, evIo, isNil, Nat.ble, Int.reduceAdd, Int.reduceSub, Int.reduceNeg, Int.reduceBNe, Nat.reduceEqDiff, Nat.reduceSub, Nat.reduceAdd, Nat.reduceLeDiff, Nat.reduceBEq, Nat.reduceLT, Nat.reduceMul, Int.reduceBEq, Int.reduceLT, Int.reduceLE, reduceIte, reduceCtorEq]))
                | true =>
                  have h7 := seqon_pc x.ck y.ck hk.2.2.2.2.1
                  rw [g7] at h7
                  have hr : eqNEqn x y = true := by simp [eqNEqn, g0, g1, g2, g3, g4, g5, g6, g7]
                  rw [hr]
                  refine pc_of Tryz.func26 k26 rfl ?_
                  repeat' (first
                    | (with_reducible refine pcl_intro (h1) (by simp only [SXR, bne, neqn_len, neqn_kind, neqn_left, neqn_right, neqn_init, neqn_node, neqn_args, neqn_every, neqn_ck, srows_cl, rows_cl, row_cl, ons_cl, h0, h3, h4, h6]) (by simp only [SXR, bne, neqn_len, neqn_kind, neqn_left, neqn_right, neqn_init, neqn_node, neqn_args, neqn_every, neqn_ck, srows_cl, rows_cl, row_cl, ons_cl, h0, h3, h4, h6]) ?_)
                    | (with_reducible refine pcl_intro (h2) (by simp only [SXR, bne, neqn_len, neqn_kind, neqn_left, neqn_right, neqn_init, neqn_node, neqn_args, neqn_every, neqn_ck, srows_cl, rows_cl, row_cl, ons_cl, h0, h3, h4, h6]) (by simp only [SXR, bne, neqn_len, neqn_kind, neqn_left, neqn_right, neqn_init, neqn_node, neqn_args, neqn_every, neqn_ck, srows_cl, rows_cl, row_cl, ons_cl, h0, h3, h4, h6]) ?_)
                    | (with_reducible refine pcl_intro (h5) (by simp only [SXR, bne, neqn_len, neqn_kind, neqn_left, neqn_right, neqn_init, neqn_node, neqn_args, neqn_every, neqn_ck, srows_cl, rows_cl, row_cl, ons_cl, h0, h3, h4, h6]) (by simp only [SXR, bne, neqn_len, neqn_kind, neqn_left, neqn_right, neqn_init, neqn_node, neqn_args, neqn_every, neqn_ck, srows_cl, rows_cl, row_cl, ons_cl, h0, h3, h4, h6]) ?_)
                    | (with_reducible refine pcl_intro (h7) (by simp only [SXR, bne, neqn_len, neqn_kind, neqn_left, neqn_right, neqn_init, neqn_node, neqn_args, neqn_every, neqn_ck, srows_cl, rows_cl, row_cl, ons_cl, h0, h3, h4, h6]) (by simp only [SXR, bne, neqn_len, neqn_kind, neqn_left, neqn_right, neqn_init, neqn_node, neqn_args, neqn_every, neqn_ck, srows_cl, rows_cl, row_cl, ons_cl, h0, h3, h4, h6]) ?_)
                    | (simp only [c26, bne, neqn_len, neqn_kind, neqn_left, neqn_right, neqn_init, neqn_node, neqn_args, neqn_every, neqn_ck, srows_cl, rows_cl, row_cl, ons_cl, h0, h3, h4, h6, SXR, noA, isAl, kA, udf, AOp.dst, Nat.beq, putAt, bldE, evIo, isNil, Nat.ble, Int.reduceAdd, Int.reduceSub, Int.reduceNeg, Int.reduceBNe, Nat.reduceEqDiff, Nat.reduceSub, Nat.reduceAdd, Nat.reduceLeDiff, Nat.reduceBEq, Nat.reduceLT, Nat.reduceMul, Int.reduceBEq, Int.reduceLT, Int.reduceLE, reduceIte, reduceCtorEq]))
theorem same1_pc (x y : Enm) (hk : Lst.ok x.tags) : PC Tryz.prog 20 [.ag x.row, .ag y.row] (.b (eqEnm x y)) := by
  cases g0 : eqStr x.nm y.nm with
  | false =>
    have h0 := g0
    simp only [eqStr] at h0
    have hr : eqEnm x y = false := by simp [eqEnm, g0]
    rw [hr]
    refine pc_of Tryz.func20 k20 rfl ?_
    repeat' (first
      | (simp only [c20, bne, Enm.row, srows_cl, h0, SXR, noA, isAl, kA, udf, AOp.dst, Nat.beq, putAt, bldE, evIo, isNil, Nat.ble, Int.reduceAdd, Int.reduceSub, Int.reduceNeg, Int.reduceBNe, Nat.reduceEqDiff, Nat.reduceSub, Nat.reduceAdd, Nat.reduceLeDiff, Nat.reduceBEq, Nat.reduceLT, Nat.reduceMul, Int.reduceBEq, Int.reduceLT, Int.reduceLE, reduceIte, reduceCtorEq]))
  | true =>
    have h0 := g0
    simp only [eqStr] at h0
    cases g1 : eqB eqStr x.tags y.tags with
    | false =>
      have h1 := seqstr_pc x.tags y.tags hk
      rw [g1] at h1
      have hr : eqEnm x y = false := by simp [eqEnm, g0, g1]
      rw [hr]
      refine pc_of Tryz.func20 k20 rfl ?_
      repeat' (first
        | (with_reducible refine pcl_intro (h1) (by simp only [SXR, bne, Enm.row, srows_cl, h0]) (by simp only [SXR, bne, Enm.row, srows_cl, h0]) ?_)
        | (simp only [c20, bne, Enm.row, srows_cl, h0, SXR, noA, isAl, kA, udf, AOp.dst, Nat.beq, putAt, bldE, evIo, isNil, Nat.ble, Int.reduceAdd, Int.reduceSub, Int.reduceNeg, Int.reduceBNe, Nat.reduceEqDiff, Nat.reduceSub, Nat.reduceAdd, Nat.reduceLeDiff, Nat.reduceBEq, Nat.reduceLT, Nat.reduceMul, Int.reduceBEq, Int.reduceLT, Int.reduceLE, reduceIte, reduceCtorEq]))
    | true =>
      have h1 := seqstr_pc x.tags y.tags hk
      rw [g1] at h1
      have hr : eqEnm x y = true := by simp [eqEnm, g0, g1]
      rw [hr]
      refine pc_of Tryz.func20 k20 rfl ?_
      repeat' (first
        | (with_reducible refine pcl_intro (h1) (by simp only [SXR, bne, Enm.row, srows_cl, h0]) (by simp only [SXR, bne, Enm.row, srows_cl, h0]) ?_)
        | (simp only [c20, bne, Enm.row, srows_cl, h0, SXR, noA, isAl, kA, udf, AOp.dst, Nat.beq, putAt, bldE, evIo, isNil, Nat.ble, Int.reduceAdd, Int.reduceSub, Int.reduceNeg, Int.reduceBNe, Nat.reduceEqDiff, Nat.reduceSub, Nat.reduceAdd, Nat.reduceLeDiff, Nat.reduceBEq, Nat.reduceLT, Nat.reduceMul, Int.reduceBEq, Int.reduceLT, Int.reduceLE, reduceIte, reduceCtorEq]))
theorem same2_pc (x y : NNode) (hk : x.ok) : PC Tryz.prog 23 [.ag x.row, .ag y.row] (.b (eqNNode x y)) := by
  cases g0 : eqStr x.nm y.nm with
  | false =>
    have h0 := g0
    simp only [eqStr] at h0
    have hr : eqNNode x y = false := by simp [eqNNode, g0]
    rw [hr]
    refine pc_of Tryz.func23 k23 rfl ?_
    repeat' (first
      | (simp only [c23, bne, NNode.row, decls_cl, neqns_cl, h0, SXR, noA, isAl, kA, udf, AOp.dst, Nat.beq, putAt, bldE, evIo, isNil, Nat.ble, Int.reduceAdd, Int.reduceSub, Int.reduceNeg, Int.reduceBNe, Nat.reduceEqDiff, Nat.reduceSub, Nat.reduceAdd, Nat.reduceLeDiff, Nat.reduceBEq, Nat.reduceLT, Nat.reduceMul, Int.reduceBEq, Int.reduceLT, Int.reduceLE, reduceIte, reduceCtorEq]))
  | true =>
    have h0 := g0
    simp only [eqStr] at h0
    cases g1 : eqB eqDecl x.ins y.ins with
    | false =>
      have h1 := samedecls_pc x.ins y.ins hk.1
      rw [g1] at h1
      have hr : eqNNode x y = false := by simp [eqNNode, g0, g1]
      rw [hr]
      refine pc_of Tryz.func23 k23 rfl ?_
      repeat' (first
        | (with_reducible refine pcl_intro (h1) (by simp only [SXR, bne, NNode.row, decls_cl, neqns_cl, h0]) (by simp only [SXR, bne, NNode.row, decls_cl, neqns_cl, h0]) ?_)
        | (simp only [c23, bne, NNode.row, decls_cl, neqns_cl, h0, SXR, noA, isAl, kA, udf, AOp.dst, Nat.beq, putAt, bldE, evIo, isNil, Nat.ble, Int.reduceAdd, Int.reduceSub, Int.reduceNeg, Int.reduceBNe, Nat.reduceEqDiff, Nat.reduceSub, Nat.reduceAdd, Nat.reduceLeDiff, Nat.reduceBEq, Nat.reduceLT, Nat.reduceMul, Int.reduceBEq, Int.reduceLT, Int.reduceLE, reduceIte, reduceCtorEq]))
    | true =>
      have h1 := samedecls_pc x.ins y.ins hk.1
      rw [g1] at h1
      cases g2 : eqB eqDecl x.outs y.outs with
      | false =>
        have h2 := samedecls_pc x.outs y.outs hk.2.1
        rw [g2] at h2
        have hr : eqNNode x y = false := by simp [eqNNode, g0, g1, g2]
        rw [hr]
        refine pc_of Tryz.func23 k23 rfl ?_
        repeat' (first
          | (with_reducible refine pcl_intro (h1) (by simp only [SXR, bne, NNode.row, decls_cl, neqns_cl, h0]) (by simp only [SXR, bne, NNode.row, decls_cl, neqns_cl, h0]) ?_)
          | (with_reducible refine pcl_intro (h2) (by simp only [SXR, bne, NNode.row, decls_cl, neqns_cl, h0]) (by simp only [SXR, bne, NNode.row, decls_cl, neqns_cl, h0]) ?_)
          | (simp only [c23, bne, NNode.row, decls_cl, neqns_cl, h0, SXR, noA, isAl, kA, udf, AOp.dst, Nat.beq, putAt, bldE, evIo, isNil, Nat.ble, Int.reduceAdd, Int.reduceSub, Int.reduceNeg, Int.reduceBNe, Nat.reduceEqDiff, Nat.reduceSub, Nat.reduceAdd, Nat.reduceLeDiff, Nat.reduceBEq, Nat.reduceLT, Nat.reduceMul, Int.reduceBEq, Int.reduceLT, Int.reduceLE, reduceIte, reduceCtorEq]))
      | true =>
        have h2 := samedecls_pc x.outs y.outs hk.2.1
        rw [g2] at h2
        cases g3 : eqB eqDecl x.locals y.locals with
        | false =>
          have h3 := samedecls_pc x.locals y.locals hk.2.2.1
          rw [g3] at h3
          have hr : eqNNode x y = false := by simp [eqNNode, g0, g1, g2, g3]
          rw [hr]
          refine pc_of Tryz.func23 k23 rfl ?_
          repeat' (first
            | (with_reducible refine pcl_intro (h1) (by simp only [SXR, bne, NNode.row, decls_cl, neqns_cl, h0]) (by simp only [SXR, bne, NNode.row, decls_cl, neqns_cl, h0]) ?_)
            | (with_reducible refine pcl_intro (h2) (by simp only [SXR, bne, NNode.row, decls_cl, neqns_cl, h0]) (by simp only [SXR, bne, NNode.row, decls_cl, neqns_cl, h0]) ?_)
            | (with_reducible refine pcl_intro (h3) (by simp only [SXR, bne, NNode.row, decls_cl, neqns_cl, h0]) (by simp only [SXR, bne, NNode.row, decls_cl, neqns_cl, h0]) ?_)
            | (simp only [c23, bne, NNode.row, decls_cl, neqns_cl, h0, SXR, noA, isAl, kA, udf, AOp.dst, Nat.beq, putAt, bldE, evIo, isNil, Nat.ble, Int.reduceAdd, Int.reduceSub, Int.reduceNeg, Int.reduceBNe, Nat.reduceEqDiff, Nat.reduceSub, Nat.reduceAdd, Nat.reduceLeDiff, Nat.reduceBEq, Nat.reduceLT, Nat.reduceMul, Int.reduceBEq, Int.reduceLT, Int.reduceLE, reduceIte, reduceCtorEq]))
        | true =>
          have h3 := samedecls_pc x.locals y.locals hk.2.2.1
          rw [g3] at h3
          cases g4 : eqB eqNEqn x.eqs y.eqs with
          | false =>
            have h4 := efneq_pc 26 eqNEqn x.eqs y.eqs hk.2.2.2.1 (fun a b ha _ => sameeq_pc a b (hk.2.2.2.2 a ha))
            rw [g4] at h4
            have hr : eqNNode x y = false := by simp [eqNNode, g0, g1, g2, g3, g4]
            rw [hr]
            refine pc_of Tryz.func23 k23 rfl ?_
            repeat' (first
              | (with_reducible refine pcl_intro (h1) (by simp only [SXR, bne, NNode.row, decls_cl, neqns_cl, h0]) (by simp only [SXR, bne, NNode.row, decls_cl, neqns_cl, h0]) ?_)
              | (with_reducible refine pcl_intro (h2) (by simp only [SXR, bne, NNode.row, decls_cl, neqns_cl, h0]) (by simp only [SXR, bne, NNode.row, decls_cl, neqns_cl, h0]) ?_)
              | (with_reducible refine pcl_intro (h3) (by simp only [SXR, bne, NNode.row, decls_cl, neqns_cl, h0]) (by simp only [SXR, bne, NNode.row, decls_cl, neqns_cl, h0]) ?_)
              | (with_reducible refine pcl_intro (h4) (by simp only [SXR, bne, NNode.row, decls_cl, neqns_cl, h0]) (by simp only [SXR, bne, NNode.row, decls_cl, neqns_cl, h0]) ?_)
              | (simp only [c23, bne, NNode.row, decls_cl, neqns_cl, h0, SXR, noA, isAl, kA, udf, AOp.dst, Nat.beq, putAt, bldE, evIo, isNil, Nat.ble, Int.reduceAdd, Int.reduceSub, Int.reduceNeg, Int.reduceBNe, Nat.reduceEqDiff, Nat.reduceSub, Nat.reduceAdd, Nat.reduceLeDiff, Nat.reduceBEq, Nat.reduceLT, Nat.reduceMul, Int.reduceBEq, Int.reduceLT, Int.reduceLE, reduceIte, reduceCtorEq]))
          | true =>
            have h4 := efneq_pc 26 eqNEqn x.eqs y.eqs hk.2.2.2.1 (fun a b ha _ => sameeq_pc a b (hk.2.2.2.2 a ha))
            rw [g4] at h4
            have hr : eqNNode x y = true := by simp [eqNNode, g0, g1, g2, g3, g4]
            rw [hr]
            refine pc_of Tryz.func23 k23 rfl ?_
            repeat' (first
              | (with_reducible refine pcl_intro (h1) (by simp only [SXR, bne, NNode.row, decls_cl, neqns_cl, h0]) (by simp only [SXR, bne, NNode.row, decls_cl, neqns_cl, h0]) ?_)
              | (with_reducible refine pcl_intro (h2) (by simp only [SXR, bne, NNode.row, decls_cl, neqns_cl, h0]) (by simp only [SXR, bne, NNode.row, decls_cl, neqns_cl, h0]) ?_)
              | (with_reducible refine pcl_intro (h3) (by simp only [SXR, bne, NNode.row, decls_cl, neqns_cl, h0]) (by simp only [SXR, bne, NNode.row, decls_cl, neqns_cl, h0]) ?_)
              | (with_reducible refine pcl_intro (h4) (by simp only [SXR, bne, NNode.row, decls_cl, neqns_cl, h0]) (by simp only [SXR, bne, NNode.row, decls_cl, neqns_cl, h0]) ?_)
              | (simp only [c23, bne, NNode.row, decls_cl, neqns_cl, h0, SXR, noA, isAl, kA, udf, AOp.dst, Nat.beq, putAt, bldE, evIo, isNil, Nat.ble, Int.reduceAdd, Int.reduceSub, Int.reduceNeg, Int.reduceBNe, Nat.reduceEqDiff, Nat.reduceSub, Nat.reduceAdd, Nat.reduceLeDiff, Nat.reduceBEq, Nat.reduceLT, Nat.reduceMul, Int.reduceBEq, Int.reduceLT, Int.reduceLE, reduceIte, reduceCtorEq]))
theorem nsame_pc (x y : NPrg) (hk : x.ok) : PC Tryz.prog 8 [.ag x.row, .ag y.row] (.b (eqNPrg x y)) := by
  cases g0 : eqB eqEnm x.enums y.enums with
  | false =>
    have h0 := efenm_pc 20 eqEnm x.enums y.enums hk.1.1 (fun a b ha _ => same1_pc a b (hk.1.2 a ha))
    rw [g0] at h0
    have hr : eqNPrg x y = false := by simp [eqNPrg, g0]
    rw [hr]
    refine pc_of Tryz.func8 k8 rfl ?_
    repeat' (first
      | (with_reducible refine pcl_intro (h0) (by simp only [SXR, bne, NPrg.row, enms_cl, nnodes_cl]) (by simp only [SXR, bne, NPrg.row, enms_cl, nnodes_cl]) ?_)
      | (simp only [c8, bne, NPrg.row, enms_cl, nnodes_cl, SXR, noA, isAl, kA, udf, AOp.dst, Nat.beq, putAt, bldE, evIo, isNil, Nat.ble, Int.reduceAdd, Int.reduceSub, Int.reduceNeg, Int.reduceBNe, Nat.reduceEqDiff, Nat.reduceSub, Nat.reduceAdd, Nat.reduceLeDiff, Nat.reduceBEq, Nat.reduceLT, Nat.reduceMul, Int.reduceBEq, Int.reduceLT, Int.reduceLE, reduceIte, reduceCtorEq]))
  | true =>
    have h0 := efenm_pc 20 eqEnm x.enums y.enums hk.1.1 (fun a b ha _ => same1_pc a b (hk.1.2 a ha))
    rw [g0] at h0
    cases g1 : eqB eqNNode x.nodes y.nodes with
    | false =>
      have h1 := efnode_pc 23 eqNNode x.nodes y.nodes hk.2.1 (fun a b ha _ => same2_pc a b (hk.2.2 a ha))
      rw [g1] at h1
      have hr : eqNPrg x y = false := by simp [eqNPrg, g0, g1]
      rw [hr]
      refine pc_of Tryz.func8 k8 rfl ?_
      repeat' (first
        | (with_reducible refine pcl_intro (h0) (by simp only [SXR, bne, NPrg.row, enms_cl, nnodes_cl]) (by simp only [SXR, bne, NPrg.row, enms_cl, nnodes_cl]) ?_)
        | (with_reducible refine pcl_intro (h1) (by simp only [SXR, bne, NPrg.row, enms_cl, nnodes_cl]) (by simp only [SXR, bne, NPrg.row, enms_cl, nnodes_cl]) ?_)
        | (simp only [c8, bne, NPrg.row, enms_cl, nnodes_cl, SXR, noA, isAl, kA, udf, AOp.dst, Nat.beq, putAt, bldE, evIo, isNil, Nat.ble, Int.reduceAdd, Int.reduceSub, Int.reduceNeg, Int.reduceBNe, Nat.reduceEqDiff, Nat.reduceSub, Nat.reduceAdd, Nat.reduceLeDiff, Nat.reduceBEq, Nat.reduceLT, Nat.reduceMul, Int.reduceBEq, Int.reduceLT, Int.reduceLE, reduceIte, reduceCtorEq]))
    | true =>
      have h1 := efnode_pc 23 eqNNode x.nodes y.nodes hk.2.1 (fun a b ha _ => same2_pc a b (hk.2.2 a ha))
      rw [g1] at h1
      have hr : eqNPrg x y = true := by simp [eqNPrg, g0, g1]
      rw [hr]
      refine pc_of Tryz.func8 k8 rfl ?_
      repeat' (first
        | (with_reducible refine pcl_intro (h0) (by simp only [SXR, bne, NPrg.row, enms_cl, nnodes_cl]) (by simp only [SXR, bne, NPrg.row, enms_cl, nnodes_cl]) ?_)
        | (with_reducible refine pcl_intro (h1) (by simp only [SXR, bne, NPrg.row, enms_cl, nnodes_cl]) (by simp only [SXR, bne, NPrg.row, enms_cl, nnodes_cl]) ?_)
        | (simp only [c8, bne, NPrg.row, enms_cl, nnodes_cl, SXR, noA, isAl, kA, udf, AOp.dst, Nat.beq, putAt, bldE, evIo, isNil, Nat.ble, Int.reduceAdd, Int.reduceSub, Int.reduceNeg, Int.reduceBNe, Nat.reduceEqDiff, Nat.reduceSub, Nat.reduceAdd, Nat.reduceLeDiff, Nat.reduceBEq, Nat.reduceLT, Nat.reduceMul, Int.reduceBEq, Int.reduceLT, Int.reduceLE, reduceIte, reduceCtorEq]))
end Go.Proofs.YtpnamdkgodedmaaGreatDoor
