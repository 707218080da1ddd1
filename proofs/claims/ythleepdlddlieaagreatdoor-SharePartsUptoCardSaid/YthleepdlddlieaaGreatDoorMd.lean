/-
  Lists and structures that are compared. Printed by mkeq.py.
  Declarations that are compared; slices.EqualFunc. Printed by mkeq.py.
  Structures that are compared by the program. Printed by mkeq.py.
  Structures that are compared by the reference. Printed by mkeq.py.
-/
import Derived.Test.YthleepdlddlieaaGreatDoorMc
set_option linter.unusedSimpArgs false
set_option linter.unusedVariables false
namespace Go.Proofs.YthleepdlddlieaaGreatDoor
open Go Go.B
/-- two lists, element by element -/
def eqB {α : Type} (f : α → α → Bool) : List α → List α → Bool
  | [], [] => true
  | x :: l, y :: m => f x y && eqB f l m
  | _, _ => false
theorem eqB_ne {α : Type} {f : α → α → Bool} : ∀ {a b : List α}, a.length ≠ b.length → eqB f a b = false
  | [], [], h => (h rfl).elim
  | [], _ :: _, _ => rfl
  | _ :: _, [], _ => rfl
  | x :: a, y :: b, h => by simp only [eqB, eqB_ne (a := a) (b := b) (fun e => h (by simp [e])), Bool.and_false]
theorem eqB_step {α : Type} {f : α → α → Bool} {a b : List α} {i : Nat} {x y : α} (hx : a[i]? = some x) (hy : b[i]? = some y) : eqB f (a.drop i) (b.drop i) = (f x y && eqB f (a.drop (i + 1)) (b.drop (i + 1))) := by
  rw [drop_at hx, drop_at hy]; rfl
theorem eqB_done {α : Type} {f : α → α → Bool} {a b : List α} {i : Nat} (hl : a.length = b.length) (h : ¬ i < a.length) : eqB f (a.drop i) (b.drop i) = true := by
  rw [List.drop_eq_nil_of_le (by omega), List.drop_eq_nil_of_le (by omega)]; rfl
theorem eqB_refl {α : Type} {f : α → α → Bool} : ∀ (l : List α), (∀ x, x ∈ l → f x x = true) → eqB f l l = true
  | [], _ => rfl
  | x :: l, h => by simp only [eqB, h x (List.mem_cons_self ..), eqB_refl l (fun y hy => h y (List.mem_cons_of_mem _ hy)), Bool.and_true]
def eqStr (s t : Str) : Bool := s.1 == t.1 && s.2 == t.2
def eqOn (o p : On) : Bool := eqStr o.nm p.nm && o.t == p.t && o.tag == p.tag
def eqDecl (x y : Decl) : Bool := eqStr x.nm y.nm && x.ty == y.ty && eqB eqOn x.ck y.ck
mutual
def exB : Ex → Ex → Bool
  | .mk k op t v nl nn l, .mk k' op' t' v' nl' nn' l' => k == k' && op == op' && t == t' && v == v' && eqStr (nl, nn) (nl', nn') && exsB l l'
def exsB : List Ex → List Ex → Bool
  | [], [] => true
  | x :: l, y :: m => exB x y && exsB l m
  | [], _ :: _ => false
  | _ :: _, [] => false
end
theorem exsB_eq : ∀ (l m : List Ex), exsB l m = eqB exB l m
  | [], [] => by simp only [exsB, eqB]
  | [], _ :: _ => by simp only [exsB, eqB]
  | _ :: _, [] => by simp only [exsB, eqB]
  | x :: l, y :: m => by simp only [exsB, eqB, exsB_eq l m]
def eqEqn (x y : Eqn) : Bool := eqB eqStr x.left y.left && exB x.right y.right
def eqEnm (x y : Enm) : Bool := eqStr x.nm y.nm && eqB eqStr x.tags y.tags
def eqPNode (x y : PNode) : Bool := eqStr x.nm y.nm && eqB eqDecl x.ins y.ins && eqB eqDecl x.outs y.outs && eqB eqDecl x.locals y.locals && eqB eqEqn x.eqs y.eqs
def eqPrg (p q : Prg) : Bool := eqB eqEnm p.enums q.enums && eqB eqPNode p.nodes q.nodes
def eqNEqn (x y : NEqn) : Bool := x.kind == y.kind && eqB eqStr x.left y.left && exB x.right y.right && x.init == y.init && eqStr x.node y.node && eqB exB x.args y.args && eqStr x.every y.every && eqB eqOn x.ck y.ck
def eqNNode (x y : NNode) : Bool := eqStr x.nm y.nm && eqB eqDecl x.ins y.ins && eqB eqDecl x.outs y.outs && eqB eqDecl x.locals y.locals && eqB eqNEqn x.eqs y.eqs
def eqNPrg (p q : NPrg) : Bool := eqB eqEnm p.enums q.enums && eqB eqNNode p.nodes q.nodes
theorem on_sqs (o p : On) : sqs [2, 1, 1] o.row p.row = some (eqOn o p) := by
  unfold eqOn eqStr
  simp only [On.row, sqs, sq1, if_true]
  generalize (o.nm.1 == p.nm.1 && o.nm.2 == p.nm.2) = a
  generalize (o.t == p.t) = b
  generalize (o.tag == p.tag) = c
  cases a <;> cases b <;> cases c <;> rfl
theorem seqon_pc (a b : List On) (hn : Lst.ok a) : PC Tryz.prog 55 [.ts (a.map On.row), .ts (b.map On.row)] (.b (eqB eqOn a b)) := by
  unfold Lst.ok at hn
  by_cases hl : a.length = b.length
  · have hne : ((a.length : Int) != (b.length : Int)) = false := by rw [hl]; simp
    refine pc_of Tryz.func55 k55 rfl ?_
    repeat' (first
      | (simp only [c55, List.length_map, hne, SXR, noA, isAl, kA, udf, AOp.dst, Nat.beq, putAt, bldE, evIo, isNil, Nat.ble, Int.reduceAdd, Int.reduceSub, Int.reduceNeg, Int.reduceBNe, Nat.reduceEqDiff, Nat.reduceSub, Nat.reduceAdd, Nat.reduceLeDiff, Nat.reduceBEq, Nat.reduceLT, Nat.reduceMul, Int.reduceBEq, Int.reduceLT, Int.reduceLE, reduceIte, reduceCtorEq]))
    refine Lp_ind (X := Nat) (fun i ll hs => Hd (fun j => [.ts (a.map On.row), .ts (b.map On.row), j 2, j 3, .b false, j 5, j 6, j 7, j 8, j 9, j 10, .ts (a.map On.row), .i .i64 (a.length : Int), .i .i64 (i : Int), j 14, j 15, j 16, j 17, j 18, j 19, j 20, j 21, j 22, j 23, j 24, j 25]) ll ∧ hs = [])
      (fun i => i ≤ a.length ∧ eqB eqOn a b = eqB eqOn (a.drop i) (b.drop i)) (fun i => a.length - i) ?_ 0 _ _ (by exact ⟨rfl, rfl⟩) ⟨Nat.zero_le _, rfl⟩
    rintro i _ _ ⟨e, rfl⟩ ⟨hi, hinv⟩ IH
    obtain ⟨j, rfl⟩ := e.open
    clear e
    by_cases hlt : i < a.length
    · obtain ⟨x, hx, hxm⟩ := ats hlt
      obtain ⟨y, hy, hym⟩ := ats (show i < b.length by omega)
      have hxr := mg (f := On.row) hx
      have hyr := mg (f := On.row) hy
      have hd := ltd hlt
      have hw := wrap_big (n := i) (by omega)
      rw [eqB_step hx hy] at hinv
      cases g0 : eqOn x y with
      | false =>
        have h0 := g0
        have hr : eqB eqOn a b = false := by rw [hinv]; simp [g0]
        rw [hr]
        repeat' (first
          | (simp only [c55, List.length_map, hd, hxr, hyr, hw, bne, on_len, on_take, on_sqs, h0, SXR, noA, isAl, kA, udf, AOp.dst, Nat.beq, putAt, bldE, evIo, isNil, Nat.ble, Int.reduceAdd, Int.reduceSub, Int.reduceNeg, Int.reduceBNe, Nat.reduceEqDiff, Nat.reduceSub, Nat.reduceAdd, Nat.reduceLeDiff, Nat.reduceBEq, Nat.reduceLT, Nat.reduceMul, Int.reduceBEq, Int.reduceLT, Int.reduceLE, reduceIte, reduceCtorEq]))
      | true =>
        have h0 := g0
        repeat' (first
          | (simp only [c55, List.length_map, hd, hxr, hyr, hw, bne, on_len, on_take, on_sqs, h0, SXR, noA, isAl, kA, udf, AOp.dst, Nat.beq, putAt, bldE, evIo, isNil, Nat.ble, Int.reduceAdd, Int.reduceSub, Int.reduceNeg, Int.reduceBNe, Nat.reduceEqDiff, Nat.reduceSub, Nat.reduceAdd, Nat.reduceLeDiff, Nat.reduceBEq, Nat.reduceLT, Nat.reduceMul, Int.reduceBEq, Int.reduceLT, Int.reduceLE, reduceIte, reduceCtorEq]))
        exact IH (i + 1) _ _ (by exact ⟨rfl, rfl⟩) ⟨hlt, by rw [hinv]; simp [g0]⟩ (by omega)
    · have hd := ltn hlt
      clear IH
      rw [eqB_done hl hlt] at hinv
      rw [hinv]
      repeat' (first
        | (simp only [c55, List.length_map, hd, SXR, noA, isAl, kA, udf, AOp.dst, Nat.beq, putAt, bldE, evIo, isNil, Nat.ble, Int.reduceAdd, Int.reduceSub, Int.reduceNeg, Int.reduceBNe, Nat.reduceEqDiff, Nat.reduceSub, Nat.reduceAdd, Nat.reduceLeDiff, Nat.reduceBEq, Nat.reduceLT, Nat.reduceMul, Int.reduceBEq, Int.reduceLT, Int.reduceLE, reduceIte, reduceCtorEq]))
  · have hne : ((a.length : Int) != (b.length : Int)) = true := by simp; omega
    rw [eqB_ne hl]
    refine pc_of Tryz.func55 k55 rfl ?_
    repeat' (first
      | (simp only [c55, List.length_map, hne, SXR, noA, isAl, kA, udf, AOp.dst, Nat.beq, putAt, bldE, evIo, isNil, Nat.ble, Int.reduceAdd, Int.reduceSub, Int.reduceNeg, Int.reduceBNe, Nat.reduceEqDiff, Nat.reduceSub, Nat.reduceAdd, Nat.reduceLeDiff, Nat.reduceBEq, Nat.reduceLT, Nat.reduceMul, Int.reduceBEq, Int.reduceLT, Int.reduceLE, reduceIte, reduceCtorEq]))
theorem clocks_pc (a b : List On) (hn : Lst.ok a) : PC Tryz.prog 10 [.ts (a.map On.row), .ts (b.map On.row)] (.b (eqB eqOn a b)) := by
  unfold Lst.ok at hn
  by_cases hl : a.length = b.length
  · have hne : ((a.length : Int) != (b.length : Int)) = false := by rw [hl]; simp
    refine pc_of Tryz.func10 k10 rfl ?_
    repeat' (first
      | (simp only [c10, List.length_map, hne, SXR, noA, isAl, kA, udf, AOp.dst, Nat.beq, putAt, bldE, evIo, isNil, Nat.ble, Int.reduceAdd, Int.reduceSub, Int.reduceNeg, Int.reduceBNe, Nat.reduceEqDiff, Nat.reduceSub, Nat.reduceAdd, Nat.reduceLeDiff, Nat.reduceBEq, Nat.reduceLT, Nat.reduceMul, Int.reduceBEq, Int.reduceLT, Int.reduceLE, reduceIte, reduceCtorEq]))
    refine Lp_ind (X := Nat) (fun i ll hs => Hd (fun j => [.ts (a.map On.row), .ts (b.map On.row), j 2, j 3, .b false, .i .i64 (i : Int), j 6, j 7, j 8, j 9, j 10, j 11, j 12, j 13, j 14, j 15, j 16, j 17, j 18, j 19, j 20, j 21, j 22, j 23, j 24, j 25]) ll ∧ hs = [])
      (fun i => i ≤ a.length ∧ eqB eqOn a b = eqB eqOn (a.drop i) (b.drop i)) (fun i => a.length - i) ?_ 0 _ _ (by exact ⟨rfl, rfl⟩) ⟨Nat.zero_le _, rfl⟩
    rintro i _ _ ⟨e, rfl⟩ ⟨hi, hinv⟩ IH
    obtain ⟨j, rfl⟩ := e.open
    clear e
    by_cases hlt : i < a.length
    · obtain ⟨x, hx, hxm⟩ := ats hlt
      obtain ⟨y, hy, hym⟩ := ats (show i < b.length by omega)
      have hxr := mg (f := On.row) hx
      have hyr := mg (f := On.row) hy
      have hd := ltd hlt
      have hw := wrap_big (n := i) (by omega)
      rw [eqB_step hx hy] at hinv
      cases g0 : eqOn x y with
      | false =>
        have h0 := g0
        have hr : eqB eqOn a b = false := by rw [hinv]; simp [g0]
        rw [hr]
        repeat' (first
          | (simp only [c10, List.length_map, hd, hxr, hyr, hw, bne, on_len, on_take, on_sqs, h0, SXR, noA, isAl, kA, udf, AOp.dst, Nat.beq, putAt, bldE, evIo, isNil, Nat.ble, Int.reduceAdd, Int.reduceSub, Int.reduceNeg, Int.reduceBNe, Nat.reduceEqDiff, Nat.reduceSub, Nat.reduceAdd, Nat.reduceLeDiff, Nat.reduceBEq, Nat.reduceLT, Nat.reduceMul, Int.reduceBEq, Int.reduceLT, Int.reduceLE, reduceIte, reduceCtorEq]))
      | true =>
        have h0 := g0
        repeat' (first
          | (simp only [c10, List.length_map, hd, hxr, hyr, hw, bne, on_len, on_take, on_sqs, h0, SXR, noA, isAl, kA, udf, AOp.dst, Nat.beq, putAt, bldE, evIo, isNil, Nat.ble, Int.reduceAdd, Int.reduceSub, Int.reduceNeg, Int.reduceBNe, Nat.reduceEqDiff, Nat.reduceSub, Nat.reduceAdd, Nat.reduceLeDiff, Nat.reduceBEq, Nat.reduceLT, Nat.reduceMul, Int.reduceBEq, Int.reduceLT, Int.reduceLE, reduceIte, reduceCtorEq]))
        exact IH (i + 1) _ _ (by exact ⟨rfl, rfl⟩) ⟨hlt, by rw [hinv]; simp [g0]⟩ (by omega)
    · have hd := ltn hlt
      clear IH
      rw [eqB_done hl hlt] at hinv
      rw [hinv]
      repeat' (first
        | (simp only [c10, List.length_map, hd, SXR, noA, isAl, kA, udf, AOp.dst, Nat.beq, putAt, bldE, evIo, isNil, Nat.ble, Int.reduceAdd, Int.reduceSub, Int.reduceNeg, Int.reduceBNe, Nat.reduceEqDiff, Nat.reduceSub, Nat.reduceAdd, Nat.reduceLeDiff, Nat.reduceBEq, Nat.reduceLT, Nat.reduceMul, Int.reduceBEq, Int.reduceLT, Int.reduceLE, reduceIte, reduceCtorEq]))
  · have hne : ((a.length : Int) != (b.length : Int)) = true := by simp; omega
    rw [eqB_ne hl]
    refine pc_of Tryz.func10 k10 rfl ?_
    repeat' (first
      | (simp only [c10, List.length_map, hne, SXR, noA, isAl, kA, udf, AOp.dst, Nat.beq, putAt, bldE, evIo, isNil, Nat.ble, Int.reduceAdd, Int.reduceSub, Int.reduceNeg, Int.reduceBNe, Nat.reduceEqDiff, Nat.reduceSub, Nat.reduceAdd, Nat.reduceLeDiff, Nat.reduceBEq, Nat.reduceLT, Nat.reduceMul, Int.reduceBEq, Int.reduceLT, Int.reduceLE, reduceIte, reduceCtorEq]))
theorem putd {a b c : V} (x : Decl) : putAt [a, b, c] 0 x.row = x.row := rfl
theorem decl_take (x : Decl) : x.row.take 3 = x.row := rfl
theorem putu {a b : V} (x : Enm) : putAt [a, b] 0 x.row = x.row := rfl
theorem enm_take (x : Enm) : x.row.take 2 = x.row := rfl
theorem efexm_pc (f : Nat) (e : Ex → Ex → Bool) (a b : List Ex) (hn : Lst.ok a) (hf : ∀ x y, x ∈ a → y ∈ b → PC Tryz.prog f [.ag (Ex.row x), .ag (Ex.row y)] (.b (e x y))) : PC Tryz.prog 75 [.ts (a.map Ex.row), .ts (b.map Ex.row), .fn f [] []] (.b (eqB e a b)) := by
  unfold Lst.ok at hn
  by_cases hl : a.length = b.length
  · have hne : ((a.length : Int) != (b.length : Int)) = false := by rw [hl]; simp
    refine pc_of Tryz.func75 k75 rfl ?_
    repeat' (first
      | (simp only [c75, List.length_map, hne, SXR, noA, isAl, kA, udf, AOp.dst, Nat.beq, putAt, bldE, evIo, isNil, Nat.ble, Int.reduceAdd, Int.reduceSub, Int.reduceNeg, Int.reduceBNe, Nat.reduceEqDiff, Nat.reduceSub, Nat.reduceAdd, Nat.reduceLeDiff, Nat.reduceBEq, Nat.reduceLT, Nat.reduceMul, Int.reduceBEq, Int.reduceLT, Int.reduceLE, reduceIte, reduceCtorEq]))
    refine Lp_ind (X := Nat) (fun i ll hs => ∃ js : List O, Hd (fun j => [.ts (a.map Ex.row), .ts (b.map Ex.row), .fn f [] [], j 3, j 4, j 5, .b false, j 7, j 8, j 9, j 10, j 11, j 12, j 13, j 14, .ts (a.map Ex.row), .i .i64 (a.length : Int), .i .i64 (i : Int), j 18, j 19, j 20, j 21, j 22, j 23, j 24, j 25, j 26, j 27, j 28, j 29, j 30, j 31]) ll ∧ hs = js)
      (fun i => i ≤ a.length ∧ eqB e a b = eqB e (a.drop i) (b.drop i)) (fun i => a.length - i) ?_ 0 _ _ (by exact ⟨[], rfl, rfl⟩) ⟨Nat.zero_le _, rfl⟩
    rintro i _ _ ⟨js, e, rfl⟩ ⟨hi, hinv⟩ IH
    obtain ⟨j, rfl⟩ := e.open
    clear e
    by_cases hlt : i < a.length
    · obtain ⟨x, hx, hxm⟩ := ats hlt
      obtain ⟨y, hy, hym⟩ := ats (show i < b.length by omega)
      have hxr := mg (f := Ex.row) hx
      have hyr := mg (f := Ex.row) hy
      have hd := ltd hlt
      have hw := wrap_big (n := i) (by omega)
      rw [eqB_step hx hy] at hinv
      cases g0 : e x y with
      | false =>
        have h0 := hf x y hxm hym
        rw [g0] at h0
        have hr : eqB e a b = false := by rw [hinv]; simp [g0]
        rw [hr]
        repeat' (first
          | (with_reducible refine pcl_intro (h0) (by simp only [SXR, row_cl]) (by simp only [SXR, row_cl]) ?_)
          | (simp only [c75, List.length_map, hd, hxr, hyr, hw, bne, row_len, row_take, put_row, row_cl, Nat.add_assoc, SXR, noA, isAl, kA, udf, AOp.dst, Nat.beq, putAt, bldE, evIo, isNil, Nat.ble, Int.reduceAdd, Int.reduceSub, Int.reduceNeg, Int.reduceBNe, Nat.reduceEqDiff, Nat.reduceSub, Nat.reduceAdd, Nat.reduceLeDiff, Nat.reduceBEq, Nat.reduceLT, Nat.reduceMul, Int.reduceBEq, Int.reduceLT, Int.reduceLE, reduceIte, reduceCtorEq]))
      | true =>
        have h0 := hf x y hxm hym
        rw [g0] at h0
        repeat' (first
          | (with_reducible refine pcl_intro (h0) (by simp only [SXR, row_cl]) (by simp only [SXR, row_cl]) ?_)
          | (simp only [c75, List.length_map, hd, hxr, hyr, hw, bne, row_len, row_take, put_row, row_cl, Nat.add_assoc, SXR, noA, isAl, kA, udf, AOp.dst, Nat.beq, putAt, bldE, evIo, isNil, Nat.ble, Int.reduceAdd, Int.reduceSub, Int.reduceNeg, Int.reduceBNe, Nat.reduceEqDiff, Nat.reduceSub, Nat.reduceAdd, Nat.reduceLeDiff, Nat.reduceBEq, Nat.reduceLT, Nat.reduceMul, Int.reduceBEq, Int.reduceLT, Int.reduceLE, reduceIte, reduceCtorEq]))
        exact IH (i + 1) _ _ (by exact ⟨_, rfl, rfl⟩) ⟨hlt, by rw [hinv]; simp [g0]⟩ (by omega)
    · have hd := ltn hlt
      clear IH
      rw [eqB_done hl hlt] at hinv
      rw [hinv]
      repeat' (first
        | (simp only [c75, List.length_map, hd, SXR, noA, isAl, kA, udf, AOp.dst, Nat.beq, putAt, bldE, evIo, isNil, Nat.ble, Int.reduceAdd, Int.reduceSub, Int.reduceNeg, Int.reduceBNe, Nat.reduceEqDiff, Nat.reduceSub, Nat.reduceAdd, Nat.reduceLeDiff, Nat.reduceBEq, Nat.reduceLT, Nat.reduceMul, Int.reduceBEq, Int.reduceLT, Int.reduceLE, reduceIte, reduceCtorEq]))
  · have hne : ((a.length : Int) != (b.length : Int)) = true := by simp; omega
    rw [eqB_ne hl]
    refine pc_of Tryz.func75 k75 rfl ?_
    repeat' (first
      | (simp only [c75, List.length_map, hne, SXR, noA, isAl, kA, udf, AOp.dst, Nat.beq, putAt, bldE, evIo, isNil, Nat.ble, Int.reduceAdd, Int.reduceSub, Int.reduceNeg, Int.reduceBNe, Nat.reduceEqDiff, Nat.reduceSub, Nat.reduceAdd, Nat.reduceLeDiff, Nat.reduceBEq, Nat.reduceLT, Nat.reduceMul, Int.reduceBEq, Int.reduceLT, Int.reduceLE, reduceIte, reduceCtorEq]))
theorem efex_pc (f : Nat) (e : Ex → Ex → Bool) (a b : List Ex) (hn : Lst.ok a) (hf : ∀ x y, x ∈ a → y ∈ b → PC Tryz.prog f [xg x, xg y] (.b (e x y))) : PC Tryz.prog 75 [.ts (Ex.rows a), .ts (Ex.rows b), .fn f [] []] (.b (eqB e a b)) := by
  rw [rows_map, rows_map]
  exact efexm_pc f e a b hn hf
theorem exsame_pc : ∀ (n : Nat) (x y : Ex), x.sz ≤ n → x.ok → PC Tryz.prog 59 [xg x, xg y] (.b (exB x y))
  | 0, x, y, h, _ => by have := sz_pos x; omega
  | n + 1, .mk k op t v nl nn l, .mk k' op' t' v' nl' nn' l', h, hok => by
    have hszs : Ex.szs l ≤ n := by simp [Ex.sz] at h; omega
    simp only [Ex.ok] at hok
    have hf : PC Tryz.prog 75 [.ts (Ex.rows l), .ts (Ex.rows l'), .fn 59 [] []] (.b (eqB exB l l')) := efex_pc 59 exB l l' hok.1 (fun x y hx _ => exsame_pc n x y (by have := sz_mem hx; omega) (oks_mem hok.2 hx))
    cases g0 : k == k' with
    | false =>
      have h0 := g0
      have hr : exB (.mk k op t v nl nn l) (.mk k' op' t' v' nl' nn' l') = false := by simp [exB, exsB_eq, g0]
      rw [hr]
      refine pc_of Tryz.func59 k59 rfl ?_
      repeat' (first
        | (simp only [c59, bne, Ex.row, rows_cl, h0, SXR, noA, isAl, kA, udf, AOp.dst, Nat.beq, putAt, bldE, evIo, isNil, Nat.ble, Int.reduceAdd, Int.reduceSub, Int.reduceNeg, Int.reduceBNe, Nat.reduceEqDiff, Nat.reduceSub, Nat.reduceAdd, Nat.reduceLeDiff, Nat.reduceBEq, Nat.reduceLT, Nat.reduceMul, Int.reduceBEq, Int.reduceLT, Int.reduceLE, reduceIte, reduceCtorEq]))
    | true =>
      have h0 := g0
      cases g1 : op == op' with
      | false =>
        have h1 := g1
        have hr : exB (.mk k op t v nl nn l) (.mk k' op' t' v' nl' nn' l') = false := by simp [exB, exsB_eq, g0, g1]
        rw [hr]
        refine pc_of Tryz.func59 k59 rfl ?_
        repeat' (first
          | (simp only [c59, bne, Ex.row, rows_cl, h0, h1, SXR, noA, isAl, kA, udf, AOp.dst, Nat.beq, putAt, bldE, evIo, isNil, Nat.ble, Int.reduceAdd, Int.reduceSub, Int.reduceNeg, Int.reduceBNe, Nat.reduceEqDiff, Nat.reduceSub, Nat.reduceAdd, Nat.reduceLeDiff, Nat.reduceBEq, Nat.reduceLT, Nat.reduceMul, Int.reduceBEq, Int.reduceLT, Int.reduceLE, reduceIte, reduceCtorEq]))
      | true =>
        have h1 := g1
        cases g2 : t == t' with
        | false =>
          have h2 := g2
          have hr : exB (.mk k op t v nl nn l) (.mk k' op' t' v' nl' nn' l') = false := by simp [exB, exsB_eq, g0, g1, g2]
          rw [hr]
          refine pc_of Tryz.func59 k59 rfl ?_
          repeat' (first
            | (simp only [c59, bne, Ex.row, rows_cl, h0, h1, h2, SXR, noA, isAl, kA, udf, AOp.dst, Nat.beq, putAt, bldE, evIo, isNil, Nat.ble, Int.reduceAdd, Int.reduceSub, Int.reduceNeg, Int.reduceBNe, Nat.reduceEqDiff, Nat.reduceSub, Nat.reduceAdd, Nat.reduceLeDiff, Nat.reduceBEq, Nat.reduceLT, Nat.reduceMul, Int.reduceBEq, Int.reduceLT, Int.reduceLE, reduceIte, reduceCtorEq]))
        | true =>
          have h2 := g2
          cases g3 : v == v' with
          | false =>
            have h3 := g3
            have hr : exB (.mk k op t v nl nn l) (.mk k' op' t' v' nl' nn' l') = false := by simp [exB, exsB_eq, g0, g1, g2, g3]
            rw [hr]
            refine pc_of Tryz.func59 k59 rfl ?_
            repeat' (first
              | (simp only [c59, bne, Ex.row, rows_cl, h0, h1, h2, h3, SXR, noA, isAl, kA, udf, AOp.dst, Nat.beq, putAt, bldE, evIo, isNil, Nat.ble, Int.reduceAdd, Int.reduceSub, Int.reduceNeg, Int.reduceBNe, Nat.reduceEqDiff, Nat.reduceSub, Nat.reduceAdd, Nat.reduceLeDiff, Nat.reduceBEq, Nat.reduceLT, Nat.reduceMul, Int.reduceBEq, Int.reduceLT, Int.reduceLE, reduceIte, reduceCtorEq]))
          | true =>
            have h3 := g3
            cases g4 : eqStr (nl, nn) (nl', nn') with
            | false =>
              have h4 := g4
              simp only [eqStr] at h4
              have hr : exB (.mk k op t v nl nn l) (.mk k' op' t' v' nl' nn' l') = false := by simp [exB, exsB_eq, g0, g1, g2, g3, g4]
              rw [hr]
              refine pc_of Tryz.func59 k59 rfl ?_
              repeat' (first
                | (simp only [c59, bne, Ex.row, rows_cl, h0, h1, h2, h3, h4, SXR, noA, isAl, kA, udf, AOp.dst, Nat.beq, putAt, bldE, evIo, isNil, Nat.ble, Int.reduceAdd, Int.reduceSub, Int.reduceNeg, Int.reduceBNe, Nat.reduceEqDiff, Nat.reduceSub, Nat.reduceAdd, Nat.reduceLeDiff, Nat.reduceBEq, Nat.reduceLT, Nat.reduceMul, Int.reduceBEq, Int.reduceLT, Int.reduceLE, reduceIte, reduceCtorEq]))
            | true =>
              have h4 := g4
              simp only [eqStr] at h4
              cases g5 : eqB exB l l' with
              | false =>
                have h5 := hf
                rw [g5] at h5
                have hr : exB (.mk k op t v nl nn l) (.mk k' op' t' v' nl' nn' l') = false := by simp [exB, exsB_eq, g0, g1, g2, g3, g4, g5]
                rw [hr]
                refine pc_of Tryz.func59 k59 rfl ?_
                repeat' (first
                  | (with_reducible refine pcl_intro (h5) (by simp only [SXR, rows_cl]) (by simp only [SXR, rows_cl]) ?_)
                  | (simp only [c59, bne, Ex.row, rows_cl, h0, h1, h2, h3, h4, SXR, noA, isAl, kA, udf, AOp.dst, Nat.beq, putAt, bldE, evIo, isNil, Nat.ble, Int.reduceAdd, Int.reduceSub, Int.reduceNeg, Int.reduceBNe, Nat.reduceEqDiff, Nat.reduceSub, Nat.reduceAdd, Nat.reduceLeDiff, Nat.reduceBEq, Nat.reduceLT, Nat.reduceMul, Int.reduceBEq, Int.reduceLT, Int.reduceLE, reduceIte, reduceCtorEq]))
              | true =>
                have h5 := hf
                rw [g5] at h5
                have hr : exB (.mk k op t v nl nn l) (.mk k' op' t' v' nl' nn' l') = true := by simp [exB, exsB_eq, g0, g1, g2, g3, g4, g5]
                rw [hr]
                refine pc_of Tryz.func59 k59 rfl ?_
                repeat' (first
                  | (with_reducible refine pcl_intro (h5) (by simp only [SXR, rows_cl]) (by simp only [SXR, rows_cl]) ?_)
                  | (simp only [c59, bne, Ex.row, rows_cl, h0, h1, h2, h3, h4, SXR, noA, isAl, kA, udf, AOp.dst, Nat.beq, putAt, bldE, evIo, isNil, Nat.ble, Int.reduceAdd, Int.reduceSub, Int.reduceNeg, Int.reduceBNe, Nat.reduceEqDiff, Nat.reduceSub, Nat.reduceAdd, Nat.reduceLeDiff, Nat.reduceBEq, Nat.reduceLT, Nat.reduceMul, Int.reduceBEq, Int.reduceLT, Int.reduceLE, reduceIte, reduceCtorEq]))
theorem neqn_kind (q : NEqn) : q.row.take 1 = [.i .i64 q.kind] := by obtain ⟨_, _, ⟨_, _, _, _, _, _, _⟩, _, _, _, _, _⟩ := q; rfl
theorem neqn_init (q : NEqn) : (q.row.drop 8).take 1 = [.i .i64 q.init] := by obtain ⟨_, _, ⟨_, _, _, _, _, _, _⟩, _, _, _, _, _⟩ := q; rfl
theorem neqn_node (q : NEqn) : (q.row.drop 9).take 1 = [.s q.node.1 q.node.2] := by obtain ⟨_, _, ⟨_, _, _, _, _, _, _⟩, _, _, _, _, _⟩ := q; rfl
theorem neqn_every (q : NEqn) : (q.row.drop 11).take 1 = [.s q.every.1 q.every.2] := by obtain ⟨_, _, ⟨_, _, _, _, _, _, _⟩, _, _, _, _, _⟩ := q; rfl
theorem same6_pc : ∀ (n : Nat) (x y : Ex), x.sz ≤ n → x.ok → PC Tryz.prog 77 [xg x, xg y] (.b (exB x y))
  | 0, x, y, h, _ => by have := sz_pos x; omega
  | n + 1, .mk k op t v nl nn l, .mk k' op' t' v' nl' nn' l', h, hok => by
    have hszs : Ex.szs l ≤ n := by simp [Ex.sz] at h; omega
    simp only [Ex.ok] at hok
    have hf : ∀ a b, a ∈ l → PC Tryz.prog 77 [xg a, xg b] (.b (exB a b)) := fun a b ha => same6_pc n a b (by have := sz_mem ha; omega) (oks_mem hok.2 ha)
    have hlen := hok.1
    unfold Lst.ok at hlen
    cases g0 : k == k' with
    | false =>
      have h0 := g0
      have hr : exB (.mk k op t v nl nn l) (.mk k' op' t' v' nl' nn' l') = false := by simp [exB, g0]
      rw [hr]
      refine pc_of Tryz.func77 k77 rfl ?_
      repeat' (first
        | (simp only [c77, bne, Ex.row, h0, SXR, noA, isAl, kA, udf, AOp.dst, Nat.beq, putAt, bldE, evIo, isNil, Nat.ble, Int.reduceAdd, Int.reduceSub, Int.reduceNeg, Int.reduceBNe, Nat.reduceEqDiff, Nat.reduceSub, Nat.reduceAdd, Nat.reduceLeDiff, Nat.reduceBEq, Nat.reduceLT, Nat.reduceMul, Int.reduceBEq, Int.reduceLT, Int.reduceLE, reduceIte, reduceCtorEq]))
    | true =>
      have h0 := g0
      cases g1 : op == op' with
      | false =>
        have h1 := g1
        have hr : exB (.mk k op t v nl nn l) (.mk k' op' t' v' nl' nn' l') = false := by simp [exB, g0, g1]
        rw [hr]
        refine pc_of Tryz.func77 k77 rfl ?_
        repeat' (first
          | (simp only [c77, bne, Ex.row, h0, h1, SXR, noA, isAl, kA, udf, AOp.dst, Nat.beq, putAt, bldE, evIo, isNil, Nat.ble, Int.reduceAdd, Int.reduceSub, Int.reduceNeg, Int.reduceBNe, Nat.reduceEqDiff, Nat.reduceSub, Nat.reduceAdd, Nat.reduceLeDiff, Nat.reduceBEq, Nat.reduceLT, Nat.reduceMul, Int.reduceBEq, Int.reduceLT, Int.reduceLE, reduceIte, reduceCtorEq]))
      | true =>
        have h1 := g1
        cases g2 : t == t' with
        | false =>
          have h2 := g2
          have hr : exB (.mk k op t v nl nn l) (.mk k' op' t' v' nl' nn' l') = false := by simp [exB, g0, g1, g2]
          rw [hr]
          refine pc_of Tryz.func77 k77 rfl ?_
          repeat' (first
            | (simp only [c77, bne, Ex.row, h0, h1, h2, SXR, noA, isAl, kA, udf, AOp.dst, Nat.beq, putAt, bldE, evIo, isNil, Nat.ble, Int.reduceAdd, Int.reduceSub, Int.reduceNeg, Int.reduceBNe, Nat.reduceEqDiff, Nat.reduceSub, Nat.reduceAdd, Nat.reduceLeDiff, Nat.reduceBEq, Nat.reduceLT, Nat.reduceMul, Int.reduceBEq, Int.reduceLT, Int.reduceLE, reduceIte, reduceCtorEq]))
        | true =>
          have h2 := g2
          cases g3 : v == v' with
          | false =>
            have h3 := g3
            have hr : exB (.mk k op t v nl nn l) (.mk k' op' t' v' nl' nn' l') = false := by simp [exB, g0, g1, g2, g3]
            rw [hr]
            refine pc_of Tryz.func77 k77 rfl ?_
            repeat' (first
              | (simp only [c77, bne, Ex.row, h0, h1, h2, h3, SXR, noA, isAl, kA, udf, AOp.dst, Nat.beq, putAt, bldE, evIo, isNil, Nat.ble, Int.reduceAdd, Int.reduceSub, Int.reduceNeg, Int.reduceBNe, Nat.reduceEqDiff, Nat.reduceSub, Nat.reduceAdd, Nat.reduceLeDiff, Nat.reduceBEq, Nat.reduceLT, Nat.reduceMul, Int.reduceBEq, Int.reduceLT, Int.reduceLE, reduceIte, reduceCtorEq]))
          | true =>
            have h3 := g3
            cases g4 : eqStr (nl, nn) (nl', nn') with
            | false =>
              have h4 := g4
              simp only [eqStr] at h4
              have hr : exB (.mk k op t v nl nn l) (.mk k' op' t' v' nl' nn' l') = false := by simp [exB, g0, g1, g2, g3, g4]
              rw [hr]
              refine pc_of Tryz.func77 k77 rfl ?_
              repeat' (first
                | (simp only [c77, bne, Ex.row, h0, h1, h2, h3, h4, SXR, noA, isAl, kA, udf, AOp.dst, Nat.beq, putAt, bldE, evIo, isNil, Nat.ble, Int.reduceAdd, Int.reduceSub, Int.reduceNeg, Int.reduceBNe, Nat.reduceEqDiff, Nat.reduceSub, Nat.reduceAdd, Nat.reduceLeDiff, Nat.reduceBEq, Nat.reduceLT, Nat.reduceMul, Int.reduceBEq, Int.reduceLT, Int.reduceLE, reduceIte, reduceCtorEq]))
            | true =>
              have h4 := g4
              simp only [eqStr] at h4
              have he : exB (.mk k op t v nl nn l) (.mk k' op' t' v' nl' nn' l') = eqB exB l l' := by simp [exB, exsB_eq, g0, g1, g2, g3, g4]
              rw [he]
              by_cases hl : l.length = l'.length
              · have hne : ((l.length : Int) == (l'.length : Int)) = true := by rw [hl]; simp
                refine pc_of Tryz.func77 k77 rfl ?_
                repeat' (first
                  | (simp only [c77, bne, Ex.row, rows_len, hne, h0, h1, h2, h3, h4, SXR, noA, isAl, kA, udf, AOp.dst, Nat.beq, putAt, bldE, evIo, isNil, Nat.ble, Int.reduceAdd, Int.reduceSub, Int.reduceNeg, Int.reduceBNe, Nat.reduceEqDiff, Nat.reduceSub, Nat.reduceAdd, Nat.reduceLeDiff, Nat.reduceBEq, Nat.reduceLT, Nat.reduceMul, Int.reduceBEq, Int.reduceLT, Int.reduceLE, reduceIte, reduceCtorEq]))
                refine Lp_ind (X := Nat) (fun i ll hs => Hd (fun j => [xg (.mk k op t v nl nn l), xg (.mk k' op' t' v' nl' nn' l'), .p 0 0, .p 1 0, .b false, .i .i64 (i : Int), j 6, j 7, j 8, j 9, j 10, j 11, j 12, j 13, j 14, j 15, j 16, j 17, j 18, j 19, j 20, j 21, j 22, j 23, j 24, j 25, j 26, j 27, j 28, j 29, j 30, j 31, j 32, j 33, j 34, j 35, j 36, j 37, j 38, j 39, j 40, j 41, j 42, j 43, j 44, j 45, j 46, j 47, j 48, j 49, j 50, j 51, j 52, j 53, j 54, j 55, j 56, j 57, j 58, j 59, j 60, j 61, j 62, j 63, j 64, j 65, j 66]) ll ∧ hs = [.c false [.i .i64 k, .i .i64 op, .i .i64 t, .i .i64 v, .s nl nn, .ts (Ex.rows l)], .c false [.i .i64 k', .i .i64 op', .i .i64 t', .i .i64 v', .s nl' nn', .ts (Ex.rows l')]])
                  (fun i => i ≤ l.length ∧ eqB exB l l' = eqB exB (l.drop i) (l'.drop i)) (fun i => l.length - i) ?_ 0 _ _ (by exact ⟨rfl, rfl⟩) ⟨Nat.zero_le _, rfl⟩
                rintro i _ _ ⟨e, rfl⟩ ⟨hi, hinv⟩ IH
                obtain ⟨j, rfl⟩ := e.open
                clear e
                by_cases hlt : i < l.length
                · obtain ⟨x, hx, hxm⟩ := at_some hlt
                  obtain ⟨y, hy, hym⟩ := at_some (show i < l'.length by omega)
                  have hxr : (Ex.rows l)[i]? = some x.row := by rw [rows_get, hx]; rfl
                  have hyr : (Ex.rows l')[i]? = some y.row := by rw [rows_get, hy]; rfl
                  have hd := ltd hlt
                  have hw := wrap_big (n := i) (by omega)
                  rw [eqB_step hx hy] at hinv
                  have hc := hf x y hxm
                  cases gv : exB x y with
                  | false =>
                    rw [gv] at hc
                    have hr : eqB exB l l' = false := by rw [hinv]; simp [gv]
                    rw [hr]
                    repeat' (first
                      | (with_reducible refine pcl_intro (hc) (by simp only [SXR, rows_cl, row_cl]) (by simp only [SXR, rows_cl, row_cl]) ?_)
                      | (simp only [c77, rows_len, rows_cl, hd, hxr, hyr, row_len, row_take, row_cl, hw, SXR, noA, isAl, kA, udf, AOp.dst, Nat.beq, putAt, bldE, evIo, isNil, Nat.ble, Int.reduceAdd, Int.reduceSub, Int.reduceNeg, Int.reduceBNe, Nat.reduceEqDiff, Nat.reduceSub, Nat.reduceAdd, Nat.reduceLeDiff, Nat.reduceBEq, Nat.reduceLT, Nat.reduceMul, Int.reduceBEq, Int.reduceLT, Int.reduceLE, reduceIte, reduceCtorEq]))
                  | true =>
                    rw [gv] at hc
                    repeat' (first
                      | (with_reducible refine pcl_intro (hc) (by simp only [SXR, rows_cl, row_cl]) (by simp only [SXR, rows_cl, row_cl]) ?_)
                      | (simp only [c77, rows_len, rows_cl, hd, hxr, hyr, row_len, row_take, row_cl, hw, SXR, noA, isAl, kA, udf, AOp.dst, Nat.beq, putAt, bldE, evIo, isNil, Nat.ble, Int.reduceAdd, Int.reduceSub, Int.reduceNeg, Int.reduceBNe, Nat.reduceEqDiff, Nat.reduceSub, Nat.reduceAdd, Nat.reduceLeDiff, Nat.reduceBEq, Nat.reduceLT, Nat.reduceMul, Int.reduceBEq, Int.reduceLT, Int.reduceLE, reduceIte, reduceCtorEq]))
                    exact IH (i + 1) _ _ (by exact ⟨rfl, rfl⟩) ⟨hlt, by rw [hinv]; simp [gv]⟩ (by omega)
                · have hd := ltn hlt
                  clear IH
                  rw [eqB_done hl hlt] at hinv
                  rw [hinv]
                  repeat' (first
                    | (simp only [c77, rows_len, hd, SXR, noA, isAl, kA, udf, AOp.dst, Nat.beq, putAt, bldE, evIo, isNil, Nat.ble, Int.reduceAdd, Int.reduceSub, Int.reduceNeg, Int.reduceBNe, Nat.reduceEqDiff, Nat.reduceSub, Nat.reduceAdd, Nat.reduceLeDiff, Nat.reduceBEq, Nat.reduceLT, Nat.reduceMul, Int.reduceBEq, Int.reduceLT, Int.reduceLE, reduceIte, reduceCtorEq]))
              · have hne : ((l.length : Int) == (l'.length : Int)) = false := by simp; omega
                rw [eqB_ne hl]
                refine pc_of Tryz.func77 k77 rfl ?_
                repeat' (first
                  | (simp only [c77, bne, Ex.row, rows_len, hne, h0, h1, h2, h3, h4, SXR, noA, isAl, kA, udf, AOp.dst, Nat.beq, putAt, bldE, evIo, isNil, Nat.ble, Int.reduceAdd, Int.reduceSub, Int.reduceNeg, Int.reduceBNe, Nat.reduceEqDiff, Nat.reduceSub, Nat.reduceAdd, Nat.reduceLeDiff, Nat.reduceBEq, Nat.reduceLT, Nat.reduceMul, Int.reduceBEq, Int.reduceLT, Int.reduceLE, reduceIte, reduceCtorEq]))
end Go.Proofs.YthleepdlddlieaaGreatDoor
