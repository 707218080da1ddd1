/-
  Expressions; the contracts of the functions that ask their kind.
  Normalized programs as types, and that a thing is the same as itself.
  Programs without automata: the same as themselves.
  A program without automata is the same as itself.
-/
import Derived.Test.YtaopnjogkgldlaaGreatDoorTab
import Derived.Test.YtaopnjogkgldlaaGreatDoorBT
set_option linter.unusedSimpArgs false
set_option linter.unusedVariables false
namespace Go.Proofs.YtaopnjogkgldlaaGreatDoor
open Go Go.B
/-- expressions -/
inductive Ex where
  | mk (k op t v : Int) (nl nn : Nat) (args : List Ex)
mutual
def Ex.row : Ex → List V
  | .mk k op t v nl nn rs => [.i .i64 k, .i .i64 op, .i .i64 t, .i .i64 v, .s nl nn, .ts (Ex.rows rs)]
def Ex.rows : List Ex → List (List V)
  | [] => []
  | e :: l => e.row :: Ex.rows l
end
def Ex.k : Ex → Int | .mk k _ _ _ _ _ _ => k
def Ex.args : Ex → List Ex | .mk _ _ _ _ _ _ rs => rs
theorem rows_map (l : List Ex) : Ex.rows l = l.map Ex.row := by
  induction l with
  | nil => rfl
  | cons e l ih => simp [Ex.rows, ih]
theorem rows_get (l : List Ex) (j : Nat) : (Ex.rows l)[j]? = (l[j]?).map Ex.row := by rw [rows_map, List.getElem?_map]
theorem rows_len (l : List Ex) : (Ex.rows l).length = l.length := by rw [rows_map, List.length_map]
mutual
theorem row_cl : ∀ e : Ex, clL e.row = true
  | .mk k op t v nl nn rs => by simp only [Ex.row, clL, V.cl, rows_cl rs, Bool.and_self]
theorem rows_cl : ∀ l : List Ex, clR (Ex.rows l) = true
  | [] => by simp only [Ex.rows, clR]
  | e :: l => by simp only [Ex.rows, clR, row_cl e, rows_cl l, Bool.and_self]
end
mutual
def Ex.sz : Ex → Nat
  | .mk _ _ _ _ _ _ l => 1 + Ex.szs l
def Ex.szs : List Ex → Nat
  | [] => 0
  | e :: l => Ex.sz e + Ex.szs l
end
theorem sz_mem {e : Ex} : ∀ {l : List Ex}, e ∈ l → e.sz ≤ Ex.szs l
  | x :: l, h => by
    rcases List.mem_cons.1 h with rfl | h
    · simp [Ex.szs]
    · have := sz_mem h; simp [Ex.szs]; omega
theorem sz_pos (e : Ex) : 1 ≤ e.sz := by cases e; simp [Ex.sz]
theorem szs_len : ∀ (l : List Ex), l.length ≤ Ex.szs l
  | [] => by simp
  | e :: l => by have := szs_len l; have := sz_pos e; simp [Ex.szs]; omega
theorem szs_app : ∀ (a b : List Ex), Ex.szs (a ++ b) = Ex.szs a + Ex.szs b
  | [], b => by simp [Ex.szs]
  | e :: a, b => by simp [Ex.szs, szs_app a b]; omega
theorem szs_take {l : List Ex} {i : Nat} {x : Ex} (h : l[i]? = some x) : Ex.szs (l.take (i + 1)) = Ex.szs (l.take i) + x.sz := by
  rw [List.take_add_one, h, szs_app]; simp [Ex.szs]
theorem at_some {l : List Ex} {i : Nat} (h : i < l.length) : ∃ x, l[i]? = some x ∧ x ∈ l := ⟨l[i], by simp [h], List.getElem_mem h⟩
theorem row_len (e : Ex) : e.row.length = 6 := by cases e; rfl
theorem row_take (e : Ex) : e.row.take 6 = e.row := by cases e; rfl
/-- an expression as a value -/
abbrev xg (e : Ex) : V := .ag e.row
theorem wrap_big {n : Nat} (h : n < 1000000000000000000) : IntKind.i64.wrap ((n : Int) + 1) = ((n + 1 : Nat) : Int) := by
  rw [IntKind.wrap_i64]; omega
theorem mg {α β : Type} {f : α → β} {l : List α} {i : Nat} {x : α} (h : l[i]? = some x) : (l.map f)[i]? = some (f x) := by rw [List.getElem?_map, h]; rfl
theorem clR_map {α : Type} {f : α → List V} (hf : ∀ x, clL (f x) = true) : ∀ l : List α, clR (l.map f) = true
  | [] => by simp only [List.map_nil, clR]
  | x :: l => by simp only [List.map_cons, clR, hf x, clR_map hf l, Bool.and_self]
theorem ats {α : Type} {l : List α} {i : Nat} (h : i < l.length) : ∃ x, l[i]? = some x ∧ x ∈ l := ⟨l[i], by simp [h], List.getElem_mem h⟩
theorem ltd {a b : Nat} (h : a < b) : decide ((a : Int) < (b : Int)) = true := by simp; omega
theorem ltn {a b : Nat} (h : ¬ a < b) : decide ((a : Int) < (b : Int)) = false := by simp; omega
theorem bne_i (a : Int) : (a != a) = false := by simp
theorem beq_n (a : Nat) : (a == a) = true := by simp
/-- a string -/
abbrev Str := Nat × Nat
def srow (s : Str) : List V := [.s s.1 s.2]
theorem srow_len (s : Str) : (srow s).length = 1 := rfl
theorem srow_cl (s : Str) : clL (srow s) = true := rfl
theorem srows_cl (l : List Str) : clR (l.map srow) = true := clR_map srow_cl l
/-- a sample of a clock -/
structure On where
  nm : Str
  t : Int
  tag : Int
def On.row (o : On) : List V := [.s o.nm.1 o.nm.2, .i .i64 o.t, .i .i64 o.tag]
theorem on_len (o : On) : o.row.length = 3 := rfl
theorem on_cl (o : On) : clL o.row = true := rfl
theorem ons_cl (l : List On) : clR (l.map On.row) = true := clR_map on_cl l
/-- a declaration -/
structure Decl where
  nm : Str
  ty : Int
  ck : List On
def Decl.row (d : Decl) : List V := [.s d.nm.1 d.nm.2, .i .i64 d.ty, .ts (d.ck.map On.row)]
theorem decl_len (d : Decl) : d.row.length = 3 := rfl
theorem decl_cl (d : Decl) : clL d.row = true := by simp only [Decl.row, clL, V.cl, ons_cl, Bool.and_self]
theorem decls_cl (l : List Decl) : clR (l.map Decl.row) = true := clR_map decl_cl l
/-- how long a list may be -/
def Lst.ok {α : Type} (l : List α) : Prop := l.length < 30000000

theorem texts_refl (l : List Str) (hn : Lst.ok l) : PC Tryz.prog 15 [.ts (l.map srow), .ts (l.map srow)] (.b true) := by
  refine pc_of Tryz.func15 k15 rfl ?_
  repeat' (first
    | (simp only [c15, List.length_map, bne_i, SXR, noA, isAl, kA, udf, AOp.dst, Nat.beq, putAt, bldE, evIo, isNil, Nat.ble, Int.reduceAdd, Int.reduceSub, Int.reduceNeg, Int.reduceBNe, Nat.reduceEqDiff, Nat.reduceSub, Nat.reduceAdd, Nat.reduceLeDiff, Nat.reduceBEq, Nat.reduceLT, Nat.reduceMul, Int.reduceBEq, Int.reduceLT, Int.reduceLE, reduceIte, reduceCtorEq]))
  refine Lp_ind (X := Nat) (fun i ll hs => Hd (fun j => [.ts (l.map srow), .ts (l.map srow), j 2, j 3, .b false, .i .i64 (i : Int), j 6, j 7, j 8, j 9, j 10, j 11, j 12, j 13, j 14, j 15, j 16, j 17, j 18, j 19, j 20, j 21, j 22, j 23, j 24, j 25]) ll ∧ hs = [])
    (fun i => i ≤ l.length) (fun i => l.length - i) ?_ 0 _ _ (by exact ⟨rfl, rfl⟩) (Nat.zero_le _)
  rintro i _ _ ⟨e, rfl⟩ hi IH
  obtain ⟨j, rfl⟩ := e.open
  clear e
  by_cases hlt : i < l.length
  · obtain ⟨x, hx, hxm⟩ := ats hlt
    have hr := mg (f := srow) hx
    have hd := ltd hlt
    have hw := wrap_big (n := i) (by unfold Lst.ok at hn; omega)
    repeat' (first
      | (simp only [c15, List.length_map, hd, hr, srow, hw, beq_n, SXR, noA, isAl, kA, udf, AOp.dst, Nat.beq, putAt, bldE, evIo, isNil, Nat.ble, Int.reduceAdd, Int.reduceSub, Int.reduceNeg, Int.reduceBNe, Nat.reduceEqDiff, Nat.reduceSub, Nat.reduceAdd, Nat.reduceLeDiff, Nat.reduceBEq, Nat.reduceLT, Nat.reduceMul, Int.reduceBEq, Int.reduceLT, Int.reduceLE, reduceIte, reduceCtorEq]))
    exact IH (i + 1) _ _ (by exact ⟨rfl, rfl⟩) hlt (by omega)
  · have hd := ltn hlt
    clear IH
    repeat' (first
      | (simp only [c15, List.length_map, hd, SXR, noA, isAl, kA, udf, AOp.dst, Nat.beq, putAt, bldE, evIo, isNil, Nat.ble, Int.reduceAdd, Int.reduceSub, Int.reduceNeg, Int.reduceBNe, Nat.reduceEqDiff, Nat.reduceSub, Nat.reduceAdd, Nat.reduceLeDiff, Nat.reduceBEq, Nat.reduceLT, Nat.reduceMul, Int.reduceBEq, Int.reduceLT, Int.reduceLE, reduceIte, reduceCtorEq]))
theorem on_sq (o : On) : sqs [2, 1, 1] o.row o.row = some true := by simp [sqs, sq1, On.row]
theorem on_take (o : On) : o.row.take 3 = o.row := rfl
theorem clocks_refl (l : List On) (hn : Lst.ok l) : PC Tryz.prog 42 [.ts (l.map On.row), .ts (l.map On.row)] (.b true) := by
  refine pc_of Tryz.func42 k42 rfl ?_
  repeat' (first
    | (simp only [c42, List.length_map, bne_i, SXR, noA, isAl, kA, udf, AOp.dst, Nat.beq, putAt, bldE, evIo, isNil, Nat.ble, Int.reduceAdd, Int.reduceSub, Int.reduceNeg, Int.reduceBNe, Nat.reduceEqDiff, Nat.reduceSub, Nat.reduceAdd, Nat.reduceLeDiff, Nat.reduceBEq, Nat.reduceLT, Nat.reduceMul, Int.reduceBEq, Int.reduceLT, Int.reduceLE, reduceIte, reduceCtorEq]))
  refine Lp_ind (X := Nat) (fun i ll hs => Hd (fun j => [.ts (l.map On.row), .ts (l.map On.row), j 2, j 3, .b false, .i .i64 (i : Int), j 6, j 7, j 8, j 9, j 10, j 11, j 12, j 13, j 14, j 15, j 16, j 17, j 18, j 19, j 20, j 21, j 22, j 23, j 24, j 25]) ll ∧ hs = [])
    (fun i => i ≤ l.length) (fun i => l.length - i) ?_ 0 _ _ (by exact ⟨rfl, rfl⟩) (Nat.zero_le _)
  rintro i _ _ ⟨e, rfl⟩ hi IH
  obtain ⟨j, rfl⟩ := e.open
  clear e
  by_cases hlt : i < l.length
  · obtain ⟨x, hx, hxm⟩ := ats hlt
    have hr := mg (f := On.row) hx
    have hd := ltd hlt
    have hw := wrap_big (n := i) (by unfold Lst.ok at hn; omega)
    repeat' (first
      | (simp only [c42, List.length_map, hd, hr, on_len, on_take, on_sq, hw, SXR, noA, isAl, kA, udf, AOp.dst, Nat.beq, putAt, bldE, evIo, isNil, Nat.ble, Int.reduceAdd, Int.reduceSub, Int.reduceNeg, Int.reduceBNe, Nat.reduceEqDiff, Nat.reduceSub, Nat.reduceAdd, Nat.reduceLeDiff, Nat.reduceBEq, Nat.reduceLT, Nat.reduceMul, Int.reduceBEq, Int.reduceLT, Int.reduceLE, reduceIte, reduceCtorEq]))
    exact IH (i + 1) _ _ (by exact ⟨rfl, rfl⟩) hlt (by omega)
  · have hd := ltn hlt
    clear IH
    repeat' (first
      | (simp only [c42, List.length_map, hd, SXR, noA, isAl, kA, udf, AOp.dst, Nat.beq, putAt, bldE, evIo, isNil, Nat.ble, Int.reduceAdd, Int.reduceSub, Int.reduceNeg, Int.reduceBNe, Nat.reduceEqDiff, Nat.reduceSub, Nat.reduceAdd, Nat.reduceLeDiff, Nat.reduceBEq, Nat.reduceLT, Nat.reduceMul, Int.reduceBEq, Int.reduceLT, Int.reduceLE, reduceIte, reduceCtorEq]))
mutual
/-- every list of arguments is short enough -/
def Ex.ok : Ex → Prop
  | .mk _ _ _ _ _ _ l => Lst.ok l ∧ Ex.oks l
def Ex.oks : List Ex → Prop
  | [] => True
  | e :: l => Ex.ok e ∧ Ex.oks l
end
theorem oks_mem {e : Ex} : ∀ {l : List Ex}, Ex.oks l → e ∈ l → e.ok
  | x :: l, h, hm => by
    simp only [Ex.oks] at h
    rcases List.mem_cons.1 hm with rfl | hm
    · exact h.1
    · exact oks_mem h.2 hm
theorem same6_refl : ∀ (n : Nat) (e : Ex), e.sz ≤ n → e.ok → PC Tryz.prog 43 [xg e, xg e] (.b true)
  | 0, e, h, _ => by have := sz_pos e; omega
  | n + 1, .mk k op t v nl nn args, h, hn => by
    have hszs : Ex.szs args ≤ n := by simp [Ex.sz] at h; omega
    simp only [Ex.ok] at hn
    have hf : ∀ a, a ∈ args → PC Tryz.prog 43 [xg a, xg a] (.b true) := fun a ha => same6_refl n a (by have := sz_mem ha; omega) (oks_mem hn.2 ha)
    refine pc_of Tryz.func43 k43 rfl ?_
    repeat' (first
      | (simp only [c43, Ex.row, rows_len, bne_i, beq_n, SXR, noA, isAl, kA, udf, AOp.dst, Nat.beq, putAt, bldE, evIo, isNil, Nat.ble, Int.reduceAdd, Int.reduceSub, Int.reduceNeg, Int.reduceBNe, Nat.reduceEqDiff, Nat.reduceSub, Nat.reduceAdd, Nat.reduceLeDiff, Nat.reduceBEq, Nat.reduceLT, Nat.reduceMul, Int.reduceBEq, Int.reduceLT, Int.reduceLE, reduceIte, reduceCtorEq]))
    refine Lp_ind (X := Nat) (fun i ll hs => Hd (fun j => [xg (.mk k op t v nl nn args), xg (.mk k op t v nl nn args), .p 0 0, .p 1 0, .b false, .i .i64 (i : Int), j 6, j 7, j 8, j 9, j 10, j 11, j 12, j 13, j 14, j 15, j 16, j 17, j 18, j 19, j 20, j 21, j 22, j 23, j 24, j 25, j 26, j 27, j 28, j 29, j 30, j 31, j 32, j 33, j 34, j 35, j 36, j 37, j 38, j 39, j 40, j 41, j 42, j 43, j 44, j 45, j 46, j 47, j 48, j 49, j 50, j 51, j 52, j 53, j 54, j 55, j 56, j 57, j 58, j 59, j 60, j 61, j 62, j 63, j 64, j 65, j 66]) ll ∧ hs = [.c false [.i .i64 k, .i .i64 op, .i .i64 t, .i .i64 v, .s nl nn, .ts (Ex.rows args)], .c false [.i .i64 k, .i .i64 op, .i .i64 t, .i .i64 v, .s nl nn, .ts (Ex.rows args)]])
      (fun i => i ≤ args.length) (fun i => args.length - i) ?_ 0 _ _ (by exact ⟨rfl, rfl⟩) (Nat.zero_le _)
    rintro i _ _ ⟨e, rfl⟩ hi IH
    obtain ⟨j, rfl⟩ := e.open
    clear e
    by_cases hlt : i < args.length
    · obtain ⟨x, hx, hxm⟩ := at_some hlt
      have hxr : (Ex.rows args)[i]? = some x.row := by rw [rows_get, hx]; rfl
      have hd := ltd hlt
      have hw := wrap_big (n := i) (by have := hn.1; unfold Lst.ok at this; omega)
      have hc := hf x hxm
      repeat' (first
        | (with_reducible refine pcl_intro (hc) (by simp only [SXR, rows_len, rows_cl, hd, hxr, row_len, row_take, row_cl, hw]) (by simp only [SXR, rows_len, rows_cl, hd, hxr, row_len, row_take, row_cl, hw]) ?_)
        | (simp only [c43, rows_len, rows_cl, hd, hxr, row_len, row_take, row_cl, hw, SXR, noA, isAl, kA, udf, AOp.dst, Nat.beq, putAt, bldE, evIo, isNil, Nat.ble, Int.reduceAdd, Int.reduceSub, Int.reduceNeg, Int.reduceBNe, Nat.reduceEqDiff, Nat.reduceSub, Nat.reduceAdd, Nat.reduceLeDiff, Nat.reduceBEq, Nat.reduceLT, Nat.reduceMul, Int.reduceBEq, Int.reduceLT, Int.reduceLE, reduceIte, reduceCtorEq]))
      exact IH (i + 1) _ _ (by exact ⟨rfl, rfl⟩) hlt (by omega)
    · have hd := ltn hlt
      clear IH
      repeat' (first
        | (simp only [c43, rows_len, hd, SXR, noA, isAl, kA, udf, AOp.dst, Nat.beq, putAt, bldE, evIo, isNil, Nat.ble, Int.reduceAdd, Int.reduceSub, Int.reduceNeg, Int.reduceBNe, Nat.reduceEqDiff, Nat.reduceSub, Nat.reduceAdd, Nat.reduceLeDiff, Nat.reduceBEq, Nat.reduceLT, Nat.reduceMul, Int.reduceBEq, Int.reduceLT, Int.reduceLE, reduceIte, reduceCtorEq]))
/-- the clocks are short enough -/
def Decl.ok (d : Decl) : Prop := Lst.ok d.ck
def decOk (l : List Decl) : Prop := Lst.ok l ∧ ∀ d, d ∈ l → d.ok
theorem decls_refl (l : List Decl) (hn : decOk l) : PC Tryz.prog 16 [.ts (l.map Decl.row), .ts (l.map Decl.row)] (.b true) := by
  refine pc_of Tryz.func16 k16 rfl ?_
  repeat' (first
    | (simp only [c16, List.length_map, bne_i, SXR, noA, isAl, kA, udf, AOp.dst, Nat.beq, putAt, bldE, evIo, isNil, Nat.ble, Int.reduceAdd, Int.reduceSub, Int.reduceNeg, Int.reduceBNe, Nat.reduceEqDiff, Nat.reduceSub, Nat.reduceAdd, Nat.reduceLeDiff, Nat.reduceBEq, Nat.reduceLT, Nat.reduceMul, Int.reduceBEq, Int.reduceLT, Int.reduceLE, reduceIte, reduceCtorEq]))
  refine Lp_ind (X := Nat) (fun i ll hs => Hd (fun j => [.ts (l.map Decl.row), .ts (l.map Decl.row), j 2, j 3, .b false, .i .i64 (i : Int), j 6, j 7, j 8, j 9, j 10, j 11, j 12, j 13, j 14, j 15, j 16, j 17, j 18, j 19, j 20, j 21, j 22, j 23, j 24, j 25, j 26, j 27, j 28, j 29, j 30, j 31, j 32, j 33, j 34, j 35, j 36, j 37, j 38, j 39, j 40, j 41, j 42, j 43, j 44, j 45, j 46, j 47, j 48, j 49, j 50, j 51, j 52, j 53, j 54]) ll ∧ hs = [])
    (fun i => i ≤ l.length) (fun i => l.length - i) ?_ 0 _ _ (by exact ⟨rfl, rfl⟩) (Nat.zero_le _)
  rintro i _ _ ⟨e, rfl⟩ hi IH
  obtain ⟨j, rfl⟩ := e.open
  clear e
  by_cases hlt : i < l.length
  · obtain ⟨x, hx, hxm⟩ := ats hlt
    have hr := mg (f := Decl.row) hx
    have hd := ltd hlt
    have hw := wrap_big (n := i) (by have := hn.1; unfold Lst.ok at this; omega)
    have hc := clocks_refl x.ck (hn.2 x hxm)
    repeat' (first
      | (with_reducible refine pcl_intro (hc) (by simp only [SXR, List.length_map, hd, hr, Decl.row, ons_cl, hw, bne_i, beq_n]) (by simp only [SXR, List.length_map, hd, hr, Decl.row, ons_cl, hw, bne_i, beq_n]) ?_)
      | (simp only [c16, List.length_map, hd, hr, Decl.row, ons_cl, hw, bne_i, beq_n, SXR, noA, isAl, kA, udf, AOp.dst, Nat.beq, putAt, bldE, evIo, isNil, Nat.ble, Int.reduceAdd, Int.reduceSub, Int.reduceNeg, Int.reduceBNe, Nat.reduceEqDiff, Nat.reduceSub, Nat.reduceAdd, Nat.reduceLeDiff, Nat.reduceBEq, Nat.reduceLT, Nat.reduceMul, Int.reduceBEq, Int.reduceLT, Int.reduceLE, reduceIte, reduceCtorEq]))
    exact IH (i + 1) _ _ (by exact ⟨rfl, rfl⟩) hlt (by omega)
  · have hd := ltn hlt
    clear IH
    repeat' (first
      | (simp only [c16, List.length_map, hd, SXR, noA, isAl, kA, udf, AOp.dst, Nat.beq, putAt, bldE, evIo, isNil, Nat.ble, Int.reduceAdd, Int.reduceSub, Int.reduceNeg, Int.reduceBNe, Nat.reduceEqDiff, Nat.reduceSub, Nat.reduceAdd, Nat.reduceLeDiff, Nat.reduceBEq, Nat.reduceLT, Nat.reduceMul, Int.reduceBEq, Int.reduceLT, Int.reduceLE, reduceIte, reduceCtorEq]))
/-- an equation -/
structure Eqn where
  left : List Str
  right : Ex
def Eqn.row (q : Eqn) : List V := .ts (q.left.map srow) :: q.right.row
theorem eqn_len (q : Eqn) : q.row.length = 7 := by simp [Eqn.row, row_len]
theorem eqn_cl (q : Eqn) : clL q.row = true := by simp only [Eqn.row, clL, V.cl, srows_cl, row_cl, Bool.and_self]
theorem eqns_cl (l : List Eqn) : clR (l.map Eqn.row) = true := clR_map eqn_cl l
def Eqn.ok (q : Eqn) : Prop := Lst.ok q.left ∧ q.right.ok
/-- a node -/
structure PNode where
  nm : Str
  ins : List Decl
  outs : List Decl
  locals : List Decl
  eqs : List Eqn
def PNode.row (n : PNode) : List V := [.s n.nm.1 n.nm.2, .ts (n.ins.map Decl.row), .ts (n.outs.map Decl.row), .ts (n.locals.map Decl.row), .ts (n.eqs.map Eqn.row), .ts [], .ts [], .ts []]
theorem pnode_len (n : PNode) : n.row.length = 8 := rfl
theorem clR_nil : clR [] = true := by simp only [clR]
theorem pnode_cl (n : PNode) : clL n.row = true := by simp only [PNode.row, clL, V.cl, decls_cl, eqns_cl, clR_nil, Bool.and_self]
theorem pnodes_cl (l : List PNode) : clR (l.map PNode.row) = true := clR_map pnode_cl l
def PNode.ok (n : PNode) : Prop := decOk n.ins ∧ decOk n.outs ∧ decOk n.locals ∧ Lst.ok n.eqs ∧ ∀ q, q ∈ n.eqs → q.ok
/-- an enumeration -/
structure Enm where
  nm : Str
  tags : List Str
def Enm.row (u : Enm) : List V := [.s u.nm.1 u.nm.2, .ts (u.tags.map srow)]
theorem enm_len (u : Enm) : u.row.length = 2 := rfl
theorem enm_cl (u : Enm) : clL u.row = true := by simp only [Enm.row, clL, V.cl, srows_cl, Bool.and_self]
theorem enms_cl (l : List Enm) : clR (l.map Enm.row) = true := clR_map enm_cl l
def enmOk (l : List Enm) : Prop := Lst.ok l ∧ ∀ u, u ∈ l → Lst.ok u.tags
/-- a program -/
structure Prg where
  enums : List Enm
  nodes : List PNode
def Prg.row (p : Prg) : List V := [.ts (p.enums.map Enm.row), .ts (p.nodes.map PNode.row)]
theorem prg_cl (p : Prg) : clL p.row = true := by simp only [Prg.row, clL, V.cl, enms_cl, pnodes_cl, Bool.and_self]
def Prg.ok (p : Prg) : Prop := enmOk p.enums ∧ Lst.ok p.nodes ∧ ∀ n, n ∈ p.nodes → n.ok

theorem claims_nil : PC Tryz.prog 19 [.ts [], .ts []] (.b true) := by
  refine pc_of Tryz.func19 k19 rfl ?_
  repeat' (first
    | (with_reducible refine Lp_step ?_)
    | (simp only [c19, bne_i, Int.natCast_zero, decide_false, decide_true, SXR, noA, isAl, kA, udf, AOp.dst, Nat.beq, putAt, bldE, evIo, isNil, Nat.ble, Int.reduceAdd, Int.reduceSub, Int.reduceNeg, Int.reduceBNe, Nat.reduceEqDiff, Nat.reduceSub, Nat.reduceAdd, Nat.reduceLeDiff, Nat.reduceBEq, Nat.reduceLT, Nat.reduceMul, Int.reduceBEq, Int.reduceLT, Int.reduceLE, reduceIte, reduceCtorEq]))

theorem autos_nil : PC Tryz.prog 18 [.ts [], .ts []] (.b true) := by
  refine pc_of Tryz.func18 k18 rfl ?_
  repeat' (first
    | (with_reducible refine Lp_step ?_)
    | ((with_reducible refine k_cons ?rdq ?_); (case rdq => refine rck_mk rfl ?_ ?_ <;> simp only [Option.isSome_some, bne_i, Int.natCast_zero, decide_false, decide_true, SXR, noA, isAl, kA, udf, AOp.dst, Nat.beq, putAt, bldE, evIo, isNil, Nat.ble, Int.reduceAdd, Int.reduceSub, Int.reduceNeg, Int.reduceBNe, Nat.reduceEqDiff, Nat.reduceSub, Nat.reduceAdd, Nat.reduceLeDiff, Nat.reduceBEq, Nat.reduceLT, Nat.reduceMul, Int.reduceBEq, Int.reduceLT, Int.reduceLE, reduceIte, reduceCtorEq]))
    | (simp only [c18, bne_i, Int.natCast_zero, decide_false, decide_true, SXR, noA, isAl, kA, udf, AOp.dst, Nat.beq, putAt, bldE, evIo, isNil, Nat.ble, Int.reduceAdd, Int.reduceSub, Int.reduceNeg, Int.reduceBNe, Nat.reduceEqDiff, Nat.reduceSub, Nat.reduceAdd, Nat.reduceLeDiff, Nat.reduceBEq, Nat.reduceLT, Nat.reduceMul, Int.reduceBEq, Int.reduceLT, Int.reduceLE, reduceIte, reduceCtorEq]))
theorem eqs_refl (l : List Eqn) (hl : Lst.ok l) (hn : ∀ q, q ∈ l → q.ok) : PC Tryz.prog 17 [.ts (l.map Eqn.row), .ts (l.map Eqn.row)] (.b true) := by
  refine pc_of Tryz.func17 k17 rfl ?_
  repeat' (first
    | (simp only [c17, List.length_map, bne_i, SXR, noA, isAl, kA, udf, AOp.dst, Nat.beq, putAt, bldE, evIo, isNil, Nat.ble, Int.reduceAdd, Int.reduceSub, Int.reduceNeg, Int.reduceBNe, Nat.reduceEqDiff, Nat.reduceSub, Nat.reduceAdd, Nat.reduceLeDiff, Nat.reduceBEq, Nat.reduceLT, Nat.reduceMul, Int.reduceBEq, Int.reduceLT, Int.reduceLE, reduceIte, reduceCtorEq]))
  refine Lp_ind (X := Nat) (fun i ll hs => Hd (fun j => [.ts (l.map Eqn.row), .ts (l.map Eqn.row), j 2, j 3, .b false, .i .i64 (i : Int), j 6, j 7, j 8, j 9, j 10, j 11, j 12, j 13, j 14, j 15, j 16, j 17, j 18, j 19, j 20, j 21, j 22, j 23, j 24, j 25, j 26, j 27, j 28, j 29, j 30, j 31, j 32, j 33, j 34, j 35, j 36, j 37, j 38, j 39, j 40, j 41, j 42]) ll ∧ hs = [])
    (fun i => i ≤ l.length) (fun i => l.length - i) ?_ 0 _ _ (by exact ⟨rfl, rfl⟩) (Nat.zero_le _)
  rintro i _ _ ⟨e, rfl⟩ hi IH
  obtain ⟨j, rfl⟩ := e.open
  clear e
  by_cases hlt : i < l.length
  · obtain ⟨x, hx, hxm⟩ := ats hlt
    have hr := mg (f := Eqn.row) hx
    have hd := ltd hlt
    have hw := wrap_big (n := i) (by unfold Lst.ok at hl; omega)
    have hc := texts_refl x.left (hn x hxm).1
    have hs := same6_refl _ x.right (Nat.le_refl _) (hn x hxm).2
    repeat' (first
      | (with_reducible refine pcl_intro (hc) (by simp only [SXR, List.length_map, hd, hr, Eqn.row, row_len, row_take, row_cl, srows_cl, hw, bne_i, beq_n]) (by simp only [SXR, List.length_map, hd, hr, Eqn.row, row_len, row_take, row_cl, srows_cl, hw, bne_i, beq_n]) ?_)
      | (with_reducible refine pcl_intro (hs) (by simp only [SXR, List.length_map, hd, hr, Eqn.row, row_len, row_take, row_cl, srows_cl, hw, bne_i, beq_n]) (by simp only [SXR, List.length_map, hd, hr, Eqn.row, row_len, row_take, row_cl, srows_cl, hw, bne_i, beq_n]) ?_)
      | (simp only [c17, List.length_map, hd, hr, Eqn.row, row_len, row_take, row_cl, srows_cl, hw, bne_i, beq_n, SXR, noA, isAl, kA, udf, AOp.dst, Nat.beq, putAt, bldE, evIo, isNil, Nat.ble, Int.reduceAdd, Int.reduceSub, Int.reduceNeg, Int.reduceBNe, Nat.reduceEqDiff, Nat.reduceSub, Nat.reduceAdd, Nat.reduceLeDiff, Nat.reduceBEq, Nat.reduceLT, Nat.reduceMul, Int.reduceBEq, Int.reduceLT, Int.reduceLE, reduceIte, reduceCtorEq]))
    exact IH (i + 1) _ _ (by exact ⟨rfl, rfl⟩) hlt (by omega)
  · have hd := ltn hlt
    clear IH
    repeat' (first
      | (simp only [c17, List.length_map, hd, SXR, noA, isAl, kA, udf, AOp.dst, Nat.beq, putAt, bldE, evIo, isNil, Nat.ble, Int.reduceAdd, Int.reduceSub, Int.reduceNeg, Int.reduceBNe, Nat.reduceEqDiff, Nat.reduceSub, Nat.reduceAdd, Nat.reduceLeDiff, Nat.reduceBEq, Nat.reduceLT, Nat.reduceMul, Int.reduceBEq, Int.reduceLT, Int.reduceLE, reduceIte, reduceCtorEq]))
theorem r7_refl (p : Prg) (hn : p.ok) : PC Tryz.prog 6 [.ag p.row, .ag p.row] (.b true) := by
  obtain ⟨en, nd⟩ := p
  obtain ⟨⟨he, hee⟩, hnd, hnn⟩ := hn
  simp only at he hee hnd hnn
  refine pc_of Tryz.func6 k6 rfl ?_
  repeat' (first
    | ((with_reducible refine k_cons ?rdq ?_); (case rdq => refine rck_mk rfl ?_ ?_ <;> simp only [Option.isSome_some, Prg.row, List.length_map, bne_i, SXR, noA, isAl, kA, udf, AOp.dst, Nat.beq, putAt, bldE, evIo, isNil, Nat.ble, Int.reduceAdd, Int.reduceSub, Int.reduceNeg, Int.reduceBNe, Nat.reduceEqDiff, Nat.reduceSub, Nat.reduceAdd, Nat.reduceLeDiff, Nat.reduceBEq, Nat.reduceLT, Nat.reduceMul, Int.reduceBEq, Int.reduceLT, Int.reduceLE, reduceIte, reduceCtorEq]))
    | (simp only [c6, Prg.row, List.length_map, bne_i, SXR, noA, isAl, kA, udf, AOp.dst, Nat.beq, putAt, bldE, evIo, isNil, Nat.ble, Int.reduceAdd, Int.reduceSub, Int.reduceNeg, Int.reduceBNe, Nat.reduceEqDiff, Nat.reduceSub, Nat.reduceAdd, Nat.reduceLeDiff, Nat.reduceBEq, Nat.reduceLT, Nat.reduceMul, Int.reduceBEq, Int.reduceLT, Int.reduceLE, reduceIte, reduceCtorEq]))
  refine Lp_ind (X := Nat) (fun i ll hs => Hd (fun j => [.ag (Prg.row ⟨en, nd⟩), .ag (Prg.row ⟨en, nd⟩), .p 0 0, .p 1 0, .b false, .i .i64 (i : Int), j 6, j 7, j 8, j 9, j 10, j 11, j 12, j 13, j 14, j 15, j 16, j 17, j 18, j 19, j 20, j 21, j 22, j 23, j 24, j 25, j 26, j 27, j 28, j 29, j 30, j 31, j 32, j 33, j 34, j 35, j 36, j 37, j 38, j 39, j 40, j 41, j 42, j 43, j 44, j 45, j 46, j 47, j 48, j 49, j 50, j 51, j 52, j 53, j 54, j 55, j 56, j 57, j 58, j 59, j 60, j 61, j 62, j 63, j 64, j 65, j 66, j 67, j 68, j 69, j 70, j 71, j 72, j 73, j 74, j 75, j 76, j 77, j 78, j 79, j 80, j 81, j 82, j 83, j 84, j 85, j 86, j 87, j 88, j 89, j 90, j 91, j 92, j 93, j 94, j 95, j 96, j 97, j 98, j 99, j 100, j 101, j 102, j 103, j 104, j 105, j 106, j 107, j 108, j 109, j 110, j 111, j 112, j 113, j 114, j 115, j 116, j 117, j 118, j 119, j 120, j 121, j 122, j 123, j 124, j 125, j 126, j 127, j 128, j 129, j 130, j 131, j 132, j 133, j 134, j 135, j 136]) ll ∧ hs = [.c false (Prg.row ⟨en, nd⟩), .c false (Prg.row ⟨en, nd⟩)])
    (fun i => i ≤ en.length) (fun i => en.length - i) ?_ 0 _ _ (by exact ⟨rfl, rfl⟩) (Nat.zero_le _)
  rintro i _ _ ⟨e, rfl⟩ hi IH
  obtain ⟨j, rfl⟩ := e.open
  clear e
  by_cases hlt : i < en.length
  · obtain ⟨x, hx, hxm⟩ := ats hlt
    have hr := mg (f := Enm.row) hx
    have hd := ltd hlt
    have hw := wrap_big (n := i) (by unfold Lst.ok at he; omega)
    have hc := texts_refl x.tags (hee x hxm)
    repeat' (first
      | ((with_reducible refine k_cons ?rdq ?_); (case rdq => refine rck_mk rfl ?_ ?_ <;> simp only [Option.isSome_some, Prg.row, List.length_map, hd, hr, Enm.row, srows_cl, hw, bne_i, beq_n, SXR, noA, isAl, kA, udf, AOp.dst, Nat.beq, putAt, bldE, evIo, isNil, Nat.ble, Int.reduceAdd, Int.reduceSub, Int.reduceNeg, Int.reduceBNe, Nat.reduceEqDiff, Nat.reduceSub, Nat.reduceAdd, Nat.reduceLeDiff, Nat.reduceBEq, Nat.reduceLT, Nat.reduceMul, Int.reduceBEq, Int.reduceLT, Int.reduceLE, reduceIte, reduceCtorEq]))
      | (with_reducible refine pcl_intro (hc) (by simp only [SXR, Prg.row, List.length_map, hd, hr, Enm.row, srows_cl, hw, bne_i, beq_n]) (by simp only [SXR, Prg.row, List.length_map, hd, hr, Enm.row, srows_cl, hw, bne_i, beq_n]) ?_)
      | (simp only [c6, Prg.row, List.length_map, hd, hr, Enm.row, srows_cl, hw, bne_i, beq_n, SXR, noA, isAl, kA, udf, AOp.dst, Nat.beq, putAt, bldE, evIo, isNil, Nat.ble, Int.reduceAdd, Int.reduceSub, Int.reduceNeg, Int.reduceBNe, Nat.reduceEqDiff, Nat.reduceSub, Nat.reduceAdd, Nat.reduceLeDiff, Nat.reduceBEq, Nat.reduceLT, Nat.reduceMul, Int.reduceBEq, Int.reduceLT, Int.reduceLE, reduceIte, reduceCtorEq]))
    exact IH (i + 1) _ _ (by exact ⟨rfl, rfl⟩) hlt (by omega)
  have hd := ltn hlt
  clear IH
  repeat' (first
    | ((with_reducible refine k_cons ?rdq ?_); (case rdq => refine rck_mk rfl ?_ ?_ <;> simp only [Option.isSome_some, Prg.row, List.length_map, hd, SXR, noA, isAl, kA, udf, AOp.dst, Nat.beq, putAt, bldE, evIo, isNil, Nat.ble, Int.reduceAdd, Int.reduceSub, Int.reduceNeg, Int.reduceBNe, Nat.reduceEqDiff, Nat.reduceSub, Nat.reduceAdd, Nat.reduceLeDiff, Nat.reduceBEq, Nat.reduceLT, Nat.reduceMul, Int.reduceBEq, Int.reduceLT, Int.reduceLE, reduceIte, reduceCtorEq]))
    | (simp only [c6, Prg.row, List.length_map, hd, SXR, noA, isAl, kA, udf, AOp.dst, Nat.beq, putAt, bldE, evIo, isNil, Nat.ble, Int.reduceAdd, Int.reduceSub, Int.reduceNeg, Int.reduceBNe, Nat.reduceEqDiff, Nat.reduceSub, Nat.reduceAdd, Nat.reduceLeDiff, Nat.reduceBEq, Nat.reduceLT, Nat.reduceMul, Int.reduceBEq, Int.reduceLT, Int.reduceLE, reduceIte, reduceCtorEq]))
  refine Lp_ind (X := Nat) (fun i ll hs => ∃ js : List O, Hd (fun j => [.ag (Prg.row ⟨en, nd⟩), .ag (Prg.row ⟨en, nd⟩), .p 0 0, .p 1 0, .b false, j 5, .i .i64 (i : Int), j 7, j 8, j 9, j 10, j 11, j 12, j 13, j 14, j 15, j 16, j 17, j 18, j 19, j 20, j 21, j 22, j 23, j 24, j 25, j 26, j 27, j 28, j 29, j 30, j 31, j 32, j 33, j 34, j 35, j 36, j 37, j 38, j 39, j 40, j 41, j 42, j 43, j 44, j 45, j 46, j 47, j 48, j 49, j 50, j 51, j 52, j 53, j 54, j 55, j 56, j 57, j 58, j 59, j 60, j 61, j 62, j 63, j 64, j 65, j 66, j 67, j 68, j 69, j 70, j 71, j 72, j 73, j 74, j 75, j 76, j 77, j 78, j 79, j 80, j 81, j 82, j 83, j 84, j 85, j 86, j 87, j 88, j 89, j 90, j 91, j 92, j 93, j 94, j 95, j 96, j 97, j 98, j 99, j 100, j 101, j 102, j 103, j 104, j 105, j 106, j 107, j 108, j 109, j 110, j 111, j 112, j 113, j 114, j 115, j 116, j 117, j 118, j 119, j 120, j 121, j 122, j 123, j 124, j 125, j 126, j 127, j 128, j 129, j 130, j 131, j 132, j 133, j 134, j 135, j 136]) ll ∧ hs = (.c false (Prg.row ⟨en, nd⟩) :: .c false (Prg.row ⟨en, nd⟩) :: js))
    (fun i => i ≤ nd.length) (fun i => nd.length - i) ?_ 0 _ _ (by exact ⟨[], rfl, rfl⟩) (Nat.zero_le _)
  rintro i _ _ ⟨js, e, rfl⟩ hi IH
  obtain ⟨j, rfl⟩ := e.open
  clear e
  by_cases hlt : i < nd.length
  · obtain ⟨x, hx, hxm⟩ := ats hlt
    have hr := mg (f := PNode.row) hx
    have hd := ltd hlt
    have hw := wrap_big (n := i) (by unfold Lst.ok at hnd; omega)
    obtain ⟨h1, h2, h3, h4, h5⟩ := hnn x hxm
    have hc1 := decls_refl x.ins h1
    have hc2 := decls_refl x.outs h2
    have hc3 := decls_refl x.locals h3
    have hc4 := eqs_refl x.eqs h4 h5
    repeat' (first
      | ((with_reducible refine k_cons ?rdq ?_); (case rdq => refine rck_mk rfl ?_ ?_ <;> simp only [Option.isSome_some, Prg.row, List.length_map, hd, hr, PNode.row, decls_cl, eqns_cl, clR_nil, hw, bne_i, beq_n, Nat.add_assoc, SXR, noA, isAl, kA, udf, AOp.dst, Nat.beq, putAt, bldE, evIo, isNil, Nat.ble, Int.reduceAdd, Int.reduceSub, Int.reduceNeg, Int.reduceBNe, Nat.reduceEqDiff, Nat.reduceSub, Nat.reduceAdd, Nat.reduceLeDiff, Nat.reduceBEq, Nat.reduceLT, Nat.reduceMul, Int.reduceBEq, Int.reduceLT, Int.reduceLE, reduceIte, reduceCtorEq]))
      | (with_reducible refine pcl_intro (hc1) (by simp only [SXR, Prg.row, List.length_map, hd, hr, PNode.row, decls_cl, eqns_cl, clR_nil, hw, bne_i, beq_n, Nat.add_assoc]) (by simp only [SXR, Prg.row, List.length_map, hd, hr, PNode.row, decls_cl, eqns_cl, clR_nil, hw, bne_i, beq_n, Nat.add_assoc]) ?_)
      | (with_reducible refine pcl_intro (hc2) (by simp only [SXR, Prg.row, List.length_map, hd, hr, PNode.row, decls_cl, eqns_cl, clR_nil, hw, bne_i, beq_n, Nat.add_assoc]) (by simp only [SXR, Prg.row, List.length_map, hd, hr, PNode.row, decls_cl, eqns_cl, clR_nil, hw, bne_i, beq_n, Nat.add_assoc]) ?_)
      | (with_reducible refine pcl_intro (hc3) (by simp only [SXR, Prg.row, List.length_map, hd, hr, PNode.row, decls_cl, eqns_cl, clR_nil, hw, bne_i, beq_n, Nat.add_assoc]) (by simp only [SXR, Prg.row, List.length_map, hd, hr, PNode.row, decls_cl, eqns_cl, clR_nil, hw, bne_i, beq_n, Nat.add_assoc]) ?_)
      | (with_reducible refine pcl_intro (hc4) (by simp only [SXR, Prg.row, List.length_map, hd, hr, PNode.row, decls_cl, eqns_cl, clR_nil, hw, bne_i, beq_n, Nat.add_assoc]) (by simp only [SXR, Prg.row, List.length_map, hd, hr, PNode.row, decls_cl, eqns_cl, clR_nil, hw, bne_i, beq_n, Nat.add_assoc]) ?_)
      | (with_reducible refine pcl_intro (autos_nil) (by simp only [SXR, Prg.row, List.length_map, hd, hr, PNode.row, decls_cl, eqns_cl, clR_nil, hw, bne_i, beq_n, Nat.add_assoc]) (by simp only [SXR, Prg.row, List.length_map, hd, hr, PNode.row, decls_cl, eqns_cl, clR_nil, hw, bne_i, beq_n, Nat.add_assoc]) ?_)
      | (with_reducible refine pcl_intro (claims_nil) (by simp only [SXR, Prg.row, List.length_map, hd, hr, PNode.row, decls_cl, eqns_cl, clR_nil, hw, bne_i, beq_n, Nat.add_assoc]) (by simp only [SXR, Prg.row, List.length_map, hd, hr, PNode.row, decls_cl, eqns_cl, clR_nil, hw, bne_i, beq_n, Nat.add_assoc]) ?_)
      | (simp only [c6, Prg.row, List.length_map, hd, hr, PNode.row, decls_cl, eqns_cl, clR_nil, hw, bne_i, beq_n, Nat.add_assoc, SXR, noA, isAl, kA, udf, AOp.dst, Nat.beq, putAt, bldE, evIo, isNil, Nat.ble, Int.reduceAdd, Int.reduceSub, Int.reduceNeg, Int.reduceBNe, Nat.reduceEqDiff, Nat.reduceSub, Nat.reduceAdd, Nat.reduceLeDiff, Nat.reduceBEq, Nat.reduceLT, Nat.reduceMul, Int.reduceBEq, Int.reduceLT, Int.reduceLE, reduceIte, reduceCtorEq]))
    exact IH (i + 1) _ _ (by exact ⟨_, rfl, rfl⟩) hlt (by omega)
  · have hd := ltn hlt
    clear IH
    repeat' (first
      | ((with_reducible refine k_cons ?rdq ?_); (case rdq => refine rck_mk rfl ?_ ?_ <;> simp only [Option.isSome_some, Prg.row, List.length_map, hd, SXR, noA, isAl, kA, udf, AOp.dst, Nat.beq, putAt, bldE, evIo, isNil, Nat.ble, Int.reduceAdd, Int.reduceSub, Int.reduceNeg, Int.reduceBNe, Nat.reduceEqDiff, Nat.reduceSub, Nat.reduceAdd, Nat.reduceLeDiff, Nat.reduceBEq, Nat.reduceLT, Nat.reduceMul, Int.reduceBEq, Int.reduceLT, Int.reduceLE, reduceIte, reduceCtorEq]))
      | (simp only [c6, Prg.row, List.length_map, hd, SXR, noA, isAl, kA, udf, AOp.dst, Nat.beq, putAt, bldE, evIo, isNil, Nat.ble, Int.reduceAdd, Int.reduceSub, Int.reduceNeg, Int.reduceBNe, Nat.reduceEqDiff, Nat.reduceSub, Nat.reduceAdd, Nat.reduceLeDiff, Nat.reduceBEq, Nat.reduceLT, Nat.reduceMul, Int.reduceBEq, Int.reduceLT, Int.reduceLE, reduceIte, reduceCtorEq]))
end Go.Proofs.YtaopnjogkgldlaaGreatDoor
