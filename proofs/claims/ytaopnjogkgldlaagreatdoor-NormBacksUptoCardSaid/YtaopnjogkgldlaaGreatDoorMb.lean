/-
  Lists that are copied: the copy, seen as a tree, is the list.
  Enumerations that are copied: the copy, seen as a tree, is the list.
  Declarations that are copied.
  Expressions that are copied.
  Equations of normalized programs; the type of a variable.
  The right side of an equation in normal form, as an expression: what it is, and when the equation is a delay or a word.
  The right side of a delay.
  The right side of a call.
-/
import Derived.Test.YtaopnjogkgldlaaGreatDoorMa
import Derived.Test.YtaopnjogkgldlaaGreatDoorBZ
set_option linter.unusedSimpArgs false
set_option linter.unusedVariables false
namespace Go.Proofs.YtaopnjogkgldlaaGreatDoor
open Go Go.B
theorem room_ok {n b : Nat} (hn : n ≤ 100000000) (hb : b ≤ 1000) : room n b = true := by
  refine decide_eq_true ?_
  have : (2 * n + 256) * (b + 1) ≤ (2 * 100000000 + 256) * (1000 + 1) := Nat.mul_le_mul (by omega) (by omega)
  omega
theorem all_map {α : Type} {f : α → List V} {wd : Nat} (hf : ∀ x, (f x).length = wd) (l : List α) : (l.map f).all (fun r => r.length == wd) = true := by
  simp [hf]
theorem mem_map {α : Type} {f : α → List V} {wd : Nat} (hf : ∀ x, (f x).length = wd) (l : List α) : ∀ r, r ∈ l.map f → r.length = wd := by
  intro r hr
  obtain ⟨x, _, rfl⟩ := List.mem_map.1 hr
  exact hf x
theorem clstr_cons (s : Str) (l : List Str) (hn : Lst.ok (s :: l)) : PC Tryz.prog 23 [.ts ((s :: l).map srow)] (.ts ((s :: l).map srow)) := by
  have ha := all_map srow_len (s :: l)
  have hr := room_ok (n := l.length + 1) (b := 16) (by unfold Lst.ok at hn; simp at hn; omega) (by omega)
  have hf := Se.flat (h := hpL [.c false [], .c true ((s :: l).map srow).flatten]) (D := fun _ => True) (a := 1) (wd := 1) (cp := none) (gr := true) (rs := (s :: l).map srow) rfl trivial (mem_map srow_len _)
  simp only [List.map_cons, List.length_cons, List.length_map] at ha hf hr ⊢
  refine pc_frz Tryz.func23 k23 rfl ?_
  repeat' (first
    | (simp only [c23, qt_n, qt_r, ha, hr, List.length_map, SXR, noA, isAl, kA, udf, AOp.dst, Nat.beq, putAt, bldE, evIo, isNil, Nat.ble, Int.reduceAdd, Int.reduceSub, Int.reduceNeg, Int.reduceBNe, Nat.reduceEqDiff, Nat.reduceSub, Nat.reduceAdd, Nat.reduceLeDiff, Nat.reduceBEq, Nat.reduceLT, Nat.reduceMul, Int.reduceBEq, Int.reduceLT, Int.reduceLE, reduceIte, reduceCtorEq]))
  exact hf
theorem clstr_nil : PC Tryz.prog 23 [.ts []] (.ts []) := by
  refine PC.empty (xs := []) (ys := []) ?_ ?_
  · refine pc_frz Tryz.func23 k23 rfl ?_
    repeat' (first
      | (simp only [c23, qt_n, qt_r, SXR, noA, isAl, kA, udf, AOp.dst, Nat.beq, putAt, bldE, evIo, isNil, Nat.ble, Int.reduceAdd, Int.reduceSub, Int.reduceNeg, Int.reduceBNe, Nat.reduceEqDiff, Nat.reduceSub, Nat.reduceAdd, Nat.reduceLeDiff, Nat.reduceBEq, Nat.reduceLT, Nat.reduceMul, Int.reduceBEq, Int.reduceLT, Int.reduceLE, reduceIte, reduceCtorEq]))
    exact .nil
  · refine pc_frz Tryz.func23 k23 rfl ?_
    repeat' (first
      | (simp only [c23, qt_n, qt_r, SXR, noA, isAl, kA, udf, AOp.dst, Nat.beq, putAt, bldE, evIo, isNil, Nat.ble, Int.reduceAdd, Int.reduceSub, Int.reduceNeg, Int.reduceBNe, Nat.reduceEqDiff, Nat.reduceSub, Nat.reduceAdd, Nat.reduceLeDiff, Nat.reduceBEq, Nat.reduceLT, Nat.reduceMul, Int.reduceBEq, Int.reduceLT, Int.reduceLE, reduceIte, reduceCtorEq]))
    exact Se.flat (rs := []) rfl trivial (by simp)
theorem clstr_pc : ∀ (l : List Str), Lst.ok l → PC Tryz.prog 23 [.ts (l.map srow)] (.ts (l.map srow))
  | [], _ => clstr_nil
  | s :: l, h => clstr_cons s l h
theorem Se.flat' {h : Hp} {D : Nat → Prop} {a wd n : Nat} {cp : Option Nat} {gr : Bool} {cs : List V} {rs : List (List V)} (ha : h a = .c gr cs) (hcs : cs = rs.flatten) (hn : rs.length = n) (hD : D a) (hw : ∀ r, r ∈ rs → r.length = wd) : Se h D (.sl a 0 wd n cp) (.ts rs) := by
  subst hcs hn
  exact Se.flat ha hD hw
theorem snoc1 {js : List O} {a b : O} : js ++ [a, b] = (js ++ [a]) ++ [b] := by simp
theorem snoc2 {js : List O} {a b c : O} : js ++ [a, b, c] = (js ++ [a, b]) ++ [c] := by simp
theorem snoc3 {js : List O} {a b c d : O} : js ++ [a, b, c, d] = (js ++ [a, b, c]) ++ [d] := by simp
/-- the cells of the first i rows -/
def cells {α : Type} (f : α → List V) (l : List α) (i : Nat) : List V := ((l.take i).map f).flatten
theorem cells_succ {α : Type} {f : α → List V} {l : List α} {i : Nat} {x : α} (h : l[i]? = some x) : cells f l i ++ f x = cells f l (i + 1) := by
  unfold cells; rw [List.take_add_one, h]; simp
theorem cells_len {α : Type} {f : α → List V} {wd : Nat} (hf : ∀ x, (f x).length = wd) {l : List α} {i : Nat} (hi : i ≤ l.length) : (cells f l i).length = i * wd := by
  unfold cells; rw [flatw_len (mem_map hf _)]; simp; rw [Nat.min_eq_left hi]
theorem cells_all {α : Type} {f : α → List V} {l : List α} : cells f l l.length = (l.map f).flatten := by unfold cells; rw [List.take_length]
theorem cells_zero {α : Type} {f : α → List V} {l : List α} : cells f l 0 = [] := rfl
theorem beq_ok {a b : Nat} (h : a = b) : Nat.beq a b = true := by rw [h]; exact Nat.beq_refl b
theorem enums_pc (l : List Enm) (hn : enmOk l) : PC Tryz.prog 20 [.ts (l.map Enm.row)] (.ts (l.map Enm.row)) := by
  have hlen := hn.1
  unfold Lst.ok at hlen
  refine pc_frz Tryz.func20 k20 rfl ?_
  repeat' (first
    | ((with_reducible refine k_cons ?rdq ?_); (case rdq => refine rck_mk rfl ?_ ?_ <;> simp only [Option.isSome_some, qt_n, qt_r, List.length_map, SXR, noA, isAl, kA, udf, AOp.dst, Nat.beq, putAt, bldE, evIo, isNil, Nat.ble, Int.reduceAdd, Int.reduceSub, Int.reduceNeg, Int.reduceBNe, Nat.reduceEqDiff, Nat.reduceSub, Nat.reduceAdd, Nat.reduceLeDiff, Nat.reduceBEq, Nat.reduceLT, Nat.reduceMul, Int.reduceBEq, Int.reduceLT, Int.reduceLE, reduceIte, reduceCtorEq]))
    | (simp only [c20, qt_n, qt_r, List.length_map, SXR, noA, isAl, kA, udf, AOp.dst, Nat.beq, putAt, bldE, evIo, isNil, Nat.ble, Int.reduceAdd, Int.reduceSub, Int.reduceNeg, Int.reduceBNe, Nat.reduceEqDiff, Nat.reduceSub, Nat.reduceAdd, Nat.reduceLeDiff, Nat.reduceBEq, Nat.reduceLT, Nat.reduceMul, Int.reduceBEq, Int.reduceLT, Int.reduceLE, reduceIte, reduceCtorEq]))
  refine Lp_ind (X := Nat) (fun i ll hs => match i with
      | 0 => Hd (fun j => [.ts (l.map Enm.row), j 1, .ns, .ns, j 4, j 5, .ts (l.map Enm.row), .i .i64 (l.length : Int), .i .i64 0, j 9, j 10, j 11, j 12, j 13, j 14, j 15, j 16, j 17, j 18, j 19, j 20, j 21, j 22]) ll ∧ hs = []
      | i + 1 => ∃ (js : List O) (a : Nat) (cs : List V), Hd (fun j => [.ts (l.map Enm.row), j 1, .ns, .sl a 0 2 (i + 1) none, j 4, j 5, .ts (l.map Enm.row), .i .i64 (l.length : Int), .i .i64 ((i + 1 : Nat) : Int), j 9, j 10, j 11, j 12, j 13, j 14, j 15, j 16, j 17, j 18, j 19, j 20, j 21, j 22]) ll ∧ hs = js ++ [.c true cs] ∧ a = js.length ∧ cs = cells Enm.row l (i + 1))
    (fun i => i ≤ l.length) (fun i => l.length - i) ?_ 0 _ _ (by exact ⟨rfl, rfl⟩) (Nat.zero_le _)
  rintro i _ _ hS hi IH
  cases i with
  | zero =>
    obtain ⟨e, rfl⟩ := hS
    obtain ⟨j, rfl⟩ := e.open
    clear e
    by_cases hlt : 0 < l.length
    · obtain ⟨x, hx, hxm⟩ := ats hlt
      have hr := mg (f := Enm.row) hx
      have hd : decide ((0 : Int) < (l.length : Int)) = true := ltd hlt
      have hc := clstr_pc x.tags (hn.2 x hxm)
      have hroom := room_ok (n := 1) (b := 40) (by omega) (by omega)
      have hcs := cells_succ (f := Enm.row) hx
      repeat' (first
        | ((with_reducible refine k_cons ?rdq ?_); (case rdq => refine rck_mk rfl ?_ ?_ <;> simp only [Option.isSome_some, qt_n, qt_r, List.length_map, hd, hr, Enm.row, srows_cl, hroom, SXR, noA, isAl, kA, udf, AOp.dst, Nat.beq, putAt, bldE, evIo, isNil, Nat.ble, Int.reduceAdd, Int.reduceSub, Int.reduceNeg, Int.reduceBNe, Nat.reduceEqDiff, Nat.reduceSub, Nat.reduceAdd, Nat.reduceLeDiff, Nat.reduceBEq, Nat.reduceLT, Nat.reduceMul, Int.reduceBEq, Int.reduceLT, Int.reduceLE, reduceIte, reduceCtorEq]))
        | (with_reducible refine pcl_intro (hc) (by simp only [SXR, qt_n, qt_r, List.length_map, hd, hr, Enm.row, srows_cl, hroom]) (by simp only [SXR, qt_n, qt_r, List.length_map, hd, hr, Enm.row, srows_cl, hroom]) ?_)
        | (simp only [c20, qt_n, qt_r, List.length_map, hd, hr, Enm.row, srows_cl, hroom, SXR, noA, isAl, kA, udf, AOp.dst, Nat.beq, putAt, bldE, evIo, isNil, Nat.ble, Int.reduceAdd, Int.reduceSub, Int.reduceNeg, Int.reduceBNe, Nat.reduceEqDiff, Nat.reduceSub, Nat.reduceAdd, Nat.reduceLeDiff, Nat.reduceBEq, Nat.reduceLT, Nat.reduceMul, Int.reduceBEq, Int.reduceLT, Int.reduceLE, reduceIte, reduceCtorEq]))
      exact IH 1 _ _ (by exact ⟨[_, _], _, _, rfl, rfl, rfl, hcs⟩) hlt (by omega)
    · have hd : decide ((0 : Int) < (l.length : Int)) = false := ltn hlt
      clear IH
      repeat' (first
        | ((with_reducible refine k_cons ?rdq ?_); (case rdq => refine rck_mk rfl ?_ ?_ <;> simp only [Option.isSome_some, qt_n, qt_r, List.length_map, hd, SXR, noA, isAl, kA, udf, AOp.dst, Nat.beq, putAt, bldE, evIo, isNil, Nat.ble, Int.reduceAdd, Int.reduceSub, Int.reduceNeg, Int.reduceBNe, Nat.reduceEqDiff, Nat.reduceSub, Nat.reduceAdd, Nat.reduceLeDiff, Nat.reduceBEq, Nat.reduceLT, Nat.reduceMul, Int.reduceBEq, Int.reduceLT, Int.reduceLE, reduceIte, reduceCtorEq]))
        | (simp only [c20, qt_n, qt_r, List.length_map, hd, SXR, noA, isAl, kA, udf, AOp.dst, Nat.beq, putAt, bldE, evIo, isNil, Nat.ble, Int.reduceAdd, Int.reduceSub, Int.reduceNeg, Int.reduceBNe, Nat.reduceEqDiff, Nat.reduceSub, Nat.reduceAdd, Nat.reduceLeDiff, Nat.reduceBEq, Nat.reduceLT, Nat.reduceMul, Int.reduceBEq, Int.reduceLT, Int.reduceLE, reduceIte, reduceCtorEq]))
      have : l = [] := List.length_eq_zero_iff.1 (by omega)
      subst this
      exact .nil
  | succ i =>
    obtain ⟨js, a, cs, e, rfl, rfl, hcs⟩ := hS
    obtain ⟨j, rfl⟩ := e.open
    clear e
    by_cases hlt : i + 1 < l.length
    · obtain ⟨x, hx, hxm⟩ := ats hlt
      have hr := mg (f := Enm.row) hx
      have hd := ltd hlt
      have hw := wrap_big (n := i + 1) (by omega)
      have hc := clstr_pc x.tags (hn.2 x hxm)
      have hroom := room_ok (n := i + 1 + 1) (b := 40) (by omega) (by omega)
      have hroom2 : room (i + 2) 40 = true := hroom
      have hcl : Nat.beq cs.length ((i + 1) * 2) = true := beq_ok (by rw [hcs]; exact cells_len enm_len hi)
      have hcs' : cs ++ Enm.row x = cells Enm.row l (i + 1 + 1) := by rw [hcs]; exact cells_succ hx
      repeat' (first
        | ((with_reducible refine k_cons ?rdq ?_); (case rdq => refine rck_mk rfl ?_ ?_ <;> simp only [Option.isSome_some, qt_n, qt_r, List.length_map, hd, hr, Enm.row, srows_cl, hroom, hroom2, hcl, hw, Nat.add_assoc, SXR, noA, isAl, kA, udf, AOp.dst, Nat.beq, putAt, bldE, evIo, isNil, Nat.ble, Int.reduceAdd, Int.reduceSub, Int.reduceNeg, Int.reduceBNe, Nat.reduceEqDiff, Nat.reduceSub, Nat.reduceAdd, Nat.reduceLeDiff, Nat.reduceBEq, Nat.reduceLT, Nat.reduceMul, Int.reduceBEq, Int.reduceLT, Int.reduceLE, reduceIte, reduceCtorEq]))
        | (with_reducible refine pcl_intro (hc) (by simp only [SXR, qt_n, qt_r, List.length_map, hd, hr, Enm.row, srows_cl, hroom, hroom2, hcl, hw, Nat.add_assoc]) (by simp only [SXR, qt_n, qt_r, List.length_map, hd, hr, Enm.row, srows_cl, hroom, hroom2, hcl, hw, Nat.add_assoc]) ?_)
        | (simp only [c20, qt_n, qt_r, List.length_map, hd, hr, Enm.row, srows_cl, hroom, hroom2, hcl, hw, Nat.add_assoc, SXR, noA, isAl, kA, udf, AOp.dst, Nat.beq, putAt, bldE, evIo, isNil, Nat.ble, Int.reduceAdd, Int.reduceSub, Int.reduceNeg, Int.reduceBNe, Nat.reduceEqDiff, Nat.reduceSub, Nat.reduceAdd, Nat.reduceLeDiff, Nat.reduceBEq, Nat.reduceLT, Nat.reduceMul, Int.reduceBEq, Int.reduceLT, Int.reduceLE, reduceIte, reduceCtorEq]))
      exact IH (i + 1 + 1) _ _ (by exact ⟨_, _, _, rfl, snoc3, by simp, hcs'⟩) hlt (by omega)
    · have hd := ltn hlt
      clear IH
      repeat' (first
        | ((with_reducible refine k_cons ?rdq ?_); (case rdq => refine rck_mk rfl ?_ ?_ <;> simp only [Option.isSome_some, qt_n, qt_r, List.length_map, hd, SXR, noA, isAl, kA, udf, AOp.dst, Nat.beq, putAt, bldE, evIo, isNil, Nat.ble, Int.reduceAdd, Int.reduceSub, Int.reduceNeg, Int.reduceBNe, Nat.reduceEqDiff, Nat.reduceSub, Nat.reduceAdd, Nat.reduceLeDiff, Nat.reduceBEq, Nat.reduceLT, Nat.reduceMul, Int.reduceBEq, Int.reduceLT, Int.reduceLE, reduceIte, reduceCtorEq]))
        | (simp only [c20, qt_n, qt_r, List.length_map, hd, SXR, noA, isAl, kA, udf, AOp.dst, Nat.beq, putAt, bldE, evIo, isNil, Nat.ble, Int.reduceAdd, Int.reduceSub, Int.reduceNeg, Int.reduceBNe, Nat.reduceEqDiff, Nat.reduceSub, Nat.reduceAdd, Nat.reduceLeDiff, Nat.reduceBEq, Nat.reduceLT, Nat.reduceMul, Int.reduceBEq, Int.reduceLT, Int.reduceLE, reduceIte, reduceCtorEq]))
      have e : l.length = i + 1 := by omega
      exact Se.flat' hp_ap0 (by rw [hcs, ← e]; exact cells_all) (by simp [e]) trivial (mem_map enm_len _)
theorem clon_cons (s : On) (l : List On) (hn : Lst.ok (s :: l)) : PC Tryz.prog 45 [.ts ((s :: l).map On.row)] (.ts ((s :: l).map On.row)) := by
  have ha := all_map on_len (s :: l)
  have hr := room_ok (n := l.length + 1) (b := 32) (by unfold Lst.ok at hn; simp at hn; omega) (by omega)
  have hf := Se.flat (h := hpL [.c false [], .c true ((s :: l).map On.row).flatten]) (D := fun _ => True) (a := 1) (wd := 3) (cp := none) (gr := true) (rs := (s :: l).map On.row) rfl trivial (mem_map on_len _)
  simp only [List.map_cons, List.length_cons, List.length_map] at ha hf hr ⊢
  refine pc_frz Tryz.func45 k45 rfl ?_
  repeat' (first
    | (simp only [c45, qt_n, qt_r, ha, hr, List.length_map, SXR, noA, isAl, kA, udf, AOp.dst, Nat.beq, putAt, bldE, evIo, isNil, Nat.ble, Int.reduceAdd, Int.reduceSub, Int.reduceNeg, Int.reduceBNe, Nat.reduceEqDiff, Nat.reduceSub, Nat.reduceAdd, Nat.reduceLeDiff, Nat.reduceBEq, Nat.reduceLT, Nat.reduceMul, Int.reduceBEq, Int.reduceLT, Int.reduceLE, reduceIte, reduceCtorEq]))
  exact hf
theorem clon_nil : PC Tryz.prog 45 [.ts []] (.ts []) := by
  refine PC.empty (xs := []) (ys := []) ?_ ?_
  · refine pc_frz Tryz.func45 k45 rfl ?_
    repeat' (first
      | (simp only [c45, qt_n, qt_r, SXR, noA, isAl, kA, udf, AOp.dst, Nat.beq, putAt, bldE, evIo, isNil, Nat.ble, Int.reduceAdd, Int.reduceSub, Int.reduceNeg, Int.reduceBNe, Nat.reduceEqDiff, Nat.reduceSub, Nat.reduceAdd, Nat.reduceLeDiff, Nat.reduceBEq, Nat.reduceLT, Nat.reduceMul, Int.reduceBEq, Int.reduceLT, Int.reduceLE, reduceIte, reduceCtorEq]))
    exact .nil
  · refine pc_frz Tryz.func45 k45 rfl ?_
    repeat' (first
      | (simp only [c45, qt_n, qt_r, SXR, noA, isAl, kA, udf, AOp.dst, Nat.beq, putAt, bldE, evIo, isNil, Nat.ble, Int.reduceAdd, Int.reduceSub, Int.reduceNeg, Int.reduceBNe, Nat.reduceEqDiff, Nat.reduceSub, Nat.reduceAdd, Nat.reduceLeDiff, Nat.reduceBEq, Nat.reduceLT, Nat.reduceMul, Int.reduceBEq, Int.reduceLT, Int.reduceLE, reduceIte, reduceCtorEq]))
    exact Se.flat (rs := []) rfl trivial (by simp)
theorem clon_pc : ∀ (l : List On), Lst.ok l → PC Tryz.prog 45 [.ts (l.map On.row)] (.ts (l.map On.row))
  | [], _ => clon_nil
  | s :: l, h => clon_cons s l h
theorem copied_pc (l : List Decl) (hn : decOk l) : PC Tryz.prog 21 [.ts (l.map Decl.row)] (.ts (l.map Decl.row)) := by
  have hlen := hn.1
  unfold Lst.ok at hlen
  refine pc_frz Tryz.func21 k21 rfl ?_
  repeat' (first
    | ((with_reducible refine k_cons ?rdq ?_); (case rdq => refine rck_mk rfl ?_ ?_ <;> simp only [Option.isSome_some, qt_n, qt_r, List.length_map, SXR, noA, isAl, kA, udf, AOp.dst, Nat.beq, putAt, bldE, evIo, isNil, Nat.ble, Int.reduceAdd, Int.reduceSub, Int.reduceNeg, Int.reduceBNe, Nat.reduceEqDiff, Nat.reduceSub, Nat.reduceAdd, Nat.reduceLeDiff, Nat.reduceBEq, Nat.reduceLT, Nat.reduceMul, Int.reduceBEq, Int.reduceLT, Int.reduceLE, reduceIte, reduceCtorEq]))
    | (simp only [c21, qt_n, qt_r, List.length_map, SXR, noA, isAl, kA, udf, AOp.dst, Nat.beq, putAt, bldE, evIo, isNil, Nat.ble, Int.reduceAdd, Int.reduceSub, Int.reduceNeg, Int.reduceBNe, Nat.reduceEqDiff, Nat.reduceSub, Nat.reduceAdd, Nat.reduceLeDiff, Nat.reduceBEq, Nat.reduceLT, Nat.reduceMul, Int.reduceBEq, Int.reduceLT, Int.reduceLE, reduceIte, reduceCtorEq]))
  refine Lp_ind (X := Nat) (fun i ll hs => match i with
      | 0 => Hd (fun j => [.ts (l.map Decl.row), j 1, .ns, .ns, j 4, j 5, .ts (l.map Decl.row), .i .i64 (l.length : Int), .i .i64 0, j 9, j 10, j 11, j 12, j 13, j 14, j 15, j 16, j 17, j 18, j 19, j 20, j 21, j 22, j 23, j 24]) ll ∧ hs = []
      | i + 1 => ∃ (js : List O) (a : Nat) (cs : List V), Hd (fun j => [.ts (l.map Decl.row), j 1, .ns, .sl a 0 3 (i + 1) none, j 4, j 5, .ts (l.map Decl.row), .i .i64 (l.length : Int), .i .i64 ((i + 1 : Nat) : Int), j 9, j 10, j 11, j 12, j 13, j 14, j 15, j 16, j 17, j 18, j 19, j 20, j 21, j 22, j 23, j 24]) ll ∧ hs = js ++ [.c true cs] ∧ a = js.length ∧ cs = cells Decl.row l (i + 1))
    (fun i => i ≤ l.length) (fun i => l.length - i) ?_ 0 _ _ (by exact ⟨rfl, rfl⟩) (Nat.zero_le _)
  rintro i _ _ hS hi IH
  cases i with
  | zero =>
    obtain ⟨e, rfl⟩ := hS
    obtain ⟨j, rfl⟩ := e.open
    clear e
    by_cases hlt : 0 < l.length
    · obtain ⟨x, hx, hxm⟩ := ats hlt
      have hr := mg (f := Decl.row) hx
      have hd : decide ((0 : Int) < (l.length : Int)) = true := ltd hlt
      have hc := clon_pc x.ck (hn.2 x hxm)
      have hroom := room_ok (n := 1) (b := 48) (by omega) (by omega)
      have hcs := cells_succ (f := Decl.row) hx
      repeat' (first
        | ((with_reducible refine k_cons ?rdq ?_); (case rdq => refine rck_mk rfl ?_ ?_ <;> simp only [Option.isSome_some, qt_n, qt_r, List.length_map, hd, hr, Decl.row, ons_cl, hroom, SXR, noA, isAl, kA, udf, AOp.dst, Nat.beq, putAt, bldE, evIo, isNil, Nat.ble, Int.reduceAdd, Int.reduceSub, Int.reduceNeg, Int.reduceBNe, Nat.reduceEqDiff, Nat.reduceSub, Nat.reduceAdd, Nat.reduceLeDiff, Nat.reduceBEq, Nat.reduceLT, Nat.reduceMul, Int.reduceBEq, Int.reduceLT, Int.reduceLE, reduceIte, reduceCtorEq]))
        | (with_reducible refine pcl_intro (hc) (by simp only [SXR, qt_n, qt_r, List.length_map, hd, hr, Decl.row, ons_cl, hroom]) (by simp only [SXR, qt_n, qt_r, List.length_map, hd, hr, Decl.row, ons_cl, hroom]) ?_)
        | (simp only [c21, qt_n, qt_r, List.length_map, hd, hr, Decl.row, ons_cl, hroom, SXR, noA, isAl, kA, udf, AOp.dst, Nat.beq, putAt, bldE, evIo, isNil, Nat.ble, Int.reduceAdd, Int.reduceSub, Int.reduceNeg, Int.reduceBNe, Nat.reduceEqDiff, Nat.reduceSub, Nat.reduceAdd, Nat.reduceLeDiff, Nat.reduceBEq, Nat.reduceLT, Nat.reduceMul, Int.reduceBEq, Int.reduceLT, Int.reduceLE, reduceIte, reduceCtorEq]))
      exact IH 1 _ _ (by exact ⟨[_, _], _, _, rfl, rfl, rfl, hcs⟩) hlt (by omega)
    · have hd : decide ((0 : Int) < (l.length : Int)) = false := ltn hlt
      clear IH
      repeat' (first
        | ((with_reducible refine k_cons ?rdq ?_); (case rdq => refine rck_mk rfl ?_ ?_ <;> simp only [Option.isSome_some, qt_n, qt_r, List.length_map, hd, SXR, noA, isAl, kA, udf, AOp.dst, Nat.beq, putAt, bldE, evIo, isNil, Nat.ble, Int.reduceAdd, Int.reduceSub, Int.reduceNeg, Int.reduceBNe, Nat.reduceEqDiff, Nat.reduceSub, Nat.reduceAdd, Nat.reduceLeDiff, Nat.reduceBEq, Nat.reduceLT, Nat.reduceMul, Int.reduceBEq, Int.reduceLT, Int.reduceLE, reduceIte, reduceCtorEq]))
        | (simp only [c21, qt_n, qt_r, List.length_map, hd, SXR, noA, isAl, kA, udf, AOp.dst, Nat.beq, putAt, bldE, evIo, isNil, Nat.ble, Int.reduceAdd, Int.reduceSub, Int.reduceNeg, Int.reduceBNe, Nat.reduceEqDiff, Nat.reduceSub, Nat.reduceAdd, Nat.reduceLeDiff, Nat.reduceBEq, Nat.reduceLT, Nat.reduceMul, Int.reduceBEq, Int.reduceLT, Int.reduceLE, reduceIte, reduceCtorEq]))
      have : l = [] := List.length_eq_zero_iff.1 (by omega)
      subst this
      exact .nil
  | succ i =>
    obtain ⟨js, a, cs, e, rfl, rfl, hcs⟩ := hS
    obtain ⟨j, rfl⟩ := e.open
    clear e
    by_cases hlt : i + 1 < l.length
    · obtain ⟨x, hx, hxm⟩ := ats hlt
      have hr := mg (f := Decl.row) hx
      have hd := ltd hlt
      have hw := wrap_big (n := i + 1) (by omega)
      have hc := clon_pc x.ck (hn.2 x hxm)
      have hroom := room_ok (n := i + 1 + 1) (b := 48) (by omega) (by omega)
      have hroom2 : room (i + 2) 48 = true := hroom
      have hcl : Nat.beq cs.length ((i + 1) * 3) = true := beq_ok (by rw [hcs]; exact cells_len decl_len hi)
      have hcs' : cs ++ Decl.row x = cells Decl.row l (i + 1 + 1) := by rw [hcs]; exact cells_succ hx
      repeat' (first
        | ((with_reducible refine k_cons ?rdq ?_); (case rdq => refine rck_mk rfl ?_ ?_ <;> simp only [Option.isSome_some, qt_n, qt_r, List.length_map, hd, hr, Decl.row, ons_cl, hroom, hroom2, hcl, hw, Nat.add_assoc, SXR, noA, isAl, kA, udf, AOp.dst, Nat.beq, putAt, bldE, evIo, isNil, Nat.ble, Int.reduceAdd, Int.reduceSub, Int.reduceNeg, Int.reduceBNe, Nat.reduceEqDiff, Nat.reduceSub, Nat.reduceAdd, Nat.reduceLeDiff, Nat.reduceBEq, Nat.reduceLT, Nat.reduceMul, Int.reduceBEq, Int.reduceLT, Int.reduceLE, reduceIte, reduceCtorEq]))
        | (with_reducible refine pcl_intro (hc) (by simp only [SXR, qt_n, qt_r, List.length_map, hd, hr, Decl.row, ons_cl, hroom, hroom2, hcl, hw, Nat.add_assoc]) (by simp only [SXR, qt_n, qt_r, List.length_map, hd, hr, Decl.row, ons_cl, hroom, hroom2, hcl, hw, Nat.add_assoc]) ?_)
        | (simp only [c21, qt_n, qt_r, List.length_map, hd, hr, Decl.row, ons_cl, hroom, hroom2, hcl, hw, Nat.add_assoc, SXR, noA, isAl, kA, udf, AOp.dst, Nat.beq, putAt, bldE, evIo, isNil, Nat.ble, Int.reduceAdd, Int.reduceSub, Int.reduceNeg, Int.reduceBNe, Nat.reduceEqDiff, Nat.reduceSub, Nat.reduceAdd, Nat.reduceLeDiff, Nat.reduceBEq, Nat.reduceLT, Nat.reduceMul, Int.reduceBEq, Int.reduceLT, Int.reduceLE, reduceIte, reduceCtorEq]))
      exact IH (i + 1 + 1) _ _ (by exact ⟨_, _, _, rfl, snoc3, by simp, hcs'⟩) hlt (by omega)
    · have hd := ltn hlt
      clear IH
      repeat' (first
        | ((with_reducible refine k_cons ?rdq ?_); (case rdq => refine rck_mk rfl ?_ ?_ <;> simp only [Option.isSome_some, qt_n, qt_r, List.length_map, hd, SXR, noA, isAl, kA, udf, AOp.dst, Nat.beq, putAt, bldE, evIo, isNil, Nat.ble, Int.reduceAdd, Int.reduceSub, Int.reduceNeg, Int.reduceBNe, Nat.reduceEqDiff, Nat.reduceSub, Nat.reduceAdd, Nat.reduceLeDiff, Nat.reduceBEq, Nat.reduceLT, Nat.reduceMul, Int.reduceBEq, Int.reduceLT, Int.reduceLE, reduceIte, reduceCtorEq]))
        | (simp only [c21, qt_n, qt_r, List.length_map, hd, SXR, noA, isAl, kA, udf, AOp.dst, Nat.beq, putAt, bldE, evIo, isNil, Nat.ble, Int.reduceAdd, Int.reduceSub, Int.reduceNeg, Int.reduceBNe, Nat.reduceEqDiff, Nat.reduceSub, Nat.reduceAdd, Nat.reduceLeDiff, Nat.reduceBEq, Nat.reduceLT, Nat.reduceMul, Int.reduceBEq, Int.reduceLT, Int.reduceLE, reduceIte, reduceCtorEq]))
      have e : l.length = i + 1 := by omega
      exact Se.flat' hp_ap0 (by rw [hcs, ← e]; exact cells_all) (by simp [e]) trivial (mem_map decl_len _)
theorem Se.ag0 {h : Hp} {D : Nat → Prop} : Se h D (.ag []) (.ag []) := .same _
theorem Se.agc {h : Hp} {D : Nat → Prop} {x y : V} {xs ys : List V} (h1 : Se h D x y) (h2 : xs.length = ys.length) (h3 : ∀ (j : Nat) (a b : V), xs[j]? = some a → ys[j]? = some b → Se h D a b) : Se h D (.ag (x :: xs)) (.ag (y :: ys)) := by
  refine .ag _ _ (by simp [h2]) (fun j a b e1 e2 => ?_)
  cases j with
  | zero => cases e1; cases e2; exact h1
  | succ j => exact h3 j a b e1 e2
/-- pointwise -/
def Sl (h : Hp) (D : Nat → Prop) : List V → List V → Prop
  | [], [] => True
  | x :: xs, y :: ys => Se h D x y ∧ Sl h D xs ys
  | _, _ => False
theorem Sl.get {h : Hp} {D : Nat → Prop} : ∀ {xs ys : List V}, Sl h D xs ys → xs.length = ys.length ∧ ∀ (j : Nat) (a b : V), xs[j]? = some a → ys[j]? = some b → Se h D a b
  | [], [], _ => ⟨rfl, fun j a b e => by simp at e⟩
  | x :: xs, y :: ys, hs => by
    obtain ⟨h1, h2⟩ := hs
    obtain ⟨q1, q2⟩ := Sl.get h2
    refine ⟨by simp [q1], fun j a b e1 e2 => ?_⟩
    cases j with
    | zero => cases e1; cases e2; exact h1
    | succ j => exact q2 j a b e1 e2
theorem Sl.ag {h : Hp} {D : Nat → Prop} {xs ys : List V} (hs : Sl h D xs ys) : Se h D (.ag xs) (.ag ys) := .ag _ _ hs.get.1 hs.get.2
theorem put_row {a b c d e f : V} (x : Ex) : putAt [a, b, c, d, e, f] 0 x.row = x.row := by cases x; rfl
theorem copyex_pc : ∀ (n : Nat) (e : Ex), e.sz ≤ n → e.ok → PC Tryz.prog 49 [xg e] (xg e)
  | 0, e, h, _ => by have := sz_pos e; omega
  | n + 1, .mk k op t v nl nn args, h, hn => by
    have hszs : Ex.szs args ≤ n := by simp [Ex.sz] at h; omega
    simp only [Ex.ok] at hn
    have hf : ∀ a, a ∈ args → PC Tryz.prog 49 [xg a] (xg a) := fun a ha => copyex_pc n a (by have := sz_mem ha; omega) (oks_mem hn.2 ha)
    have hlen := hn.1
    unfold Lst.ok at hlen
    refine pc_frz Tryz.func49 k49 rfl ?_
    repeat' (first
      | (simp only [c49, qt_n, qt_r, Ex.row, rows_len, SXR, noA, isAl, kA, udf, AOp.dst, Nat.beq, putAt, bldE, evIo, isNil, Nat.ble, Int.reduceAdd, Int.reduceSub, Int.reduceNeg, Int.reduceBNe, Nat.reduceEqDiff, Nat.reduceSub, Nat.reduceAdd, Nat.reduceLeDiff, Nat.reduceBEq, Nat.reduceLT, Nat.reduceMul, Int.reduceBEq, Int.reduceLT, Int.reduceLE, reduceIte, reduceCtorEq]))
    refine Lp_ind (X := Nat) (fun i ll hs => match i with
        | 0 => Hd (fun j => [xg (.mk k op t v nl nn args), .p 0 0, .p 1 0, .ns, j 4, j 5, j 6, .ts (Ex.rows args), .i .i64 (args.length : Int), .i .i64 0, j 10, j 11, j 12, j 13, j 14, j 15, j 16, j 17, j 18, j 19, j 20, j 21]) ll ∧ hs = [.c false [.i .i64 k, .i .i64 op, .i .i64 t, .i .i64 v, .s nl nn, .ts (Ex.rows args)], .c false [.i .i64 0, .i .i64 0, .i .i64 0, .i .i64 0, .s 0 0, .ns]]
        | i + 1 => ∃ (js : List O) (a : Nat) (cs : List V), Hd (fun j => [xg (.mk k op t v nl nn args), .p 0 0, .p 1 0, .sl a 0 6 (i + 1) none, j 4, j 5, j 6, .ts (Ex.rows args), .i .i64 (args.length : Int), .i .i64 ((i + 1 : Nat) : Int), j 10, j 11, j 12, j 13, j 14, j 15, j 16, j 17, j 18, j 19, j 20, j 21]) ll ∧ hs = .c false [.i .i64 k, .i .i64 op, .i .i64 t, .i .i64 v, .s nl nn, .ts (Ex.rows args)] :: .c false [.i .i64 0, .i .i64 0, .i .i64 0, .i .i64 0, .s 0 0, .ns] :: (js ++ [.c true cs]) ∧ a = js.length + 2 ∧ cs = cells Ex.row args (i + 1))
      (fun i => i ≤ args.length) (fun i => args.length - i) ?_ 0 _ _ (by exact ⟨rfl, rfl⟩) (Nat.zero_le _)
    rintro i _ _ hS hi IH
    cases i with
    | zero =>
      obtain ⟨e, rfl⟩ := hS
      obtain ⟨j, rfl⟩ := e.open
      clear e
      by_cases hlt : 0 < args.length
      · obtain ⟨x, hx, hxm⟩ := ats hlt
        have hr : (Ex.rows args)[0]? = some x.row := by rw [rows_get, hx]; rfl
        have hd : decide ((0 : Int) < (args.length : Int)) = true := ltd hlt
        have hc := hf x hxm
        have hroom := room_ok (n := 1) (b := 72) (by omega) (by omega)
        have hcs := cells_succ (f := Ex.row) hx
        repeat' (first
          | (with_reducible refine pcl_intro (hc) (by simp only [SXR, qt_n, qt_r, rows_len, rows_cl, hd, hr, row_len, row_take, row_cl, put_row, hroom]) (by simp only [SXR, qt_n, qt_r, rows_len, rows_cl, hd, hr, row_len, row_take, row_cl, put_row, hroom]) ?_)
          | (simp only [c49, qt_n, qt_r, rows_len, rows_cl, hd, hr, row_len, row_take, row_cl, put_row, hroom, SXR, noA, isAl, kA, udf, AOp.dst, Nat.beq, putAt, bldE, evIo, isNil, Nat.ble, Int.reduceAdd, Int.reduceSub, Int.reduceNeg, Int.reduceBNe, Nat.reduceEqDiff, Nat.reduceSub, Nat.reduceAdd, Nat.reduceLeDiff, Nat.reduceBEq, Nat.reduceLT, Nat.reduceMul, Int.reduceBEq, Int.reduceLT, Int.reduceLE, reduceIte, reduceCtorEq]))
        exact IH 1 _ _ (by exact ⟨[_, _], _, _, rfl, rfl, rfl, hcs⟩) hlt (by omega)
      · have hd : decide ((0 : Int) < (args.length : Int)) = false := ltn hlt
        clear IH
        repeat' (first
          | (simp only [c49, qt_n, qt_r, rows_len, hd, SXR, noA, isAl, kA, udf, AOp.dst, Nat.beq, putAt, bldE, evIo, isNil, Nat.ble, Int.reduceAdd, Int.reduceSub, Int.reduceNeg, Int.reduceBNe, Nat.reduceEqDiff, Nat.reduceSub, Nat.reduceAdd, Nat.reduceLeDiff, Nat.reduceBEq, Nat.reduceLT, Nat.reduceMul, Int.reduceBEq, Int.reduceLT, Int.reduceLE, reduceIte, reduceCtorEq]))
        have : args = [] := List.length_eq_zero_iff.1 (by omega)
        subst this
        exact Sl.ag ⟨.same _, .same _, .same _, .same _, .same _, .nil, trivial⟩
    | succ i =>
      obtain ⟨js, a, cs, e, rfl, rfl, hcs⟩ := hS
      obtain ⟨j, rfl⟩ := e.open
      clear e
      by_cases hlt : i + 1 < args.length
      · obtain ⟨x, hx, hxm⟩ := ats hlt
        have hr : (Ex.rows args)[i + 1]? = some x.row := by rw [rows_get, hx]; rfl
        have hd := ltd hlt
        have hw := wrap_big (n := i + 1) (by omega)
        have hc := hf x hxm
        have hroom := room_ok (n := i + 1 + 1) (b := 72) (by omega) (by omega)
        have hroom2 : room (i + 2) 72 = true := hroom
        have hcl : Nat.beq cs.length ((i + 1) * 6) = true := beq_ok (by rw [hcs]; exact cells_len row_len hi)
        have hcs' : cs ++ Ex.row x = cells Ex.row args (i + 1 + 1) := by rw [hcs]; exact cells_succ hx
        repeat' (first
          | (with_reducible refine pcl_intro (hc) (by simp only [SXR, qt_n, qt_r, rows_len, rows_cl, hd, hr, row_len, row_take, row_cl, put_row, hroom, hroom2, hcl, hw, Nat.add_assoc]) (by simp only [SXR, qt_n, qt_r, rows_len, rows_cl, hd, hr, row_len, row_take, row_cl, put_row, hroom, hroom2, hcl, hw, Nat.add_assoc]) ?_)
          | (simp only [c49, qt_n, qt_r, rows_len, rows_cl, hd, hr, row_len, row_take, row_cl, put_row, hroom, hroom2, hcl, hw, Nat.add_assoc, SXR, noA, isAl, kA, udf, AOp.dst, Nat.beq, putAt, bldE, evIo, isNil, Nat.ble, Int.reduceAdd, Int.reduceSub, Int.reduceNeg, Int.reduceBNe, Nat.reduceEqDiff, Nat.reduceSub, Nat.reduceAdd, Nat.reduceLeDiff, Nat.reduceBEq, Nat.reduceLT, Nat.reduceMul, Int.reduceBEq, Int.reduceLT, Int.reduceLE, reduceIte, reduceCtorEq]))
        exact IH (i + 1 + 1) _ _ (by exact ⟨_, _, _, rfl, congrArg (_ :: ·) (congrArg (_ :: ·) snoc3), by simp, hcs'⟩) hlt (by omega)
      · have hd := ltn hlt
        clear IH
        repeat' (first
          | (simp only [c49, qt_n, qt_r, rows_len, hd, Nat.add_assoc, SXR, noA, isAl, kA, udf, AOp.dst, Nat.beq, putAt, bldE, evIo, isNil, Nat.ble, Int.reduceAdd, Int.reduceSub, Int.reduceNeg, Int.reduceBNe, Nat.reduceEqDiff, Nat.reduceSub, Nat.reduceAdd, Nat.reduceLeDiff, Nat.reduceBEq, Nat.reduceLT, Nat.reduceMul, Int.reduceBEq, Int.reduceLT, Int.reduceLE, reduceIte, reduceCtorEq]))
        have e : args.length = i + 1 := by omega
        exact Sl.ag ⟨.same _, .same _, .same _, .same _, .same _, Se.flat' hp_ap0 (by rw [hcs, ← e, cells_all, rows_map]) (by rw [rows_len, e]) trivial (by rw [rows_map]; exact mem_map row_len _), trivial⟩
/-- an equation in normal form -/
structure NEqn where
  kind : Int
  left : List Str
  right : Ex
  init : Int
  node : Str
  args : List Ex
  every : Str
  ck : List On
def NEqn.row (q : NEqn) : List V := .i .i64 q.kind :: .ts (q.left.map srow) :: (q.right.row ++ [.i .i64 q.init, .s q.node.1 q.node.2, .ts (Ex.rows q.args), .s q.every.1 q.every.2, .ts (q.ck.map On.row)])
theorem neqn_len (q : NEqn) : q.row.length = 13 := by simp [NEqn.row, row_len]
theorem clL_app : ∀ (a b : List V), clL (a ++ b) = (clL a && clL b)
  | [], b => by simp [clL]
  | x :: a, b => by simp [clL, clL_app a b, Bool.and_assoc]
theorem neqn_cl (q : NEqn) : clL q.row = true := by simp only [NEqn.row, clL, V.cl, srows_cl, clL_app, row_cl, rows_cl, ons_cl, Bool.and_self]
def hit (s : Str) (d : Decl) : Bool := d.nm.1 == s.1 && d.nm.2 == s.2
/-- the place of the first variable of a name, and its type -/
def place (s : Str) : List Decl → Nat → Option (Nat × Int)
  | [], _ => none
  | d :: l, i => if hit s d = true then some (i, d.ty) else place s l (i + 1)
def tyOf (l : List Decl) (s : Str) : Int := match place s l 0 with
  | some (_, t) => t
  | none => 2
def idx : Option (Nat × Int) → Int
  | some (i, _) => i
  | none => -1
theorem right1_ac (q : NEqn) (s : Str) (ls : List Str) (d : Decl) (z : O) (js : List O) (hq : q.left = s :: ls) :
    ACalls Tryz.prog 48 [.ag d.row, .p 0 0] (hpL (.c false q.row :: z :: js)) (.c false q.row :: z :: js : List O).length (.b (hit s d)) (hpL (.c false q.row :: z :: (js ++ [.c false d.row]))) (.c false q.row :: z :: (js ++ [.c false d.row]) : List O).length := by
  have h0 : (q.left.map srow)[0]? = some [.s s.1 s.2] := by rw [hq]; rfl
  refine ac_of Tryz.func48 k48 rfl ?_
  repeat' (first
    | (simp only [c48, qh_n, qh_r, NEqn.row, Decl.row, h0, hit, Nat.add_assoc, and_self, SXR, noA, isAl, kA, udf, AOp.dst, Nat.beq, putAt, bldE, evIo, isNil, Nat.ble, Int.reduceAdd, Int.reduceSub, Int.reduceNeg, Int.reduceBNe, Nat.reduceEqDiff, Nat.reduceSub, Nat.reduceAdd, Nat.reduceLeDiff, Nat.reduceBEq, Nat.reduceLT, Nat.reduceMul, Int.reduceBEq, Int.reduceLT, Int.reduceLE, reduceIte, reduceCtorEq]))
/-- how many declarations are looked at -/
def scan (s : Str) : List Decl → Nat
  | [] => 0
  | d :: l => if hit s d = true then 1 else scan s l + 1
def boxes (l : List Decl) : List O := l.map fun d => .c false d.row
theorem boxes_succ {l : List Decl} {i : Nat} {d : Decl} (h : l[i]? = some d) : boxes (l.take i) ++ [.c false d.row] = boxes (l.take (i + 1)) := by
  unfold boxes; rw [List.take_add_one, h]; simp
theorem index_ac (q : NEqn) (s : Str) (ls : List Str) (z : O) (vars : List Decl) (js : List O) (hq : q.left = s :: ls) (hn : vars.length ≤ 90000000) :
    ACalls Tryz.prog 47 [.ts (vars.map Decl.row), .fn 48 [] [.p 0 0]] (hpL (.c false q.row :: z :: js)) (.c false q.row :: z :: js : List O).length (.i .i64 (idx (place s vars 0)))
      (hpL (.c false q.row :: z :: (js ++ boxes (vars.take (scan s vars))))) (.c false q.row :: z :: (js ++ boxes (vars.take (scan s vars))) : List O).length := by
  refine ac_of Tryz.func47 k47 rfl ?_
  repeat' (first
    | (simp only [c47, qh_n, qh_r, List.length_map, SXR, noA, isAl, kA, udf, AOp.dst, Nat.beq, putAt, bldE, evIo, isNil, Nat.ble, Int.reduceAdd, Int.reduceSub, Int.reduceNeg, Int.reduceBNe, Nat.reduceEqDiff, Nat.reduceSub, Nat.reduceAdd, Nat.reduceLeDiff, Nat.reduceBEq, Nat.reduceLT, Nat.reduceMul, Int.reduceBEq, Int.reduceLT, Int.reduceLE, reduceIte, reduceCtorEq]))
  refine Lp_ind (X := Nat) (fun i ll hs => ∃ bs : List O, Hd (fun j => [.ts (vars.map Decl.row), .fn 48 [] [.p 0 0], j 2, j 3, j 4, j 5, .ts (vars.map Decl.row), .i .i64 (vars.length : Int), .i .i64 (i : Int), j 9, j 10, j 11, j 12, j 13, j 14, j 15, j 16, j 17, j 18]) ll ∧ hs = .c false q.row :: z :: (js ++ bs) ∧ bs = boxes (vars.take i))
    (fun i => i ≤ vars.length ∧ place s vars 0 = place s (vars.drop i) i ∧ scan s vars = scan s (vars.drop i) + i) (fun i => vars.length - i) ?_ 0 _ _ (by exact ⟨[], rfl, by simp, rfl⟩) ⟨Nat.zero_le _, rfl, rfl⟩
  rintro i _ _ ⟨bs, e, rfl, hbs⟩ ⟨hi, hp, hsc⟩ IH
  obtain ⟨j, rfl⟩ := e.open
  clear e
  by_cases hlt : i < vars.length
  · obtain ⟨x, hx, hxm⟩ := ats hlt
    have hr := mg (f := Decl.row) hx
    have hd := ltd hlt
    have hw := wrap_big (n := i) (by omega)
    have hc := right1_ac q s ls x z (js ++ bs) hq
    have hdr : vars.drop i = x :: vars.drop (i + 1) := by
      rw [List.drop_eq_getElem_cons hlt]
      have : vars[i] = x := by simpa [List.getElem?_eq_getElem hlt] using hx
      rw [this]
    have hbx : bs ++ [.c false x.row] = boxes (vars.take (i + 1)) := by rw [hbs]; exact boxes_succ hx
    have htk : x.row.take 3 = x.row := rfl
    rw [hdr] at hp hsc
    simp only [place, scan] at hp hsc
    by_cases hh : hit s x = true
    · rw [if_pos hh] at hp hsc
      clear IH
      rw [hp, hsc]
      simp only [List.append_assoc, hbx] at hc
      repeat' (first
        | (with_reducible refine acl_intro (hc) ?_)
        | (simp only [c47, qh_n, qh_r, List.length_map, hd, hr, decl_len, htk, hh, idx, SXR, noA, isAl, kA, udf, AOp.dst, Nat.beq, putAt, bldE, evIo, isNil, Nat.ble, Int.reduceAdd, Int.reduceSub, Int.reduceNeg, Int.reduceBNe, Nat.reduceEqDiff, Nat.reduceSub, Nat.reduceAdd, Nat.reduceLeDiff, Nat.reduceBEq, Nat.reduceLT, Nat.reduceMul, Int.reduceBEq, Int.reduceLT, Int.reduceLE, reduceIte, reduceCtorEq]))
      rw [Nat.add_comm]
    · rw [if_neg hh] at hp hsc
      have hh' : hit s x = false := by simpa using hh
      simp only [List.append_assoc, hbx] at hc
      repeat' (first
        | (with_reducible refine acl_intro (hc) ?_)
        | (simp only [c47, qh_n, qh_r, List.length_map, hd, hr, decl_len, htk, hh', hw, SXR, noA, isAl, kA, udf, AOp.dst, Nat.beq, putAt, bldE, evIo, isNil, Nat.ble, Int.reduceAdd, Int.reduceSub, Int.reduceNeg, Int.reduceBNe, Nat.reduceEqDiff, Nat.reduceSub, Nat.reduceAdd, Nat.reduceLeDiff, Nat.reduceBEq, Nat.reduceLT, Nat.reduceMul, Int.reduceBEq, Int.reduceLT, Int.reduceLE, reduceIte, reduceCtorEq]))
      exact IH (i + 1) _ _ (by exact ⟨_, rfl, rfl, rfl⟩) ⟨hlt, hp, by omega⟩ (by omega)
  · have hd := ltn hlt
    clear IH
    have hdr : vars.drop i = [] := List.drop_eq_nil_of_le (by omega)
    rw [hdr] at hp hsc
    simp only [place, scan, Nat.zero_add] at hp hsc
    rw [hp, hsc, ← hbs]
    repeat' (first
      | (simp only [c47, qh_n, qh_r, List.length_map, hd, idx, SXR, noA, isAl, kA, udf, AOp.dst, Nat.beq, putAt, bldE, evIo, isNil, Nat.ble, Int.reduceAdd, Int.reduceSub, Int.reduceNeg, Int.reduceBNe, Nat.reduceEqDiff, Nat.reduceSub, Nat.reduceAdd, Nat.reduceLeDiff, Nat.reduceBEq, Nat.reduceLT, Nat.reduceMul, Int.reduceBEq, Int.reduceLT, Int.reduceLE, reduceIte, reduceCtorEq]))
def cst (t v : Int) : Ex := .mk 1 0 t v 0 0 []
def vrb (s : Str) : Ex := .mk 2 0 0 0 s.1 s.2 []
def none? (s : Str) : Bool := s.1 == 0 && s.2 == 0
def backE (vars : List Decl) (q : NEqn) : Ex :=
  if q.kind = 2 then .mk 7 0 0 0 0 0 [cst (match q.left with | [] => 2 | s :: _ => tyOf vars s) q.init, q.right]
  else if q.kind = 3 then .mk 10 0 0 (if none? q.every = true then 0 else 1) q.node.1 q.node.2 (q.args ++ (if none? q.every = true then [] else [vrb q.every]))
  else if q.kind = 4 then .mk 11 0 0 0 q.node.1 q.node.2 []
  else q.right
def Sll (h : Hp) (D : Nat → Prop) : List (List V) → List (List V) → Prop
  | [], [] => True
  | x :: xs, y :: ys => Sl h D x y ∧ Sll h D xs ys
  | _, _ => False
theorem Sll.get {h : Hp} {D : Nat → Prop} : ∀ {xs ys : List (List V)}, Sll h D xs ys → xs.length = ys.length ∧ ∀ (i : Nat) (a b : List V), xs[i]? = some a → ys[i]? = some b → Sl h D a b
  | [], [], _ => ⟨rfl, fun j a b e => by simp at e⟩
  | x :: xs, y :: ys, hs => by
    obtain ⟨h1, h2⟩ := hs
    obtain ⟨q1, q2⟩ := Sll.get h2
    refine ⟨by simp [q1], fun j a b e1 e2 => ?_⟩
    cases j with
    | zero => cases e1; cases e2; exact h1
    | succ j => exact q2 j a b e1 e2
theorem Se.rowsL {h : Hp} {D : Nat → Prop} {a wd n : Nat} {cp : Option Nat} {gr : Bool} {cs : List V} {rs ys : List (List V)} (ha : h a = .c gr cs) (hcs : cs = rs.flatten) (hn : rs.length = n) (hD : D a) (hw : ∀ r, r ∈ rs → r.length = wd) (hw' : ∀ r, r ∈ ys → r.length = wd)
    (hs : Sll h D rs ys) : Se h D (.sl a 0 wd n cp) (.ts ys) := by
  subst hcs hn
  exact Se.rows ha hD hs.get.1 hw hw' (fun i j r r' x y e1 e2 e3 e4 => (hs.get.2 i r r' e1 e2).get.2 j x y e3 e4)
theorem Sl.refl {h : Hp} {D : Nat → Prop} : ∀ {xs : List V}, Sl h D xs xs
  | [] => trivial
  | x :: xs => ⟨.same _, Sl.refl⟩
theorem place_spec {s : Str} : ∀ {l : List Decl} {i m : Nat} {t : Int}, place s l i = some (m, t) → ∃ d, i ≤ m ∧ l[m - i]? = some d ∧ d.ty = t
  | d :: l, i, m, t, h => by
    simp only [place] at h
    split at h
    · cases h; exact ⟨d, Nat.le_refl _, by simp, rfl⟩
    · obtain ⟨d', h1, h2, h3⟩ := place_spec h
      obtain ⟨k, rfl⟩ : ∃ k, m = i + 1 + k := ⟨m - (i + 1), by omega⟩
      refine ⟨d', by omega, ?_, h3⟩
      have : i + 1 + k - i = k + 1 := by omega
      rw [this, List.getElem?_cons_succ]
      have e : i + 1 + k - (i + 1) = k := by omega
      rw [e] at h2
      exact h2
theorem rows_w {l : List Ex} : ∀ r, r ∈ Ex.rows l → r.length = 6 := by rw [rows_map]; exact mem_map row_len l
/-- an equation of another kind -/
theorem right_else (vars : List Decl) (q : NEqn) (hq : q.right.ok) (h2 : q.kind ≠ 2) (h3 : q.kind ≠ 3) (h4 : q.kind ≠ 4) : PC Tryz.prog 24 [.ts (vars.map Decl.row), .ag q.row] (xg q.right) := by
  have hb2 : (q.kind == 2) = false := by simpa using h2
  have hb3 : (q.kind == 3) = false := by simpa using h3
  have hb4 : (q.kind == 4) = false := by simpa using h4
  have hc := copyex_pc _ q.right (Nat.le_refl _) hq
  obtain ⟨kind, left, ⟨k, op, t, v, nl, nn, args⟩, init, node, ags, every, ck⟩ := q
  simp only at hb2 hb3 hb4 hc
  simp only [xg, Ex.row] at hc
  refine pc_of Tryz.func24 k24 rfl ?_
  repeat' (first
    | ((with_reducible refine k_cons ?rdq ?_); (case rdq => refine rck_mk rfl ?_ ?_ <;> simp only [Option.isSome_some, NEqn.row, Ex.row, rows_cl, hb2, hb3, hb4, SXR, noA, isAl, kA, udf, AOp.dst, Nat.beq, putAt, bldE, evIo, isNil, Nat.ble, Int.reduceAdd, Int.reduceSub, Int.reduceNeg, Int.reduceBNe, Nat.reduceEqDiff, Nat.reduceSub, Nat.reduceAdd, Nat.reduceLeDiff, Nat.reduceBEq, Nat.reduceLT, Nat.reduceMul, Int.reduceBEq, Int.reduceLT, Int.reduceLE, reduceIte, reduceCtorEq]))
    | (with_reducible refine pcl_intro (hc) (by simp only [SXR, NEqn.row, Ex.row, rows_cl, hb2, hb3, hb4]) (by simp only [SXR, NEqn.row, Ex.row, rows_cl, hb2, hb3, hb4]) ?_)
    | (simp only [c24, NEqn.row, Ex.row, rows_cl, hb2, hb3, hb4, SXR, noA, isAl, kA, udf, AOp.dst, Nat.beq, putAt, bldE, evIo, isNil, Nat.ble, Int.reduceAdd, Int.reduceSub, Int.reduceNeg, Int.reduceBNe, Nat.reduceEqDiff, Nat.reduceSub, Nat.reduceAdd, Nat.reduceLeDiff, Nat.reduceBEq, Nat.reduceLT, Nat.reduceMul, Int.reduceBEq, Int.reduceLT, Int.reduceLE, reduceIte, reduceCtorEq]))
  rfl
/-- a word -/
theorem right_word (vars : List Decl) (q : NEqn) (h4 : q.kind = 4) : PC Tryz.prog 24 [.ts (vars.map Decl.row), .ag q.row] (xg (.mk 11 0 0 0 q.node.1 q.node.2 [])) := by
  obtain ⟨kind, left, ⟨k, op, t, v, nl, nn, args⟩, init, node, ags, every, ck⟩ := q
  simp only at h4
  subst h4
  refine pc_frz Tryz.func24 k24 rfl ?_
  repeat' (first
    | ((with_reducible refine k_cons ?rdq ?_); (case rdq => refine rck_mk rfl ?_ ?_ <;> simp only [Option.isSome_some, qt_n, qt_r, NEqn.row, Ex.row, SXR, noA, isAl, kA, udf, AOp.dst, Nat.beq, putAt, bldE, evIo, isNil, Nat.ble, Int.reduceAdd, Int.reduceSub, Int.reduceNeg, Int.reduceBNe, Nat.reduceEqDiff, Nat.reduceSub, Nat.reduceAdd, Nat.reduceLeDiff, Nat.reduceBEq, Nat.reduceLT, Nat.reduceMul, Int.reduceBEq, Int.reduceLT, Int.reduceLE, reduceIte, reduceCtorEq]))
    | (simp only [c24, qt_n, qt_r, NEqn.row, Ex.row, SXR, noA, isAl, kA, udf, AOp.dst, Nat.beq, putAt, bldE, evIo, isNil, Nat.ble, Int.reduceAdd, Int.reduceSub, Int.reduceNeg, Int.reduceBNe, Nat.reduceEqDiff, Nat.reduceSub, Nat.reduceAdd, Nat.reduceLeDiff, Nat.reduceBEq, Nat.reduceLT, Nat.reduceMul, Int.reduceBEq, Int.reduceLT, Int.reduceLE, reduceIte, reduceCtorEq]))
  exact Sl.ag ⟨.same _, .same _, .same _, .same _, .same _, .nil, trivial⟩
/-- a delay of no variable -/
theorem right_delay0 (vars : List Decl) (q : NEqn) (hq : q.right.ok) (h2 : q.kind = 2) (hl : q.left = []) : PC Tryz.prog 24 [.ts (vars.map Decl.row), .ag q.row] (xg (.mk 7 0 0 0 0 0 [cst 2 q.init, q.right])) := by
  have hc := copyex_pc _ q.right (Nat.le_refl _) hq
  have hz : decide ((0 : Int) > 0) = false := by decide
  obtain ⟨kind, left, ⟨k, op, t, v, nl, nn, args⟩, init, node, ags, every, ck⟩ := q
  simp only at h2 hl hc
  simp only [xg, Ex.row] at hc
  subst h2 hl
  refine pc_frz Tryz.func24 k24 rfl ?_
  repeat' (first
    | ((with_reducible refine k_cons ?rdq ?_); (case rdq => refine rck_mk rfl ?_ ?_ <;> simp only [Option.isSome_some, qt_n, qt_r, NEqn.row, Ex.row, rows_cl, hz, Int.natCast_zero, SXR, noA, isAl, kA, udf, AOp.dst, Nat.beq, putAt, bldE, evIo, isNil, Nat.ble, Int.reduceAdd, Int.reduceSub, Int.reduceNeg, Int.reduceBNe, Nat.reduceEqDiff, Nat.reduceSub, Nat.reduceAdd, Nat.reduceLeDiff, Nat.reduceBEq, Nat.reduceLT, Nat.reduceMul, Int.reduceBEq, Int.reduceLT, Int.reduceLE, reduceIte, reduceCtorEq]))
    | (with_reducible refine pcl_intro (hc) (by simp only [SXR, qt_n, qt_r, NEqn.row, Ex.row, rows_cl, hz, Int.natCast_zero]) (by simp only [SXR, qt_n, qt_r, NEqn.row, Ex.row, rows_cl, hz, Int.natCast_zero]) ?_)
    | (simp only [c24, qt_n, qt_r, NEqn.row, Ex.row, rows_cl, hz, Int.natCast_zero, SXR, noA, isAl, kA, udf, AOp.dst, Nat.beq, putAt, bldE, evIo, isNil, Nat.ble, Int.reduceAdd, Int.reduceSub, Int.reduceNeg, Int.reduceBNe, Nat.reduceEqDiff, Nat.reduceSub, Nat.reduceAdd, Nat.reduceLeDiff, Nat.reduceBEq, Nat.reduceLT, Nat.reduceMul, Int.reduceBEq, Int.reduceLT, Int.reduceLE, reduceIte, reduceCtorEq]))
  exact Sl.ag ⟨.same _, .same _, .same _, .same _, .same _, Se.rowsL (rs := [[.i .i64 1, .i .i64 0, .i .i64 2, .i .i64 init, .s 0 0, .ns], [.i .i64 k, .i .i64 op, .i .i64 t, .i .i64 v, .s nl nn, .ts (Ex.rows args)]]) rfl rfl rfl trivial (by simp) rows_w ⟨⟨.same _, .same _, .same _, .same _, .same _, .nil, trivial⟩, Sl.refl, trivial⟩, trivial⟩
theorem getI_at {vars : List Decl} {m : Nat} {d : Decl} (h : vars[m]? = some d) : (vars.map Decl.row)[m]? = some d.row := mg h
/-- a delay -/
theorem right_delay1 (vars : List Decl) (hn : vars.length ≤ 90000000) (q : NEqn) (s : Str) (ls : List Str) (hq : q.right.ok) (h2 : q.kind = 2) (hl : q.left = s :: ls) :
    PC Tryz.prog 24 [.ts (vars.map Decl.row), .ag q.row] (xg (.mk 7 0 0 0 0 0 [cst (tyOf vars s) q.init, q.right])) := by
  have hc := copyex_pc _ q.right (Nat.le_refl _) hq
  have hi := index_ac q s ls (.c false [.i .i64 0, .i .i64 0, .i .i64 0, .i .i64 0, .s 0 0, .ns]) vars [] hl hn
  generalize boxes (vars.take (scan s vars)) = bs at hi
  have hz : decide (((ls.length + 1 : Nat) : Int) > 0) = true := by simp
  unfold tyOf
  obtain ⟨kind, left, ⟨k, op, t, v, nl, nn, args⟩, init, node, ags, every, ck⟩ := q
  simp only at h2 hl hc hi
  simp only [xg, Ex.row] at hc
  subst h2 hl
  have fin : ∀ (ty : Int) (gone : List O), Se (hpL (.c false (NEqn.row ⟨2, s :: ls, .mk k op t v nl nn args, init, node, ags, every, ck⟩) :: .c false [.i .i64 7, .i .i64 0, .i .i64 0, .i .i64 0, .s 0 0, .sl (bs.length + 2) 0 6 2 none] :: (bs ++ [.c false [.i .i64 1, .i .i64 0, .i .i64 ty, .i .i64 init, .s 0 0, .ns, .i .i64 k, .i .i64 op, .i .i64 t, .i .i64 v, .s nl nn, .ts (Ex.rows args)]]))) (fun _ => True)
      (.ag [.i .i64 7, .i .i64 0, .i .i64 0, .i .i64 0, .s 0 0, .sl (bs.length + 2) 0 6 2 none]) (xg (.mk 7 0 0 0 0 0 [cst ty init, .mk k op t v nl nn args])) := by
    intro ty _
    exact Sl.ag ⟨.same _, .same _, .same _, .same _, .same _, Se.rowsL (rs := [[.i .i64 1, .i .i64 0, .i .i64 ty, .i .i64 init, .s 0 0, .ns], [.i .i64 k, .i .i64 op, .i .i64 t, .i .i64 v, .s nl nn, .ts (Ex.rows args)]]) hp_ap0 rfl rfl trivial (by simp) rows_w ⟨⟨.same _, .same _, .same _, .same _, .same _, .nil, trivial⟩, Sl.refl, trivial⟩, trivial⟩
  cases hp : place s vars 0 with
  | none =>
    rw [hp] at hi
    simp only [idx, NEqn.row, Ex.row, List.map_cons, srow, List.cons_append, List.nil_append] at hi
    have hg : decide ((-1 : Int) ≥ 0) = false := by decide
    refine pc_frz Tryz.func24 k24 rfl ?_
    repeat' (first
      | ((with_reducible refine k_cons ?rdq ?_); (case rdq => refine rck_mk rfl ?_ ?_ <;> simp only [Option.isSome_some, qt_n, qt_r, NEqn.row, Ex.row, srow, List.length_map, rows_cl, hz, hg, Nat.add_assoc, SXR, noA, isAl, kA, udf, AOp.dst, Nat.beq, putAt, bldE, evIo, isNil, Nat.ble, Int.reduceAdd, Int.reduceSub, Int.reduceNeg, Int.reduceBNe, Nat.reduceEqDiff, Nat.reduceSub, Nat.reduceAdd, Nat.reduceLeDiff, Nat.reduceBEq, Nat.reduceLT, Nat.reduceMul, Int.reduceBEq, Int.reduceLT, Int.reduceLE, reduceIte, reduceCtorEq]))
      | (with_reducible refine acl_intro (hi) ?_)
      | (with_reducible refine pcl_intro (hc) (by simp only [SXR, qt_n, qt_r, NEqn.row, Ex.row, srow, List.length_map, rows_cl, hz, hg, Nat.add_assoc]) (by simp only [SXR, qt_n, qt_r, NEqn.row, Ex.row, srow, List.length_map, rows_cl, hz, hg, Nat.add_assoc]) ?_)
      | (simp only [c24, qt_n, qt_r, NEqn.row, Ex.row, srow, List.length_map, rows_cl, hz, hg, Nat.add_assoc, SXR, noA, isAl, kA, udf, AOp.dst, Nat.beq, putAt, bldE, evIo, isNil, Nat.ble, Int.reduceAdd, Int.reduceSub, Int.reduceNeg, Int.reduceBNe, Nat.reduceEqDiff, Nat.reduceSub, Nat.reduceAdd, Nat.reduceLeDiff, Nat.reduceBEq, Nat.reduceLT, Nat.reduceMul, Int.reduceBEq, Int.reduceLT, Int.reduceLE, reduceIte, reduceCtorEq]))
    exact fin 2 []
  | some r =>
    obtain ⟨m, ty⟩ := r
    obtain ⟨d, _, hd, rfl⟩ := place_spec hp
    rw [Nat.sub_zero] at hd
    have hdr := getI_at hd
    rw [hp] at hi
    simp only [idx, NEqn.row, Ex.row, List.map_cons, srow, List.cons_append, List.nil_append] at hi
    have hg : decide ((m : Int) ≥ 0) = true := by simp
    refine pc_frz Tryz.func24 k24 rfl ?_
    repeat' (first
      | ((with_reducible refine k_cons ?rdq ?_); (case rdq => refine rck_mk rfl ?_ ?_ <;> simp only [Option.isSome_some, qt_n, qt_r, NEqn.row, Ex.row, srow, List.length_map, rows_cl, hz, hg, hdr, Decl.row, Nat.add_assoc, SXR, noA, isAl, kA, udf, AOp.dst, Nat.beq, putAt, bldE, evIo, isNil, Nat.ble, Int.reduceAdd, Int.reduceSub, Int.reduceNeg, Int.reduceBNe, Nat.reduceEqDiff, Nat.reduceSub, Nat.reduceAdd, Nat.reduceLeDiff, Nat.reduceBEq, Nat.reduceLT, Nat.reduceMul, Int.reduceBEq, Int.reduceLT, Int.reduceLE, reduceIte, reduceCtorEq]))
      | (with_reducible refine acl_intro (hi) ?_)
      | (with_reducible refine pcl_intro (hc) (by simp only [SXR, qt_n, qt_r, NEqn.row, Ex.row, srow, List.length_map, rows_cl, hz, hg, hdr, Decl.row, Nat.add_assoc]) (by simp only [SXR, qt_n, qt_r, NEqn.row, Ex.row, srow, List.length_map, rows_cl, hz, hg, hdr, Decl.row, Nat.add_assoc]) ?_)
      | (simp only [c24, qt_n, qt_r, NEqn.row, Ex.row, srow, List.length_map, rows_cl, hz, hg, hdr, Decl.row, Nat.add_assoc, SXR, noA, isAl, kA, udf, AOp.dst, Nat.beq, putAt, bldE, evIo, isNil, Nat.ble, Int.reduceAdd, Int.reduceSub, Int.reduceNeg, Int.reduceBNe, Nat.reduceEqDiff, Nat.reduceSub, Nat.reduceAdd, Nat.reduceLeDiff, Nat.reduceBEq, Nat.reduceLT, Nat.reduceMul, Int.reduceBEq, Int.reduceLT, Int.reduceLE, reduceIte, reduceCtorEq]))
    exact fin d.ty []
theorem Sll.refl {h : Hp} {D : Nat → Prop} : ∀ {xs : List (List V)}, Sll h D xs xs
  | [] => trivial
  | x :: xs => ⟨Sl.refl, Sll.refl⟩
theorem Sll.snoc {h : Hp} {D : Nat → Prop} {x y : List V} (hs : Sl h D x y) : ∀ {xs : List (List V)}, Sll h D (xs ++ [x]) (xs ++ [y])
  | [] => ⟨hs, trivial⟩
  | r :: xs => ⟨Sl.refl, Sll.snoc hs⟩
theorem rows_app (a b : List Ex) : Ex.rows (a ++ b) = Ex.rows a ++ Ex.rows b := by simp [rows_map]
theorem right_call (vars : List Decl) (q : NEqn) (hl : Lst.ok q.args) (hq : Ex.oks q.args) (h2 : q.kind = 3) (b : Bool) (hv : (q.every.1 == 0 && q.every.2 == 0) = b) :
    PC Tryz.prog 24 [.ts (vars.map Decl.row), .ag q.row] (xg (.mk 10 0 0 (if b = true then 0 else 1) q.node.1 q.node.2 (q.args ++ (if b = true then [] else [vrb q.every])))) := by
  have hf : ∀ a, a ∈ q.args → PC Tryz.prog 49 [xg a] (xg a) := fun a ha => copyex_pc _ a (Nat.le_refl _) (oks_mem hq ha)
  obtain ⟨kind, left, ⟨k, op, t, v, nl, nn, args⟩, init, node, ags, every, ck⟩ := q
  simp only at h2 hl hq hv hf ⊢
  subst h2
  have hlen := hl
  unfold Lst.ok at hlen
  have hroom1 := room_ok (n := 1) (b := 72) (by omega) (by omega)
  refine pc_frz Tryz.func24 k24 rfl ?_
  repeat' (first
    | ((with_reducible refine k_cons ?rdq ?_); (case rdq => refine rck_mk rfl ?_ ?_ <;> simp only [Option.isSome_some, qt_n, qt_r, NEqn.row, Ex.row, rows_len, SXR, noA, isAl, kA, udf, AOp.dst, Nat.beq, putAt, bldE, evIo, isNil, Nat.ble, Int.reduceAdd, Int.reduceSub, Int.reduceNeg, Int.reduceBNe, Nat.reduceEqDiff, Nat.reduceSub, Nat.reduceAdd, Nat.reduceLeDiff, Nat.reduceBEq, Nat.reduceLT, Nat.reduceMul, Int.reduceBEq, Int.reduceLT, Int.reduceLE, reduceIte, reduceCtorEq]))
    | (simp only [c24, qt_n, qt_r, NEqn.row, Ex.row, rows_len, SXR, noA, isAl, kA, udf, AOp.dst, Nat.beq, putAt, bldE, evIo, isNil, Nat.ble, Int.reduceAdd, Int.reduceSub, Int.reduceNeg, Int.reduceBNe, Nat.reduceEqDiff, Nat.reduceSub, Nat.reduceAdd, Nat.reduceLeDiff, Nat.reduceBEq, Nat.reduceLT, Nat.reduceMul, Int.reduceBEq, Int.reduceLT, Int.reduceLE, reduceIte, reduceCtorEq]))
  refine Lp_ind (X := Nat) (fun i ll hs => match i with
      | 0 => Hd (fun j => [.ts (vars.map Decl.row), .ag (NEqn.row ⟨3, left, .mk k op t v nl nn args, init, node, ags, every, ck⟩), j 2, .p 0 0, .p 1 0, j 5, j 6, .p 2 0, j 8, j 9, j 10, j 11, j 12, j 13, j 14, j 15, j 16, j 17, j 18, j 19, j 20, j 21, j 22, j 23, j 24, j 25, j 26, j 27, j 28, j 29, j 30, j 31, j 32, j 33, j 34, j 35, j 36, j 37, j 38, j 39, j 40, j 41, j 42, .ts (Ex.rows ags), .i .i64 (ags.length : Int), .i .i64 0, j 46, j 47, j 48, j 49, j 50, j 51, j 52, j 53, j 54, j 55, j 56, j 57, j 58, j 59, j 60, j 61, j 62, j 63, j 64, j 65, j 66, j 67, j 68, j 69, j 70, j 71, j 72, j 73, j 74, j 75, j 76, j 77]) ll ∧ hs = [.c false (NEqn.row ⟨3, left, .mk k op t v nl nn args, init, node, ags, every, ck⟩), .c false [.i .i64 0, .i .i64 0, .i .i64 0, .i .i64 0, .s 0 0, .ns], .c false [.i .i64 10, .i .i64 0, .i .i64 0, .i .i64 0, .s node.1 node.2, .ns]]
      | i + 1 => ∃ (js : List O) (a : Nat) (cs : List V), Hd (fun j => [.ts (vars.map Decl.row), .ag (NEqn.row ⟨3, left, .mk k op t v nl nn args, init, node, ags, every, ck⟩), j 2, .p 0 0, .p 1 0, j 5, j 6, .p 2 0, j 8, j 9, j 10, j 11, j 12, j 13, j 14, j 15, j 16, j 17, j 18, j 19, j 20, j 21, j 22, j 23, j 24, j 25, j 26, j 27, j 28, j 29, j 30, j 31, j 32, j 33, j 34, j 35, j 36, j 37, j 38, j 39, j 40, j 41, j 42, .ts (Ex.rows ags), .i .i64 (ags.length : Int), .i .i64 ((i + 1 : Nat) : Int), j 46, j 47, j 48, j 49, j 50, j 51, j 52, j 53, j 54, j 55, j 56, j 57, j 58, j 59, j 60, j 61, j 62, j 63, j 64, j 65, j 66, j 67, j 68, j 69, j 70, j 71, j 72, j 73, j 74, j 75, j 76, j 77]) ll ∧ hs = .c false (NEqn.row ⟨3, left, .mk k op t v nl nn args, init, node, ags, every, ck⟩) :: .c false [.i .i64 0, .i .i64 0, .i .i64 0, .i .i64 0, .s 0 0, .ns] :: .c false [.i .i64 10, .i .i64 0, .i .i64 0, .i .i64 0, .s node.1 node.2, .sl a 0 6 (i + 1) none] :: (js ++ [.c true cs]) ∧ a = js.length + 3 ∧ cs = cells Ex.row ags (i + 1))
    (fun i => i ≤ ags.length) (fun i => ags.length - i) ?_ 0 _ _ (by exact ⟨rfl, rfl⟩) (Nat.zero_le _)
  rintro i _ _ hS hi IH
  cases i with
  | zero =>
    obtain ⟨e, rfl⟩ := hS
    obtain ⟨j, rfl⟩ := e.open
    clear e
    by_cases hlt : 0 < ags.length
    · obtain ⟨x, hx, hxm⟩ := ats hlt
      have hr : (Ex.rows ags)[0]? = some x.row := by rw [rows_get, hx]; rfl
      have hd : decide ((0 : Int) < (ags.length : Int)) = true := ltd hlt
      have hc := hf x hxm
      have hcs := cells_succ (f := Ex.row) hx
      repeat' (first
        | ((with_reducible refine k_cons ?rdq ?_); (case rdq => refine rck_mk rfl ?_ ?_ <;> simp only [Option.isSome_some, qt_n, qt_r, rows_len, rows_cl, hd, hr, row_len, row_take, row_cl, put_row, hroom1, SXR, noA, isAl, kA, udf, AOp.dst, Nat.beq, putAt, bldE, evIo, isNil, Nat.ble, Int.reduceAdd, Int.reduceSub, Int.reduceNeg, Int.reduceBNe, Nat.reduceEqDiff, Nat.reduceSub, Nat.reduceAdd, Nat.reduceLeDiff, Nat.reduceBEq, Nat.reduceLT, Nat.reduceMul, Int.reduceBEq, Int.reduceLT, Int.reduceLE, reduceIte, reduceCtorEq]))
        | (with_reducible refine pcl_intro (hc) (by simp only [SXR, qt_n, qt_r, rows_len, rows_cl, hd, hr, row_len, row_take, row_cl, put_row, hroom1]) (by simp only [SXR, qt_n, qt_r, rows_len, rows_cl, hd, hr, row_len, row_take, row_cl, put_row, hroom1]) ?_)
        | (simp only [c24, qt_n, qt_r, rows_len, rows_cl, hd, hr, row_len, row_take, row_cl, put_row, hroom1, SXR, noA, isAl, kA, udf, AOp.dst, Nat.beq, putAt, bldE, evIo, isNil, Nat.ble, Int.reduceAdd, Int.reduceSub, Int.reduceNeg, Int.reduceBNe, Nat.reduceEqDiff, Nat.reduceSub, Nat.reduceAdd, Nat.reduceLeDiff, Nat.reduceBEq, Nat.reduceLT, Nat.reduceMul, Int.reduceBEq, Int.reduceLT, Int.reduceLE, reduceIte, reduceCtorEq]))
      exact IH 1 _ _ (by exact ⟨[_, _], _, _, rfl, rfl, rfl, hcs⟩) hlt (by omega)
    · have hd : decide ((0 : Int) < (ags.length : Int)) = false := ltn hlt
      clear IH
      have : ags = [] := List.length_eq_zero_iff.1 (by omega)
      cases b with
      | true =>
        repeat' (first
          | ((with_reducible refine k_cons ?rdq ?_); (case rdq => refine rck_mk rfl ?_ ?_ <;> simp only [Option.isSome_some, qt_n, qt_r, rows_len, hd, NEqn.row, Ex.row, hv, SXR, noA, isAl, kA, udf, AOp.dst, Nat.beq, putAt, bldE, evIo, isNil, Nat.ble, Int.reduceAdd, Int.reduceSub, Int.reduceNeg, Int.reduceBNe, Nat.reduceEqDiff, Nat.reduceSub, Nat.reduceAdd, Nat.reduceLeDiff, Nat.reduceBEq, Nat.reduceLT, Nat.reduceMul, Int.reduceBEq, Int.reduceLT, Int.reduceLE, reduceIte, reduceCtorEq]))
          | (simp only [c24, qt_n, qt_r, rows_len, hd, NEqn.row, Ex.row, hv, SXR, noA, isAl, kA, udf, AOp.dst, Nat.beq, putAt, bldE, evIo, isNil, Nat.ble, Int.reduceAdd, Int.reduceSub, Int.reduceNeg, Int.reduceBNe, Nat.reduceEqDiff, Nat.reduceSub, Nat.reduceAdd, Nat.reduceLeDiff, Nat.reduceBEq, Nat.reduceLT, Nat.reduceMul, Int.reduceBEq, Int.reduceLT, Int.reduceLE, reduceIte, reduceCtorEq]))
        subst this
        exact Sl.ag ⟨.same _, .same _, .same _, .same _, .same _, .nil, trivial⟩
      | false =>
        repeat' (first
          | ((with_reducible refine k_cons ?rdq ?_); (case rdq => refine rck_mk rfl ?_ ?_ <;> simp only [Option.isSome_some, qt_n, qt_r, rows_len, hd, NEqn.row, Ex.row, hv, hroom1, SXR, noA, isAl, kA, udf, AOp.dst, Nat.beq, putAt, bldE, evIo, isNil, Nat.ble, Int.reduceAdd, Int.reduceSub, Int.reduceNeg, Int.reduceBNe, Nat.reduceEqDiff, Nat.reduceSub, Nat.reduceAdd, Nat.reduceLeDiff, Nat.reduceBEq, Nat.reduceLT, Nat.reduceMul, Int.reduceBEq, Int.reduceLT, Int.reduceLE, reduceIte, reduceCtorEq]))
          | (simp only [c24, qt_n, qt_r, rows_len, hd, NEqn.row, Ex.row, hv, hroom1, SXR, noA, isAl, kA, udf, AOp.dst, Nat.beq, putAt, bldE, evIo, isNil, Nat.ble, Int.reduceAdd, Int.reduceSub, Int.reduceNeg, Int.reduceBNe, Nat.reduceEqDiff, Nat.reduceSub, Nat.reduceAdd, Nat.reduceLeDiff, Nat.reduceBEq, Nat.reduceLT, Nat.reduceMul, Int.reduceBEq, Int.reduceLT, Int.reduceLE, reduceIte, reduceCtorEq]))
        subst this
        exact Sl.ag ⟨.same _, .same _, .same _, .same _, .same _, Se.rowsL (rs := [[.i .i64 2, .i .i64 0, .i .i64 0, .i .i64 0, .s every.1 every.2, .ns]]) rfl rfl rfl trivial (by simp) rows_w ⟨⟨.same _, .same _, .same _, .same _, .same _, .nil, trivial⟩, trivial⟩, trivial⟩
  | succ i =>
    obtain ⟨js, a, cs, e, rfl, rfl, hcs⟩ := hS
    obtain ⟨j, rfl⟩ := e.open
    clear e
    have hroom := room_ok (n := i + 1 + 1) (b := 72) (by omega) (by omega)
    have hroom2 : room (i + 2) 72 = true := hroom
    have hcl : Nat.beq cs.length ((i + 1) * 6) = true := beq_ok (by rw [hcs]; exact cells_len row_len hi)
    by_cases hlt : i + 1 < ags.length
    · obtain ⟨x, hx, hxm⟩ := ats hlt
      have hr : (Ex.rows ags)[i + 1]? = some x.row := by rw [rows_get, hx]; rfl
      have hd := ltd hlt
      have hw := wrap_big (n := i + 1) (by omega)
      have hc := hf x hxm
      have hcs' : cs ++ Ex.row x = cells Ex.row ags (i + 1 + 1) := by rw [hcs]; exact cells_succ hx
      repeat' (first
        | ((with_reducible refine k_cons ?rdq ?_); (case rdq => refine rck_mk rfl ?_ ?_ <;> simp only [Option.isSome_some, qt_n, qt_r, rows_len, rows_cl, hd, hr, row_len, row_take, row_cl, put_row, hroom, hroom2, hcl, hw, Nat.add_assoc, SXR, noA, isAl, kA, udf, AOp.dst, Nat.beq, putAt, bldE, evIo, isNil, Nat.ble, Int.reduceAdd, Int.reduceSub, Int.reduceNeg, Int.reduceBNe, Nat.reduceEqDiff, Nat.reduceSub, Nat.reduceAdd, Nat.reduceLeDiff, Nat.reduceBEq, Nat.reduceLT, Nat.reduceMul, Int.reduceBEq, Int.reduceLT, Int.reduceLE, reduceIte, reduceCtorEq]))
        | (with_reducible refine pcl_intro (hc) (by simp only [SXR, qt_n, qt_r, rows_len, rows_cl, hd, hr, row_len, row_take, row_cl, put_row, hroom, hroom2, hcl, hw, Nat.add_assoc]) (by simp only [SXR, qt_n, qt_r, rows_len, rows_cl, hd, hr, row_len, row_take, row_cl, put_row, hroom, hroom2, hcl, hw, Nat.add_assoc]) ?_)
        | (simp only [c24, qt_n, qt_r, rows_len, rows_cl, hd, hr, row_len, row_take, row_cl, put_row, hroom, hroom2, hcl, hw, Nat.add_assoc, SXR, noA, isAl, kA, udf, AOp.dst, Nat.beq, putAt, bldE, evIo, isNil, Nat.ble, Int.reduceAdd, Int.reduceSub, Int.reduceNeg, Int.reduceBNe, Nat.reduceEqDiff, Nat.reduceSub, Nat.reduceAdd, Nat.reduceLeDiff, Nat.reduceBEq, Nat.reduceLT, Nat.reduceMul, Int.reduceBEq, Int.reduceLT, Int.reduceLE, reduceIte, reduceCtorEq]))
      exact IH (i + 1 + 1) _ _ (by exact ⟨_, _, _, rfl, congrArg (_ :: ·) (congrArg (_ :: ·) (congrArg (_ :: ·) snoc3)), by simp, hcs'⟩) hlt (by omega)
    · have hd := ltn hlt
      clear IH
      have e : ags.length = i + 1 := by omega
      have hcs2 : cs = (Ex.rows ags).flatten := by rw [hcs, ← e, cells_all, rows_map]
      have hrl : (Ex.rows ags).length = i + 1 := by rw [rows_len, e]
      cases b with
      | true =>
        repeat' (first
          | ((with_reducible refine k_cons ?rdq ?_); (case rdq => refine rck_mk rfl ?_ ?_ <;> simp only [Option.isSome_some, qt_n, qt_r, rows_len, hd, NEqn.row, Ex.row, hv, Nat.add_assoc, SXR, noA, isAl, kA, udf, AOp.dst, Nat.beq, putAt, bldE, evIo, isNil, Nat.ble, Int.reduceAdd, Int.reduceSub, Int.reduceNeg, Int.reduceBNe, Nat.reduceEqDiff, Nat.reduceSub, Nat.reduceAdd, Nat.reduceLeDiff, Nat.reduceBEq, Nat.reduceLT, Nat.reduceMul, Int.reduceBEq, Int.reduceLT, Int.reduceLE, reduceIte, reduceCtorEq]))
          | (simp only [c24, qt_n, qt_r, rows_len, hd, NEqn.row, Ex.row, hv, Nat.add_assoc, SXR, noA, isAl, kA, udf, AOp.dst, Nat.beq, putAt, bldE, evIo, isNil, Nat.ble, Int.reduceAdd, Int.reduceSub, Int.reduceNeg, Int.reduceBNe, Nat.reduceEqDiff, Nat.reduceSub, Nat.reduceAdd, Nat.reduceLeDiff, Nat.reduceBEq, Nat.reduceLT, Nat.reduceMul, Int.reduceBEq, Int.reduceLT, Int.reduceLE, reduceIte, reduceCtorEq]))
        exact Sl.ag ⟨.same _, .same _, .same _, .same _, .same _, Se.flat' hp_ap0 hcs2 hrl trivial rows_w, trivial⟩
      | false =>
        repeat' (first
          | ((with_reducible refine k_cons ?rdq ?_); (case rdq => refine rck_mk rfl ?_ ?_ <;> simp only [Option.isSome_some, qt_n, qt_r, rows_len, hd, NEqn.row, Ex.row, hv, hroom, hroom2, hcl, Nat.add_assoc, SXR, noA, isAl, kA, udf, AOp.dst, Nat.beq, putAt, bldE, evIo, isNil, Nat.ble, Int.reduceAdd, Int.reduceSub, Int.reduceNeg, Int.reduceBNe, Nat.reduceEqDiff, Nat.reduceSub, Nat.reduceAdd, Nat.reduceLeDiff, Nat.reduceBEq, Nat.reduceLT, Nat.reduceMul, Int.reduceBEq, Int.reduceLT, Int.reduceLE, reduceIte, reduceCtorEq]))
          | (simp only [c24, qt_n, qt_r, rows_len, hd, NEqn.row, Ex.row, hv, hroom, hroom2, hcl, Nat.add_assoc, SXR, noA, isAl, kA, udf, AOp.dst, Nat.beq, putAt, bldE, evIo, isNil, Nat.ble, Int.reduceAdd, Int.reduceSub, Int.reduceNeg, Int.reduceBNe, Nat.reduceEqDiff, Nat.reduceSub, Nat.reduceAdd, Nat.reduceLeDiff, Nat.reduceBEq, Nat.reduceLT, Nat.reduceMul, Int.reduceBEq, Int.reduceLT, Int.reduceLE, reduceIte, reduceCtorEq]))
        refine Sl.ag ⟨.same _, .same _, .same _, .same _, .same _, ?_, trivial⟩
        have hy : Ex.rows (ags ++ [vrb every]) = Ex.rows ags ++ [[.i .i64 2, .i .i64 0, .i .i64 0, .i .i64 0, .s every.1 every.2, .ts []]] := by rw [rows_app]; rfl
        exact Se.rowsL (rs := Ex.rows ags ++ [[.i .i64 2, .i .i64 0, .i .i64 0, .i .i64 0, .s every.1 every.2, .ns]]) hp_apk (by simp [hcs2]) (by simp [hrl]) trivial
          (by intro r hr; rcases List.mem_append.1 hr with h | h; exact rows_w r h; simp at h; subst h; rfl) rows_w
          (by rw [hy]; refine Sll.snoc ?_; exact ⟨.same _, .same _, .same _, .same _, .same _, .nil, trivial⟩)
end Go.Proofs.YtaopnjogkgldlaaGreatDoor
