/-
  Bounds; the contracts of the functions that look for one.
-/
import Derived.Test.YtmdaaicmkmgkfaaGreatDoorTab
import Derived.Test.YtmdaaicmkmgkfaaGreatDoorBT
set_option linter.unusedSimpArgs false
set_option linter.unusedVariables false
namespace Go.Proofs.YtmdaaicmkmgkfaaGreatDoor
open Go Go.B
/-- a bound: the node's and the variable's name, the interval -/
structure Bd where
  nl : Nat
  nn : Nat
  ml : Nat
  mn : Nat
  lo : Int
  hi : Int
def Bd.row (b : Bd) : List V := [.s b.nl b.nn, .s b.ml b.mn, .i .i64 b.lo, .i .i64 b.hi]
abbrev rows (l : List Bd) : List (List V) := l.map Bd.row
theorem row_len (b : Bd) : b.row.length = 4 := rfl
theorem row_take (b : Bd) : b.row.take 4 = b.row := rfl
theorem row_cl (b : Bd) : clL b.row = true := by simp only [Bd.row, clL, V.cl, Bool.and_self]
theorem rows_cl : ∀ l : List Bd, clR (rows l) = true
  | [] => by simp only [rows, List.map_nil, clR]
  | e :: l => by
    have := rows_cl l
    simp only [rows] at this
    simp only [rows, List.map_cons, clR, row_cl e, this, Bool.and_self]
theorem rows_len (l : List Bd) : (rows l).length = l.length := by simp
/-- is it the one? -/
def Bd.is (b : Bd) (al an bl bn : Nat) : Bool := (b.nl == al && b.nn == an) && (b.ml == bl && b.mn == bn)
def fnd (al an bl bn : Nat) : List Bd → Int × Int × Bool
  | [] => (0, 0, false)
  | b :: l => if b.is al an bl bn then (b.lo, b.hi, true) else fnd al an bl bn l
theorem at_some {l : List Bd} {i : Nat} (h : i < l.length) : ∃ x, l[i]? = some x ∧ x ∈ l := ⟨l[i], by simp [h], List.getElem_mem h⟩
theorem drop_at {l : List Bd} {i : Nat} {x : Bd} (h : l[i]? = some x) : l.drop i = x :: l.drop (i + 1) := by
  obtain ⟨hi, rfl⟩ := List.getElem?_eq_some_iff.1 h
  exact List.drop_eq_getElem_cons hi
/-- what a search hands back -/
abbrev rF (r : Int × Int × Bool) : V := .tu [.ag [.i .i64 r.1, .i .i64 r.2.1], .b r.2.2]
theorem f6 (l : List Bd) (al an bl bn : Nat) (hn : l.length ≤ 100000) : PC Tryz.prog 6 [.ts (rows l), .s al an, .s bl bn] (rF (fnd al an bl bn l)) := by
  refine pc_of Tryz.func6 k6 rfl ?_
  repeat' (first
    | ((with_reducible refine cnd_intro (fun h => ?_) (fun h => ?_)) <;> simp only [h, SXR, noA, isAl, udf, AOp.dst, Nat.beq, putAt, bldE, evIo, isNil, Nat.ble, Int.reduceAdd, Int.reduceSub, Int.reduceNeg, Int.reduceBNe, Nat.reduceEqDiff, Nat.reduceSub, Nat.reduceAdd, Nat.reduceLeDiff, Nat.reduceBEq, Nat.reduceLT, Nat.reduceMul, Int.reduceBEq, Int.reduceLT, Int.reduceLE, reduceIte, reduceCtorEq])
    | ((with_reducible refine k_cons ?rdq ?_); (case rdq => refine rck_mk rfl ?_ ?_ <;> simp only [Option.isSome_some, SXR, noA, isAl, udf, AOp.dst, Nat.beq, putAt, bldE, evIo, isNil, Nat.ble, Int.reduceAdd, Int.reduceSub, Int.reduceNeg, Int.reduceBNe, Nat.reduceEqDiff, Nat.reduceSub, Nat.reduceAdd, Nat.reduceLeDiff, Nat.reduceBEq, Nat.reduceLT, Nat.reduceMul, Int.reduceBEq, Int.reduceLT, Int.reduceLE, reduceIte, reduceCtorEq]))
    | (simp only [c6, SXR, noA, isAl, udf, AOp.dst, Nat.beq, putAt, bldE, evIo, isNil, Nat.ble, Int.reduceAdd, Int.reduceSub, Int.reduceNeg, Int.reduceBNe, Nat.reduceEqDiff, Nat.reduceSub, Nat.reduceAdd, Nat.reduceLeDiff, Nat.reduceBEq, Nat.reduceLT, Nat.reduceMul, Int.reduceBEq, Int.reduceLT, Int.reduceLE, reduceIte, reduceCtorEq]))
  refine Lp_ind (X := Nat) (fun i ll hs => ∃ j3 j4 j5 j9 j10 j11 j12 j13 j14 j15 j16 j17 j18 j19 j20 j21 j22 j23 j24 j25 j26 j27 j28 j29 j30 j31 j32 j33 j34 j35 j36 : V, ll = [.ts (rows l), .s al an, .s bl bn, j3, j4, j5, .p 0 0, .b false, .i .i64 (i : Int), j9, j10, j11, j12, j13, j14, j15, j16, j17, j18, j19, j20, j21, j22, j23, j24, j25, j26, j27, j28, j29, j30, j31, j32, j33, j34, j35, j36] ∧ hs = [.c false [.i .i64 0, .i .i64 0]])
    (fun i => i ≤ l.length ∧ fnd al an bl bn l = fnd al an bl bn (l.drop i)) (fun i => l.length - i) ?_ 0 _ _ ⟨_, _, _, _, _, _, _, _, _, _, _, _, _, _, _, _, _, _, _, _, _, _, _, _, _, _, _, _, _, _, _, rfl, rfl⟩ ⟨Nat.zero_le _, rfl⟩
  rintro i _ _ ⟨j3, j4, j5, j9, j10, j11, j12, j13, j14, j15, j16, j17, j18, j19, j20, j21, j22, j23, j24, j25, j26, j27, j28, j29, j30, j31, j32, j33, j34, j35, j36, rfl, rfl⟩ ⟨hi, hfi⟩ IH
  by_cases hlt : i < l.length
  · have hlt1 : decide ((i : Int) < (l.length : Int)) = true := by simp; omega
    obtain ⟨x, hx, hxm⟩ := at_some hlt
    have hxr : (rows l)[i]? = some [.s x.nl x.nn, .s x.ml x.mn, .i .i64 x.lo, .i .i64 x.hi] := by simp [hx, Bd.row]
    have hw := wrap_len (n := i) (by omega)
    have hd := drop_at hx
    have hfd : fnd al an bl bn l = if x.is al an bl bn then (x.lo, x.hi, true) else fnd al an bl bn (l.drop (i + 1)) := by rw [hfi, hd]; rfl
    cases h1 : (x.nl == al && x.nn == an) with
    | false =>
      have hf : x.is al an bl bn = false := by simp [Bd.is, h1]
      repeat' (first
        | ((with_reducible refine cnd_intro (fun h => ?_) (fun h => ?_)) <;> simp only [h, hlt1, hxr, h1, rows_len, rows_cl, hw, SXR, noA, isAl, udf, AOp.dst, Nat.beq, putAt, bldE, evIo, isNil, Nat.ble, Int.reduceAdd, Int.reduceSub, Int.reduceNeg, Int.reduceBNe, Nat.reduceEqDiff, Nat.reduceSub, Nat.reduceAdd, Nat.reduceLeDiff, Nat.reduceBEq, Nat.reduceLT, Nat.reduceMul, Int.reduceBEq, Int.reduceLT, Int.reduceLE, reduceIte, reduceCtorEq])
        | ((with_reducible refine k_cons ?rdq ?_); (case rdq => refine rck_mk rfl ?_ ?_ <;> simp only [Option.isSome_some, hlt1, hxr, h1, rows_len, rows_cl, hw, SXR, noA, isAl, udf, AOp.dst, Nat.beq, putAt, bldE, evIo, isNil, Nat.ble, Int.reduceAdd, Int.reduceSub, Int.reduceNeg, Int.reduceBNe, Nat.reduceEqDiff, Nat.reduceSub, Nat.reduceAdd, Nat.reduceLeDiff, Nat.reduceBEq, Nat.reduceLT, Nat.reduceMul, Int.reduceBEq, Int.reduceLT, Int.reduceLE, reduceIte, reduceCtorEq]))
        | (simp only [c6, hlt1, hxr, h1, rows_len, rows_cl, hw, SXR, noA, isAl, udf, AOp.dst, Nat.beq, putAt, bldE, evIo, isNil, Nat.ble, Int.reduceAdd, Int.reduceSub, Int.reduceNeg, Int.reduceBNe, Nat.reduceEqDiff, Nat.reduceSub, Nat.reduceAdd, Nat.reduceLeDiff, Nat.reduceBEq, Nat.reduceLT, Nat.reduceMul, Int.reduceBEq, Int.reduceLT, Int.reduceLE, reduceIte, reduceCtorEq]))
      refine IH (i + 1) _ _ ⟨_, _, _, _, _, _, _, _, _, _, _, _, _, _, _, _, _, _, _, _, _, _, _, _, _, _, _, _, _, _, _, rfl, rfl⟩ ⟨by omega, ?_⟩ (by omega)
      rw [hfd, hf]; rfl
    | true =>
      cases h2 : (x.ml == bl && x.mn == bn) with
      | false =>
        have hf : x.is al an bl bn = false := by simp [Bd.is, h2]
        repeat' (first
          | ((with_reducible refine cnd_intro (fun h => ?_) (fun h => ?_)) <;> simp only [h, hlt1, hxr, h1, h2, rows_len, rows_cl, hw, SXR, noA, isAl, udf, AOp.dst, Nat.beq, putAt, bldE, evIo, isNil, Nat.ble, Int.reduceAdd, Int.reduceSub, Int.reduceNeg, Int.reduceBNe, Nat.reduceEqDiff, Nat.reduceSub, Nat.reduceAdd, Nat.reduceLeDiff, Nat.reduceBEq, Nat.reduceLT, Nat.reduceMul, Int.reduceBEq, Int.reduceLT, Int.reduceLE, reduceIte, reduceCtorEq])
          | ((with_reducible refine k_cons ?rdq ?_); (case rdq => refine rck_mk rfl ?_ ?_ <;> simp only [Option.isSome_some, hlt1, hxr, h1, h2, rows_len, rows_cl, hw, SXR, noA, isAl, udf, AOp.dst, Nat.beq, putAt, bldE, evIo, isNil, Nat.ble, Int.reduceAdd, Int.reduceSub, Int.reduceNeg, Int.reduceBNe, Nat.reduceEqDiff, Nat.reduceSub, Nat.reduceAdd, Nat.reduceLeDiff, Nat.reduceBEq, Nat.reduceLT, Nat.reduceMul, Int.reduceBEq, Int.reduceLT, Int.reduceLE, reduceIte, reduceCtorEq]))
          | (simp only [c6, hlt1, hxr, h1, h2, rows_len, rows_cl, hw, SXR, noA, isAl, udf, AOp.dst, Nat.beq, putAt, bldE, evIo, isNil, Nat.ble, Int.reduceAdd, Int.reduceSub, Int.reduceNeg, Int.reduceBNe, Nat.reduceEqDiff, Nat.reduceSub, Nat.reduceAdd, Nat.reduceLeDiff, Nat.reduceBEq, Nat.reduceLT, Nat.reduceMul, Int.reduceBEq, Int.reduceLT, Int.reduceLE, reduceIte, reduceCtorEq]))
        refine IH (i + 1) _ _ ⟨_, _, _, _, _, _, _, _, _, _, _, _, _, _, _, _, _, _, _, _, _, _, _, _, _, _, _, _, _, _, _, rfl, rfl⟩ ⟨by omega, ?_⟩ (by omega)
        rw [hfd, hf]; rfl
      | true =>
        have hf : x.is al an bl bn = true := by simp [Bd.is, h1, h2]
        clear IH
        repeat' (first
          | ((with_reducible refine cnd_intro (fun h => ?_) (fun h => ?_)) <;> simp only [h, hlt1, hxr, h1, h2, rows_len, rows_cl, hw, SXR, noA, isAl, udf, AOp.dst, Nat.beq, putAt, bldE, evIo, isNil, Nat.ble, Int.reduceAdd, Int.reduceSub, Int.reduceNeg, Int.reduceBNe, Nat.reduceEqDiff, Nat.reduceSub, Nat.reduceAdd, Nat.reduceLeDiff, Nat.reduceBEq, Nat.reduceLT, Nat.reduceMul, Int.reduceBEq, Int.reduceLT, Int.reduceLE, reduceIte, reduceCtorEq])
          | ((with_reducible refine k_cons ?rdq ?_); (case rdq => refine rck_mk rfl ?_ ?_ <;> simp only [Option.isSome_some, hlt1, hxr, h1, h2, rows_len, rows_cl, hw, SXR, noA, isAl, udf, AOp.dst, Nat.beq, putAt, bldE, evIo, isNil, Nat.ble, Int.reduceAdd, Int.reduceSub, Int.reduceNeg, Int.reduceBNe, Nat.reduceEqDiff, Nat.reduceSub, Nat.reduceAdd, Nat.reduceLeDiff, Nat.reduceBEq, Nat.reduceLT, Nat.reduceMul, Int.reduceBEq, Int.reduceLT, Int.reduceLE, reduceIte, reduceCtorEq]))
          | (simp only [c6, hlt1, hxr, h1, h2, rows_len, rows_cl, hw, SXR, noA, isAl, udf, AOp.dst, Nat.beq, putAt, bldE, evIo, isNil, Nat.ble, Int.reduceAdd, Int.reduceSub, Int.reduceNeg, Int.reduceBNe, Nat.reduceEqDiff, Nat.reduceSub, Nat.reduceAdd, Nat.reduceLeDiff, Nat.reduceBEq, Nat.reduceLT, Nat.reduceMul, Int.reduceBEq, Int.reduceLT, Int.reduceLE, reduceIte, reduceCtorEq]))
        rw [hfd, hf]; rfl
  · have hlt1 : decide ((i : Int) < (l.length : Int)) = false := by simp; omega
    clear IH
    repeat' (first
      | ((with_reducible refine cnd_intro (fun h => ?_) (fun h => ?_)) <;> simp only [h, hlt1, rows_len, SXR, noA, isAl, udf, AOp.dst, Nat.beq, putAt, bldE, evIo, isNil, Nat.ble, Int.reduceAdd, Int.reduceSub, Int.reduceNeg, Int.reduceBNe, Nat.reduceEqDiff, Nat.reduceSub, Nat.reduceAdd, Nat.reduceLeDiff, Nat.reduceBEq, Nat.reduceLT, Nat.reduceMul, Int.reduceBEq, Int.reduceLT, Int.reduceLE, reduceIte, reduceCtorEq])
      | ((with_reducible refine k_cons ?rdq ?_); (case rdq => refine rck_mk rfl ?_ ?_ <;> simp only [Option.isSome_some, hlt1, rows_len, SXR, noA, isAl, udf, AOp.dst, Nat.beq, putAt, bldE, evIo, isNil, Nat.ble, Int.reduceAdd, Int.reduceSub, Int.reduceNeg, Int.reduceBNe, Nat.reduceEqDiff, Nat.reduceSub, Nat.reduceAdd, Nat.reduceLeDiff, Nat.reduceBEq, Nat.reduceLT, Nat.reduceMul, Int.reduceBEq, Int.reduceLT, Int.reduceLE, reduceIte, reduceCtorEq]))
      | (simp only [c6, hlt1, rows_len, SXR, noA, isAl, udf, AOp.dst, Nat.beq, putAt, bldE, evIo, isNil, Nat.ble, Int.reduceAdd, Int.reduceSub, Int.reduceNeg, Int.reduceBNe, Nat.reduceEqDiff, Nat.reduceSub, Nat.reduceAdd, Nat.reduceLeDiff, Nat.reduceBEq, Nat.reduceLT, Nat.reduceMul, Int.reduceBEq, Int.reduceLT, Int.reduceLE, reduceIte, reduceCtorEq]))
    have : i = l.length := by omega
    subst this
    rw [hfi, List.drop_length]; rfl
theorem f5 (l : List Bd) (al an bl bn : Nat) (hn : l.length ≤ 100000) : PC Tryz.prog 5 [.ts (rows l), .s al an, .s bl bn] (rF (fnd al an bl bn l)) := by
  refine pc_of Tryz.func5 k5 rfl ?_
  repeat' (first
    | ((with_reducible refine cnd_intro (fun h => ?_) (fun h => ?_)) <;> simp only [h, rows_len, SXR, noA, isAl, udf, AOp.dst, Nat.beq, putAt, bldE, evIo, isNil, Nat.ble, Int.reduceAdd, Int.reduceSub, Int.reduceNeg, Int.reduceBNe, Nat.reduceEqDiff, Nat.reduceSub, Nat.reduceAdd, Nat.reduceLeDiff, Nat.reduceBEq, Nat.reduceLT, Nat.reduceMul, Int.reduceBEq, Int.reduceLT, Int.reduceLE, reduceIte, reduceCtorEq])
    | ((with_reducible refine k_cons ?rdq ?_); (case rdq => refine rck_mk rfl ?_ ?_ <;> simp only [Option.isSome_some, rows_len, SXR, noA, isAl, udf, AOp.dst, Nat.beq, putAt, bldE, evIo, isNil, Nat.ble, Int.reduceAdd, Int.reduceSub, Int.reduceNeg, Int.reduceBNe, Nat.reduceEqDiff, Nat.reduceSub, Nat.reduceAdd, Nat.reduceLeDiff, Nat.reduceBEq, Nat.reduceLT, Nat.reduceMul, Int.reduceBEq, Int.reduceLT, Int.reduceLE, reduceIte, reduceCtorEq]))
    | (simp only [c5, rows_len, SXR, noA, isAl, udf, AOp.dst, Nat.beq, putAt, bldE, evIo, isNil, Nat.ble, Int.reduceAdd, Int.reduceSub, Int.reduceNeg, Int.reduceBNe, Nat.reduceEqDiff, Nat.reduceSub, Nat.reduceAdd, Nat.reduceLeDiff, Nat.reduceBEq, Nat.reduceLT, Nat.reduceMul, Int.reduceBEq, Int.reduceLT, Int.reduceLE, reduceIte, reduceCtorEq]))
  refine Lp_ind (X := Nat) (fun i ll hs => ∃ js : List O, ∃ j3 j4 j5 j8 j9 j13 j14 j15 j16 j17 j18 j19 j20 j21 j22 j23 j24 j25 j26 j27 j28 j29 : V, ll = [.ts (rows l), .s al an, .s bl bn, j3, j4, j5, .p 0 0, .b false, j8, j9, .ts (rows l), .i .i64 (l.length : Int), .i .i64 (i : Int), j13, j14, j15, j16, j17, j18, j19, j20, j21, j22, j23, j24, j25, j26, j27, j28, j29] ∧ hs = .c false [.i .i64 0, .i .i64 0] :: js)
    (fun i => i ≤ l.length ∧ fnd al an bl bn l = fnd al an bl bn (l.drop i)) (fun i => l.length - i) ?_ 0 _ _ ⟨[], _, _, _, _, _, _, _, _, _, _, _, _, _, _, _, _, _, _, _, _, _, _, rfl, rfl⟩ ⟨Nat.zero_le _, rfl⟩
  rintro i _ _ ⟨js, j3, j4, j5, j8, j9, j13, j14, j15, j16, j17, j18, j19, j20, j21, j22, j23, j24, j25, j26, j27, j28, j29, rfl, rfl⟩ ⟨hi, hfi⟩ IH
  by_cases hlt : i < l.length
  · have hlt1 : decide ((i : Int) < (l.length : Int)) = true := by simp; omega
    obtain ⟨x, hx, hxm⟩ := at_some hlt
    have hxr : (rows l)[i]? = some [.s x.nl x.nn, .s x.ml x.mn, .i .i64 x.lo, .i .i64 x.hi] := by simp [hx, Bd.row]
    have hw := wrap_len (n := i) (by omega)
    have hd := drop_at hx
    have hfd : fnd al an bl bn l = if x.is al an bl bn then (x.lo, x.hi, true) else fnd al an bl bn (l.drop (i + 1)) := by rw [hfi, hd]; rfl
    cases h1 : (x.nl == al && x.nn == an) with
    | false =>
      have hf : x.is al an bl bn = false := by simp [Bd.is, h1]
      repeat' (first
        | ((with_reducible refine cnd_intro (fun h => ?_) (fun h => ?_)) <;> simp only [h, hlt1, hxr, h1, rows_len, rows_cl, hw, SXR, noA, isAl, udf, AOp.dst, Nat.beq, putAt, bldE, evIo, isNil, Nat.ble, Int.reduceAdd, Int.reduceSub, Int.reduceNeg, Int.reduceBNe, Nat.reduceEqDiff, Nat.reduceSub, Nat.reduceAdd, Nat.reduceLeDiff, Nat.reduceBEq, Nat.reduceLT, Nat.reduceMul, Int.reduceBEq, Int.reduceLT, Int.reduceLE, reduceIte, reduceCtorEq])
        | ((with_reducible refine k_cons ?rdq ?_); (case rdq => refine rck_mk rfl ?_ ?_ <;> simp only [Option.isSome_some, hlt1, hxr, h1, rows_len, rows_cl, hw, SXR, noA, isAl, udf, AOp.dst, Nat.beq, putAt, bldE, evIo, isNil, Nat.ble, Int.reduceAdd, Int.reduceSub, Int.reduceNeg, Int.reduceBNe, Nat.reduceEqDiff, Nat.reduceSub, Nat.reduceAdd, Nat.reduceLeDiff, Nat.reduceBEq, Nat.reduceLT, Nat.reduceMul, Int.reduceBEq, Int.reduceLT, Int.reduceLE, reduceIte, reduceCtorEq]))
        | (simp only [c5, hlt1, hxr, h1, rows_len, rows_cl, hw, SXR, noA, isAl, udf, AOp.dst, Nat.beq, putAt, bldE, evIo, isNil, Nat.ble, Int.reduceAdd, Int.reduceSub, Int.reduceNeg, Int.reduceBNe, Nat.reduceEqDiff, Nat.reduceSub, Nat.reduceAdd, Nat.reduceLeDiff, Nat.reduceBEq, Nat.reduceLT, Nat.reduceMul, Int.reduceBEq, Int.reduceLT, Int.reduceLE, reduceIte, reduceCtorEq]))
      refine IH (i + 1) _ _ ⟨_, _, _, _, _, _, _, _, _, _, _, _, _, _, _, _, _, _, _, _, _, _, _, rfl, rfl⟩ ⟨by omega, ?_⟩ (by omega)
      rw [hfd, hf]; rfl
    | true =>
      cases h2 : (x.ml == bl && x.mn == bn) with
      | false =>
        have hf : x.is al an bl bn = false := by simp [Bd.is, h2]
        repeat' (first
          | ((with_reducible refine cnd_intro (fun h => ?_) (fun h => ?_)) <;> simp only [h, hlt1, hxr, h1, h2, rows_len, rows_cl, hw, SXR, noA, isAl, udf, AOp.dst, Nat.beq, putAt, bldE, evIo, isNil, Nat.ble, Int.reduceAdd, Int.reduceSub, Int.reduceNeg, Int.reduceBNe, Nat.reduceEqDiff, Nat.reduceSub, Nat.reduceAdd, Nat.reduceLeDiff, Nat.reduceBEq, Nat.reduceLT, Nat.reduceMul, Int.reduceBEq, Int.reduceLT, Int.reduceLE, reduceIte, reduceCtorEq])
          | ((with_reducible refine k_cons ?rdq ?_); (case rdq => refine rck_mk rfl ?_ ?_ <;> simp only [Option.isSome_some, hlt1, hxr, h1, h2, rows_len, rows_cl, hw, SXR, noA, isAl, udf, AOp.dst, Nat.beq, putAt, bldE, evIo, isNil, Nat.ble, Int.reduceAdd, Int.reduceSub, Int.reduceNeg, Int.reduceBNe, Nat.reduceEqDiff, Nat.reduceSub, Nat.reduceAdd, Nat.reduceLeDiff, Nat.reduceBEq, Nat.reduceLT, Nat.reduceMul, Int.reduceBEq, Int.reduceLT, Int.reduceLE, reduceIte, reduceCtorEq]))
          | (simp only [c5, hlt1, hxr, h1, h2, rows_len, rows_cl, hw, SXR, noA, isAl, udf, AOp.dst, Nat.beq, putAt, bldE, evIo, isNil, Nat.ble, Int.reduceAdd, Int.reduceSub, Int.reduceNeg, Int.reduceBNe, Nat.reduceEqDiff, Nat.reduceSub, Nat.reduceAdd, Nat.reduceLeDiff, Nat.reduceBEq, Nat.reduceLT, Nat.reduceMul, Int.reduceBEq, Int.reduceLT, Int.reduceLE, reduceIte, reduceCtorEq]))
        refine IH (i + 1) _ _ ⟨_, _, _, _, _, _, _, _, _, _, _, _, _, _, _, _, _, _, _, _, _, _, _, rfl, rfl⟩ ⟨by omega, ?_⟩ (by omega)
        rw [hfd, hf]; rfl
      | true =>
        have hf : x.is al an bl bn = true := by simp [Bd.is, h1, h2]
        clear IH
        repeat' (first
          | ((with_reducible refine cnd_intro (fun h => ?_) (fun h => ?_)) <;> simp only [h, hlt1, hxr, h1, h2, rows_len, rows_cl, hw, SXR, noA, isAl, udf, AOp.dst, Nat.beq, putAt, bldE, evIo, isNil, Nat.ble, Int.reduceAdd, Int.reduceSub, Int.reduceNeg, Int.reduceBNe, Nat.reduceEqDiff, Nat.reduceSub, Nat.reduceAdd, Nat.reduceLeDiff, Nat.reduceBEq, Nat.reduceLT, Nat.reduceMul, Int.reduceBEq, Int.reduceLT, Int.reduceLE, reduceIte, reduceCtorEq])
          | ((with_reducible refine k_cons ?rdq ?_); (case rdq => refine rck_mk rfl ?_ ?_ <;> simp only [Option.isSome_some, hlt1, hxr, h1, h2, rows_len, rows_cl, hw, SXR, noA, isAl, udf, AOp.dst, Nat.beq, putAt, bldE, evIo, isNil, Nat.ble, Int.reduceAdd, Int.reduceSub, Int.reduceNeg, Int.reduceBNe, Nat.reduceEqDiff, Nat.reduceSub, Nat.reduceAdd, Nat.reduceLeDiff, Nat.reduceBEq, Nat.reduceLT, Nat.reduceMul, Int.reduceBEq, Int.reduceLT, Int.reduceLE, reduceIte, reduceCtorEq]))
          | (simp only [c5, hlt1, hxr, h1, h2, rows_len, rows_cl, hw, SXR, noA, isAl, udf, AOp.dst, Nat.beq, putAt, bldE, evIo, isNil, Nat.ble, Int.reduceAdd, Int.reduceSub, Int.reduceNeg, Int.reduceBNe, Nat.reduceEqDiff, Nat.reduceSub, Nat.reduceAdd, Nat.reduceLeDiff, Nat.reduceBEq, Nat.reduceLT, Nat.reduceMul, Int.reduceBEq, Int.reduceLT, Int.reduceLE, reduceIte, reduceCtorEq]))
        rw [hfd, hf]; rfl
  · have hlt1 : decide ((i : Int) < (l.length : Int)) = false := by simp; omega
    clear IH
    repeat' (first
      | ((with_reducible refine cnd_intro (fun h => ?_) (fun h => ?_)) <;> simp only [h, hlt1, rows_len, SXR, noA, isAl, udf, AOp.dst, Nat.beq, putAt, bldE, evIo, isNil, Nat.ble, Int.reduceAdd, Int.reduceSub, Int.reduceNeg, Int.reduceBNe, Nat.reduceEqDiff, Nat.reduceSub, Nat.reduceAdd, Nat.reduceLeDiff, Nat.reduceBEq, Nat.reduceLT, Nat.reduceMul, Int.reduceBEq, Int.reduceLT, Int.reduceLE, reduceIte, reduceCtorEq])
      | ((with_reducible refine k_cons ?rdq ?_); (case rdq => refine rck_mk rfl ?_ ?_ <;> simp only [Option.isSome_some, hlt1, rows_len, SXR, noA, isAl, udf, AOp.dst, Nat.beq, putAt, bldE, evIo, isNil, Nat.ble, Int.reduceAdd, Int.reduceSub, Int.reduceNeg, Int.reduceBNe, Nat.reduceEqDiff, Nat.reduceSub, Nat.reduceAdd, Nat.reduceLeDiff, Nat.reduceBEq, Nat.reduceLT, Nat.reduceMul, Int.reduceBEq, Int.reduceLT, Int.reduceLE, reduceIte, reduceCtorEq]))
      | (simp only [c5, hlt1, rows_len, SXR, noA, isAl, udf, AOp.dst, Nat.beq, putAt, bldE, evIo, isNil, Nat.ble, Int.reduceAdd, Int.reduceSub, Int.reduceNeg, Int.reduceBNe, Nat.reduceEqDiff, Nat.reduceSub, Nat.reduceAdd, Nat.reduceLeDiff, Nat.reduceBEq, Nat.reduceLT, Nat.reduceMul, Int.reduceBEq, Int.reduceLT, Int.reduceLE, reduceIte, reduceCtorEq]))
    have : i = l.length := by omega
    subst this
    rw [hfi, List.drop_length]; rfl
end Go.Proofs.YtmdaaicmkmgkfaaGreatDoor
