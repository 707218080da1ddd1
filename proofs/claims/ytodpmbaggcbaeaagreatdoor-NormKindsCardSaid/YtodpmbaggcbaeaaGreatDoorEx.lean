/-
  Expressions; the contracts of the functions that ask their kind.
-/
import Derived.Test.YtodpmbaggcbaeaaGreatDoorTab
import Derived.Test.YtodpmbaggcbaeaaGreatDoorBT
set_option linter.unusedSimpArgs false
set_option linter.unusedVariables false
namespace Go.Proofs.YtodpmbaggcbaeaaGreatDoor
open Go Go.B
/-- expressions -/
inductive Ex where
  | mk (k op t v : Int) (nl nn : Nat) (args : List Ex)
mutual
def Ex.row : Ex → List V
  | .mk k op t v nl nn rs => [.i .i64 k, .i .i64 op, .i .i64 t, .i .i64 v, .s nl nn, .ts (Ex.rows rs)]
def Ex.rows : List Ex → List (List V)
  | [] => []
  | e :: l => e.row :: Ex.rows l
end
def Ex.k : Ex → Int | .mk k _ _ _ _ _ _ => k
def Ex.args : Ex → List Ex | .mk _ _ _ _ _ _ rs => rs
theorem rows_map (l : List Ex) : Ex.rows l = l.map Ex.row := by
  induction l with
  | nil => rfl
  | cons e l ih => simp [Ex.rows, ih]
theorem rows_get (l : List Ex) (j : Nat) : (Ex.rows l)[j]? = (l[j]?).map Ex.row := by rw [rows_map, List.getElem?_map]
theorem rows_len (l : List Ex) : (Ex.rows l).length = l.length := by rw [rows_map, List.length_map]
mutual
theorem row_cl : ∀ e : Ex, clL e.row = true
  | .mk k op t v nl nn rs => by simp only [Ex.row, clL, V.cl, rows_cl rs, Bool.and_self]
theorem rows_cl : ∀ l : List Ex, clR (Ex.rows l) = true
  | [] => by simp only [Ex.rows, clR]
  | e :: l => by simp only [Ex.rows, clR, row_cl e, rows_cl l, Bool.and_self]
end
mutual
def Ex.sz : Ex → Nat
  | .mk _ _ _ _ _ _ l => 1 + Ex.szs l
def Ex.szs : List Ex → Nat
  | [] => 0
  | e :: l => Ex.sz e + Ex.szs l
end
theorem sz_mem {e : Ex} : ∀ {l : List Ex}, e ∈ l → e.sz ≤ Ex.szs l
  | x :: l, h => by
    rcases List.mem_cons.1 h with rfl | h
    · simp [Ex.szs]
    · have := sz_mem h; simp [Ex.szs]; omega
theorem sz_pos (e : Ex) : 1 ≤ e.sz := by cases e; simp [Ex.sz]
theorem szs_len : ∀ (l : List Ex), l.length ≤ Ex.szs l
  | [] => by simp
  | e :: l => by have := szs_len l; have := sz_pos e; simp [Ex.szs]; omega
theorem szs_app : ∀ (a b : List Ex), Ex.szs (a ++ b) = Ex.szs a + Ex.szs b
  | [], b => by simp [Ex.szs]
  | e :: a, b => by simp [Ex.szs, szs_app a b]; omega
theorem szs_take {l : List Ex} {i : Nat} {x : Ex} (h : l[i]? = some x) : Ex.szs (l.take (i + 1)) = Ex.szs (l.take i) + x.sz := by
  rw [List.take_add_one, h, szs_app]; simp [Ex.szs]
theorem at_some {l : List Ex} {i : Nat} (h : i < l.length) : ∃ x, l[i]? = some x ∧ x ∈ l := ⟨l[i], by simp [h], List.getElem_mem h⟩
theorem row_len (e : Ex) : e.row.length = 6 := by cases e; rfl
theorem row_take (e : Ex) : e.row.take 6 = e.row := by cases e; rfl
/-- an expression as a value -/
abbrev xg (e : Ex) : V := .ag e.row
theorem f16 (e : Ex) : PC Tryz.prog 16 [xg e] (.b (e.k == 2 || e.k == 1)) := by
  obtain ⟨k, op, t, v, nl, nn, args⟩ := e
  refine pc_of Tryz.func16 k16 rfl ?_
  repeat' (first
    | ((with_reducible refine cnd_intro (fun h => ?_) (fun h => ?_)) <;> simp only [h, Ex.row, Ex.k, SXR, noA, isAl, udf, AOp.dst, Nat.beq, putAt, bldE, evIo, isNil, Nat.ble, Int.reduceAdd, Int.reduceSub, Int.reduceNeg, Int.reduceBNe, Nat.reduceEqDiff, Nat.reduceSub, Nat.reduceAdd, Nat.reduceLeDiff, Nat.reduceBEq, Nat.reduceLT, Nat.reduceMul, Int.reduceBEq, Int.reduceLT, Int.reduceLE, reduceIte, reduceCtorEq])
    | ((with_reducible refine k_cons ?rdq ?_); (case rdq => refine rck_mk rfl ?_ ?_ <;> simp only [SXR, Option.isSome_some, Ex.row, Ex.k]))
    | (simp only [c16, Ex.row, Ex.k, SXR, noA, isAl, udf, AOp.dst, Nat.beq, putAt, bldE, evIo, isNil, Nat.ble, Int.reduceAdd, Int.reduceSub, Int.reduceNeg, Int.reduceBNe, Nat.reduceEqDiff, Nat.reduceSub, Nat.reduceAdd, Nat.reduceLeDiff, Nat.reduceBEq, Nat.reduceLT, Nat.reduceMul, Int.reduceBEq, Int.reduceLT, Int.reduceLE, reduceIte, reduceCtorEq]))
  all_goals simp_all
end Go.Proofs.YtodpmbaggcbaeaaGreatDoor
