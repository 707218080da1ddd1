/-
  The contracts of Simple and Control, of the program and of the reference.
-/
import Derived.Test.YtodpmbaggcbaeaaGreatDoorFa
set_option linter.unusedSimpArgs false
set_option linter.unusedVariables false
namespace Go.Proofs.YtodpmbaggcbaeaaGreatDoor
open Go Go.B
/-- the place of the first, or -1 -/
def fidx (p : Ex → Bool) : List Ex → Nat → Int
  | [], _ => -1
  | x :: l, n => if p x then n else fidx p l (n + 1)
theorem fidx_any (p : Ex → Bool) : ∀ (l : List Ex) (n : Nat), decide (fidx p l n ≥ 0) = l.any p
  | [], n => by simp [fidx]
  | x :: l, n => by
    by_cases h : p x = true
    · simp [fidx, h]
    · simp only [fidx, h, if_false, List.any_cons, Bool.false_or, fidx_any p l (n + 1), Bool.not_eq_true, Bool.false_eq_true]
theorem drop_at {l : List Ex} {i : Nat} {x : Ex} (h : l[i]? = some x) : l.drop i = x :: l.drop (i + 1) := by
  obtain ⟨hi, rfl⟩ := List.getElem?_eq_some_iff.1 h
  exact List.drop_eq_getElem_cons hi
theorem f32 (g : FuncId) (p : Ex → Bool) (l : List Ex) (hp : ∀ a, a ∈ l → PC Tryz.prog g [xg a] (.b (p a))) (hn : l.length ≤ 100000) : PC Tryz.prog 32 [.ts (Ex.rows l), .fn g [] []] (.i .i64 (fidx p l 0)) := by
  refine pc_of Tryz.func32 k32 rfl ?_
  repeat' (first
    | ((with_reducible refine cnd_intro (fun h => ?_) (fun h => ?_)) <;> simp only [h, rows_len, SXR, noA, isAl, udf, AOp.dst, Nat.beq, putAt, bldE, evIo, isNil, Nat.ble, Int.reduceAdd, Int.reduceSub, Int.reduceNeg, Int.reduceBNe, Nat.reduceEqDiff, Nat.reduceSub, Nat.reduceAdd, Nat.reduceLeDiff, Nat.reduceBEq, Nat.reduceLT, Nat.reduceMul, Int.reduceBEq, Int.reduceLT, Int.reduceLE, reduceIte, reduceCtorEq])
    | ((with_reducible refine k_cons ?rdq ?_); (case rdq => refine rck_mk rfl ?_ ?_ <;> simp only [SXR, Option.isSome_some, rows_len]))
    | (simp only [c32, rows_len, SXR, noA, isAl, udf, AOp.dst, Nat.beq, putAt, bldE, evIo, isNil, Nat.ble, Int.reduceAdd, Int.reduceSub, Int.reduceNeg, Int.reduceBNe, Nat.reduceEqDiff, Nat.reduceSub, Nat.reduceAdd, Nat.reduceLeDiff, Nat.reduceBEq, Nat.reduceLT, Nat.reduceMul, Int.reduceBEq, Int.reduceLT, Int.reduceLE, reduceIte, reduceCtorEq]))
  refine Lp_ind (X := Nat) (fun i ll hs => ∃ j5 j9 j10 j11 j12 j13 j14 j15 j16 j17 j18 : V, ll = [.ts (Ex.rows l), .fn g [] [], .und, .und, .i .i64 0, j5, .ts (Ex.rows l), .i .i64 (l.length : Int), .i .i64 (i : Int), j9, j10, j11, j12, j13, j14, j15, j16, j17, j18] ∧ hs = [])
    (fun i => i ≤ l.length ∧ fidx p l 0 = fidx p (l.drop i) i) (fun i => l.length - i) ?_ 0 _ _ ⟨_, _, _, _, _, _, _, _, _, _, _, rfl, rfl⟩ ⟨Nat.zero_le _, rfl⟩
  rintro i _ _ ⟨j5, j9, j10, j11, j12, j13, j14, j15, j16, j17, j18, rfl, rfl⟩ ⟨hi, hfi⟩ IH
  by_cases hlt : i < l.length
  · have hlt1 : decide ((i : Int) < (l.length : Int)) = true := by simp; omega
    obtain ⟨x, hx, hxm⟩ := at_some hlt
    have hxr : (Ex.rows l)[i]? = some x.row := by rw [rows_get, hx]; rfl
    have hw := wrap_len (n := i) (by omega)
    have hd := drop_at hx
    cases hpx : p x with
    | true =>
      have hc := hp x hxm
      rw [hpx] at hc
      clear IH
      repeat' (first
        | ((with_reducible refine cnd_intro (fun h => ?_) (fun h => ?_)) <;> simp only [h, hlt1, hxr, row_len, row_take, rows_len, rows_cl, row_cl, hw, SXR, noA, isAl, udf, AOp.dst, Nat.beq, putAt, bldE, evIo, isNil, Nat.ble, Int.reduceAdd, Int.reduceSub, Int.reduceNeg, Int.reduceBNe, Nat.reduceEqDiff, Nat.reduceSub, Nat.reduceAdd, Nat.reduceLeDiff, Nat.reduceBEq, Nat.reduceLT, Nat.reduceMul, Int.reduceBEq, Int.reduceLT, Int.reduceLE, reduceIte, reduceCtorEq])
        | ((with_reducible refine k_cons ?rdq ?_); (case rdq => refine rck_mk rfl ?_ ?_ <;> simp only [SXR, Option.isSome_some, hlt1, hxr, row_len, row_take, rows_len, rows_cl, row_cl, hw]))
        | (with_reducible refine pcl_intro (hc) (by simp only [SXR, hlt1, hxr, row_len, row_take, rows_len, rows_cl, row_cl, hw]) (by simp only [SXR, hlt1, hxr, row_len, row_take, rows_len, rows_cl, row_cl, hw]) ?_)
        | (simp only [c32, hlt1, hxr, row_len, row_take, rows_len, rows_cl, row_cl, hw, SXR, noA, isAl, udf, AOp.dst, Nat.beq, putAt, bldE, evIo, isNil, Nat.ble, Int.reduceAdd, Int.reduceSub, Int.reduceNeg, Int.reduceBNe, Nat.reduceEqDiff, Nat.reduceSub, Nat.reduceAdd, Nat.reduceLeDiff, Nat.reduceBEq, Nat.reduceLT, Nat.reduceMul, Int.reduceBEq, Int.reduceLT, Int.reduceLE, reduceIte, reduceCtorEq]))
      rw [hfi, hd]; simp [fidx, hpx]
    | false =>
      have hc := hp x hxm
      rw [hpx] at hc
      repeat' (first
        | ((with_reducible refine cnd_intro (fun h => ?_) (fun h => ?_)) <;> simp only [h, hlt1, hxr, row_len, row_take, rows_len, rows_cl, row_cl, hw, SXR, noA, isAl, udf, AOp.dst, Nat.beq, putAt, bldE, evIo, isNil, Nat.ble, Int.reduceAdd, Int.reduceSub, Int.reduceNeg, Int.reduceBNe, Nat.reduceEqDiff, Nat.reduceSub, Nat.reduceAdd, Nat.reduceLeDiff, Nat.reduceBEq, Nat.reduceLT, Nat.reduceMul, Int.reduceBEq, Int.reduceLT, Int.reduceLE, reduceIte, reduceCtorEq])
        | ((with_reducible refine k_cons ?rdq ?_); (case rdq => refine rck_mk rfl ?_ ?_ <;> simp only [SXR, Option.isSome_some, hlt1, hxr, row_len, row_take, rows_len, rows_cl, row_cl, hw]))
        | (with_reducible refine pcl_intro (hc) (by simp only [SXR, hlt1, hxr, row_len, row_take, rows_len, rows_cl, row_cl, hw]) (by simp only [SXR, hlt1, hxr, row_len, row_take, rows_len, rows_cl, row_cl, hw]) ?_)
        | (simp only [c32, hlt1, hxr, row_len, row_take, rows_len, rows_cl, row_cl, hw, SXR, noA, isAl, udf, AOp.dst, Nat.beq, putAt, bldE, evIo, isNil, Nat.ble, Int.reduceAdd, Int.reduceSub, Int.reduceNeg, Int.reduceBNe, Nat.reduceEqDiff, Nat.reduceSub, Nat.reduceAdd, Nat.reduceLeDiff, Nat.reduceBEq, Nat.reduceLT, Nat.reduceMul, Int.reduceBEq, Int.reduceLT, Int.reduceLE, reduceIte, reduceCtorEq]))
      refine IH (i + 1) _ _ ⟨_, _, _, _, _, _, _, _, _, _, _, rfl, rfl⟩ ⟨by omega, ?_⟩ (by omega)
      rw [hfi, hd]; simp [fidx, hpx]
  · have hlt1 : decide ((i : Int) < (l.length : Int)) = false := by simp; omega
    clear IH
    repeat' (first
      | ((with_reducible refine cnd_intro (fun h => ?_) (fun h => ?_)) <;> simp only [h, hlt1, rows_len, SXR, noA, isAl, udf, AOp.dst, Nat.beq, putAt, bldE, evIo, isNil, Nat.ble, Int.reduceAdd, Int.reduceSub, Int.reduceNeg, Int.reduceBNe, Nat.reduceEqDiff, Nat.reduceSub, Nat.reduceAdd, Nat.reduceLeDiff, Nat.reduceBEq, Nat.reduceLT, Nat.reduceMul, Int.reduceBEq, Int.reduceLT, Int.reduceLE, reduceIte, reduceCtorEq])
      | ((with_reducible refine k_cons ?rdq ?_); (case rdq => refine rck_mk rfl ?_ ?_ <;> simp only [SXR, Option.isSome_some, hlt1, rows_len]))
      | (simp only [c32, hlt1, rows_len, SXR, noA, isAl, udf, AOp.dst, Nat.beq, putAt, bldE, evIo, isNil, Nat.ble, Int.reduceAdd, Int.reduceSub, Int.reduceNeg, Int.reduceBNe, Nat.reduceEqDiff, Nat.reduceSub, Nat.reduceAdd, Nat.reduceLeDiff, Nat.reduceBEq, Nat.reduceLT, Nat.reduceMul, Int.reduceBEq, Int.reduceLT, Int.reduceLE, reduceIte, reduceCtorEq]))
    have : i = l.length := by omega
    subst this
    rw [hfi, List.drop_length]; rfl
theorem f14 (g : FuncId) (p : Ex → Bool) (l : List Ex) (hp : ∀ a, a ∈ l → PC Tryz.prog g [xg a] (.b (p a))) (hn : l.length ≤ 100000) : PC Tryz.prog 14 [.ts (Ex.rows l), .fn g [] []] (.b (l.any p)) := by
  refine pc_of Tryz.func14 k14 rfl ?_
  repeat' (first
    | ((with_reducible refine cnd_intro (fun h => ?_) (fun h => ?_)) <;> simp only [h, rows_cl, SXR, noA, isAl, udf, AOp.dst, Nat.beq, putAt, bldE, evIo, isNil, Nat.ble, Int.reduceAdd, Int.reduceSub, Int.reduceNeg, Int.reduceBNe, Nat.reduceEqDiff, Nat.reduceSub, Nat.reduceAdd, Nat.reduceLeDiff, Nat.reduceBEq, Nat.reduceLT, Nat.reduceMul, Int.reduceBEq, Int.reduceLT, Int.reduceLE, reduceIte, reduceCtorEq])
    | ((with_reducible refine k_cons ?rdq ?_); (case rdq => refine rck_mk rfl ?_ ?_ <;> simp only [SXR, Option.isSome_some, rows_cl]))
    | (with_reducible refine pcl_intro (f32 g p l hp hn) (by simp only [SXR, rows_cl]) (by simp only [SXR, rows_cl]) ?_)
    | (simp only [c14, rows_cl, SXR, noA, isAl, udf, AOp.dst, Nat.beq, putAt, bldE, evIo, isNil, Nat.ble, Int.reduceAdd, Int.reduceSub, Int.reduceNeg, Int.reduceBNe, Nat.reduceEqDiff, Nat.reduceSub, Nat.reduceAdd, Nat.reduceLeDiff, Nat.reduceBEq, Nat.reduceLT, Nat.reduceMul, Int.reduceBEq, Int.reduceLT, Int.reduceLE, reduceIte, reduceCtorEq]))
  rw [fidx_any]

def one : List Ex → Bool
  | [a] => a.k == 2 || a.k == 1
  | _ => false
mutual
def Ex.simple : Ex → Bool
  | .mk k _ _ _ _ _ args => (k == 2 || k == 1) || (if k == 8 then one args else (k == 3 || k == 4) && Ex.simples args)
def Ex.simples : List Ex → Bool
  | [] => true
  | e :: l => e.simple && Ex.simples l
end
mutual
def Ex.control : Ex → Bool
  | .mk k op t v nl nn args => if k == 9 then Ex.controls args else Ex.simple (.mk k op t v nl nn args)
def Ex.controls : List Ex → Bool
  | [] => true
  | e :: l => e.control && Ex.controls l
end
theorem simples_any : ∀ l : List Ex, (!(l.any fun e => !e.simple)) = Ex.simples l
  | [] => rfl
  | e :: l => by simp only [List.any_cons, Ex.simples, ← simples_any l]; cases e.simple <;> simp
theorem controls_any : ∀ l : List Ex, (!(l.any fun e => !e.control)) = Ex.controls l
  | [] => rfl
  | e :: l => by simp only [List.any_cons, Ex.controls, ← controls_any l]; cases e.control <;> simp
theorem one_len {l : List Ex} (h : l.length ≠ 1) : one l = false := by
  match l, h with
  | [], _ => rfl
  | [a], h => exact (h rfl).elim
  | a :: b :: l, _ => rfl
theorem eqI (a b : Int) : (a == b) = decide (a = b) := by rw [Bool.eq_iff_iff]; simp

theorem f6 : ∀ (n : Nat) (e : Ex), e.sz ≤ n → n ≤ 100000 → PC Tryz.prog 6 [xg e] (.b e.simple)
  | 0, e, h, _ => by have := sz_pos e; omega
  | n + 1, .mk k op t v nl nn args, h, hn => by
    have hszs : Ex.szs args ≤ n := by simp [Ex.sz] at h; omega
    have hlen : args.length ≤ 100000 := by have := szs_len args; omega
    have h15 : ∀ a, a ∈ args → PC Tryz.prog 15 [xg a] (.b (!a.simple)) := by
      intro a ha
      have h6 := f6 n a (by have := sz_mem ha; omega) (by omega)
      refine pc_of Tryz.func15 k15 rfl ?_
      repeat' (first
        | ((with_reducible refine cnd_intro (fun h => ?_) (fun h => ?_)) <;> simp only [h, row_len, row_take, row_cl, SXR, noA, isAl, udf, AOp.dst, Nat.beq, putAt, bldE, evIo, isNil, Nat.ble, Int.reduceAdd, Int.reduceSub, Int.reduceNeg, Int.reduceBNe, Nat.reduceEqDiff, Nat.reduceSub, Nat.reduceAdd, Nat.reduceLeDiff, Nat.reduceBEq, Nat.reduceLT, Nat.reduceMul, Int.reduceBEq, Int.reduceLT, Int.reduceLE, reduceIte, reduceCtorEq])
        | ((with_reducible refine k_cons ?rdq ?_); (case rdq => refine rck_mk rfl ?_ ?_ <;> simp only [SXR, Option.isSome_some, row_len, row_take, row_cl]))
        | (with_reducible refine pcl_intro (h6) (by simp only [SXR, row_len, row_take, row_cl]) (by simp only [SXR, row_len, row_take, row_cl]) ?_)
        | (simp only [c15, row_len, row_take, row_cl, SXR, noA, isAl, udf, AOp.dst, Nat.beq, putAt, bldE, evIo, isNil, Nat.ble, Int.reduceAdd, Int.reduceSub, Int.reduceNeg, Int.reduceBNe, Nat.reduceEqDiff, Nat.reduceSub, Nat.reduceAdd, Nat.reduceLeDiff, Nat.reduceBEq, Nat.reduceLT, Nat.reduceMul, Int.reduceBEq, Int.reduceLT, Int.reduceLE, reduceIte, reduceCtorEq]))
    have h14 := f14 15 (fun e => !e.simple) args h15 hlen
    by_cases h1 : args.length = 1
    · obtain ⟨a, rfl⟩ := List.length_eq_one_iff.1 h1
      have h14 : PC Tryz.prog 14 [.ts [a.row], .fn 15 [] []] (.b ([a].any fun e => !e.simple)) := by simpa only [Ex.rows] using h14
      refine pc_of Tryz.func6 k6 rfl ?_
      repeat' (first
        | ((with_reducible refine cnd_intro (fun h => ?_) (fun h => ?_)) <;> simp only [h, Ex.row, rows_cl, rows_len, Ex.rows, row_len, row_take, row_cl, clR, Int.natCast_one, Int.reduceBEq, SXR, noA, isAl, udf, AOp.dst, Nat.beq, putAt, bldE, evIo, isNil, Nat.ble, Int.reduceAdd, Int.reduceSub, Int.reduceNeg, Int.reduceBNe, Nat.reduceEqDiff, Nat.reduceSub, Nat.reduceAdd, Nat.reduceLeDiff, Nat.reduceBEq, Nat.reduceLT, Nat.reduceMul, Int.reduceBEq, Int.reduceLT, Int.reduceLE, reduceIte, reduceCtorEq])
        | ((with_reducible refine k_cons ?rdq ?_); (case rdq => refine rck_mk rfl ?_ ?_ <;> simp only [SXR, Option.isSome_some, Ex.row, rows_cl, rows_len, Ex.rows, row_len, row_take, row_cl, clR, Int.natCast_one, Int.reduceBEq]))
        | (with_reducible refine pcl_intro (f13 a) (by simp only [SXR, Ex.row, rows_cl, rows_len, Ex.rows, row_len, row_take, row_cl, clR, Int.natCast_one, Int.reduceBEq]) (by simp only [SXR, Ex.row, rows_cl, rows_len, Ex.rows, row_len, row_take, row_cl, clR, Int.natCast_one, Int.reduceBEq]) ?_)
        | (with_reducible refine pcl_intro (h14) (by simp only [SXR, Ex.row, rows_cl, rows_len, Ex.rows, row_len, row_take, row_cl, clR, Int.natCast_one, Int.reduceBEq]) (by simp only [SXR, Ex.row, rows_cl, rows_len, Ex.rows, row_len, row_take, row_cl, clR, Int.natCast_one, Int.reduceBEq]) ?_)
        | (simp only [c6, Ex.row, rows_cl, rows_len, Ex.rows, row_len, row_take, row_cl, clR, Int.natCast_one, Int.reduceBEq, SXR, noA, isAl, udf, AOp.dst, Nat.beq, putAt, bldE, evIo, isNil, Nat.ble, Int.reduceAdd, Int.reduceSub, Int.reduceNeg, Int.reduceBNe, Nat.reduceEqDiff, Nat.reduceSub, Nat.reduceAdd, Nat.reduceLeDiff, Nat.reduceBEq, Nat.reduceLT, Nat.reduceMul, Int.reduceBEq, Int.reduceLT, Int.reduceLE, reduceIte, reduceCtorEq]))
      all_goals simp_all [Ex.simple, one, Ex.simples]
    · have hl : ((args.length : Int) == 1) = false := by rw [eqI]; simp; omega
      refine pc_of Tryz.func6 k6 rfl ?_
      repeat' (first
        | ((with_reducible refine cnd_intro (fun h => ?_) (fun h => ?_)) <;> simp only [h, Ex.row, rows_cl, rows_len, hl, SXR, noA, isAl, udf, AOp.dst, Nat.beq, putAt, bldE, evIo, isNil, Nat.ble, Int.reduceAdd, Int.reduceSub, Int.reduceNeg, Int.reduceBNe, Nat.reduceEqDiff, Nat.reduceSub, Nat.reduceAdd, Nat.reduceLeDiff, Nat.reduceBEq, Nat.reduceLT, Nat.reduceMul, Int.reduceBEq, Int.reduceLT, Int.reduceLE, reduceIte, reduceCtorEq])
        | ((with_reducible refine k_cons ?rdq ?_); (case rdq => refine rck_mk rfl ?_ ?_ <;> simp only [SXR, Option.isSome_some, Ex.row, rows_cl, rows_len, hl]))
        | (with_reducible refine pcl_intro (h14) (by simp only [SXR, Ex.row, rows_cl, rows_len, hl]) (by simp only [SXR, Ex.row, rows_cl, rows_len, hl]) ?_)
        | (simp only [c6, Ex.row, rows_cl, rows_len, hl, SXR, noA, isAl, udf, AOp.dst, Nat.beq, putAt, bldE, evIo, isNil, Nat.ble, Int.reduceAdd, Int.reduceSub, Int.reduceNeg, Int.reduceBNe, Nat.reduceEqDiff, Nat.reduceSub, Nat.reduceAdd, Nat.reduceLeDiff, Nat.reduceBEq, Nat.reduceLT, Nat.reduceMul, Int.reduceBEq, Int.reduceLT, Int.reduceLE, reduceIte, reduceCtorEq]))
      all_goals simp_all [Ex.simple, one_len, simples_any]

/-- what the reference's loop answers -/
theorem simples_split {l : List Ex} {i : Nat} {x : Ex} (h : l[i]? = some x) : Ex.simples (l.drop i) = (x.simple && Ex.simples (l.drop (i + 1))) := by rw [drop_at h]; rfl
theorem controls_split {l : List Ex} {i : Nat} {x : Ex} (h : l[i]? = some x) : Ex.controls (l.drop i) = (x.control && Ex.controls (l.drop (i + 1))) := by rw [drop_at h]; rfl
theorem f7 : ∀ (n : Nat) (e : Ex), e.sz ≤ n → n ≤ 100000 → PC Tryz.prog 7 [xg e] (.b e.simple)
  | 0, e, h, _ => by have := sz_pos e; omega
  | n + 1, .mk k op t v nl nn args, h, hn => by
    have hszs : Ex.szs args ≤ n := by simp [Ex.sz] at h; omega
    have hlen : args.length ≤ 100000 := by have := szs_len args; omega
    have hf : ∀ a, a ∈ args → PC Tryz.prog 7 [xg a] (.b a.simple) := fun a ha => f7 n a (by have := sz_mem ha; omega) (by omega)
    have h16 := f16 (.mk k op t v nl nn args)
    simp only [xg, Ex.row, Ex.k] at h16
    by_cases hA : k = 2 ∨ k = 1
    · have hA1 : (k == 2 || k == 1) = true := by simpa using hA
      refine pc_of Tryz.func7 k7 rfl ?_
      repeat' (first
        | ((with_reducible refine cnd_intro (fun h => ?_) (fun h => ?_)) <;> simp only [h, Ex.row, rows_cl, hA1, SXR, noA, isAl, udf, AOp.dst, Nat.beq, putAt, bldE, evIo, isNil, Nat.ble, Int.reduceAdd, Int.reduceSub, Int.reduceNeg, Int.reduceBNe, Nat.reduceEqDiff, Nat.reduceSub, Nat.reduceAdd, Nat.reduceLeDiff, Nat.reduceBEq, Nat.reduceLT, Nat.reduceMul, Int.reduceBEq, Int.reduceLT, Int.reduceLE, reduceIte, reduceCtorEq])
        | ((with_reducible refine k_cons ?rdq ?_); (case rdq => refine rck_mk rfl ?_ ?_ <;> simp only [SXR, Option.isSome_some, Ex.row, rows_cl, hA1]))
        | (with_reducible refine pcl_intro (h16) (by simp only [SXR, Ex.row, rows_cl, hA1]) (by simp only [SXR, Ex.row, rows_cl, hA1]) ?_)
        | (simp only [c7, Ex.row, rows_cl, hA1, SXR, noA, isAl, udf, AOp.dst, Nat.beq, putAt, bldE, evIo, isNil, Nat.ble, Int.reduceAdd, Int.reduceSub, Int.reduceNeg, Int.reduceBNe, Nat.reduceEqDiff, Nat.reduceSub, Nat.reduceAdd, Nat.reduceLeDiff, Nat.reduceBEq, Nat.reduceLT, Nat.reduceMul, Int.reduceBEq, Int.reduceLT, Int.reduceLE, reduceIte, reduceCtorEq]))
      simp [Ex.simple, hA1]
    have hA1 : (k == 2 || k == 1) = false := by simpa using hA
    by_cases hB : k = 8
    · subst hB
      by_cases h1 : args.length = 1
      · obtain ⟨a, rfl⟩ := List.length_eq_one_iff.1 h1
        simp only [Ex.rows] at h16
        refine pc_of Tryz.func7 k7 rfl ?_
        repeat' (first
          | ((with_reducible refine cnd_intro (fun h => ?_) (fun h => ?_)) <;> simp only [h, Ex.row, rows_cl, rows_len, Ex.rows, row_len, row_take, row_cl, clR, Int.natCast_one, Int.reduceBEq, hA1, SXR, noA, isAl, udf, AOp.dst, Nat.beq, putAt, bldE, evIo, isNil, Nat.ble, Int.reduceAdd, Int.reduceSub, Int.reduceNeg, Int.reduceBNe, Nat.reduceEqDiff, Nat.reduceSub, Nat.reduceAdd, Nat.reduceLeDiff, Nat.reduceBEq, Nat.reduceLT, Nat.reduceMul, Int.reduceBEq, Int.reduceLT, Int.reduceLE, reduceIte, reduceCtorEq])
          | ((with_reducible refine k_cons ?rdq ?_); (case rdq => refine rck_mk rfl ?_ ?_ <;> simp only [SXR, Option.isSome_some, Ex.row, rows_cl, rows_len, Ex.rows, row_len, row_take, row_cl, clR, Int.natCast_one, Int.reduceBEq, hA1]))
          | (with_reducible refine pcl_intro (h16) (by simp only [SXR, Ex.row, rows_cl, rows_len, Ex.rows, row_len, row_take, row_cl, clR, Int.natCast_one, Int.reduceBEq, hA1]) (by simp only [SXR, Ex.row, rows_cl, rows_len, Ex.rows, row_len, row_take, row_cl, clR, Int.natCast_one, Int.reduceBEq, hA1]) ?_)
          | (with_reducible refine pcl_intro (f16 a) (by simp only [SXR, Ex.row, rows_cl, rows_len, Ex.rows, row_len, row_take, row_cl, clR, Int.natCast_one, Int.reduceBEq, hA1]) (by simp only [SXR, Ex.row, rows_cl, rows_len, Ex.rows, row_len, row_take, row_cl, clR, Int.natCast_one, Int.reduceBEq, hA1]) ?_)
          | (simp only [c7, Ex.row, rows_cl, rows_len, Ex.rows, row_len, row_take, row_cl, clR, Int.natCast_one, Int.reduceBEq, hA1, SXR, noA, isAl, udf, AOp.dst, Nat.beq, putAt, bldE, evIo, isNil, Nat.ble, Int.reduceAdd, Int.reduceSub, Int.reduceNeg, Int.reduceBNe, Nat.reduceEqDiff, Nat.reduceSub, Nat.reduceAdd, Nat.reduceLeDiff, Nat.reduceBEq, Nat.reduceLT, Nat.reduceMul, Int.reduceBEq, Int.reduceLT, Int.reduceLE, reduceIte, reduceCtorEq]))
        all_goals simp_all [Ex.simple, one]
      · have hl : ((args.length : Int) == 1) = false := by rw [eqI]; simp; omega
        refine pc_of Tryz.func7 k7 rfl ?_
        repeat' (first
          | ((with_reducible refine cnd_intro (fun h => ?_) (fun h => ?_)) <;> simp only [h, Ex.row, rows_cl, rows_len, hl, hA1, SXR, noA, isAl, udf, AOp.dst, Nat.beq, putAt, bldE, evIo, isNil, Nat.ble, Int.reduceAdd, Int.reduceSub, Int.reduceNeg, Int.reduceBNe, Nat.reduceEqDiff, Nat.reduceSub, Nat.reduceAdd, Nat.reduceLeDiff, Nat.reduceBEq, Nat.reduceLT, Nat.reduceMul, Int.reduceBEq, Int.reduceLT, Int.reduceLE, reduceIte, reduceCtorEq])
          | ((with_reducible refine k_cons ?rdq ?_); (case rdq => refine rck_mk rfl ?_ ?_ <;> simp only [SXR, Option.isSome_some, Ex.row, rows_cl, rows_len, hl, hA1]))
          | (with_reducible refine pcl_intro (h16) (by simp only [SXR, Ex.row, rows_cl, rows_len, hl, hA1]) (by simp only [SXR, Ex.row, rows_cl, rows_len, hl, hA1]) ?_)
          | (simp only [c7, Ex.row, rows_cl, rows_len, hl, hA1, SXR, noA, isAl, udf, AOp.dst, Nat.beq, putAt, bldE, evIo, isNil, Nat.ble, Int.reduceAdd, Int.reduceSub, Int.reduceNeg, Int.reduceBNe, Nat.reduceEqDiff, Nat.reduceSub, Nat.reduceAdd, Nat.reduceLeDiff, Nat.reduceBEq, Nat.reduceLT, Nat.reduceMul, Int.reduceBEq, Int.reduceLT, Int.reduceLE, reduceIte, reduceCtorEq]))
        all_goals simp_all [Ex.simple, one_len]
    have hB1 : (k == 8) = false := by simpa using hB
    by_cases hC : k = 3 ∨ k = 4
    rotate_left
    · have hC3 : (k != 3) = true := by simp; omega
      have hC4 : (k != 4) = true := by simp; omega
      refine pc_of Tryz.func7 k7 rfl ?_
      repeat' (first
        | ((with_reducible refine cnd_intro (fun h => ?_) (fun h => ?_)) <;> simp only [h, Ex.row, rows_cl, rows_len, hB1, hA1, hC3, hC4, SXR, noA, isAl, udf, AOp.dst, Nat.beq, putAt, bldE, evIo, isNil, Nat.ble, Int.reduceAdd, Int.reduceSub, Int.reduceNeg, Int.reduceBNe, Nat.reduceEqDiff, Nat.reduceSub, Nat.reduceAdd, Nat.reduceLeDiff, Nat.reduceBEq, Nat.reduceLT, Nat.reduceMul, Int.reduceBEq, Int.reduceLT, Int.reduceLE, reduceIte, reduceCtorEq])
        | ((with_reducible refine k_cons ?rdq ?_); (case rdq => refine rck_mk rfl ?_ ?_ <;> simp only [SXR, Option.isSome_some, Ex.row, rows_cl, rows_len, hB1, hA1, hC3, hC4]))
        | (with_reducible refine pcl_intro (h16) (by simp only [SXR, Ex.row, rows_cl, rows_len, hB1, hA1, hC3, hC4]) (by simp only [SXR, Ex.row, rows_cl, rows_len, hB1, hA1, hC3, hC4]) ?_)
        | (simp only [c7, Ex.row, rows_cl, rows_len, hB1, hA1, hC3, hC4, SXR, noA, isAl, udf, AOp.dst, Nat.beq, putAt, bldE, evIo, isNil, Nat.ble, Int.reduceAdd, Int.reduceSub, Int.reduceNeg, Int.reduceBNe, Nat.reduceEqDiff, Nat.reduceSub, Nat.reduceAdd, Nat.reduceLeDiff, Nat.reduceBEq, Nat.reduceLT, Nat.reduceMul, Int.reduceBEq, Int.reduceLT, Int.reduceLE, reduceIte, reduceCtorEq]))
      have h3 : (k == 3) = false := by simp; omega
      have h4 : (k == 4) = false := by simp; omega
      simp [Ex.simple, hA1, hB1, h3, h4]
    have hE : Ex.simple (.mk k op t v nl nn args) = Ex.simples args := by
      rcases hC with rfl | rfl <;> simp [Ex.simple]
    rw [hE]
    refine pc_of Tryz.func7 k7 rfl ?_
    have hC34 : ((k != 3) = false ∧ (k != 4) = true) ∨ ((k != 3) = true ∧ (k != 4) = false) := by
      rcases hC with rfl | rfl
      · exact .inl ⟨rfl, rfl⟩
      · exact .inr ⟨rfl, rfl⟩
    rcases hC34 with ⟨hC3, hC4⟩ | ⟨hC3, hC4⟩
    all_goals
      repeat' (first
        | ((with_reducible refine cnd_intro (fun h => ?_) (fun h => ?_)) <;> simp only [h, Ex.row, rows_cl, rows_len, hC3, hC4, hB1, hA1, SXR, noA, isAl, udf, AOp.dst, Nat.beq, putAt, bldE, evIo, isNil, Nat.ble, Int.reduceAdd, Int.reduceSub, Int.reduceNeg, Int.reduceBNe, Nat.reduceEqDiff, Nat.reduceSub, Nat.reduceAdd, Nat.reduceLeDiff, Nat.reduceBEq, Nat.reduceLT, Nat.reduceMul, Int.reduceBEq, Int.reduceLT, Int.reduceLE, reduceIte, reduceCtorEq])
        | ((with_reducible refine k_cons ?rdq ?_); (case rdq => refine rck_mk rfl ?_ ?_ <;> simp only [SXR, Option.isSome_some, Ex.row, rows_cl, rows_len, hC3, hC4, hB1, hA1]))
        | (with_reducible refine pcl_intro (h16) (by simp only [SXR, Ex.row, rows_cl, rows_len, hC3, hC4, hB1, hA1]) (by simp only [SXR, Ex.row, rows_cl, rows_len, hC3, hC4, hB1, hA1]) ?_)
        | (simp only [c7, Ex.row, rows_cl, rows_len, hC3, hC4, hB1, hA1, SXR, noA, isAl, udf, AOp.dst, Nat.beq, putAt, bldE, evIo, isNil, Nat.ble, Int.reduceAdd, Int.reduceSub, Int.reduceNeg, Int.reduceBNe, Nat.reduceEqDiff, Nat.reduceSub, Nat.reduceAdd, Nat.reduceLeDiff, Nat.reduceBEq, Nat.reduceLT, Nat.reduceMul, Int.reduceBEq, Int.reduceLT, Int.reduceLE, reduceIte, reduceCtorEq]))
      refine Lp_ind (X := Nat) (fun i ll hs => ∃ j0 j4 j5 j6 j7 j8 j9 j10 j11 j12 j13 j14 j15 j16 j17 j18 j19 j20 j21 j22 j23 j24 j25 j26 j27 j28 j29 j30 j31 j32 j33 j34 j35 j36 j37 j38 j39 j40 j41 : V, ll = [j0, .p 0 0, .b false, .i .i64 (i : Int), j4, j5, j6, j7, j8, j9, j10, j11, j12, j13, j14, j15, j16, j17, j18, j19, j20, j21, j22, j23, j24, j25, j26, j27, j28, j29, j30, j31, j32, j33, j34, j35, j36, j37, j38, j39, j40, j41] ∧ hs = [.c false [.i .i64 k, .i .i64 op, .i .i64 t, .i .i64 v, .s nl nn, .ts (Ex.rows args)]])
        (fun i => i ≤ args.length ∧ Ex.simples args = Ex.simples (args.drop i)) (fun i => args.length - i) ?_ 0 _ _ ⟨_, _, _, _, _, _, _, _, _, _, _, _, _, _, _, _, _, _, _, _, _, _, _, _, _, _, _, _, _, _, _, _, _, _, _, _, _, _, _, rfl, rfl⟩ ⟨Nat.zero_le _, rfl⟩
      rintro i _ _ ⟨j0, j4, j5, j6, j7, j8, j9, j10, j11, j12, j13, j14, j15, j16, j17, j18, j19, j20, j21, j22, j23, j24, j25, j26, j27, j28, j29, j30, j31, j32, j33, j34, j35, j36, j37, j38, j39, j40, j41, rfl, rfl⟩ ⟨hi, hfi⟩ IH
      by_cases hlt : i < args.length
      · have hlt1 : decide ((i : Int) < (args.length : Int)) = true := by simp; omega
        obtain ⟨x, hx, hxm⟩ := at_some hlt
        have hxr : (Ex.rows args)[i]? = some x.row := by rw [rows_get, hx]; rfl
        have hw := wrap_len (n := i) (by omega)
        have hd := simples_split hx
        have hc := hf x hxm
        cases hpx : x.simple with
        | true =>
          rw [hpx] at hc
          repeat' (first
            | ((with_reducible refine cnd_intro (fun h => ?_) (fun h => ?_)) <;> simp only [h, hlt1, hxr, row_len, row_take, rows_len, rows_cl, row_cl, hw, SXR, noA, isAl, udf, AOp.dst, Nat.beq, putAt, bldE, evIo, isNil, Nat.ble, Int.reduceAdd, Int.reduceSub, Int.reduceNeg, Int.reduceBNe, Nat.reduceEqDiff, Nat.reduceSub, Nat.reduceAdd, Nat.reduceLeDiff, Nat.reduceBEq, Nat.reduceLT, Nat.reduceMul, Int.reduceBEq, Int.reduceLT, Int.reduceLE, reduceIte, reduceCtorEq])
            | ((with_reducible refine k_cons ?rdq ?_); (case rdq => refine rck_mk rfl ?_ ?_ <;> simp only [SXR, Option.isSome_some, hlt1, hxr, row_len, row_take, rows_len, rows_cl, row_cl, hw]))
            | (with_reducible refine pcl_intro (hc) (by simp only [SXR, hlt1, hxr, row_len, row_take, rows_len, rows_cl, row_cl, hw]) (by simp only [SXR, hlt1, hxr, row_len, row_take, rows_len, rows_cl, row_cl, hw]) ?_)
            | (simp only [c7, hlt1, hxr, row_len, row_take, rows_len, rows_cl, row_cl, hw, SXR, noA, isAl, udf, AOp.dst, Nat.beq, putAt, bldE, evIo, isNil, Nat.ble, Int.reduceAdd, Int.reduceSub, Int.reduceNeg, Int.reduceBNe, Nat.reduceEqDiff, Nat.reduceSub, Nat.reduceAdd, Nat.reduceLeDiff, Nat.reduceBEq, Nat.reduceLT, Nat.reduceMul, Int.reduceBEq, Int.reduceLT, Int.reduceLE, reduceIte, reduceCtorEq]))
          refine IH (i + 1) _ _ ⟨_, _, _, _, _, _, _, _, _, _, _, _, _, _, _, _, _, _, _, _, _, _, _, _, _, _, _, _, _, _, _, _, _, _, _, _, _, _, _, rfl, rfl⟩ ⟨by omega, ?_⟩ (by omega)
          rw [hfi, hd, hpx]; rfl
        | false =>
          rw [hpx] at hc
          clear IH
          repeat' (first
            | ((with_reducible refine cnd_intro (fun h => ?_) (fun h => ?_)) <;> simp only [h, hlt1, hxr, row_len, row_take, rows_len, rows_cl, row_cl, hw, SXR, noA, isAl, udf, AOp.dst, Nat.beq, putAt, bldE, evIo, isNil, Nat.ble, Int.reduceAdd, Int.reduceSub, Int.reduceNeg, Int.reduceBNe, Nat.reduceEqDiff, Nat.reduceSub, Nat.reduceAdd, Nat.reduceLeDiff, Nat.reduceBEq, Nat.reduceLT, Nat.reduceMul, Int.reduceBEq, Int.reduceLT, Int.reduceLE, reduceIte, reduceCtorEq])
            | ((with_reducible refine k_cons ?rdq ?_); (case rdq => refine rck_mk rfl ?_ ?_ <;> simp only [SXR, Option.isSome_some, hlt1, hxr, row_len, row_take, rows_len, rows_cl, row_cl, hw]))
            | (with_reducible refine pcl_intro (hc) (by simp only [SXR, hlt1, hxr, row_len, row_take, rows_len, rows_cl, row_cl, hw]) (by simp only [SXR, hlt1, hxr, row_len, row_take, rows_len, rows_cl, row_cl, hw]) ?_)
            | (simp only [c7, hlt1, hxr, row_len, row_take, rows_len, rows_cl, row_cl, hw, SXR, noA, isAl, udf, AOp.dst, Nat.beq, putAt, bldE, evIo, isNil, Nat.ble, Int.reduceAdd, Int.reduceSub, Int.reduceNeg, Int.reduceBNe, Nat.reduceEqDiff, Nat.reduceSub, Nat.reduceAdd, Nat.reduceLeDiff, Nat.reduceBEq, Nat.reduceLT, Nat.reduceMul, Int.reduceBEq, Int.reduceLT, Int.reduceLE, reduceIte, reduceCtorEq]))
          rw [hfi, hd, hpx]; rfl
      · have hlt1 : decide ((i : Int) < (args.length : Int)) = false := by simp; omega
        clear IH
        repeat' (first
          | ((with_reducible refine cnd_intro (fun h => ?_) (fun h => ?_)) <;> simp only [h, hlt1, rows_len, SXR, noA, isAl, udf, AOp.dst, Nat.beq, putAt, bldE, evIo, isNil, Nat.ble, Int.reduceAdd, Int.reduceSub, Int.reduceNeg, Int.reduceBNe, Nat.reduceEqDiff, Nat.reduceSub, Nat.reduceAdd, Nat.reduceLeDiff, Nat.reduceBEq, Nat.reduceLT, Nat.reduceMul, Int.reduceBEq, Int.reduceLT, Int.reduceLE, reduceIte, reduceCtorEq])
          | ((with_reducible refine k_cons ?rdq ?_); (case rdq => refine rck_mk rfl ?_ ?_ <;> simp only [SXR, Option.isSome_some, hlt1, rows_len]))
          | (simp only [c7, hlt1, rows_len, SXR, noA, isAl, udf, AOp.dst, Nat.beq, putAt, bldE, evIo, isNil, Nat.ble, Int.reduceAdd, Int.reduceSub, Int.reduceNeg, Int.reduceBNe, Nat.reduceEqDiff, Nat.reduceSub, Nat.reduceAdd, Nat.reduceLeDiff, Nat.reduceBEq, Nat.reduceLT, Nat.reduceMul, Int.reduceBEq, Int.reduceLT, Int.reduceLE, reduceIte, reduceCtorEq]))
        have : i = args.length := by omega
        subst this
        rw [hfi, List.drop_length]; rfl
theorem f8 : ∀ (n : Nat) (e : Ex), e.sz ≤ n → n ≤ 100000 → PC Tryz.prog 8 [xg e] (.b e.control)
  | 0, e, h, _ => by have := sz_pos e; omega
  | n + 1, .mk k op t v nl nn args, h, hn => by
    have hszs : Ex.szs args ≤ n := by simp [Ex.sz] at h; omega
    have hlen : args.length ≤ 100000 := by have := szs_len args; omega
    have h17 : ∀ a, a ∈ args → PC Tryz.prog 17 [xg a] (.b (!a.control)) := by
      intro a ha
      have h8 := f8 n a (by have := sz_mem ha; omega) (by omega)
      refine pc_of Tryz.func17 k17 rfl ?_
      repeat' (first
        | ((with_reducible refine cnd_intro (fun h => ?_) (fun h => ?_)) <;> simp only [h, row_len, row_take, row_cl, SXR, noA, isAl, udf, AOp.dst, Nat.beq, putAt, bldE, evIo, isNil, Nat.ble, Int.reduceAdd, Int.reduceSub, Int.reduceNeg, Int.reduceBNe, Nat.reduceEqDiff, Nat.reduceSub, Nat.reduceAdd, Nat.reduceLeDiff, Nat.reduceBEq, Nat.reduceLT, Nat.reduceMul, Int.reduceBEq, Int.reduceLT, Int.reduceLE, reduceIte, reduceCtorEq])
        | ((with_reducible refine k_cons ?rdq ?_); (case rdq => refine rck_mk rfl ?_ ?_ <;> simp only [SXR, Option.isSome_some, row_len, row_take, row_cl]))
        | (with_reducible refine pcl_intro (h8) (by simp only [SXR, row_len, row_take, row_cl]) (by simp only [SXR, row_len, row_take, row_cl]) ?_)
        | (simp only [c17, row_len, row_take, row_cl, SXR, noA, isAl, udf, AOp.dst, Nat.beq, putAt, bldE, evIo, isNil, Nat.ble, Int.reduceAdd, Int.reduceSub, Int.reduceNeg, Int.reduceBNe, Nat.reduceEqDiff, Nat.reduceSub, Nat.reduceAdd, Nat.reduceLeDiff, Nat.reduceBEq, Nat.reduceLT, Nat.reduceMul, Int.reduceBEq, Int.reduceLT, Int.reduceLE, reduceIte, reduceCtorEq]))
    have h14 := f14 17 (fun e => !e.control) args h17 hlen
    have h6 := f6 (n + 1) (.mk k op t v nl nn args) h hn
    simp only [xg, Ex.row] at h6
    by_cases h9 : k = 9
    · subst h9
      refine pc_of Tryz.func8 k8 rfl ?_
      repeat' (first
        | ((with_reducible refine cnd_intro (fun h => ?_) (fun h => ?_)) <;> simp only [h, Ex.row, rows_cl, Int.reduceBNe, SXR, noA, isAl, udf, AOp.dst, Nat.beq, putAt, bldE, evIo, isNil, Nat.ble, Int.reduceAdd, Int.reduceSub, Int.reduceNeg, Int.reduceBNe, Nat.reduceEqDiff, Nat.reduceSub, Nat.reduceAdd, Nat.reduceLeDiff, Nat.reduceBEq, Nat.reduceLT, Nat.reduceMul, Int.reduceBEq, Int.reduceLT, Int.reduceLE, reduceIte, reduceCtorEq])
        | ((with_reducible refine k_cons ?rdq ?_); (case rdq => refine rck_mk rfl ?_ ?_ <;> simp only [SXR, Option.isSome_some, Ex.row, rows_cl, Int.reduceBNe]))
        | (with_reducible refine pcl_intro (h14) (by simp only [SXR, Ex.row, rows_cl, Int.reduceBNe]) (by simp only [SXR, Ex.row, rows_cl, Int.reduceBNe]) ?_)
        | (simp only [c8, Ex.row, rows_cl, Int.reduceBNe, SXR, noA, isAl, udf, AOp.dst, Nat.beq, putAt, bldE, evIo, isNil, Nat.ble, Int.reduceAdd, Int.reduceSub, Int.reduceNeg, Int.reduceBNe, Nat.reduceEqDiff, Nat.reduceSub, Nat.reduceAdd, Nat.reduceLeDiff, Nat.reduceBEq, Nat.reduceLT, Nat.reduceMul, Int.reduceBEq, Int.reduceLT, Int.reduceLE, reduceIte, reduceCtorEq]))
      simp [Ex.control, controls_any]
    · have h9' : (k != 9) = true := by simpa using h9
      refine pc_of Tryz.func8 k8 rfl ?_
      repeat' (first
        | ((with_reducible refine cnd_intro (fun h => ?_) (fun h => ?_)) <;> simp only [h, Ex.row, rows_cl, h9', SXR, noA, isAl, udf, AOp.dst, Nat.beq, putAt, bldE, evIo, isNil, Nat.ble, Int.reduceAdd, Int.reduceSub, Int.reduceNeg, Int.reduceBNe, Nat.reduceEqDiff, Nat.reduceSub, Nat.reduceAdd, Nat.reduceLeDiff, Nat.reduceBEq, Nat.reduceLT, Nat.reduceMul, Int.reduceBEq, Int.reduceLT, Int.reduceLE, reduceIte, reduceCtorEq])
        | ((with_reducible refine k_cons ?rdq ?_); (case rdq => refine rck_mk rfl ?_ ?_ <;> simp only [SXR, Option.isSome_some, Ex.row, rows_cl, h9']))
        | (with_reducible refine pcl_intro (h6) (by simp only [SXR, Ex.row, rows_cl, h9']) (by simp only [SXR, Ex.row, rows_cl, h9']) ?_)
        | (simp only [c8, Ex.row, rows_cl, h9', SXR, noA, isAl, udf, AOp.dst, Nat.beq, putAt, bldE, evIo, isNil, Nat.ble, Int.reduceAdd, Int.reduceSub, Int.reduceNeg, Int.reduceBNe, Nat.reduceEqDiff, Nat.reduceSub, Nat.reduceAdd, Nat.reduceLeDiff, Nat.reduceBEq, Nat.reduceLT, Nat.reduceMul, Int.reduceBEq, Int.reduceLT, Int.reduceLE, reduceIte, reduceCtorEq]))
      simp [Ex.control, h9]
theorem f9 : ∀ (n : Nat) (e : Ex), e.sz ≤ n → n ≤ 100000 → PC Tryz.prog 9 [xg e] (.b e.control)
  | 0, e, h, _ => by have := sz_pos e; omega
  | n + 1, .mk k op t v nl nn args, h, hn => by
    have hszs : Ex.szs args ≤ n := by simp [Ex.sz] at h; omega
    have hlen : args.length ≤ 100000 := by have := szs_len args; omega
    have hf : ∀ a, a ∈ args → PC Tryz.prog 9 [xg a] (.b a.control) := fun a ha => f9 n a (by have := sz_mem ha; omega) (by omega)
    have h7 := f7 (n + 1) (.mk k op t v nl nn args) h hn
    simp only [xg, Ex.row] at h7
    by_cases h9 : k = 9
    rotate_left
    · have h9' : (k != 9) = true := by simpa using h9
      refine pc_of Tryz.func9 k9 rfl ?_
      repeat' (first
        | ((with_reducible refine cnd_intro (fun h => ?_) (fun h => ?_)) <;> simp only [h, Ex.row, rows_cl, h9', SXR, noA, isAl, udf, AOp.dst, Nat.beq, putAt, bldE, evIo, isNil, Nat.ble, Int.reduceAdd, Int.reduceSub, Int.reduceNeg, Int.reduceBNe, Nat.reduceEqDiff, Nat.reduceSub, Nat.reduceAdd, Nat.reduceLeDiff, Nat.reduceBEq, Nat.reduceLT, Nat.reduceMul, Int.reduceBEq, Int.reduceLT, Int.reduceLE, reduceIte, reduceCtorEq])
        | ((with_reducible refine k_cons ?rdq ?_); (case rdq => refine rck_mk rfl ?_ ?_ <;> simp only [SXR, Option.isSome_some, Ex.row, rows_cl, h9']))
        | (with_reducible refine pcl_intro (h7) (by simp only [SXR, Ex.row, rows_cl, h9']) (by simp only [SXR, Ex.row, rows_cl, h9']) ?_)
        | (simp only [c9, Ex.row, rows_cl, h9', SXR, noA, isAl, udf, AOp.dst, Nat.beq, putAt, bldE, evIo, isNil, Nat.ble, Int.reduceAdd, Int.reduceSub, Int.reduceNeg, Int.reduceBNe, Nat.reduceEqDiff, Nat.reduceSub, Nat.reduceAdd, Nat.reduceLeDiff, Nat.reduceBEq, Nat.reduceLT, Nat.reduceMul, Int.reduceBEq, Int.reduceLT, Int.reduceLE, reduceIte, reduceCtorEq]))
      simp [Ex.control, h9]
    subst h9
    have hE : Ex.control (.mk 9 op t v nl nn args) = Ex.controls args := by simp [Ex.control]
    rw [hE]
    refine pc_of Tryz.func9 k9 rfl ?_
    repeat' (first
      | ((with_reducible refine cnd_intro (fun h => ?_) (fun h => ?_)) <;> simp only [h, Ex.row, rows_cl, rows_len, Int.reduceBNe, SXR, noA, isAl, udf, AOp.dst, Nat.beq, putAt, bldE, evIo, isNil, Nat.ble, Int.reduceAdd, Int.reduceSub, Int.reduceNeg, Int.reduceBNe, Nat.reduceEqDiff, Nat.reduceSub, Nat.reduceAdd, Nat.reduceLeDiff, Nat.reduceBEq, Nat.reduceLT, Nat.reduceMul, Int.reduceBEq, Int.reduceLT, Int.reduceLE, reduceIte, reduceCtorEq])
      | ((with_reducible refine k_cons ?rdq ?_); (case rdq => refine rck_mk rfl ?_ ?_ <;> simp only [SXR, Option.isSome_some, Ex.row, rows_cl, rows_len, Int.reduceBNe]))
      | (simp only [c9, Ex.row, rows_cl, rows_len, Int.reduceBNe, SXR, noA, isAl, udf, AOp.dst, Nat.beq, putAt, bldE, evIo, isNil, Nat.ble, Int.reduceAdd, Int.reduceSub, Int.reduceNeg, Int.reduceBNe, Nat.reduceEqDiff, Nat.reduceSub, Nat.reduceAdd, Nat.reduceLeDiff, Nat.reduceBEq, Nat.reduceLT, Nat.reduceMul, Int.reduceBEq, Int.reduceLT, Int.reduceLE, reduceIte, reduceCtorEq]))
    refine Lp_ind (X := Nat) (fun i ll hs => ∃ j0 j4 j5 j6 j7 j8 j9 j10 j11 j12 j13 j14 j15 j16 j17 j18 j19 j20 j21 j22 : V, ll = [j0, .p 0 0, .b false, .i .i64 (i : Int), j4, j5, j6, j7, j8, j9, j10, j11, j12, j13, j14, j15, j16, j17, j18, j19, j20, j21, j22] ∧ hs = [.c false [.i .i64 9, .i .i64 op, .i .i64 t, .i .i64 v, .s nl nn, .ts (Ex.rows args)]])
      (fun i => i ≤ args.length ∧ Ex.controls args = Ex.controls (args.drop i)) (fun i => args.length - i) ?_ 0 _ _ ⟨_, _, _, _, _, _, _, _, _, _, _, _, _, _, _, _, _, _, _, _, rfl, rfl⟩ ⟨Nat.zero_le _, rfl⟩
    rintro i _ _ ⟨j0, j4, j5, j6, j7, j8, j9, j10, j11, j12, j13, j14, j15, j16, j17, j18, j19, j20, j21, j22, rfl, rfl⟩ ⟨hi, hfi⟩ IH
    by_cases hlt : i < args.length
    · have hlt1 : decide ((i : Int) < (args.length : Int)) = true := by simp; omega
      obtain ⟨x, hx, hxm⟩ := at_some hlt
      have hxr : (Ex.rows args)[i]? = some x.row := by rw [rows_get, hx]; rfl
      have hw := wrap_len (n := i) (by omega)
      have hd := controls_split hx
      have hc := hf x hxm
      cases hpx : x.control with
      | true =>
        rw [hpx] at hc
        repeat' (first
          | ((with_reducible refine cnd_intro (fun h => ?_) (fun h => ?_)) <;> simp only [h, hlt1, hxr, row_len, row_take, rows_len, rows_cl, row_cl, hw, SXR, noA, isAl, udf, AOp.dst, Nat.beq, putAt, bldE, evIo, isNil, Nat.ble, Int.reduceAdd, Int.reduceSub, Int.reduceNeg, Int.reduceBNe, Nat.reduceEqDiff, Nat.reduceSub, Nat.reduceAdd, Nat.reduceLeDiff, Nat.reduceBEq, Nat.reduceLT, Nat.reduceMul, Int.reduceBEq, Int.reduceLT, Int.reduceLE, reduceIte, reduceCtorEq])
          | ((with_reducible refine k_cons ?rdq ?_); (case rdq => refine rck_mk rfl ?_ ?_ <;> simp only [SXR, Option.isSome_some, hlt1, hxr, row_len, row_take, rows_len, rows_cl, row_cl, hw]))
          | (with_reducible refine pcl_intro (hc) (by simp only [SXR, hlt1, hxr, row_len, row_take, rows_len, rows_cl, row_cl, hw]) (by simp only [SXR, hlt1, hxr, row_len, row_take, rows_len, rows_cl, row_cl, hw]) ?_)
          | (simp only [c9, hlt1, hxr, row_len, row_take, rows_len, rows_cl, row_cl, hw, SXR, noA, isAl, udf, AOp.dst, Nat.beq, putAt, bldE, evIo, isNil, Nat.ble, Int.reduceAdd, Int.reduceSub, Int.reduceNeg, Int.reduceBNe, Nat.reduceEqDiff, Nat.reduceSub, Nat.reduceAdd, Nat.reduceLeDiff, Nat.reduceBEq, Nat.reduceLT, Nat.reduceMul, Int.reduceBEq, Int.reduceLT, Int.reduceLE, reduceIte, reduceCtorEq]))
        refine IH (i + 1) _ _ ⟨_, _, _, _, _, _, _, _, _, _, _, _, _, _, _, _, _, _, _, _, rfl, rfl⟩ ⟨by omega, ?_⟩ (by omega)
        rw [hfi, hd, hpx]; rfl
      | false =>
        rw [hpx] at hc
        clear IH
        repeat' (first
          | ((with_reducible refine cnd_intro (fun h => ?_) (fun h => ?_)) <;> simp only [h, hlt1, hxr, row_len, row_take, rows_len, rows_cl, row_cl, hw, SXR, noA, isAl, udf, AOp.dst, Nat.beq, putAt, bldE, evIo, isNil, Nat.ble, Int.reduceAdd, Int.reduceSub, Int.reduceNeg, Int.reduceBNe, Nat.reduceEqDiff, Nat.reduceSub, Nat.reduceAdd, Nat.reduceLeDiff, Nat.reduceBEq, Nat.reduceLT, Nat.reduceMul, Int.reduceBEq, Int.reduceLT, Int.reduceLE, reduceIte, reduceCtorEq])
          | ((with_reducible refine k_cons ?rdq ?_); (case rdq => refine rck_mk rfl ?_ ?_ <;> simp only [SXR, Option.isSome_some, hlt1, hxr, row_len, row_take, rows_len, rows_cl, row_cl, hw]))
          | (with_reducible refine pcl_intro (hc) (by simp only [SXR, hlt1, hxr, row_len, row_take, rows_len, rows_cl, row_cl, hw]) (by simp only [SXR, hlt1, hxr, row_len, row_take, rows_len, rows_cl, row_cl, hw]) ?_)
          | (simp only [c9, hlt1, hxr, row_len, row_take, rows_len, rows_cl, row_cl, hw, SXR, noA, isAl, udf, AOp.dst, Nat.beq, putAt, bldE, evIo, isNil, Nat.ble, Int.reduceAdd, Int.reduceSub, Int.reduceNeg, Int.reduceBNe, Nat.reduceEqDiff, Nat.reduceSub, Nat.reduceAdd, Nat.reduceLeDiff, Nat.reduceBEq, Nat.reduceLT, Nat.reduceMul, Int.reduceBEq, Int.reduceLT, Int.reduceLE, reduceIte, reduceCtorEq]))
        rw [hfi, hd, hpx]; rfl
    · have hlt1 : decide ((i : Int) < (args.length : Int)) = false := by simp; omega
      clear IH
      repeat' (first
        | ((with_reducible refine cnd_intro (fun h => ?_) (fun h => ?_)) <;> simp only [h, hlt1, rows_len, SXR, noA, isAl, udf, AOp.dst, Nat.beq, putAt, bldE, evIo, isNil, Nat.ble, Int.reduceAdd, Int.reduceSub, Int.reduceNeg, Int.reduceBNe, Nat.reduceEqDiff, Nat.reduceSub, Nat.reduceAdd, Nat.reduceLeDiff, Nat.reduceBEq, Nat.reduceLT, Nat.reduceMul, Int.reduceBEq, Int.reduceLT, Int.reduceLE, reduceIte, reduceCtorEq])
        | ((with_reducible refine k_cons ?rdq ?_); (case rdq => refine rck_mk rfl ?_ ?_ <;> simp only [SXR, Option.isSome_some, hlt1, rows_len]))
        | (simp only [c9, hlt1, rows_len, SXR, noA, isAl, udf, AOp.dst, Nat.beq, putAt, bldE, evIo, isNil, Nat.ble, Int.reduceAdd, Int.reduceSub, Int.reduceNeg, Int.reduceBNe, Nat.reduceEqDiff, Nat.reduceSub, Nat.reduceAdd, Nat.reduceLeDiff, Nat.reduceBEq, Nat.reduceLT, Nat.reduceMul, Int.reduceBEq, Int.reduceLT, Int.reduceLE, reduceIte, reduceCtorEq]))
      have : i = args.length := by omega
      subst this
      rw [hfi, List.drop_length]; rfl
end Go.Proofs.YtodpmbaggcbaeaaGreatDoor
