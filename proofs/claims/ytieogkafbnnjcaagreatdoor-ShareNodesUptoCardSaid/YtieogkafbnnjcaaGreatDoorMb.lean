/-
  How large an expression is, counted no further than is asked.
  How large lists are, counted no further than is asked.
  How large a program without automata is, counted no further than is asked.
  The declarations of a node in one list: the reference's. Printed by mkrv.py.
  The reference's right side of an equation: words, others.
  The reference's right side of a call.
  The reference's right side of a delay of no variable.
  The reference's right side of a delay.
-/
import Derived.Test.YtieogkafbnnjcaaGreatDoorMa
set_option linter.unusedSimpArgs false
set_option linter.unusedVariables false
namespace Go.Proofs.YtieogkafbnnjcaaGreatDoor
open Go Go.B
mutual
def w6 : Ex → Int → Int
 | .mk _ _ _ _ _ _ args, m => if m < w6s args m 1 then m else w6s args m 1
def w6s : List Ex → Int → Int → Int
 | [], _, n => n
 | e :: l, m, n => if n < m then w6s l m (IntKind.i64.wrap (n + w6 e (IntKind.i64.wrap (m - n)))) else n
end
theorem u9 {α : Type} {l : List α} {i : Nat} {x : α} (h : l[i]? = some x) : l.drop i = x :: l.drop (i + 1) := by
 have hlt := (List.getElem?_eq_some_iff.1 h).1
 rw [List.drop_eq_getElem_cons hlt]
 have : l[i] = x := by simpa [List.getElem?_eq_getElem hlt] using h
 rw [this]
theorem aq4 : ∀ (n : Nat) (e : Ex) (m : Int), e.sz ≤ n → e.ok → PC Tryz.prog 12 [xg e, .i .i64 m] (.i .i64 (w6 e m))
 | 0, e, m, h, _ => by have := sz_pos e; omega
 | n + 1, .mk k op t v nl nn args, m, h, hn => by
   have hszs : Ex.szs args ≤ n := by simp [Ex.sz] at h; omega
   simp only [Ex.ok] at hn
   have hf : ∀ a, a ∈ args → ∀ m : Int, PC Tryz.prog 12 [xg a, .i .i64 m] (.i .i64 (w6 a m)) := fun a ha m => aq4 n a m (by have := az7 ha; omega) (ak2 hn.2 ha)
   have hlen := hn.1
   unfold Lst.ok at hlen
   simp only [w6]
   refine v6 Tryz.func12 k12 rfl ?_
   repeat' (first
    | (simp only [c12, Ex.row, SXR, simprocAttr]))
   refine o8 (X := Nat × Int) (fun x ll hs => Hd (fun j => [xg (.mk k op t v nl nn args), .i .i64 m, .p 0 0, j 3, .i .i64 0, .i .i64 x.2, .i .i64 (x.1 : Int), j 7, j 8, j 9, j 10, j 11, j 12, j 13, j 14, j 15, j 16, j 17, j 18, j 19, j 20, j 21, j 22, j 23, j 24, j 25, j 26, j 27, j 28, j 29, j 30, j 31, j 32]) ll ∧ hs = [.c false [.i .i64 k, .i .i64 op, .i .i64 t, .i .i64 v, .s nl nn, .ts (Ex.rows args)]])
    (fun x => x.1 ≤ args.length ∧ w6s args m 1 = w6s (args.drop x.1) m x.2) (fun x => args.length - x.1) ?_ (0, 1) _ _ (by exact ⟨rfl, rfl⟩) ⟨Nat.zero_le _, rfl⟩
   rintro ⟨i, a⟩ _ _ ⟨e, rfl⟩ ⟨hi, hw6⟩ IH
   obtain ⟨j, rfl⟩ := e.open
   clear e
   simp only at hi hw6 IH
   by_cases hlt : i < args.length
   ·obtain ⟨x, hx, hxm⟩ := ats hlt
    have hr : (Ex.rows args)[i]? = some x.row := by rw [aj9, hx]; rfl
    have hd := ltd hlt
    have hw := l6 (n := i) (by omega)
    rw [u9 hx] at hw6
    simp only [w6s] at hw6
    by_cases hg : a < m
    ·rw [if_pos hg] at hw6
     have hgd : decide (a < m) = true := by simpa using hg
     have hc := hf x hxm (IntKind.i64.wrap (m - a))
     repeat' (first
      | (with_reducible refine b8 (hc) (by simp only [SXR, m0, e9]) (by simp only [SXR, m0, e9]) ?_)
      | (simp only [c12, m5, m0, hd, hr, j9, m4, e9, hgd, hw, SXR, simprocAttr]))
     exact IH (i + 1, _) _ _ (by exact ⟨rfl, rfl⟩) ⟨hlt, hw6⟩ (by simp only; omega)
    ·rw [if_neg hg] at hw6
     have hgd : decide (a < m) = false := by simpa using hg
     clear IH
     rw [hw6]
     repeat' (first
      | (simp only [c12, m5, hd, hgd, SXR, simprocAttr]))
   ·have hd := ltn hlt
    clear IH
    have : args.drop i = [] := List.drop_eq_nil_of_le (by omega)
    rw [this] at hw6
    simp only [w6s] at hw6
    rw [hw6]
    repeat' (first
     | (simp only [c12, m5, hd, SXR, simprocAttr]))
def wl {α : Type} (f : α → Int → Int) (m : Int) : List α → Int → Int
 | [], n => n
 | x :: l, n => if n < m then wl f m l (f x n) else n
def wDecl (d : Decl) (n : Int) : Int := IntKind.i64.wrap (IntKind.i64.wrap (n + (d.ck.length : Int)) + IntKind.i64.wrap ((d.nm.1 : Int).tdiv 100))
def wEqn (m : Int) (q : Eqn) (n : Int) : Int := IntKind.i64.wrap (IntKind.i64.wrap (n + (q.left.length : Int)) + w6 q.right m)
theorem ai3 (l : List Decl) (m : Int) (hn : Lst.ok l) : PC Tryz.prog 31 [.ts (l.map Decl.row), .i .i64 m] (.i .i64 (wl wDecl m l (l.length : Int))) := by
 unfold Lst.ok at hn
 refine v6 Tryz.func31 k31 rfl ?_
 repeat' (first
  | (simp only [c31, List.length_map, SXR, simprocAttr]))
 refine o8 (X := Nat × Int) (fun x ll hs => Hd (fun j => [.ts (l.map Decl.row), .i .i64 m, j 2, j 3, .i .i64 0, .i .i64 x.2, .i .i64 (x.1 : Int), j 7, j 8, j 9, j 10, j 11, j 12, j 13, j 14, j 15, j 16, j 17, j 18, j 19, j 20, j 21, j 22, j 23, j 24, j 25, j 26, j 27, j 28, j 29, j 30, j 31, j 32, j 33, j 34, j 35, j 36]) ll ∧ hs = [])
  (fun x => x.1 ≤ l.length ∧ wl wDecl m l (l.length : Int) = wl wDecl m (l.drop x.1) x.2) (fun x => l.length - x.1) ?_ (0, _) _ _ (by exact ⟨rfl, rfl⟩) ⟨Nat.zero_le _, rfl⟩
 rintro ⟨i, a⟩ _ _ ⟨e, rfl⟩ ⟨hi, hwl⟩ IH
 obtain ⟨j, rfl⟩ := e.open
 clear e
 simp only at hi hwl IH
 by_cases hlt : i < l.length
 ·obtain ⟨x, hx, hxm⟩ := ats hlt
  have hr := mg (f := Decl.row) hx
  have hd := ltd hlt
  have hw := l6 (n := i) (by omega)
  rw [u9 hx] at hwl
  simp only [wl] at hwl
  by_cases hg : a < m
  ·rw [if_pos hg] at hwl
   have hgd : decide (a < m) = true := by simpa using hg
   repeat' (first
    | (simp only [c31, List.length_map, hd, hr, Decl.row, hgd, hw, SXR, simprocAttr]))
   exact IH (i + 1, _) _ _ (by exact ⟨rfl, rfl⟩) ⟨hlt, hwl⟩ (by simp only; omega)
  ·rw [if_neg hg] at hwl
   have hgd : decide (a < m) = false := by simpa using hg
   clear IH
   rw [hwl]
   repeat' (first
    | (simp only [c31, List.length_map, hd, hgd, SXR, simprocAttr]))
 ·have hd := ltn hlt
  clear IH
  have : l.drop i = [] := List.drop_eq_nil_of_le (by omega)
  rw [this] at hwl
  simp only [wl] at hwl
  rw [hwl]
  repeat' (first
   | (simp only [c31, List.length_map, hd, SXR, simprocAttr]))
theorem weqs_pc (l : List Eqn) (m : Int) (hn : Lst.ok l) (hq : ∀ q, q ∈ l → q.right.ok) : PC Tryz.prog 32 [.ts (l.map Eqn.row), .i .i64 m] (.i .i64 (wl (wEqn m) m l (l.length : Int))) := by
 unfold Lst.ok at hn
 refine v6 Tryz.func32 k32 rfl ?_
 repeat' (first
  | ((with_reducible refine j3 ?rdq ?_); (case rdq => refine j2 rfl ?_ ?_ <;> simp only [Option.isSome_some, List.length_map, SXR, simprocAttr]))
  | (simp only [c32, List.length_map, SXR, simprocAttr]))
 refine o8 (X := Nat × Int) (fun x ll hs => Hd (fun j => [.ts (l.map Eqn.row), .i .i64 m, j 2, j 3, .i .i64 0, .i .i64 x.2, .i .i64 (x.1 : Int), j 7, j 8, j 9, j 10, j 11, j 12, j 13, j 14, j 15, j 16, j 17, j 18, j 19, j 20, j 21, j 22, j 23, j 24, j 25, j 26, j 27, j 28, j 29, j 30, j 31, j 32, j 33, j 34, j 35, j 36]) ll ∧ hs = [])
  (fun x => x.1 ≤ l.length ∧ wl (wEqn m) m l (l.length : Int) = wl (wEqn m) m (l.drop x.1) x.2) (fun x => l.length - x.1) ?_ (0, _) _ _ (by exact ⟨rfl, rfl⟩) ⟨Nat.zero_le _, rfl⟩
 rintro ⟨i, a⟩ _ _ ⟨e, rfl⟩ ⟨hi, hwl⟩ IH
 obtain ⟨j, rfl⟩ := e.open
 clear e
 simp only at hi hwl IH
 by_cases hlt : i < l.length
 ·obtain ⟨x, hx, hxm⟩ := ats hlt
  have hr := mg (f := Eqn.row) hx
  have hd := ltd hlt
  have hw := l6 (n := i) (by omega)
  rw [u9 hx] at hwl
  simp only [wl] at hwl
  by_cases hg : a < m
  ·rw [if_pos hg] at hwl
   have hgd : decide (a < m) = true := by simpa using hg
   have hc := aq4 _ x.right m (Nat.le_refl _) (hq x hxm)
   repeat' (first
    | ((with_reducible refine j3 ?rdq ?_); (case rdq => refine j2 rfl ?_ ?_ <;> simp only [Option.isSome_some, List.length_map, hd, hr, Eqn.row, j9, m4, e9, hgd, hw, SXR, simprocAttr]))
    | (with_reducible refine b8 (hc) (by simp only [SXR, e9]) (by simp only [SXR, e9]) ?_)
    | (simp only [c32, List.length_map, hd, hr, Eqn.row, j9, m4, e9, hgd, hw, SXR, simprocAttr]))
   exact IH (i + 1, _) _ _ (by exact ⟨rfl, rfl⟩) ⟨hlt, hwl⟩ (by simp only; omega)
  ·rw [if_neg hg] at hwl
   have hgd : decide (a < m) = false := by simpa using hg
   clear IH
   rw [hwl]
   repeat' (first
    | ((with_reducible refine j3 ?rdq ?_); (case rdq => refine j2 rfl ?_ ?_ <;> simp only [Option.isSome_some, List.length_map, hd, hgd, SXR, simprocAttr]))
    | (simp only [c32, List.length_map, hd, hgd, SXR, simprocAttr]))
 ·have hd := ltn hlt
  clear IH
  have : l.drop i = [] := List.drop_eq_nil_of_le (by omega)
  rw [this] at hwl
  simp only [wl] at hwl
  rw [hwl]
  repeat' (first
   | ((with_reducible refine j3 ?rdq ?_); (case rdq => refine j2 rfl ?_ ?_ <;> simp only [Option.isSome_some, List.length_map, hd, SXR, simprocAttr]))
   | (simp only [c32, List.length_map, hd, SXR, simprocAttr]))
theorem an8 (m : Int) : PC Tryz.prog 33 [.ts [], .i .i64 m] (.i .i64 0) := by
 refine v6 Tryz.func33 k33 rfl ?_
 repeat' (first
  | (with_reducible refine al2 ?_)
  | (simp only [c33, Int.natCast_zero, decide_false, decide_true, SXR, simprocAttr]))
theorem bh5 (m : Int) : PC Tryz.prog 34 [.ts [], .i .i64 m] (.i .i64 0) := by
 refine v6 Tryz.func34 k34 rfl ?_
 repeat' (first
  | (with_reducible refine al2 ?_)
  | ((with_reducible refine j3 ?rdq ?_); (case rdq => refine j2 rfl ?_ ?_ <;> simp only [Option.isSome_some, Int.natCast_zero, decide_false, decide_true, SXR, simprocAttr]))
  | (simp only [c34, Int.natCast_zero, decide_false, decide_true, SXR, simprocAttr]))
def wEnm (u : Enm) (n : Int) : Int := IntKind.i64.wrap (n + (u.tags.length : Int))
def ag4 (m : Int) (x : PNode) (n : Int) : Int :=
 IntKind.i64.wrap (IntKind.i64.wrap (IntKind.i64.wrap (IntKind.i64.wrap (IntKind.i64.wrap (IntKind.i64.wrap (n + wl wDecl m x.ins (x.ins.length : Int)) + wl wDecl m x.outs (x.outs.length : Int)) + wl wDecl m x.locals (x.locals.length : Int)) + wl (wEqn m) m x.eqs (x.eqs.length : Int)) + 0) + 0)
def wNode (m : Int) (x : PNode) (n : Int) : Int := if ag4 m x n < m then IntKind.i64.wrap (ag4 m x n + 0) else ag4 m x n
def w10 (p : Prg) (m : Int) : Int := wl (wNode m) m p.nodes (wl wEnm m p.enums (IntKind.i64.wrap ((p.enums.length : Int) + (p.nodes.length : Int))))
set_option maxHeartbeats 4000000 in
theorem weigh10_pc (p : Prg) (m : Int) (hn : p.ok) : PC Tryz.prog 10 [.ag p.row, .i .i64 m] (.i .i64 (w10 p m)) := by
 obtain ⟨en, nd⟩ := p
 obtain ⟨⟨he, hee⟩, hnd, hnn⟩ := hn
 simp only at he hee hnd hnn
 unfold Lst.ok at he hnd
 unfold w10
 simp only
 refine v6 Tryz.func10 k10 rfl ?_
 repeat' (first
  | ((with_reducible refine j3 ?rdq ?_); (case rdq => refine j2 rfl ?_ ?_ <;> simp only [Option.isSome_some, Prg.row, List.length_map, SXR, simprocAttr]))
  | (simp only [c10, Prg.row, List.length_map, SXR, simprocAttr]))
 refine o8 (X := Nat × Int) (fun x ll hs => Hd (fun j => [.ag (Prg.row ⟨en, nd⟩), .i .i64 m, .p 0 0, j 3, .i .i64 0, .i .i64 x.2, .i .i64 (x.1 : Int), j 7, j 8, j 9, j 10, j 11, j 12, j 13, j 14, j 15, j 16, j 17, j 18, j 19, j 20, j 21, j 22, j 23, j 24, j 25, j 26, j 27, j 28, j 29, j 30, j 31, j 32, j 33, j 34, j 35, j 36, j 37, j 38, j 39, j 40, j 41, j 42, j 43, j 44, j 45, j 46, j 47, j 48, j 49, j 50, j 51, j 52, j 53, j 54, j 55, j 56, j 57, j 58, j 59, j 60, j 61, j 62, j 63, j 64, j 65, j 66, j 67, j 68, j 69, j 70, j 71, j 72, j 73, j 74, j 75, j 76, j 77, j 78, j 79, j 80, j 81, j 82, j 83, j 84, j 85, j 86, j 87, j 88, j 89, j 90, j 91, j 92, j 93, j 94, j 95, j 96]) ll ∧ hs = [.c false (Prg.row ⟨en, nd⟩)])
  (fun x => x.1 ≤ en.length ∧ wl wEnm m en (IntKind.i64.wrap ((en.length : Int) + (nd.length : Int))) = wl wEnm m (en.drop x.1) x.2) (fun x => en.length - x.1) ?_ (0, _) _ _ (by exact ⟨rfl, rfl⟩) ⟨Nat.zero_le _, rfl⟩
 rintro ⟨i, a⟩ _ _ ⟨e, rfl⟩ ⟨hi, hwl⟩ IH
 obtain ⟨j, rfl⟩ := e.open
 clear e
 simp only at hi hwl IH
 by_cases hgo : i < en.length ∧ a < m
 ·obtain ⟨hlt, hg⟩ := hgo
  obtain ⟨x, hx, hxm⟩ := ats hlt
  have hr := mg (f := Enm.row) hx
  have hd := ltd hlt
  have hw := l6 (n := i) (by omega)
  rw [u9 hx] at hwl
  simp only [wl] at hwl
  rw [if_pos hg] at hwl
  have hgd : decide (a < m) = true := by simpa using hg
  repeat' (first
   | ((with_reducible refine j3 ?rdq ?_); (case rdq => refine j2 rfl ?_ ?_ <;> simp only [Option.isSome_some, Prg.row, List.length_map, hd, hr, Enm.row, hgd, hw, SXR, simprocAttr]))
   | (simp only [c10, Prg.row, List.length_map, hd, hr, Enm.row, hgd, hw, SXR, simprocAttr]))
  exact IH (i + 1, _) _ _ (by exact ⟨rfl, rfl⟩) ⟨hlt, hwl⟩ (by simp only; omega)
 have hend : wl wEnm m (en.drop i) a = a := by
  by_cases hlt : i < en.length
  ·obtain ⟨x, hx, hxm⟩ := ats hlt
   have hg : ¬ a < m := fun h => hgo ⟨hlt, h⟩
   rw [u9 hx]
   simp only [wl]
   rw [if_neg hg]
  ·have : en.drop i = [] := List.drop_eq_nil_of_le (by omega)
   rw [this]
   rfl
 rw [hend] at hwl
 rw [hwl]
 have hgb : (decide ((i : Int) < (en.length : Int)) = false) ∨ (decide ((i : Int) < (en.length : Int)) = true ∧ decide (a < m) = false) := by
  by_cases hlt : i < en.length
  ·exact .inr ⟨ltd hlt, by have : ¬ a < m := fun h => hgo ⟨hlt, h⟩; simpa using this⟩
  ·exact .inl (ltn hlt)
 clear IH hwl hend hgo
 rcases hgb with hd0 | ⟨hd0, hgd0⟩
 ·skip
  repeat' (first
   | ((with_reducible refine j3 ?rdq ?_); (case rdq => refine j2 rfl ?_ ?_ <;> simp only [Option.isSome_some, Prg.row, List.length_map, hd0, SXR, simprocAttr]))
   | (simp only [c10, Prg.row, List.length_map, hd0, SXR, simprocAttr]))
  refine o8 (X := Nat × Int) (fun x ll hs => ∃ js : List O, Hd (fun j => [.ag (Prg.row ⟨en, nd⟩), .i .i64 m, .p 0 0, j 3, .i .i64 0, .i .i64 x.2, j 6, .i .i64 (x.1 : Int), j 8, j 9, j 10, j 11, j 12, j 13, j 14, j 15, j 16, j 17, j 18, j 19, j 20, j 21, j 22, j 23, j 24, j 25, j 26, j 27, j 28, j 29, j 30, j 31, j 32, j 33, j 34, j 35, j 36, j 37, j 38, j 39, j 40, j 41, j 42, j 43, j 44, j 45, j 46, j 47, j 48, j 49, j 50, j 51, j 52, j 53, j 54, j 55, j 56, j 57, j 58, j 59, j 60, j 61, j 62, j 63, j 64, j 65, j 66, j 67, j 68, j 69, j 70, j 71, j 72, j 73, j 74, j 75, j 76, j 77, j 78, j 79, j 80, j 81, j 82, j 83, j 84, j 85, j 86, j 87, j 88, j 89, j 90, j 91, j 92, j 93, j 94, j 95, j 96]) ll ∧ hs = .c false (Prg.row ⟨en, nd⟩) :: js)
   (fun x => x.1 ≤ nd.length ∧ wl (wNode m) m nd a = wl (wNode m) m (nd.drop x.1) x.2) (fun x => nd.length - x.1) ?_ (0, a) _ _ (by exact ⟨[], rfl, rfl⟩) ⟨Nat.zero_le _, rfl⟩
  rintro ⟨i, b⟩ _ _ ⟨js, e, rfl⟩ ⟨hi, hwl⟩ IH
  obtain ⟨j, rfl⟩ := e.open
  clear e
  simp only at hi hwl IH
  by_cases hlt : i < nd.length
  ·obtain ⟨x, hx, hxm⟩ := ats hlt
   have hr := mg (f := PNode.row) hx
   have hd := ltd hlt
   have hw := l6 (n := i) (by omega)
   rw [u9 hx] at hwl
   simp only [wl] at hwl
   by_cases hg : b < m
   ·rw [if_pos hg] at hwl
    have hgd : decide (b < m) = true := by simpa using hg
    obtain ⟨h1, h2, h3, h4, h5⟩ := hnn x hxm
    have hc1 := ai3 x.ins m h1.1
    have hc2 := ai3 x.outs m h2.1
    have hc3 := ai3 x.locals m h3.1
    have hc4 := weqs_pc x.eqs m h4 (fun q hq => (h5 q hq).2)
    have hc5 := bh5 (IntKind.i64.wrap (m - ag4 m x b))
    by_cases hg2 : ag4 m x b < m
    ·have hgd2 : decide (ag4 m x b < m) = true := by simpa using hg2
     unfold wNode at hwl
     rw [if_pos hg2] at hwl
     unfold ag4 at hgd2 hc5 hwl
     repeat' (first
      | ((with_reducible refine j3 ?rdq ?_); (case rdq => refine j2 rfl ?_ ?_ <;> simp only [Option.isSome_some, Prg.row, List.length_map, hd, hr, PNode.row, i8, l8, l9, hgd, hgd2, hw, Nat.add_assoc, SXR, simprocAttr]))
      | (with_reducible refine b8 (hc1) (by simp only [SXR, i8, l8, l9]) (by simp only [SXR, i8, l8, l9]) ?_)
      | (with_reducible refine b8 (hc2) (by simp only [SXR, i8, l8, l9]) (by simp only [SXR, i8, l8, l9]) ?_)
      | (with_reducible refine b8 (hc3) (by simp only [SXR, i8, l8, l9]) (by simp only [SXR, i8, l8, l9]) ?_)
      | (with_reducible refine b8 (hc4) (by simp only [SXR, i8, l8, l9]) (by simp only [SXR, i8, l8, l9]) ?_)
      | (with_reducible refine b8 (hc5) (by simp only [SXR, i8, l8, l9]) (by simp only [SXR, i8, l8, l9]) ?_)
      | (with_reducible refine b8 (an8 m) (by simp only [SXR, i8, l8, l9]) (by simp only [SXR, i8, l8, l9]) ?_)
      | (simp only [c10, Prg.row, List.length_map, hd, hr, PNode.row, i8, l8, l9, hgd, hgd2, hw, Nat.add_assoc, SXR, simprocAttr]))
     exact IH (i + 1, _) _ _ (by exact ⟨_, rfl, rfl⟩) ⟨hlt, hwl⟩ (by simp only; omega)
    ·have hgd2 : decide (ag4 m x b < m) = false := by simpa using hg2
     unfold wNode at hwl
     rw [if_neg hg2] at hwl
     unfold ag4 at hgd2 hwl
     repeat' (first
      | ((with_reducible refine j3 ?rdq ?_); (case rdq => refine j2 rfl ?_ ?_ <;> simp only [Option.isSome_some, Prg.row, List.length_map, hd, hr, PNode.row, i8, l8, l9, hgd, hgd2, hw, Nat.add_assoc, SXR, simprocAttr]))
      | (with_reducible refine b8 (hc1) (by simp only [SXR, i8, l8, l9]) (by simp only [SXR, i8, l8, l9]) ?_)
      | (with_reducible refine b8 (hc2) (by simp only [SXR, i8, l8, l9]) (by simp only [SXR, i8, l8, l9]) ?_)
      | (with_reducible refine b8 (hc3) (by simp only [SXR, i8, l8, l9]) (by simp only [SXR, i8, l8, l9]) ?_)
      | (with_reducible refine b8 (hc4) (by simp only [SXR, i8, l8, l9]) (by simp only [SXR, i8, l8, l9]) ?_)
      | (with_reducible refine b8 (an8 m) (by simp only [SXR, i8, l8, l9]) (by simp only [SXR, i8, l8, l9]) ?_)
      | (simp only [c10, Prg.row, List.length_map, hd, hr, PNode.row, i8, l8, l9, hgd, hgd2, hw, Nat.add_assoc, SXR, simprocAttr]))
     exact IH (i + 1, _) _ _ (by exact ⟨_, rfl, rfl⟩) ⟨hlt, hwl⟩ (by simp only; omega)
   ·rw [if_neg hg] at hwl
    have hgd : decide (b < m) = false := by simpa using hg
    clear IH
    rw [hwl]
    repeat' (first
     | ((with_reducible refine j3 ?rdq ?_); (case rdq => refine j2 rfl ?_ ?_ <;> simp only [Option.isSome_some, Prg.row, List.length_map, hd, hgd, SXR, simprocAttr]))
     | (simp only [c10, Prg.row, List.length_map, hd, hgd, SXR, simprocAttr]))
  ·have hd := ltn hlt
   clear IH
   have : nd.drop i = [] := List.drop_eq_nil_of_le (by omega)
   rw [this] at hwl
   simp only [wl] at hwl
   rw [hwl]
   repeat' (first
    | ((with_reducible refine j3 ?rdq ?_); (case rdq => refine j2 rfl ?_ ?_ <;> simp only [Option.isSome_some, Prg.row, List.length_map, hd, SXR, simprocAttr]))
    | (simp only [c10, Prg.row, List.length_map, hd, SXR, simprocAttr]))
 ·skip
  repeat' (first
   | ((with_reducible refine j3 ?rdq ?_); (case rdq => refine j2 rfl ?_ ?_ <;> simp only [Option.isSome_some, Prg.row, List.length_map, hd0, hgd0, SXR, simprocAttr]))
   | (simp only [c10, Prg.row, List.length_map, hd0, hgd0, SXR, simprocAttr]))
  refine o8 (X := Nat × Int) (fun x ll hs => ∃ js : List O, Hd (fun j => [.ag (Prg.row ⟨en, nd⟩), .i .i64 m, .p 0 0, j 3, .i .i64 0, .i .i64 x.2, j 6, .i .i64 (x.1 : Int), j 8, j 9, j 10, j 11, j 12, j 13, j 14, j 15, j 16, j 17, j 18, j 19, j 20, j 21, j 22, j 23, j 24, j 25, j 26, j 27, j 28, j 29, j 30, j 31, j 32, j 33, j 34, j 35, j 36, j 37, j 38, j 39, j 40, j 41, j 42, j 43, j 44, j 45, j 46, j 47, j 48, j 49, j 50, j 51, j 52, j 53, j 54, j 55, j 56, j 57, j 58, j 59, j 60, j 61, j 62, j 63, j 64, j 65, j 66, j 67, j 68, j 69, j 70, j 71, j 72, j 73, j 74, j 75, j 76, j 77, j 78, j 79, j 80, j 81, j 82, j 83, j 84, j 85, j 86, j 87, j 88, j 89, j 90, j 91, j 92, j 93, j 94, j 95, j 96]) ll ∧ hs = .c false (Prg.row ⟨en, nd⟩) :: js)
   (fun x => x.1 ≤ nd.length ∧ wl (wNode m) m nd a = wl (wNode m) m (nd.drop x.1) x.2) (fun x => nd.length - x.1) ?_ (0, a) _ _ (by exact ⟨[], rfl, rfl⟩) ⟨Nat.zero_le _, rfl⟩
  rintro ⟨i, b⟩ _ _ ⟨js, e, rfl⟩ ⟨hi, hwl⟩ IH
  obtain ⟨j, rfl⟩ := e.open
  clear e
  simp only at hi hwl IH
  by_cases hlt : i < nd.length
  ·obtain ⟨x, hx, hxm⟩ := ats hlt
   have hr := mg (f := PNode.row) hx
   have hd := ltd hlt
   have hw := l6 (n := i) (by omega)
   rw [u9 hx] at hwl
   simp only [wl] at hwl
   by_cases hg : b < m
   ·rw [if_pos hg] at hwl
    have hgd : decide (b < m) = true := by simpa using hg
    obtain ⟨h1, h2, h3, h4, h5⟩ := hnn x hxm
    have hc1 := ai3 x.ins m h1.1
    have hc2 := ai3 x.outs m h2.1
    have hc3 := ai3 x.locals m h3.1
    have hc4 := weqs_pc x.eqs m h4 (fun q hq => (h5 q hq).2)
    have hc5 := bh5 (IntKind.i64.wrap (m - ag4 m x b))
    by_cases hg2 : ag4 m x b < m
    ·have hgd2 : decide (ag4 m x b < m) = true := by simpa using hg2
     unfold wNode at hwl
     rw [if_pos hg2] at hwl
     unfold ag4 at hgd2 hc5 hwl
     repeat' (first
      | ((with_reducible refine j3 ?rdq ?_); (case rdq => refine j2 rfl ?_ ?_ <;> simp only [Option.isSome_some, Prg.row, List.length_map, hd, hr, PNode.row, i8, l8, l9, hgd, hgd2, hw, Nat.add_assoc, SXR, simprocAttr]))
      | (with_reducible refine b8 (hc1) (by simp only [SXR, i8, l8, l9]) (by simp only [SXR, i8, l8, l9]) ?_)
      | (with_reducible refine b8 (hc2) (by simp only [SXR, i8, l8, l9]) (by simp only [SXR, i8, l8, l9]) ?_)
      | (with_reducible refine b8 (hc3) (by simp only [SXR, i8, l8, l9]) (by simp only [SXR, i8, l8, l9]) ?_)
      | (with_reducible refine b8 (hc4) (by simp only [SXR, i8, l8, l9]) (by simp only [SXR, i8, l8, l9]) ?_)
      | (with_reducible refine b8 (hc5) (by simp only [SXR, i8, l8, l9]) (by simp only [SXR, i8, l8, l9]) ?_)
      | (with_reducible refine b8 (an8 m) (by simp only [SXR, i8, l8, l9]) (by simp only [SXR, i8, l8, l9]) ?_)
      | (simp only [c10, Prg.row, List.length_map, hd, hr, PNode.row, i8, l8, l9, hgd, hgd2, hw, Nat.add_assoc, SXR, simprocAttr]))
     exact IH (i + 1, _) _ _ (by exact ⟨_, rfl, rfl⟩) ⟨hlt, hwl⟩ (by simp only; omega)
    ·have hgd2 : decide (ag4 m x b < m) = false := by simpa using hg2
     unfold wNode at hwl
     rw [if_neg hg2] at hwl
     unfold ag4 at hgd2 hwl
     repeat' (first
      | ((with_reducible refine j3 ?rdq ?_); (case rdq => refine j2 rfl ?_ ?_ <;> simp only [Option.isSome_some, Prg.row, List.length_map, hd, hr, PNode.row, i8, l8, l9, hgd, hgd2, hw, Nat.add_assoc, SXR, simprocAttr]))
      | (with_reducible refine b8 (hc1) (by simp only [SXR, i8, l8, l9]) (by simp only [SXR, i8, l8, l9]) ?_)
      | (with_reducible refine b8 (hc2) (by simp only [SXR, i8, l8, l9]) (by simp only [SXR, i8, l8, l9]) ?_)
      | (with_reducible refine b8 (hc3) (by simp only [SXR, i8, l8, l9]) (by simp only [SXR, i8, l8, l9]) ?_)
      | (with_reducible refine b8 (hc4) (by simp only [SXR, i8, l8, l9]) (by simp only [SXR, i8, l8, l9]) ?_)
      | (with_reducible refine b8 (an8 m) (by simp only [SXR, i8, l8, l9]) (by simp only [SXR, i8, l8, l9]) ?_)
      | (simp only [c10, Prg.row, List.length_map, hd, hr, PNode.row, i8, l8, l9, hgd, hgd2, hw, Nat.add_assoc, SXR, simprocAttr]))
     exact IH (i + 1, _) _ _ (by exact ⟨_, rfl, rfl⟩) ⟨hlt, hwl⟩ (by simp only; omega)
   ·rw [if_neg hg] at hwl
    have hgd : decide (b < m) = false := by simpa using hg
    clear IH
    rw [hwl]
    repeat' (first
     | ((with_reducible refine j3 ?rdq ?_); (case rdq => refine j2 rfl ?_ ?_ <;> simp only [Option.isSome_some, Prg.row, List.length_map, hd, hgd, SXR, simprocAttr]))
     | (simp only [c10, Prg.row, List.length_map, hd, hgd, SXR, simprocAttr]))
  ·have hd := ltn hlt
   clear IH
   have : nd.drop i = [] := List.drop_eq_nil_of_le (by omega)
   rw [this] at hwl
   simp only [wl] at hwl
   rw [hwl]
   repeat' (first
    | ((with_reducible refine j3 ?rdq ?_); (case rdq => refine j2 rfl ?_ ?_ <;> simp only [Option.isSome_some, Prg.row, List.length_map, hd, SXR, simprocAttr]))
    | (simp only [c10, Prg.row, List.length_map, hd, SXR, simprocAttr]))
theorem dall (l : List Decl) : (l.map Decl.row).all (fun r => r.length == 3) = true := all_map o9 l
theorem wid (rs : List (List V)) (h : rs.all (fun r => r.length == 3) = true) : ∀ r, r ∈ rs → r.length = 3 := by
 intro r hr
 have := List.all_eq_true.1 h r hr
 simpa using this
theorem am9 (a : Decl) (l : List Decl) : (a.row :: l.map Decl.row).flatten.length = (l.length + 1) * 3 := by
 have := am8 (rows := (a :: l).map Decl.row) (mem_map o9 _)
 simpa using this
theorem rvars_0 (nm : Str) (e : List (List V))  (hn : 0 ≤ 90000000) : PC Tryz.prog 35 [.ag [.s nm.1 nm.2, .ts [], .ts [], .ts [], .ts e]] (.ts ((([] : List Decl) ++ ([] : List Decl) ++ ([] : List Decl)).map Decl.row)) := by
 refine ac1 Tryz.func35 k35 rfl ?_
 repeat' (first
  | (simp only [c35, u5, u4, dall, o9, List.length_map, SXR, simprocAttr]))
 exact .nil
theorem rvars_1 (nm : Str) (e : List (List V)) (c : Decl) (z : List Decl) (hn : (z.length + 1) ≤ 90000000) : PC Tryz.prog 35 [.ag [.s nm.1 nm.2, .ts [], .ts [], .ts ((c :: z).map Decl.row), .ts e]] (.ts ((([] : List Decl) ++ ([] : List Decl) ++ ((c :: z) : List Decl)).map Decl.row)) := by
 have hr1 := p6 (n := (z.length + 1)) (b := 48) (by omega) (by omega)
 have hb1 : Nat.beq ((c.row :: z.map Decl.row).flatten.length) (((z.length + 1)) * 3) = true := al5 (by simp only [am9] <;> omega)
 refine ac1 Tryz.func35 k35 rfl ?_
 repeat' (first
  | (simp only [c35, u5, u4, dall, o9, List.length_map, hr1, hb1, SXR, simprocAttr]))
 refine Se.flat' rfl ?_ ?_ trivial (wid _ ?_)
 all_goals (first | rfl | (simp [o9]; done) | (simp; omega))
theorem rvars_2 (nm : Str) (e : List (List V)) (b : Decl) (y : List Decl) (hn : (y.length + 1) ≤ 90000000) : PC Tryz.prog 35 [.ag [.s nm.1 nm.2, .ts [], .ts ((b :: y).map Decl.row), .ts [], .ts e]] (.ts ((([] : List Decl) ++ ((b :: y) : List Decl) ++ ([] : List Decl)).map Decl.row)) := by
 have hr1 := p6 (n := (y.length + 1)) (b := 48) (by omega) (by omega)
 have hb1 : Nat.beq ((b.row :: y.map Decl.row).flatten.length) (((y.length + 1)) * 3) = true := al5 (by simp only [am9] <;> omega)
 refine ac1 Tryz.func35 k35 rfl ?_
 repeat' (first
  | (simp only [c35, u5, u4, dall, o9, List.length_map, hr1, hb1, SXR, simprocAttr]))
 refine Se.flat' rfl ?_ ?_ trivial (wid _ ?_)
 all_goals (first | rfl | (simp [o9]; done) | (simp; omega))
theorem rvars_3 (nm : Str) (e : List (List V)) (b : Decl) (y : List Decl) (c : Decl) (z : List Decl) (hn : (y.length + 1) + (z.length + 1) ≤ 90000000) : PC Tryz.prog 35 [.ag [.s nm.1 nm.2, .ts [], .ts ((b :: y).map Decl.row), .ts ((c :: z).map Decl.row), .ts e]] (.ts ((([] : List Decl) ++ ((b :: y) : List Decl) ++ ((c :: z) : List Decl)).map Decl.row)) := by
 have hr1 := p6 (n := (y.length + 1)) (b := 48) (by omega) (by omega)
 have hb1 : Nat.beq ((b.row :: y.map Decl.row).flatten.length) (((y.length + 1)) * 3) = true := al5 (by simp only [am9] <;> omega)
 have hr2 := p6 (n := (y.length + 1) + (z.length + 1)) (b := 48) (by omega) (by omega)
 have hb2 : Nat.beq ((b.row :: y.map Decl.row).flatten.length + (c.row :: z.map Decl.row).flatten.length) (((y.length + 1) + (z.length + 1)) * 3) = true := al5 (by simp only [am9] <;> omega)
 refine ac1 Tryz.func35 k35 rfl ?_
 repeat' (first
  | (simp only [c35, u5, u4, dall, o9, List.length_map, hr1, hb1, hr2, hb2, SXR, simprocAttr]))
 refine Se.flat' rfl ?_ ?_ trivial (wid _ ?_)
 all_goals (first | rfl | (simp [o9]; done) | (simp; omega))
theorem rvars_4 (nm : Str) (e : List (List V)) (a : Decl) (x : List Decl) (hn : (x.length + 1) ≤ 90000000) : PC Tryz.prog 35 [.ag [.s nm.1 nm.2, .ts ((a :: x).map Decl.row), .ts [], .ts [], .ts e]] (.ts ((((a :: x) : List Decl) ++ ([] : List Decl) ++ ([] : List Decl)).map Decl.row)) := by
 have hr1 := p6 (n := (x.length + 1)) (b := 48) (by omega) (by omega)
 have hb1 : Nat.beq ((a.row :: x.map Decl.row).flatten.length) (((x.length + 1)) * 3) = true := al5 (by simp only [am9] <;> omega)
 refine ac1 Tryz.func35 k35 rfl ?_
 repeat' (first
  | (simp only [c35, u5, u4, dall, o9, List.length_map, hr1, hb1, SXR, simprocAttr]))
 refine Se.flat' rfl ?_ ?_ trivial (wid _ ?_)
 all_goals (first | rfl | (simp [o9]; done) | (simp; omega))
theorem rvars_5 (nm : Str) (e : List (List V)) (a : Decl) (x : List Decl) (c : Decl) (z : List Decl) (hn : (x.length + 1) + (z.length + 1) ≤ 90000000) : PC Tryz.prog 35 [.ag [.s nm.1 nm.2, .ts ((a :: x).map Decl.row), .ts [], .ts ((c :: z).map Decl.row), .ts e]] (.ts ((((a :: x) : List Decl) ++ ([] : List Decl) ++ ((c :: z) : List Decl)).map Decl.row)) := by
 have hr1 := p6 (n := (x.length + 1)) (b := 48) (by omega) (by omega)
 have hb1 : Nat.beq ((a.row :: x.map Decl.row).flatten.length) (((x.length + 1)) * 3) = true := al5 (by simp only [am9] <;> omega)
 have hr2 := p6 (n := (x.length + 1) + (z.length + 1)) (b := 48) (by omega) (by omega)
 have hb2 : Nat.beq ((a.row :: x.map Decl.row).flatten.length + (c.row :: z.map Decl.row).flatten.length) (((x.length + 1) + (z.length + 1)) * 3) = true := al5 (by simp only [am9] <;> omega)
 refine ac1 Tryz.func35 k35 rfl ?_
 repeat' (first
  | (simp only [c35, u5, u4, dall, o9, List.length_map, hr1, hb1, hr2, hb2, SXR, simprocAttr]))
 refine Se.flat' rfl ?_ ?_ trivial (wid _ ?_)
 all_goals (first | rfl | (simp [o9]; done) | (simp; omega))
theorem rvars_6 (nm : Str) (e : List (List V)) (a : Decl) (x : List Decl) (b : Decl) (y : List Decl) (hn : (x.length + 1) + (y.length + 1) ≤ 90000000) : PC Tryz.prog 35 [.ag [.s nm.1 nm.2, .ts ((a :: x).map Decl.row), .ts ((b :: y).map Decl.row), .ts [], .ts e]] (.ts ((((a :: x) : List Decl) ++ ((b :: y) : List Decl) ++ ([] : List Decl)).map Decl.row)) := by
 have hr1 := p6 (n := (x.length + 1)) (b := 48) (by omega) (by omega)
 have hb1 : Nat.beq ((a.row :: x.map Decl.row).flatten.length) (((x.length + 1)) * 3) = true := al5 (by simp only [am9] <;> omega)
 have hr2 := p6 (n := (x.length + 1) + (y.length + 1)) (b := 48) (by omega) (by omega)
 have hb2 : Nat.beq ((a.row :: x.map Decl.row).flatten.length + (b.row :: y.map Decl.row).flatten.length) (((x.length + 1) + (y.length + 1)) * 3) = true := al5 (by simp only [am9] <;> omega)
 refine ac1 Tryz.func35 k35 rfl ?_
 repeat' (first
  | (simp only [c35, u5, u4, dall, o9, List.length_map, hr1, hb1, hr2, hb2, SXR, simprocAttr]))
 refine Se.flat' rfl ?_ ?_ trivial (wid _ ?_)
 all_goals (first | rfl | (simp [o9]; done) | (simp; omega))
theorem rvars_7 (nm : Str) (e : List (List V)) (a : Decl) (x : List Decl) (b : Decl) (y : List Decl) (c : Decl) (z : List Decl) (hn : (x.length + 1) + (y.length + 1) + (z.length + 1) ≤ 90000000) : PC Tryz.prog 35 [.ag [.s nm.1 nm.2, .ts ((a :: x).map Decl.row), .ts ((b :: y).map Decl.row), .ts ((c :: z).map Decl.row), .ts e]] (.ts ((((a :: x) : List Decl) ++ ((b :: y) : List Decl) ++ ((c :: z) : List Decl)).map Decl.row)) := by
 have hr1 := p6 (n := (x.length + 1)) (b := 48) (by omega) (by omega)
 have hb1 : Nat.beq ((a.row :: x.map Decl.row).flatten.length) (((x.length + 1)) * 3) = true := al5 (by simp only [am9] <;> omega)
 have hr2 := p6 (n := (x.length + 1) + (y.length + 1)) (b := 48) (by omega) (by omega)
 have hb2 : Nat.beq ((a.row :: x.map Decl.row).flatten.length + (b.row :: y.map Decl.row).flatten.length) (((x.length + 1) + (y.length + 1)) * 3) = true := al5 (by simp only [am9] <;> omega)
 have hr3 := p6 (n := (x.length + 1) + (y.length + 1) + (z.length + 1)) (b := 48) (by omega) (by omega)
 refine ac1 Tryz.func35 k35 rfl ?_
 repeat' (first
  | (simp only [c35, u5, u4, dall, o9, List.length_map, hr1, hb1, hr2, hb2, hr3, SXR, simprocAttr]))
 refine Se.flat' rfl ?_ ?_ trivial (wid _ ?_)
 all_goals (first | rfl | (simp [o9]; done) | (simp; omega))
theorem rvars_pc (nm : Str) (e : List (List V)) : ∀ (x y z : List Decl), x.length + y.length + z.length ≤ 90000000 → PC Tryz.prog 35 [.ag [.s nm.1 nm.2, .ts (x.map Decl.row), .ts (y.map Decl.row), .ts (z.map Decl.row), .ts e]] (.ts ((x ++ y ++ z).map Decl.row))
 | [], [], [], h => rvars_0 nm e  (by simp at h; omega)
 | [], [], c :: z, h => rvars_1 nm e c z (by simp at h; omega)
 | [], b :: y, [], h => rvars_2 nm e b y (by simp at h; omega)
 | [], b :: y, c :: z, h => rvars_3 nm e b y c z (by simp at h; omega)
 | a :: x, [], [], h => rvars_4 nm e a x (by simp at h; omega)
 | a :: x, [], c :: z, h => rvars_5 nm e a x c z (by simp at h; omega)
 | a :: x, b :: y, [], h => rvars_6 nm e a x b y (by simp at h; omega)
 | a :: x, b :: y, c :: z, h => rvars_7 nm e a x b y c z (by simp at h; omega)
theorem rright_else (vars : List Decl) (q : NEqn) (h2 : q.kind ≠ 2) (h3 : q.kind ≠ 3) (h4 : q.kind ≠ 4) : PC Tryz.prog 36 [.ts (vars.map Decl.row), .ag q.row] (xg q.right) := by
 have hb2 : (q.kind == 2) = false := by simpa using h2
 have hb3 : (q.kind == 3) = false := by simpa using h3
 have hb4 : (q.kind == 4) = false := by simpa using h4
 obtain ⟨kind, left, ⟨k, op, t, v, nl, nn, args⟩, init, node, ags, every, ck⟩ := q
 simp only at hb2 hb3 hb4
 refine v6 Tryz.func36 k36 rfl ?_
 repeat' (first
  | ((with_reducible refine aa1 (fun h => ?_) (fun h => ?_)) <;> simp only [h, NEqn.row, Ex.row, hb2, hb3, hb4, SXR, simprocAttr])
  | (simp only [c36, NEqn.row, Ex.row, hb2, hb3, hb4, SXR, simprocAttr]))
 rfl
theorem rright_word (vars : List Decl) (q : NEqn) (h4 : q.kind = 4) : PC Tryz.prog 36 [.ts (vars.map Decl.row), .ag q.row] (xg (.mk 11 0 0 0 q.node.1 q.node.2 [])) := by
 obtain ⟨kind, left, ⟨k, op, t, v, nl, nn, args⟩, init, node, ags, every, ck⟩ := q
 simp only at h4
 subst h4
 refine ac1 Tryz.func36 k36 rfl ?_
 repeat' (first
  | ((with_reducible refine aa1 (fun h => ?_) (fun h => ?_)) <;> simp only [h, u5, u4, NEqn.row, Ex.row, SXR, simprocAttr])
  | (simp only [c36, u5, u4, NEqn.row, Ex.row, SXR, simprocAttr]))
 exact Sl.ag ⟨.same _, .same _, .same _, .same _, .same _, .nil, trivial⟩
theorem rright_call0 (vars : List Decl) (q : NEqn) (h2 : q.kind = 3) (hl : q.args = []) (b : Bool) (hv : (q.every.1 == 0 && q.every.2 == 0) = b) :
  PC Tryz.prog 36 [.ts (vars.map Decl.row), .ag q.row] (xg (.mk 10 0 0 (if b = true then 0 else 1) q.node.1 q.node.2 ([] ++ (if b = true then [] else [vrb q.every])))) := by
 obtain ⟨kind, left, ⟨k, op, t, v, nl, nn, args⟩, init, node, ags, every, ck⟩ := q
 simp only at h2 hl hv ⊢
 subst h2 hl
 have hroom1 := p6 (n := 1) (b := 72) (by omega) (by omega)
 refine ac1 Tryz.func36 k36 rfl ?_
 cases b with
 | true =>
   repeat' (first
    | ((with_reducible refine aa1 (fun h => ?_) (fun h => ?_)) <;> simp only [h, u5, u4, NEqn.row, Ex.row, Ex.rows, hv, SXR, simprocAttr])
    | (simp only [c36, u5, u4, NEqn.row, Ex.row, Ex.rows, hv, SXR, simprocAttr]))
   exact Sl.ag ⟨.same _, .same _, .same _, .same _, .same _, .nil, trivial⟩
 | false =>
   repeat' (first
    | ((with_reducible refine aa1 (fun h => ?_) (fun h => ?_)) <;> simp only [h, u5, u4, NEqn.row, Ex.row, Ex.rows, hv, hroom1, SXR, simprocAttr])
    | (simp only [c36, u5, u4, NEqn.row, Ex.row, Ex.rows, hv, hroom1, SXR, simprocAttr]))
   exact Sl.ag ⟨.same _, .same _, .same _, .same _, .same _, Se.rowsL (rs := [[.i .i64 2, .i .i64 0, .i .i64 0, .i .i64 0, .s every.1 every.2, .ns]]) rfl rfl rfl trivial (by simp) aw3 ⟨⟨.same _, .same _, .same _, .same _, .same _, .nil, trivial⟩, trivial⟩, trivial⟩
theorem rall (l : List Ex) : (Ex.rows l).all (fun r => r.length == 6) = true := by rw [ae5]; exact all_map j9 l
theorem rright_call1 (vars : List Decl) (q : NEqn) (a : Ex) (l : List Ex) (hn : l.length ≤ 90000000) (h2 : q.kind = 3) (hl : q.args = a :: l) (b : Bool) (hv : (q.every.1 == 0 && q.every.2 == 0) = b) :
  PC Tryz.prog 36 [.ts (vars.map Decl.row), .ag q.row] (xg (.mk 10 0 0 (if b = true then 0 else 1) q.node.1 q.node.2 ((a :: l) ++ (if b = true then [] else [vrb q.every])))) := by
 obtain ⟨kind, left, ⟨k, op, t, v, nl, nn, args⟩, init, node, ags, every, ck⟩ := q
 simp only at h2 hl hv ⊢
 subst h2 hl
 have hroom1 := p6 (n := l.length + 1) (b := 72) (by omega) (by omega)
 have hroom2 := p6 (n := l.length + 1 + 1) (b := 72) (by omega) (by omega)
 have hroom3 : room (l.length + 2) 72 = true := hroom2
 have hal := rall l
 have hfl : (a.row :: Ex.rows l).flatten.length = (l.length + 1) * 6 := by
  have := am8 (rows := Ex.rows (a :: l)) aw3
  simpa [Ex.rows, m5] using this
 have hb : Nat.beq (a.row :: Ex.rows l).flatten.length ((l.length + 1) * 6) = true := al5 hfl
 refine ac1 Tryz.func36 k36 rfl ?_
 cases b with
 | true =>
   repeat' (first
    | ((with_reducible refine aa1 (fun h => ?_) (fun h => ?_)) <;> simp only [h, u5, u4, NEqn.row, Ex.rows, hv, hal, j9, m5, hroom1, Ex.row, SXR, simprocAttr])
    | (simp only [c36, u5, u4, NEqn.row, Ex.rows, hv, hal, j9, m5, hroom1, Ex.row, SXR, simprocAttr]))
   exact Sl.ag ⟨.same _, .same _, .same _, .same _, .same _, Se.flat' rfl rfl (by simp [m5]) trivial (aw3 (l := a :: l)), trivial⟩
 | false =>
   repeat' (first
    | ((with_reducible refine aa1 (fun h => ?_) (fun h => ?_)) <;> simp only [h, u5, u4, NEqn.row, Ex.rows, hv, hal, j9, m5, hroom1, hroom2, hroom3, hb, Ex.row, SXR, simprocAttr])
    | (simp only [c36, u5, u4, NEqn.row, Ex.rows, hv, hal, j9, m5, hroom1, hroom2, hroom3, hb, Ex.row, SXR, simprocAttr]))
   refine Sl.ag ⟨.same _, .same _, .same _, .same _, .same _, ?_, trivial⟩
   have hy : Ex.rows ((a :: l) ++ [vrb every]) = Ex.rows (a :: l) ++ [[.i .i64 2, .i .i64 0, .i .i64 0, .i .i64 0, .s every.1 every.2, .ts []]] := by rw [rows_app]; rfl
   refine Se.rowsL (rs := Ex.rows (a :: l) ++ [[.i .i64 2, .i .i64 0, .i .i64 0, .i .i64 0, .s every.1 every.2, .ns]]) (ys := Ex.rows ((a :: l) ++ [vrb every])) rfl (by simp [Ex.rows]) (by simp [m5]) trivial ?_ aw3 ?_
   ·intro r hr
    rcases List.mem_append.1 hr with h | h
    ·exact aw3 r h
    ·simp at h; subst h; rfl
   ·rw [hy]; refine Sll.snoc ?_; exact ⟨.same _, .same _, .same _, .same _, .same _, .nil, trivial⟩
theorem rright_delay0 (vars : List Decl) (q : NEqn) (h2 : q.kind = 2) (hl : q.left = []) : PC Tryz.prog 36 [.ts (vars.map Decl.row), .ag q.row] (xg (.mk 7 0 0 0 0 0 [cst 2 q.init, q.right])) := by
 have hz : decide ((0 : Int) > 0) = false := by decide
 obtain ⟨kind, left, ⟨k, op, t, v, nl, nn, args⟩, init, node, ags, every, ck⟩ := q
 simp only at h2 hl
 subst h2 hl
 refine ac1 Tryz.func36 k36 rfl ?_
 repeat' (first
  | ((with_reducible refine aa1 (fun h => ?_) (fun h => ?_)) <;> simp only [h, u5, u4, NEqn.row, Ex.row, hz, decide_false, Int.natCast_zero, SXR, simprocAttr])
  | (with_reducible refine al2 ?_)
  | (simp only [c36, u5, u4, NEqn.row, Ex.row, hz, decide_false, Int.natCast_zero, SXR, simprocAttr]))
 all_goals exact Sl.ag ⟨.same _, .same _, .same _, .same _, .same _, Se.rowsL (rs := [[.i .i64 1, .i .i64 0, .i .i64 2, .i .i64 init, .s 0 0, .ns], [.i .i64 k, .i .i64 op, .i .i64 t, .i .i64 v, .s nl nn, .ts (Ex.rows args)]]) rfl rfl rfl trivial (by simp) aw3 ⟨⟨.same _, .same _, .same _, .same _, .same _, .nil, trivial⟩, Sl.refl, trivial⟩, trivial⟩
def tyB (s : Str) (l : List Decl) (t : Int) : Int := match ak0 s l 0 with
 | some (_, ty) => ty
 | none => t
theorem bi4 {s : Str} {x : Decl} : ∀ {l : List Decl} {i : Nat} {t : Int}, (match ak0 s (l ++ [x]) i with | some (_, ty) => ty | none => t) = (match ak0 s l i with | some (_, ty) => ty | none => if hit s x = true then x.ty else t)
 | [], i, t => by simp only [List.nil_append, ak0]; by_cases hh : hit s x = true <;> simp [hh]
 | d :: l, i, t => by
   simp only [List.cons_append, ak0]
   by_cases hh : hit s d = true
   ·simp only [if_pos hh]
   ·simp only [if_neg hh]; exact bi4
theorem tyB_succ {s : Str} {vars : List Decl} {c : Nat} {x : Decl} {t : Int} (h : vars[c]? = some x) : tyB s (vars.take (c + 1)) t = tyB s (vars.take c) (if hit s x = true then x.ty else t) := by
 unfold tyB
 rw [List.take_add_one, h]
 exact bi4
theorem rright_delay1 (vars : List Decl) (hn : vars.length ≤ 90000000) (q : NEqn) (s : Str) (ls : List Str) (h2 : q.kind = 2) (hl : q.left = s :: ls) :
  PC Tryz.prog 36 [.ts (vars.map Decl.row), .ag q.row] (xg (.mk 7 0 0 0 0 0 [cst (tyOf vars s) q.init, q.right])) := by
 have hz : decide (((ls.length + 1 : Nat) : Int) > 0) = true := by simp
 have hty : tyOf vars s = tyB s (vars.take vars.length) 2 := by rw [List.take_length]; rfl
 rw [hty]
 obtain ⟨kind, left, ⟨k, op, t, v, nl, nn, args⟩, init, node, ags, every, ck⟩ := q
 simp only at h2 hl
 subst h2 hl
 have hw0 : IntKind.i64.wrap ((vars.length : Int) - 1) = (vars.length : Int) - 1 := by rw [IntKind.wrap_i64]; omega
 refine ac1 Tryz.func36 k36 rfl ?_
 repeat' (first
  | ((with_reducible refine aa1 (fun h => ?_) (fun h => ?_)) <;> simp only [h, u5, u4, NEqn.row, Ex.row, List.length_map, hw0, SXR, simprocAttr])
  | (simp only [c36, u5, u4, NEqn.row, Ex.row, List.length_map, hw0, SXR, simprocAttr]))
 refine o8 (X := Nat × Int) (fun x ll hs => Hd (fun j => [.ts (vars.map Decl.row), .ag (NEqn.row ⟨2, s :: ls, .mk k op t v nl nn args, init, node, ags, every, ck⟩), j 2, .p 0 0, .p 1 0, .i .i64 x.2, .i .i64 ((x.1 : Int) - 1), j 7, j 8, j 9, j 10, j 11, j 12, j 13, j 14, j 15, j 16, j 17, j 18, j 19, j 20, j 21, j 22, j 23, j 24, j 25, j 26, j 27, j 28, j 29, j 30, j 31, j 32, j 33, j 34, j 35, j 36, j 37, j 38, j 39, j 40, j 41, j 42, j 43, j 44, j 45, j 46, j 47, j 48, j 49, j 50, j 51, j 52, j 53, j 54, j 55, j 56, j 57, j 58, j 59, j 60, j 61, j 62, j 63, j 64, j 65, j 66, j 67, j 68, j 69, j 70, j 71, j 72, j 73, j 74, j 75, j 76, j 77, j 78]) ll ∧ hs = [.c false (NEqn.row ⟨2, s :: ls, .mk k op t v nl nn args, init, node, ags, every, ck⟩), .c false [.i .i64 0, .i .i64 0, .i .i64 0, .i .i64 0, .s 0 0, .ns]])
  (fun x => x.1 ≤ vars.length ∧ tyB s (vars.take vars.length) 2 = tyB s (vars.take x.1) x.2) (fun x => x.1) ?_ (vars.length, 2) _ _ (by exact ⟨rfl, rfl⟩) ⟨Nat.le_refl _, rfl⟩
 rintro ⟨c, ty⟩ _ _ ⟨e, rfl⟩ ⟨hi, hwl⟩ IH
 obtain ⟨j, rfl⟩ := e.open
 clear e
 simp only at hi hwl IH
 cases c with
 | zero =>
   have hg : decide (((0 : Nat) : Int) - 1 ≥ 0) = false := by decide
   clear IH
   rw [hwl]
   repeat' (first
    | ((with_reducible refine aa1 (fun h => ?_) (fun h => ?_)) <;> simp only [h, u5, u4, NEqn.row, Ex.row, List.length_map, hg, hz, decide_false, SXR, simprocAttr])
    | (simp only [c36, u5, u4, NEqn.row, Ex.row, List.length_map, hg, hz, decide_false, SXR, simprocAttr]))
   exact Sl.ag ⟨.same _, .same _, .same _, .same _, .same _, Se.rowsL (rs := [[.i .i64 1, .i .i64 0, .i .i64 ty, .i .i64 init, .s 0 0, .ns], [.i .i64 k, .i .i64 op, .i .i64 t, .i .i64 v, .s nl nn, .ts (Ex.rows args)]]) rfl rfl rfl trivial (by simp) aw3 ⟨⟨.same _, .same _, .same _, .same _, .same _, .nil, trivial⟩, Sl.refl, trivial⟩, trivial⟩
 | succ c =>
   have ec : ((c + 1 : Nat) : Int) - 1 = (c : Int) := by omega
   rw [ec]
   have hg : decide ((c : Int) ≥ 0) = true := by simp
   obtain ⟨x, hx, hxm⟩ := ats (show c < vars.length by omega)
   have hr := mg (f := Decl.row) hx
   have hw : IntKind.i64.wrap ((c : Int) - 1) = (c : Int) - 1 := by rw [IntKind.wrap_i64]; omega
   rw [tyB_succ hx] at hwl
   cases hh : hit s x with
   | true =>
     rw [if_pos hh] at hwl
     unfold hit at hh
     repeat' (first
      | ((with_reducible refine aa1 (fun h => ?_) (fun h => ?_)) <;> simp only [h, u5, u4, NEqn.row, Ex.row, af8, List.length_map, hg, hz, hr, Decl.row, hh, hw, SXR, simprocAttr])
      | (simp only [c36, u5, u4, NEqn.row, Ex.row, af8, List.length_map, hg, hz, hr, Decl.row, hh, hw, SXR, simprocAttr]))
     exact IH (c, _) _ _ (by exact ⟨rfl, rfl⟩) ⟨by simp only; omega, hwl⟩ (by simp only; omega)
   | false =>
     rw [if_neg (by simp [hh])] at hwl
     unfold hit at hh
     repeat' (first
      | ((with_reducible refine aa1 (fun h => ?_) (fun h => ?_)) <;> simp only [h, u5, u4, NEqn.row, Ex.row, af8, List.length_map, hg, hz, hr, Decl.row, hh, hw, SXR, simprocAttr])
      | (simp only [c36, u5, u4, NEqn.row, Ex.row, af8, List.length_map, hg, hz, hr, Decl.row, hh, hw, SXR, simprocAttr]))
     exact IH (c, _) _ _ (by exact ⟨rfl, rfl⟩) ⟨by simp only; omega, hwl⟩ (by simp only; omega)
end Go.Proofs.YtieogkafbnnjcaaGreatDoor
