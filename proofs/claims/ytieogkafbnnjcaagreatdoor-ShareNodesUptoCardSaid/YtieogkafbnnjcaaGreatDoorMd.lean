/-
  Lists and structures that are compared. Printed by mkeq.py.
  Declarations that are compared; slices.EqualFunc. Printed by mkeq.py.
  Structures that are compared by the program. Printed by mkeq.py.
  Structures that are compared by the reference. Printed by mkeq.py.
-/
import Derived.Test.YtieogkafbnnjcaaGreatDoorMc
set_option linter.unusedSimpArgs false
set_option linter.unusedVariables false
namespace Go.Proofs.YtieogkafbnnjcaaGreatDoor
open Go Go.B
def eqB {α : Type} (f : α → α → Bool) : List α → List α → Bool
 | [], [] => true
 | x :: l, y :: m => f x y && eqB f l m
 | _, _ => false
theorem eqB_ne {α : Type} {f : α → α → Bool} : ∀ {a b : List α}, a.length ≠ b.length → eqB f a b = false
 | [], [], h => (h rfl).elim
 | [], _ :: _, _ => rfl
 | _ :: _, [], _ => rfl
 | x :: a, y :: b, h => by simp only [eqB, eqB_ne (a := a) (b := b) (fun e => h (by simp [e])), Bool.and_false]
theorem ay5 {α : Type} {f : α → α → Bool} {a b : List α} {i : Nat} {x y : α} (hx : a[i]? = some x) (hy : b[i]? = some y) : eqB f (a.drop i) (b.drop i) = (f x y && eqB f (a.drop (i + 1)) (b.drop (i + 1))) := by
 rw [u9 hx, u9 hy]; rfl
theorem ay6 {α : Type} {f : α → α → Bool} {a b : List α} {i : Nat} (hl : a.length = b.length) (h : ¬ i < a.length) : eqB f (a.drop i) (b.drop i) = true := by
 rw [List.drop_eq_nil_of_le (by omega), List.drop_eq_nil_of_le (by omega)]; rfl
theorem eqB_refl {α : Type} {f : α → α → Bool} : ∀ (l : List α), (∀ x, x ∈ l → f x x = true) → eqB f l l = true
 | [], _ => rfl
 | x :: l, h => by simp only [eqB, h x (List.mem_cons_self ..), eqB_refl l (fun y hy => h y (List.mem_cons_of_mem _ hy)), Bool.and_true]
def aa4 (s t : Str) : Bool := s.1 == t.1 && s.2 == t.2
def bf9 (o p : On) : Bool := aa4 o.nm p.nm && o.t == p.t && o.tag == p.tag
mutual
def exB : Ex → Ex → Bool
 | .mk k op t v nl nn l, .mk k' op' t' v' nl' nn' l' => k == k' && op == op' && t == t' && v == v' && aa4 (nl, nn) (nl', nn') && exsB l l'
def exsB : List Ex → List Ex → Bool
 | [], [] => true
 | x :: l, y :: m => exB x y && exsB l m
 | [], _ :: _ => false
 | _ :: _, [] => false
end
theorem ak8 : ∀ (l m : List Ex), exsB l m = eqB exB l m
 | [], [] => by simp only [exsB, eqB]
 | [], _ :: _ => by simp only [exsB, eqB]
 | _ :: _, [] => by simp only [exsB, eqB]
 | x :: l, y :: m => by simp only [exsB, eqB, ak8 l m]
theorem on_sqs (o p : On) : sqs [2, 1, 1] o.row p.row = some (bf9 o p) := by
 unfold bf9 aa4
 simp only [On.row, sqs, sq1, if_true]
 generalize (o.nm.1 == p.nm.1 && o.nm.2 == p.nm.2) = a
 generalize (o.t == p.t) = b
 generalize (o.tag == p.tag) = c
 cases a <;> cases b <;> cases c <;> rfl
theorem seqon_pc (a b : List On) (hn : Lst.ok a) : PC Tryz.prog 66 [.ts (a.map On.row), .ts (b.map On.row)] (.b (eqB bf9 a b)) := by
 unfold Lst.ok at hn
 by_cases hl : a.length = b.length
 ·have hne : ((a.length : Int) != (b.length : Int)) = false := by rw [hl]; simp
  refine v6 Tryz.func66 k66 rfl ?_
  repeat' (first
   | (simp only [c66, List.length_map, hne, SXR, simprocAttr]))
  refine o8 (X := Nat) (fun i ll hs => Hd (fun j => [.ts (a.map On.row), .ts (b.map On.row), j 2, j 3, .b false, j 5, j 6, j 7, j 8, j 9, j 10, .ts (a.map On.row), .i .i64 (a.length : Int), .i .i64 (i : Int), j 14, j 15, j 16, j 17, j 18, j 19, j 20, j 21, j 22, j 23, j 24, j 25]) ll ∧ hs = [])
   (fun i => i ≤ a.length ∧ eqB bf9 a b = eqB bf9 (a.drop i) (b.drop i)) (fun i => a.length - i) ?_ 0 _ _ (by exact ⟨rfl, rfl⟩) ⟨Nat.zero_le _, rfl⟩
  rintro i _ _ ⟨e, rfl⟩ ⟨hi, hinv⟩ IH
  obtain ⟨j, rfl⟩ := e.open
  clear e
  by_cases hlt : i < a.length
  ·obtain ⟨x, hx, hxm⟩ := ats hlt
   obtain ⟨y, hy, hym⟩ := ats (show i < b.length by omega)
   have hxr := mg (f := On.row) hx
   have hyr := mg (f := On.row) hy
   have hd := ltd hlt
   have hw := l6 (n := i) (by omega)
   rw [ay5 hx hy] at hinv
   cases g0 : bf9 x y with
   | false =>
     have h0 := g0
     have hr : eqB bf9 a b = false := by rw [hinv]; simp [g0]
     rw [hr]
     repeat' (first
      | (simp only [c66, List.length_map, hd, hxr, hyr, hw, bne, ar1, bc1, on_sqs, h0, SXR, simprocAttr]))
   | true =>
     have h0 := g0
     repeat' (first
      | (simp only [c66, List.length_map, hd, hxr, hyr, hw, bne, ar1, bc1, on_sqs, h0, SXR, simprocAttr]))
     exact IH (i + 1) _ _ (by exact ⟨rfl, rfl⟩) ⟨hlt, by rw [hinv]; simp [g0]⟩ (by omega)
  ·have hd := ltn hlt
   clear IH
   rw [ay6 hl hlt] at hinv
   rw [hinv]
   repeat' (first
    | (simp only [c66, List.length_map, hd, SXR, simprocAttr]))
 ·have hne : ((a.length : Int) != (b.length : Int)) = true := by simp; omega
  rw [eqB_ne hl]
  refine v6 Tryz.func66 k66 rfl ?_
  repeat' (first
   | (simp only [c66, List.length_map, hne, SXR, simprocAttr]))
theorem bf2 (a b : List On) (hn : Lst.ok a) : PC Tryz.prog 42 [.ts (a.map On.row), .ts (b.map On.row)] (.b (eqB bf9 a b)) := by
 unfold Lst.ok at hn
 by_cases hl : a.length = b.length
 ·have hne : ((a.length : Int) != (b.length : Int)) = false := by rw [hl]; simp
  refine v6 Tryz.func42 k42 rfl ?_
  repeat' (first
   | (simp only [c42, List.length_map, hne, SXR, simprocAttr]))
  refine o8 (X := Nat) (fun i ll hs => Hd (fun j => [.ts (a.map On.row), .ts (b.map On.row), j 2, j 3, .b false, .i .i64 (i : Int), j 6, j 7, j 8, j 9, j 10, j 11, j 12, j 13, j 14, j 15, j 16, j 17, j 18, j 19, j 20, j 21, j 22, j 23, j 24, j 25]) ll ∧ hs = [])
   (fun i => i ≤ a.length ∧ eqB bf9 a b = eqB bf9 (a.drop i) (b.drop i)) (fun i => a.length - i) ?_ 0 _ _ (by exact ⟨rfl, rfl⟩) ⟨Nat.zero_le _, rfl⟩
  rintro i _ _ ⟨e, rfl⟩ ⟨hi, hinv⟩ IH
  obtain ⟨j, rfl⟩ := e.open
  clear e
  by_cases hlt : i < a.length
  ·obtain ⟨x, hx, hxm⟩ := ats hlt
   obtain ⟨y, hy, hym⟩ := ats (show i < b.length by omega)
   have hxr := mg (f := On.row) hx
   have hyr := mg (f := On.row) hy
   have hd := ltd hlt
   have hw := l6 (n := i) (by omega)
   rw [ay5 hx hy] at hinv
   cases g0 : bf9 x y with
   | false =>
     have h0 := g0
     have hr : eqB bf9 a b = false := by rw [hinv]; simp [g0]
     rw [hr]
     repeat' (first
      | (simp only [c42, List.length_map, hd, hxr, hyr, hw, bne, ar1, bc1, on_sqs, h0, SXR, simprocAttr]))
   | true =>
     have h0 := g0
     repeat' (first
      | (simp only [c42, List.length_map, hd, hxr, hyr, hw, bne, ar1, bc1, on_sqs, h0, SXR, simprocAttr]))
     exact IH (i + 1) _ _ (by exact ⟨rfl, rfl⟩) ⟨hlt, by rw [hinv]; simp [g0]⟩ (by omega)
  ·have hd := ltn hlt
   clear IH
   rw [ay6 hl hlt] at hinv
   rw [hinv]
   repeat' (first
    | (simp only [c42, List.length_map, hd, SXR, simprocAttr]))
 ·have hne : ((a.length : Int) != (b.length : Int)) = true := by simp; omega
  rw [eqB_ne hl]
  refine v6 Tryz.func42 k42 rfl ?_
  repeat' (first
   | (simp only [c42, List.length_map, hne, SXR, simprocAttr]))
theorem efexm_pc (f : Nat) (e : Ex → Ex → Bool) (a b : List Ex) (hn : Lst.ok a) (hf : ∀ x y, x ∈ a → y ∈ b → PC Tryz.prog f [.ag (Ex.row x), .ag (Ex.row y)] (.b (e x y))) : PC Tryz.prog 107 [.ts (a.map Ex.row), .ts (b.map Ex.row), .fn f [] []] (.b (eqB e a b)) := by
 unfold Lst.ok at hn
 by_cases hl : a.length = b.length
 ·have hne : ((a.length : Int) != (b.length : Int)) = false := by rw [hl]; simp
  refine v6 Tryz.func107 k107 rfl ?_
  repeat' (first
   | (simp only [c107, List.length_map, hne, SXR, simprocAttr]))
  refine o8 (X := Nat) (fun i ll hs => ∃ js : List O, Hd (fun j => [.ts (a.map Ex.row), .ts (b.map Ex.row), .fn f [] [], j 3, j 4, j 5, .b false, j 7, j 8, j 9, j 10, j 11, j 12, j 13, j 14, .ts (a.map Ex.row), .i .i64 (a.length : Int), .i .i64 (i : Int), j 18, j 19, j 20, j 21, j 22, j 23, j 24, j 25, j 26, j 27, j 28, j 29, j 30, j 31]) ll ∧ hs = js)
   (fun i => i ≤ a.length ∧ eqB e a b = eqB e (a.drop i) (b.drop i)) (fun i => a.length - i) ?_ 0 _ _ (by exact ⟨[], rfl, rfl⟩) ⟨Nat.zero_le _, rfl⟩
  rintro i _ _ ⟨js, e, rfl⟩ ⟨hi, hinv⟩ IH
  obtain ⟨j, rfl⟩ := e.open
  clear e
  by_cases hlt : i < a.length
  ·obtain ⟨x, hx, hxm⟩ := ats hlt
   obtain ⟨y, hy, hym⟩ := ats (show i < b.length by omega)
   have hxr := mg (f := Ex.row) hx
   have hyr := mg (f := Ex.row) hy
   have hd := ltd hlt
   have hw := l6 (n := i) (by omega)
   rw [ay5 hx hy] at hinv
   cases g0 : e x y with
   | false =>
     have h0 := hf x y hxm hym
     rw [g0] at h0
     have hr : eqB e a b = false := by rw [hinv]; simp [g0]
     rw [hr]
     repeat' (first
      | (with_reducible refine b8 (h0) (by simp only [SXR, e9]) (by simp only [SXR, e9]) ?_)
      | (simp only [c107, List.length_map, hd, hxr, hyr, hw, bne, j9, m4, ap4, e9, Nat.add_assoc, SXR, simprocAttr]))
   | true =>
     have h0 := hf x y hxm hym
     rw [g0] at h0
     repeat' (first
      | (with_reducible refine b8 (h0) (by simp only [SXR, e9]) (by simp only [SXR, e9]) ?_)
      | (simp only [c107, List.length_map, hd, hxr, hyr, hw, bne, j9, m4, ap4, e9, Nat.add_assoc, SXR, simprocAttr]))
     exact IH (i + 1) _ _ (by exact ⟨_, rfl, rfl⟩) ⟨hlt, by rw [hinv]; simp [g0]⟩ (by omega)
  ·have hd := ltn hlt
   clear IH
   rw [ay6 hl hlt] at hinv
   rw [hinv]
   repeat' (first
    | (simp only [c107, List.length_map, hd, SXR, simprocAttr]))
 ·have hne : ((a.length : Int) != (b.length : Int)) = true := by simp; omega
  rw [eqB_ne hl]
  refine v6 Tryz.func107 k107 rfl ?_
  repeat' (first
   | (simp only [c107, List.length_map, hne, SXR, simprocAttr]))
theorem efex_pc (f : Nat) (e : Ex → Ex → Bool) (a b : List Ex) (hn : Lst.ok a) (hf : ∀ x y, x ∈ a → y ∈ b → PC Tryz.prog f [xg x, xg y] (.b (e x y))) : PC Tryz.prog 107 [.ts (Ex.rows a), .ts (Ex.rows b), .fn f [] []] (.b (eqB e a b)) := by
 rw [ae5, ae5]
 exact efexm_pc f e a b hn hf
theorem be1 : ∀ (n : Nat) (x y : Ex), x.sz ≤ n → x.ok → PC Tryz.prog 90 [xg x, xg y] (.b (exB x y))
 | 0, x, y, h, _ => by have := sz_pos x; omega
 | n + 1, .mk k op t v nl nn l, .mk k' op' t' v' nl' nn' l', h, hok => by
   have hszs : Ex.szs l ≤ n := by simp [Ex.sz] at h; omega
   simp only [Ex.ok] at hok
   have hf : PC Tryz.prog 107 [.ts (Ex.rows l), .ts (Ex.rows l'), .fn 90 [] []] (.b (eqB exB l l')) := efex_pc 90 exB l l' hok.1 (fun x y hx _ => be1 n x y (by have := az7 hx; omega) (ak2 hok.2 hx))
   cases g0 : k == k' with
   | false =>
     have h0 := g0
     have hr : exB (.mk k op t v nl nn l) (.mk k' op' t' v' nl' nn' l') = false := by simp [exB, ak8, g0]
     rw [hr]
     refine v6 Tryz.func90 k90 rfl ?_
     repeat' (first
      | (simp only [c90, bne, Ex.row, m0, h0, SXR, simprocAttr]))
   | true =>
     have h0 := g0
     cases g1 : op == op' with
     | false =>
       have h1 := g1
       have hr : exB (.mk k op t v nl nn l) (.mk k' op' t' v' nl' nn' l') = false := by simp [exB, ak8, g0, g1]
       rw [hr]
       refine v6 Tryz.func90 k90 rfl ?_
       repeat' (first
        | (simp only [c90, bne, Ex.row, m0, h0, h1, SXR, simprocAttr]))
     | true =>
       have h1 := g1
       cases g2 : t == t' with
       | false =>
         have h2 := g2
         have hr : exB (.mk k op t v nl nn l) (.mk k' op' t' v' nl' nn' l') = false := by simp [exB, ak8, g0, g1, g2]
         rw [hr]
         refine v6 Tryz.func90 k90 rfl ?_
         repeat' (first
          | (simp only [c90, bne, Ex.row, m0, h0, h1, h2, SXR, simprocAttr]))
       | true =>
         have h2 := g2
         cases g3 : v == v' with
         | false =>
           have h3 := g3
           have hr : exB (.mk k op t v nl nn l) (.mk k' op' t' v' nl' nn' l') = false := by simp [exB, ak8, g0, g1, g2, g3]
           rw [hr]
           refine v6 Tryz.func90 k90 rfl ?_
           repeat' (first
            | (simp only [c90, bne, Ex.row, m0, h0, h1, h2, h3, SXR, simprocAttr]))
         | true =>
           have h3 := g3
           cases g4 : aa4 (nl, nn) (nl', nn') with
           | false =>
             have h4 := g4
             simp only [aa4] at h4
             have hr : exB (.mk k op t v nl nn l) (.mk k' op' t' v' nl' nn' l') = false := by simp [exB, ak8, g0, g1, g2, g3, g4]
             rw [hr]
             refine v6 Tryz.func90 k90 rfl ?_
             repeat' (first
              | (simp only [c90, bne, Ex.row, m0, h0, h1, h2, h3, h4, SXR, simprocAttr]))
           | true =>
             have h4 := g4
             simp only [aa4] at h4
             cases g5 : eqB exB l l' with
             | false =>
               have h5 := hf
               rw [g5] at h5
               have hr : exB (.mk k op t v nl nn l) (.mk k' op' t' v' nl' nn' l') = false := by simp [exB, ak8, g0, g1, g2, g3, g4, g5]
               rw [hr]
               refine v6 Tryz.func90 k90 rfl ?_
               repeat' (first
                | (with_reducible refine b8 (h5) (by simp only [SXR, m0]) (by simp only [SXR, m0]) ?_)
                | (simp only [c90, bne, Ex.row, m0, h0, h1, h2, h3, h4, SXR, simprocAttr]))
             | true =>
               have h5 := hf
               rw [g5] at h5
               have hr : exB (.mk k op t v nl nn l) (.mk k' op' t' v' nl' nn' l') = true := by simp [exB, ak8, g0, g1, g2, g3, g4, g5]
               rw [hr]
               refine v6 Tryz.func90 k90 rfl ?_
               repeat' (first
                | (with_reducible refine b8 (h5) (by simp only [SXR, m0]) (by simp only [SXR, m0]) ?_)
                | (simp only [c90, bne, Ex.row, m0, h0, h1, h2, h3, h4, SXR, simprocAttr]))
theorem ab2 (q : NEqn) : q.row.take 1 = [.i .i64 q.kind] := by obtain ⟨_, _, ⟨_, _, _, _, _, _, _⟩, _, _, _, _, _⟩ := q; rfl
theorem ab3 (q : NEqn) : (q.row.drop 8).take 1 = [.i .i64 q.init] := by obtain ⟨_, _, ⟨_, _, _, _, _, _, _⟩, _, _, _, _, _⟩ := q; rfl
theorem ab1 (q : NEqn) : (q.row.drop 9).take 1 = [.s q.node.1 q.node.2] := by obtain ⟨_, _, ⟨_, _, _, _, _, _, _⟩, _, _, _, _, _⟩ := q; rfl
theorem aa0 (q : NEqn) : (q.row.drop 11).take 1 = [.s q.every.1 q.every.2] := by obtain ⟨_, _, ⟨_, _, _, _, _, _, _⟩, _, _, _, _, _⟩ := q; rfl
theorem ax7 : ∀ (n : Nat) (x y : Ex), x.sz ≤ n → x.ok → PC Tryz.prog 92 [xg x, xg y] (.b (exB x y))
 | 0, x, y, h, _ => by have := sz_pos x; omega
 | n + 1, .mk k op t v nl nn l, .mk k' op' t' v' nl' nn' l', h, hok => by
   have hszs : Ex.szs l ≤ n := by simp [Ex.sz] at h; omega
   simp only [Ex.ok] at hok
   have hf : ∀ a b, a ∈ l → PC Tryz.prog 92 [xg a, xg b] (.b (exB a b)) := fun a b ha => ax7 n a b (by have := az7 ha; omega) (ak2 hok.2 ha)
   have hlen := hok.1
   unfold Lst.ok at hlen
   cases g0 : k == k' with
   | false =>
     have h0 := g0
     have hr : exB (.mk k op t v nl nn l) (.mk k' op' t' v' nl' nn' l') = false := by simp [exB, g0]
     rw [hr]
     refine v6 Tryz.func92 k92 rfl ?_
     repeat' (first
      | (simp only [c92, bne, Ex.row, h0, SXR, simprocAttr]))
   | true =>
     have h0 := g0
     cases g1 : op == op' with
     | false =>
       have h1 := g1
       have hr : exB (.mk k op t v nl nn l) (.mk k' op' t' v' nl' nn' l') = false := by simp [exB, g0, g1]
       rw [hr]
       refine v6 Tryz.func92 k92 rfl ?_
       repeat' (first
        | (simp only [c92, bne, Ex.row, h0, h1, SXR, simprocAttr]))
     | true =>
       have h1 := g1
       cases g2 : t == t' with
       | false =>
         have h2 := g2
         have hr : exB (.mk k op t v nl nn l) (.mk k' op' t' v' nl' nn' l') = false := by simp [exB, g0, g1, g2]
         rw [hr]
         refine v6 Tryz.func92 k92 rfl ?_
         repeat' (first
          | (simp only [c92, bne, Ex.row, h0, h1, h2, SXR, simprocAttr]))
       | true =>
         have h2 := g2
         cases g3 : v == v' with
         | false =>
           have h3 := g3
           have hr : exB (.mk k op t v nl nn l) (.mk k' op' t' v' nl' nn' l') = false := by simp [exB, g0, g1, g2, g3]
           rw [hr]
           refine v6 Tryz.func92 k92 rfl ?_
           repeat' (first
            | (simp only [c92, bne, Ex.row, h0, h1, h2, h3, SXR, simprocAttr]))
         | true =>
           have h3 := g3
           cases g4 : aa4 (nl, nn) (nl', nn') with
           | false =>
             have h4 := g4
             simp only [aa4] at h4
             have hr : exB (.mk k op t v nl nn l) (.mk k' op' t' v' nl' nn' l') = false := by simp [exB, g0, g1, g2, g3, g4]
             rw [hr]
             refine v6 Tryz.func92 k92 rfl ?_
             repeat' (first
              | (simp only [c92, bne, Ex.row, h0, h1, h2, h3, h4, SXR, simprocAttr]))
           | true =>
             have h4 := g4
             simp only [aa4] at h4
             have he : exB (.mk k op t v nl nn l) (.mk k' op' t' v' nl' nn' l') = eqB exB l l' := by simp [exB, ak8, g0, g1, g2, g3, g4]
             rw [he]
             by_cases hl : l.length = l'.length
             ·have hne : ((l.length : Int) == (l'.length : Int)) = true := by rw [hl]; simp
              refine v6 Tryz.func92 k92 rfl ?_
              repeat' (first
               | (simp only [c92, bne, Ex.row, m5, hne, h0, h1, h2, h3, h4, SXR, simprocAttr]))
              refine o8 (X := Nat) (fun i ll hs => Hd (fun j => [xg (.mk k op t v nl nn l), xg (.mk k' op' t' v' nl' nn' l'), .p 0 0, .p 1 0, .b false, .i .i64 (i : Int), j 6, j 7, j 8, j 9, j 10, j 11, j 12, j 13, j 14, j 15, j 16, j 17, j 18, j 19, j 20, j 21, j 22, j 23, j 24, j 25, j 26, j 27, j 28, j 29, j 30, j 31, j 32, j 33, j 34, j 35, j 36, j 37, j 38, j 39, j 40, j 41, j 42, j 43, j 44, j 45, j 46, j 47, j 48, j 49, j 50, j 51, j 52, j 53, j 54, j 55, j 56, j 57, j 58, j 59, j 60, j 61, j 62, j 63, j 64, j 65, j 66]) ll ∧ hs = [.c false [.i .i64 k, .i .i64 op, .i .i64 t, .i .i64 v, .s nl nn, .ts (Ex.rows l)], .c false [.i .i64 k', .i .i64 op', .i .i64 t', .i .i64 v', .s nl' nn', .ts (Ex.rows l')]])
               (fun i => i ≤ l.length ∧ eqB exB l l' = eqB exB (l.drop i) (l'.drop i)) (fun i => l.length - i) ?_ 0 _ _ (by exact ⟨rfl, rfl⟩) ⟨Nat.zero_le _, rfl⟩
              rintro i _ _ ⟨e, rfl⟩ ⟨hi, hinv⟩ IH
              obtain ⟨j, rfl⟩ := e.open
              clear e
              by_cases hlt : i < l.length
              ·obtain ⟨x, hx, hxm⟩ := at_some hlt
               obtain ⟨y, hy, hym⟩ := at_some (show i < l'.length by omega)
               have hxr : (Ex.rows l)[i]? = some x.row := by rw [aj9, hx]; rfl
               have hyr : (Ex.rows l')[i]? = some y.row := by rw [aj9, hy]; rfl
               have hd := ltd hlt
               have hw := l6 (n := i) (by omega)
               rw [ay5 hx hy] at hinv
               have hc := hf x y hxm
               cases gv : exB x y with
               | false =>
                 rw [gv] at hc
                 have hr : eqB exB l l' = false := by rw [hinv]; simp [gv]
                 rw [hr]
                 repeat' (first
                  | (with_reducible refine b8 (hc) (by simp only [SXR, m0, e9]) (by simp only [SXR, m0, e9]) ?_)
                  | (simp only [c92, m5, m0, hd, hxr, hyr, j9, m4, e9, hw, SXR, simprocAttr]))
               | true =>
                 rw [gv] at hc
                 repeat' (first
                  | (with_reducible refine b8 (hc) (by simp only [SXR, m0, e9]) (by simp only [SXR, m0, e9]) ?_)
                  | (simp only [c92, m5, m0, hd, hxr, hyr, j9, m4, e9, hw, SXR, simprocAttr]))
                 exact IH (i + 1) _ _ (by exact ⟨rfl, rfl⟩) ⟨hlt, by rw [hinv]; simp [gv]⟩ (by omega)
              ·have hd := ltn hlt
               clear IH
               rw [ay6 hl hlt] at hinv
               rw [hinv]
               repeat' (first
                | (simp only [c92, m5, hd, SXR, simprocAttr]))
             ·have hne : ((l.length : Int) == (l'.length : Int)) = false := by simp; omega
              rw [eqB_ne hl]
              refine v6 Tryz.func92 k92 rfl ?_
              repeat' (first
               | (simp only [c92, bne, Ex.row, m5, hne, h0, h1, h2, h3, h4, SXR, simprocAttr]))
end Go.Proofs.YtieogkafbnnjcaaGreatDoor
