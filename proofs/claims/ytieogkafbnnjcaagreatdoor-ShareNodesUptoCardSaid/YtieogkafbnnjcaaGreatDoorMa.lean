/-
  Expressions; the contracts of the functions that ask their kind.
  Normalized programs as types, and that a thing is the same as itself.
  Programs without automata: the same as themselves.
  A program without automata is the same as itself.
  Lists that are copied: the copy, seen as a tree, is the list.
  Enumerations that are copied: the copy, seen as a tree, is the list.
  Declarations that are copied.
  Expressions that are copied.
  Equations of normalized programs; the type of a variable.
  The right side of an equation in normal form, as an expression: what it is, and when the equation is a delay or a word.
  The right side of a delay.
  The right side of a call.
-/
import Derived.Test.YtieogkafbnnjcaaGreatDoorTab
import Derived.Test.YtieogkafbnnjcaaGreatDoorBT
import Derived.Test.YtieogkafbnnjcaaGreatDoorBZ
set_option linter.unusedSimpArgs false
set_option linter.unusedVariables false
namespace Go.Proofs.YtieogkafbnnjcaaGreatDoor
open Go Go.B
inductive Ex where
 | mk (k op t v : Int) (nl nn : Nat) (args : List Ex)
mutual
def Ex.row : Ex → List V
 | .mk k op t v nl nn rs => [.i .i64 k, .i .i64 op, .i .i64 t, .i .i64 v, .s nl nn, .ts (Ex.rows rs)]
def Ex.rows : List Ex → List (List V)
 | [] => []
 | e :: l => e.row :: Ex.rows l
end
def Ex.k : Ex → Int | .mk k _ _ _ _ _ _ => k
def Ex.args : Ex → List Ex | .mk _ _ _ _ _ _ rs => rs
theorem ae5 (l : List Ex) : Ex.rows l = l.map Ex.row := by
 induction l with
 | nil => rfl
 | cons e l ih => simp [Ex.rows, ih]
theorem aj9 (l : List Ex) (j : Nat) : (Ex.rows l)[j]? = (l[j]?).map Ex.row := by rw [ae5, List.getElem?_map]
theorem m5 (l : List Ex) : (Ex.rows l).length = l.length := by rw [ae5, List.length_map]
mutual
theorem e9 : ∀ e : Ex, clL e.row = true
 | .mk k op t v nl nn rs => by simp only [Ex.row, clL, V.cl, m0 rs, Bool.and_self]
theorem m0 : ∀ l : List Ex, clR (Ex.rows l) = true
 | [] => by simp only [Ex.rows, clR]
 | e :: l => by simp only [Ex.rows, clR, e9 e, m0 l, Bool.and_self]
end
mutual
def Ex.sz : Ex → Nat
 | .mk _ _ _ _ _ _ l => 1 + Ex.szs l
def Ex.szs : List Ex → Nat
 | [] => 0
 | e :: l => Ex.sz e + Ex.szs l
end
theorem az7 {e : Ex} : ∀ {l : List Ex}, e ∈ l → e.sz ≤ Ex.szs l
 | x :: l, h => by
   rcases List.mem_cons.1 h with rfl | h
   ·simp [Ex.szs]
   ·have := az7 h; simp [Ex.szs]; omega
theorem sz_pos (e : Ex) : 1 ≤ e.sz := by cases e; simp [Ex.sz]
theorem at_some {l : List Ex} {i : Nat} (h : i < l.length) : ∃ x, l[i]? = some x ∧ x ∈ l := ⟨l[i], by simp [h], List.getElem_mem h⟩
theorem j9 (e : Ex) : e.row.length = 6 := by cases e; rfl
theorem m4 (e : Ex) : e.row.take 6 = e.row := by cases e; rfl
abbrev xg (e : Ex) : V := .ag e.row
theorem l6 {n : Nat} (h : n < 1000000000000000000) : IntKind.i64.wrap ((n : Int) + 1) = ((n + 1 : Nat) : Int) := by
 rw [IntKind.wrap_i64]; omega
theorem mg {α β : Type} {f : α → β} {l : List α} {i : Nat} {x : α} (h : l[i]? = some x) : (l.map f)[i]? = some (f x) := by rw [List.getElem?_map, h]; rfl
theorem ad1 {α : Type} {f : α → List V} (hf : ∀ x, clL (f x) = true) : ∀ l : List α, clR (l.map f) = true
 | [] => by simp only [List.map_nil, clR]
 | x :: l => by simp only [List.map_cons, clR, hf x, ad1 hf l, Bool.and_self]
theorem ats {α : Type} {l : List α} {i : Nat} (h : i < l.length) : ∃ x, l[i]? = some x ∧ x ∈ l := ⟨l[i], by simp [h], List.getElem_mem h⟩
theorem ltd {a b : Nat} (h : a < b) : decide ((a : Int) < (b : Int)) = true := by simp; omega
theorem ltn {a b : Nat} (h : ¬ a < b) : decide ((a : Int) < (b : Int)) = false := by simp; omega
theorem aq2 (a : Int) : (a != a) = false := by simp
theorem beq_n (a : Nat) : (a == a) = true := by simp
abbrev Str := Nat × Nat
def af8 (s : Str) : List V := [.s s.1 s.2]
theorem srow_len (s : Str) : (af8 s).length = 1 := rfl
theorem srow_cl (s : Str) : clL (af8 s) = true := rfl
theorem j6 (l : List Str) : clR (l.map af8) = true := ad1 srow_cl l
structure On where
 nm : Str
 t : Int
 tag : Int
def On.row (o : On) : List V := [.s o.nm.1 o.nm.2, .i .i64 o.t, .i .i64 o.tag]
theorem ar1 (o : On) : o.row.length = 3 := rfl
theorem on_cl (o : On) : clL o.row = true := rfl
theorem i6 (l : List On) : clR (l.map On.row) = true := ad1 on_cl l
structure Decl where
 nm : Str
 ty : Int
 ck : List On
def Decl.row (d : Decl) : List V := [.s d.nm.1 d.nm.2, .i .i64 d.ty, .ts (d.ck.map On.row)]
theorem o9 (d : Decl) : d.row.length = 3 := rfl
theorem be7 (d : Decl) : clL d.row = true := by simp only [Decl.row, clL, V.cl, i6, Bool.and_self]
theorem i8 (l : List Decl) : clR (l.map Decl.row) = true := ad1 be7 l
def Lst.ok {α : Type} (l : List α) : Prop := l.length < 30000000
theorem on_sq (o : On) : sqs [2, 1, 1] o.row o.row = some true := by simp [sqs, sq1, On.row]
theorem bc1 (o : On) : o.row.take 3 = o.row := rfl
mutual
def Ex.ok : Ex → Prop
 | .mk _ _ _ _ _ _ l => Lst.ok l ∧ Ex.oks l
def Ex.oks : List Ex → Prop
 | [] => True
 | e :: l => Ex.ok e ∧ Ex.oks l
end
theorem ak2 {e : Ex} : ∀ {l : List Ex}, Ex.oks l → e ∈ l → e.ok
 | x :: l, h, hm => by
   simp only [Ex.oks] at h
   rcases List.mem_cons.1 hm with rfl | hm
   ·exact h.1
   ·exact ak2 h.2 hm
def Decl.ok (d : Decl) : Prop := Lst.ok d.ck
def ao6 (l : List Decl) : Prop := Lst.ok l ∧ ∀ d, d ∈ l → d.ok
structure Eqn where
 left : List Str
 right : Ex
def Eqn.row (q : Eqn) : List V := .ts (q.left.map af8) :: q.right.row
theorem eqn_len (q : Eqn) : q.row.length = 7 := by simp [Eqn.row, j9]
theorem eqn_cl (q : Eqn) : clL q.row = true := by simp only [Eqn.row, clL, V.cl, j6, e9, Bool.and_self]
theorem l8 (l : List Eqn) : clR (l.map Eqn.row) = true := ad1 eqn_cl l
def Eqn.ok (q : Eqn) : Prop := Lst.ok q.left ∧ q.right.ok
structure PNode where
 nm : Str
 ins : List Decl
 outs : List Decl
 locals : List Decl
 eqs : List Eqn
def PNode.row (n : PNode) : List V := [.s n.nm.1 n.nm.2, .ts (n.ins.map Decl.row), .ts (n.outs.map Decl.row), .ts (n.locals.map Decl.row), .ts (n.eqs.map Eqn.row), .ts [], .ts [], .ts []]
theorem l9 : clR [] = true := by simp only [clR]
theorem pnode_cl (n : PNode) : clL n.row = true := by simp only [PNode.row, clL, V.cl, i8, l8, l9, Bool.and_self]
theorem pnodes_cl (l : List PNode) : clR (l.map PNode.row) = true := ad1 pnode_cl l
def PNode.ok (n : PNode) : Prop := ao6 n.ins ∧ ao6 n.outs ∧ ao6 n.locals ∧ Lst.ok n.eqs ∧ ∀ q, q ∈ n.eqs → q.ok
structure Enm where
 nm : Str
 tags : List Str
def Enm.row (u : Enm) : List V := [.s u.nm.1 u.nm.2, .ts (u.tags.map af8)]
theorem enm_cl (u : Enm) : clL u.row = true := by simp only [Enm.row, clL, V.cl, j6, Bool.and_self]
theorem enms_cl (l : List Enm) : clR (l.map Enm.row) = true := ad1 enm_cl l
def enmOk (l : List Enm) : Prop := Lst.ok l ∧ ∀ u, u ∈ l → Lst.ok u.tags
structure Prg where
 enums : List Enm
 nodes : List PNode
def Prg.row (p : Prg) : List V := [.ts (p.enums.map Enm.row), .ts (p.nodes.map PNode.row)]
theorem prg_cl (p : Prg) : clL p.row = true := by simp only [Prg.row, clL, V.cl, enms_cl, pnodes_cl, Bool.and_self]
def Prg.ok (p : Prg) : Prop := enmOk p.enums ∧ Lst.ok p.nodes ∧ ∀ n, n ∈ p.nodes → n.ok
theorem p6 {n b : Nat} (hn : n ≤ 100000000) (hb : b ≤ 1000) : room n b = true := by
 refine decide_eq_true ?_
 have : (2 * n + 256) * (b + 1) ≤ (2 * 100000000 + 256) * (1000 + 1) := Nat.mul_le_mul (by omega) (by omega)
 omega
theorem all_map {α : Type} {f : α → List V} {wd : Nat} (hf : ∀ x, (f x).length = wd) (l : List α) : (l.map f).all (fun r => r.length == wd) = true := by
 simp [hf]
theorem mem_map {α : Type} {f : α → List V} {wd : Nat} (hf : ∀ x, (f x).length = wd) (l : List α) : ∀ r, r ∈ l.map f → r.length = wd := by
 intro r hr
 obtain ⟨x, _, rfl⟩ := List.mem_map.1 hr
 exact hf x
theorem Se.flat' {h : Hp} {D : Nat → Prop} {a wd n : Nat} {cp : Option Nat} {gr : Bool} {cs : List V} {rs : List (List V)} (ha : h a = .c gr cs) (hcs : cs = rs.flatten) (hn : rs.length = n) (hD : D a) (hw : ∀ r, r ∈ rs → r.length = wd) : Se h D (.sl a 0 wd n cp) (.ts rs) := by
 subst hcs hn
 exact Se.flat ha hD hw
def cells {α : Type} (f : α → List V) (l : List α) (i : Nat) : List V := ((l.take i).map f).flatten
theorem ad5 {α : Type} {f : α → List V} {l : List α} {i : Nat} {x : α} (h : l[i]? = some x) : cells f l i ++ f x = cells f l (i + 1) := by
 unfold cells; rw [List.take_add_one, h]; simp
theorem af2 {α : Type} {f : α → List V} {l : List α} : cells f l l.length = (l.map f).flatten := by unfold cells; rw [List.take_length]
theorem al5 {a b : Nat} (h : a = b) : Nat.beq a b = true := by rw [h]; exact Nat.beq_refl b
def Sl (h : Hp) (D : Nat → Prop) : List V → List V → Prop
 | [], [] => True
 | x :: xs, y :: ys => Se h D x y ∧ Sl h D xs ys
 | _, _ => False
theorem Sl.get {h : Hp} {D : Nat → Prop} : ∀ {xs ys : List V}, Sl h D xs ys → xs.length = ys.length ∧ ∀ (j : Nat) (a b : V), xs[j]? = some a → ys[j]? = some b → Se h D a b
 | [], [], _ => ⟨rfl, fun j a b e => by simp at e⟩
 | x :: xs, y :: ys, hs => by
   obtain ⟨h1, h2⟩ := hs
   obtain ⟨q1, q2⟩ := Sl.get h2
   refine ⟨by simp [q1], fun j a b e1 e2 => ?_⟩
   cases j with
   | zero => cases e1; cases e2; exact h1
   | succ j => exact q2 j a b e1 e2
theorem Sl.ag {h : Hp} {D : Nat → Prop} {xs ys : List V} (hs : Sl h D xs ys) : Se h D (.ag xs) (.ag ys) := .ag _ _ hs.get.1 hs.get.2
theorem ap4 {a b c d e f : V} (x : Ex) : putAt [a, b, c, d, e, f] 0 x.row = x.row := by cases x; rfl
structure NEqn where
 kind : Int
 left : List Str
 right : Ex
 init : Int
 node : Str
 args : List Ex
 every : Str
 ck : List On
def NEqn.row (q : NEqn) : List V := .i .i64 q.kind :: .ts (q.left.map af8) :: (q.right.row ++ [.i .i64 q.init, .s q.node.1 q.node.2, .ts (Ex.rows q.args), .s q.every.1 q.every.2, .ts (q.ck.map On.row)])
theorem f0 (q : NEqn) : q.row.length = 13 := by simp [NEqn.row, j9]
theorem af6 : ∀ (a b : List V), clL (a ++ b) = (clL a && clL b)
 | [], b => by simp [clL]
 | x :: a, b => by simp [clL, af6 a b, Bool.and_assoc]
theorem j5 (q : NEqn) : clL q.row = true := by simp only [NEqn.row, clL, V.cl, j6, af6, e9, m0, i6, Bool.and_self]
def hit (s : Str) (d : Decl) : Bool := d.nm.1 == s.1 && d.nm.2 == s.2
def ak0 (s : Str) : List Decl → Nat → Option (Nat × Int)
 | [], _ => none
 | d :: l, i => if hit s d = true then some (i, d.ty) else ak0 s l (i + 1)
def tyOf (l : List Decl) (s : Str) : Int := match ak0 s l 0 with
 | some (_, t) => t
 | none => 2
def idx : Option (Nat × Int) → Int
 | some (i, _) => i
 | none => -1
def boxes (l : List Decl) : List O := l.map fun d => .c false d.row
def cst (t v : Int) : Ex := .mk 1 0 t v 0 0 []
def vrb (s : Str) : Ex := .mk 2 0 0 0 s.1 s.2 []
def none? (s : Str) : Bool := s.1 == 0 && s.2 == 0
def backE (vars : List Decl) (q : NEqn) : Ex :=
 if q.kind = 2 then .mk 7 0 0 0 0 0 [cst (match q.left with | [] => 2 | s :: _ => tyOf vars s) q.init, q.right]
 else if q.kind = 3 then .mk 10 0 0 (if none? q.every = true then 0 else 1) q.node.1 q.node.2 (q.args ++ (if none? q.every = true then [] else [vrb q.every]))
 else if q.kind = 4 then .mk 11 0 0 0 q.node.1 q.node.2 []
 else q.right
def Sll (h : Hp) (D : Nat → Prop) : List (List V) → List (List V) → Prop
 | [], [] => True
 | x :: xs, y :: ys => Sl h D x y ∧ Sll h D xs ys
 | _, _ => False
theorem Sll.get {h : Hp} {D : Nat → Prop} : ∀ {xs ys : List (List V)}, Sll h D xs ys → xs.length = ys.length ∧ ∀ (i : Nat) (a b : List V), xs[i]? = some a → ys[i]? = some b → Sl h D a b
 | [], [], _ => ⟨rfl, fun j a b e => by simp at e⟩
 | x :: xs, y :: ys, hs => by
   obtain ⟨h1, h2⟩ := hs
   obtain ⟨q1, q2⟩ := Sll.get h2
   refine ⟨by simp [q1], fun j a b e1 e2 => ?_⟩
   cases j with
   | zero => cases e1; cases e2; exact h1
   | succ j => exact q2 j a b e1 e2
theorem Se.rowsL {h : Hp} {D : Nat → Prop} {a wd n : Nat} {cp : Option Nat} {gr : Bool} {cs : List V} {rs ys : List (List V)} (ha : h a = .c gr cs) (hcs : cs = rs.flatten) (hn : rs.length = n) (hD : D a) (hw : ∀ r, r ∈ rs → r.length = wd) (hw' : ∀ r, r ∈ ys → r.length = wd)
  (hs : Sll h D rs ys) : Se h D (.sl a 0 wd n cp) (.ts ys) := by
 subst hcs hn
 exact Se.rows ha hD hs.get.1 hw hw' (fun i j r r' x y e1 e2 e3 e4 => (hs.get.2 i r r' e1 e2).get.2 j x y e3 e4)
theorem Sl.refl {h : Hp} {D : Nat → Prop} : ∀ {xs : List V}, Sl h D xs xs
 | [] => trivial
 | x :: xs => ⟨.same _, Sl.refl⟩
theorem aw3 {l : List Ex} : ∀ r, r ∈ Ex.rows l → r.length = 6 := by rw [ae5]; exact mem_map j9 l
theorem Sll.refl {h : Hp} {D : Nat → Prop} : ∀ {xs : List (List V)}, Sll h D xs xs
 | [] => trivial
 | x :: xs => ⟨Sl.refl, Sll.refl⟩
theorem Sll.snoc {h : Hp} {D : Nat → Prop} {x y : List V} (hs : Sl h D x y) : ∀ {xs : List (List V)}, Sll h D (xs ++ [x]) (xs ++ [y])
 | [] => ⟨hs, trivial⟩
 | r :: xs => ⟨Sl.refl, Sll.snoc hs⟩
theorem rows_app (a b : List Ex) : Ex.rows (a ++ b) = Ex.rows a ++ Ex.rows b := by simp [ae5]
end Go.Proofs.YtieogkafbnnjcaaGreatDoor
