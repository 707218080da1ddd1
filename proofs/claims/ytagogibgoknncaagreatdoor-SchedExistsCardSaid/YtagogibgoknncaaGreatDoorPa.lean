/-
  Programs in normal form as types; lists that grow.
  Lists and structures that are compared; what lies below an address.
-/
import Derived.Test.YtagogibgoknncaaGreatDoorTab
import Derived.Test.YtagogibgoknncaaGreatDoorBT
import Derived.Test.YtagogibgoknncaaGreatDoorBZ
import Derived.Test.YtagogibgoknncaaGreatDoorBX
import Derived.Test.YtagogibgoknncaaGreatDoorBR
set_option linter.unusedSimpArgs false
set_option linter.unusedVariables false
namespace Go.Proofs.YtagogibgoknncaaGreatDoor
open Go Go.B
inductive Ex where
 | mk (k op t v : Int) (nl nn : Nat) (args : List Ex)
mutual
def Ex.row : Ex → List V
 | .mk k op t v nl nn rs => [.i .i64 k, .i .i64 op, .i .i64 t, .i .i64 v, .s nl nn, .ts (Ex.rows rs)]
def Ex.rows : List Ex → List (List V)
 | [] => []
 | e :: l => e.row :: Ex.rows l
end
def Ex.k : Ex → Int | .mk k _ _ _ _ _ _ => k
def Ex.args : Ex → List Ex | .mk _ _ _ _ _ _ rs => rs
theorem ax1 (l : List Ex) : Ex.rows l = l.map Ex.row := by
 induction l with
 | nil => rfl
 | cons e l ih => simp [Ex.rows, ih]
theorem am7 (l : List Ex) (j : Nat) : (Ex.rows l)[j]? = (l[j]?).map Ex.row := by rw [ax1, List.getElem?_map]
theorem j0 (l : List Ex) : (Ex.rows l).length = l.length := by rw [ax1, List.length_map]
mutual
theorem m7 : ∀ e : Ex, clL e.row = true
 | .mk k op t v nl nn rs => by simp only [Ex.row, clL, V.cl, l9 rs, Bool.and_self]
theorem l9 : ∀ l : List Ex, clR (Ex.rows l) = true
 | [] => by simp only [Ex.rows, clR]
 | e :: l => by simp only [Ex.rows, clR, m7 e, l9 l, Bool.and_self]
end
mutual
def Ex.sz : Ex → Nat
 | .mk _ _ _ _ _ _ l => 1 + Ex.szs l
def Ex.szs : List Ex → Nat
 | [] => 0
 | e :: l => Ex.sz e + Ex.szs l
end
theorem bf2 {e : Ex} : ∀ {l : List Ex}, e ∈ l → e.sz ≤ Ex.szs l
 | x :: l, h => by
   rcases List.mem_cons.1 h with rfl | h
   ·simp [Ex.szs]
   ·have := bf2 h; simp [Ex.szs]; omega
theorem sz_pos (e : Ex) : 1 ≤ e.sz := by cases e; simp [Ex.sz]
theorem szs_len : ∀ (l : List Ex), l.length ≤ Ex.szs l
 | [] => by simp
 | e :: l => by have := szs_len l; have := sz_pos e; simp [Ex.szs]; omega
theorem szs_app : ∀ (a b : List Ex), Ex.szs (a ++ b) = Ex.szs a + Ex.szs b
 | [], b => by simp [Ex.szs]
 | e :: a, b => by simp [Ex.szs, szs_app a b]; omega
theorem szs_take {l : List Ex} {i : Nat} {x : Ex} (h : l[i]? = some x) : Ex.szs (l.take (i + 1)) = Ex.szs (l.take i) + x.sz := by
 rw [List.take_add_one, h, szs_app]; simp [Ex.szs]
theorem bd8 {l : List Ex} {i : Nat} (h : i < l.length) : ∃ x, l[i]? = some x ∧ x ∈ l := ⟨l[i], by simp [h], List.getElem_mem h⟩
theorem l8 (e : Ex) : e.row.length = 6 := by cases e; rfl
theorem j7 (e : Ex) : e.row.take 6 = e.row := by cases e; rfl
abbrev xg (e : Ex) : V := .ag e.row
theorem j1 {n : Nat} (h : n < 1000000000000000000) : IntKind.i64.wrap ((n : Int) + 1) = ((n + 1 : Nat) : Int) := by
 rw [IntKind.wrap_i64]; omega
theorem mg {α β : Type} {f : α → β} {l : List α} {i : Nat} {x : α} (h : l[i]? = some x) : (l.map f)[i]? = some (f x) := by rw [List.getElem?_map, h]; rfl
theorem bd0 {α : Type} {f : α → List V} (hf : ∀ x, clL (f x) = true) : ∀ l : List α, clR (l.map f) = true
 | [] => by simp only [List.map_nil, clR]
 | x :: l => by simp only [List.map_cons, clR, hf x, bd0 hf l, Bool.and_self]
theorem ats {α : Type} {l : List α} {i : Nat} (h : i < l.length) : ∃ x, l[i]? = some x ∧ x ∈ l := ⟨l[i], by simp [h], List.getElem_mem h⟩
theorem ltd {a b : Nat} (h : a < b) : decide ((a : Int) < (b : Int)) = true := by simp; omega
theorem ltn {a b : Nat} (h : ¬ a < b) : decide ((a : Int) < (b : Int)) = false := by simp; omega
theorem bne_i (a : Int) : (a != a) = false := by simp
abbrev Str := Nat × Nat
def v6 (s : Str) : List V := [.s s.1 s.2]
theorem u9 (s : Str) : (v6 s).length = 1 := rfl
theorem t9 (s : Str) : clL (v6 s) = true := rfl
theorem am6 (l : List Str) : clR (l.map v6) = true := bd0 t9 l
structure On where
 nm : Str
 t : Int
 tag : Int
def On.row (o : On) : List V := [.s o.nm.1 o.nm.2, .i .i64 o.t, .i .i64 o.tag]
theorem bg3 (o : On) : o.row.length = 3 := rfl
theorem on_cl (o : On) : clL o.row = true := rfl
theorem u5 (l : List On) : clR (l.map On.row) = true := bd0 on_cl l
structure Decl where
 nm : Str
 ty : Int
 ck : List On
def Decl.row (d : Decl) : List V := [.s d.nm.1 d.nm.2, .i .i64 d.ty, .ts (d.ck.map On.row)]
theorem decl_len (d : Decl) : d.row.length = 3 := rfl
theorem decl_cl (d : Decl) : clL d.row = true := by simp only [Decl.row, clL, V.cl, u5, Bool.and_self]
theorem decls_cl (l : List Decl) : clR (l.map Decl.row) = true := bd0 decl_cl l
def Lst.ok {α : Type} (l : List α) : Prop := l.length ≤ 140737488355328
theorem on_take (o : On) : o.row.take 3 = o.row := rfl
mutual
def Ex.ok : Ex → Prop
 | .mk _ _ _ _ _ _ l => Lst.ok l ∧ Ex.oks l
def Ex.oks : List Ex → Prop
 | [] => True
 | e :: l => Ex.ok e ∧ Ex.oks l
end
theorem ap2 {e : Ex} : ∀ {l : List Ex}, Ex.oks l → e ∈ l → e.ok
 | x :: l, h, hm => by
   simp only [Ex.oks] at h
   rcases List.mem_cons.1 hm with rfl | hm
   ·exact h.1
   ·exact ap2 h.2 hm
def Decl.ok (d : Decl) : Prop := d.ck.length ≤ 4398046511104
def decOk (l : List Decl) : Prop := l.length ≤ 2932031007402 ∧ ∀ d, d ∈ l → d.ok
structure Eqn where
 left : List Str
 right : Ex
def Eqn.row (q : Eqn) : List V := .ts (q.left.map v6) :: q.right.row
def Eqn.ok (q : Eqn) : Prop := Lst.ok q.left ∧ q.right.ok
structure PNode where
 nm : Str
 ins : List Decl
 outs : List Decl
 locals : List Decl
 eqs : List Eqn
def PNode.row (n : PNode) : List V := [.s n.nm.1 n.nm.2, .ts (n.ins.map Decl.row), .ts (n.outs.map Decl.row), .ts (n.locals.map Decl.row), .ts (n.eqs.map Eqn.row), .ts [], .ts [], .ts []]
def PNode.ok (n : PNode) : Prop := decOk n.ins ∧ decOk n.outs ∧ decOk n.locals ∧ Lst.ok n.eqs ∧ ∀ q, q ∈ n.eqs → q.ok
structure Enm where
 nm : Str
 tags : List Str
def Enm.row (u : Enm) : List V := [.s u.nm.1 u.nm.2, .ts (u.tags.map v6)]
def enmOk (l : List Enm) : Prop := Lst.ok l ∧ ∀ u, u ∈ l → Lst.ok u.tags
structure Prg where
 enums : List Enm
 nodes : List PNode
def Prg.row (p : Prg) : List V := [.ts (p.enums.map Enm.row), .ts (p.nodes.map PNode.row)]
def Prg.ok (p : Prg) : Prop := enmOk p.enums ∧ Lst.ok p.nodes ∧ ∀ n, n ∈ p.nodes → n.ok
theorem v9 {n b : Nat} (hn : n ≤ 100000000) (hb : b ≤ 1000) : room n b = true := by
 refine decide_eq_true ?_
 have : n * b ≤ 100000000 * 1000 := Nat.mul_le_mul (by omega) (by omega)
 omega
theorem all_map {α : Type} {f : α → List V} {wd : Nat} (hf : ∀ x, (f x).length = wd) (l : List α) : (l.map f).all (fun r => r.length == wd) = true := by
 simp [hf]
theorem mem_map {α : Type} {f : α → List V} {wd : Nat} (hf : ∀ x, (f x).length = wd) (l : List α) : ∀ r, r ∈ l.map f → r.length = wd := by
 intro r hr
 obtain ⟨x, _, rfl⟩ := List.mem_map.1 hr
 exact hf x
theorem Se.flat' {h : Hp} {D : Nat → Prop} {a wd n : Nat} {cp : Option Nat} {gr : Bool} {cs : List V} {rs : List (List V)} (ha : h a = .c gr cs) (hcs : cs = rs.flatten) (hn : rs.length = n) (hD : D a) (hw : ∀ r, r ∈ rs → r.length = wd) : Se h D (.sl a 0 wd n cp) (.ts rs) := by
 subst hcs hn
 exact Se.flat ha hD hw
def cells {α : Type} (f : α → List V) (l : List α) (i : Nat) : List V := ((l.take i).map f).flatten
def Sl (h : Hp) (D : Nat → Prop) : List V → List V → Prop
 | [], [] => True
 | x :: xs, y :: ys => Se h D x y ∧ Sl h D xs ys
 | _, _ => False
theorem Sl.get {h : Hp} {D : Nat → Prop} : ∀ {xs ys : List V}, Sl h D xs ys → xs.length = ys.length ∧ ∀ (j : Nat) (a b : V), xs[j]? = some a → ys[j]? = some b → Se h D a b
 | [], [], _ => ⟨rfl, fun j a b e => by simp at e⟩
 | x :: xs, y :: ys, hs => by
   obtain ⟨h1, h2⟩ := hs
   obtain ⟨q1, q2⟩ := Sl.get h2
   refine ⟨by simp [q1], fun j a b e1 e2 => ?_⟩
   cases j with
   | zero => cases e1; cases e2; exact h1
   | succ j => exact q2 j a b e1 e2
theorem Sl.ag {h : Hp} {D : Nat → Prop} {xs ys : List V} (hs : Sl h D xs ys) : Se h D (.ag xs) (.ag ys) := .ag _ _ hs.get.1 hs.get.2
theorem al1 {a b c d e f : V} (x : Ex) : putAt [a, b, c, d, e, f] 0 x.row = x.row := by cases x; rfl
structure NEqn where
 kind : Int
 left : List Str
 right : Ex
 init : Int
 node : Str
 args : List Ex
 every : Str
 ck : List On
def NEqn.row (q : NEqn) : List V := .i .i64 q.kind :: .ts (q.left.map v6) :: (q.right.row ++ [.i .i64 q.init, .s q.node.1 q.node.2, .ts (Ex.rows q.args), .s q.every.1 q.every.2, .ts (q.ck.map On.row)])
theorem i6 (q : NEqn) : q.row.length = 13 := by simp [NEqn.row, l8]
theorem clL_app : ∀ (a b : List V), clL (a ++ b) = (clL a && clL b)
 | [], b => by simp [clL]
 | x :: a, b => by simp [clL, clL_app a b, Bool.and_assoc]
theorem au2 (q : NEqn) : clL q.row = true := by simp only [NEqn.row, clL, V.cl, am6, clL_app, m7, l9, u5, Bool.and_self]
def hit (s : Str) (d : Decl) : Bool := d.nm.1 == s.1 && d.nm.2 == s.2
def place (s : Str) : List Decl → Nat → Option (Nat × Int)
 | [], _ => none
 | d :: l, i => if hit s d = true then some (i, d.ty) else place s l (i + 1)
def boxes (l : List Decl) : List O := l.map fun d => .c false d.row
def cst (t v : Int) : Ex := .mk 1 0 t v 0 0 []
def none? (s : Str) : Bool := s.1 == 0 && s.2 == 0
def Sll (h : Hp) (D : Nat → Prop) : List (List V) → List (List V) → Prop
 | [], [] => True
 | x :: xs, y :: ys => Sl h D x y ∧ Sll h D xs ys
 | _, _ => False
theorem Sll.get {h : Hp} {D : Nat → Prop} : ∀ {xs ys : List (List V)}, Sll h D xs ys → xs.length = ys.length ∧ ∀ (i : Nat) (a b : List V), xs[i]? = some a → ys[i]? = some b → Sl h D a b
 | [], [], _ => ⟨rfl, fun j a b e => by simp at e⟩
 | x :: xs, y :: ys, hs => by
   obtain ⟨h1, h2⟩ := hs
   obtain ⟨q1, q2⟩ := Sll.get h2
   refine ⟨by simp [q1], fun j a b e1 e2 => ?_⟩
   cases j with
   | zero => cases e1; cases e2; exact h1
   | succ j => exact q2 j a b e1 e2
theorem Sl.refl {h : Hp} {D : Nat → Prop} : ∀ {xs : List V}, Sl h D xs xs
 | [] => trivial
 | x :: xs => ⟨.same _, Sl.refl⟩
theorem Sll.refl {h : Hp} {D : Nat → Prop} : ∀ {xs : List (List V)}, Sll h D xs xs
 | [] => trivial
 | x :: xs => ⟨Sl.refl, Sll.refl⟩
mutual
def w6 : Ex → Int → Int
 | .mk _ _ _ _ _ _ args, m => if m < w6s args m 1 then m else w6s args m 1
def w6s : List Ex → Int → Int → Int
 | [], _, n => n
 | e :: l, m, n => if n < m then w6s l m (IntKind.i64.wrap (n + w6 e (IntKind.i64.wrap (m - n)))) else n
end
theorem t6 {α : Type} {l : List α} {i : Nat} {x : α} (h : l[i]? = some x) : l.drop i = x :: l.drop (i + 1) := by
 have hlt := (List.getElem?_eq_some_iff.1 h).1
 rw [List.drop_eq_getElem_cons hlt]
 have : l[i] = x := by simpa [List.getElem?_eq_getElem hlt] using h
 rw [this]
theorem ay1 : ∀ (n : Nat) (e : Ex) (m : Int), e.sz ≤ n → e.ok → PC Tryz.prog 10 [xg e, .i .i64 m] (.i .i64 (w6 e m))
 | 0, e, m, h, _ => by have := sz_pos e; omega
 | n + 1, .mk k op t v nl nn args, m, h, hn => by
   have hszs : Ex.szs args ≤ n := by simp [Ex.sz] at h; omega
   simp only [Ex.ok] at hn
   have hf : ∀ a, a ∈ args → ∀ m : Int, PC Tryz.prog 10 [xg a, .i .i64 m] (.i .i64 (w6 a m)) := fun a ha m => ay1 n a m (by have := bf2 ha; omega) (ap2 hn.2 ha)
   have hlen := hn.1
   unfold Lst.ok at hlen
   simp only [w6]
   refine aq9 Tryz.func10 k10 rfl ?_
   repeat' (first
    | ((with_reducible refine b8 (fun h => ?_) (fun h => ?_)) <;> simp only [h, Ex.row, SXR, simprocAttr])
    | (simp only [c10, Ex.row, SXR, simprocAttr]))
   refine m5 (X := Nat × Int) (fun x ll hs => Hd (fun j => [xg (.mk k op t v nl nn args), .i .i64 m, .p 0 0, j 3, .i .i64 0, .i .i64 x.2, .i .i64 (x.1 : Int), j 7, j 8, j 9, j 10, j 11, j 12, j 13, j 14, j 15, j 16, j 17, j 18, j 19, j 20, j 21, j 22, j 23, j 24, j 25, j 26, j 27, j 28, j 29, j 30, j 31, j 32]) ll ∧ hs = [.c false [.i .i64 k, .i .i64 op, .i .i64 t, .i .i64 v, .s nl nn, .ts (Ex.rows args)]])
    (fun x => x.1 ≤ args.length ∧ w6s args m 1 = w6s (args.drop x.1) m x.2) (fun x => args.length - x.1) ?_ (0, 1) _ _ (by exact ⟨rfl, rfl⟩) ⟨Nat.zero_le _, rfl⟩
   rintro ⟨i, a⟩ _ _ ⟨e, rfl⟩ ⟨hi, hw6⟩ IH
   obtain ⟨j, rfl⟩ := e.open
   clear e
   simp only at hi hw6 IH
   by_cases hlt : i < args.length
   ·obtain ⟨x, hx, hxm⟩ := ats hlt
    have hr : (Ex.rows args)[i]? = some x.row := by rw [am7, hx]; rfl
    have hd := ltd hlt
    have hw := j1 (n := i) (by omega)
    rw [t6 hx] at hw6
    simp only [w6s] at hw6
    by_cases hg : a < m
    ·rw [if_pos hg] at hw6
     have hgd : decide (a < m) = true := by simpa using hg
     have hc := hf x hxm (IntKind.i64.wrap (m - a))
     repeat' (first
      | ((with_reducible refine b8 (fun h => ?_) (fun h => ?_)) <;> simp only [h, j0, l9, hd, hr, l8, j7, m7, hgd, hw, SXR, simprocAttr])
      | (with_reducible refine j9 (hc) (by simp only [SXR, l9, m7]) (by simp only [SXR, l9, m7]) ?_)
      | (simp only [c10, j0, l9, hd, hr, l8, j7, m7, hgd, hw, SXR, simprocAttr]))
     exact IH (i + 1, _) _ _ (by exact ⟨rfl, rfl⟩) ⟨hlt, hw6⟩ (by simp only; omega)
    ·rw [if_neg hg] at hw6
     have hgd : decide (a < m) = false := by simpa using hg
     clear IH
     rw [hw6]
     repeat' (first
      | ((with_reducible refine b8 (fun h => ?_) (fun h => ?_)) <;> simp only [h, j0, hd, hgd, SXR, simprocAttr])
      | (simp only [c10, j0, hd, hgd, SXR, simprocAttr]))
   ·have hd := ltn hlt
    clear IH
    have : args.drop i = [] := List.drop_eq_nil_of_le (by omega)
    rw [this] at hw6
    simp only [w6s] at hw6
    rw [hw6]
    repeat' (first
     | ((with_reducible refine b8 (fun h => ?_) (fun h => ?_)) <;> simp only [h, j0, hd, SXR, simprocAttr])
     | (simp only [c10, j0, hd, SXR, simprocAttr]))
abbrev dz : List V := [.s 0 0, .i .i64 0, .ns]
def zs (n : Nat) : List V := (List.replicate n dz).flatten
theorem wrap_0 : IntKind.i64.wrap 0 = 0 := rfl
theorem putAt_mid {p u s xs : List V} {off : Nat} (ho : off = p.length) (hl : xs.length = u.length) : putAt (p ++ (u ++ s)) off xs = p ++ (xs ++ s) := by
 subst ho
 apply List.ext_getElem?
 intro j
 rw [ba1 _ _ _ _ (by simp; omega)]
 split
 ·rename_i h
  rw [List.getElem?_append_right h.1, List.getElem?_append_left (by omega)]
 ·rename_i h
  by_cases hj : j < p.length
  ·rw [List.getElem?_append_left hj, List.getElem?_append_left hj]
  ·rw [List.getElem?_append_right (by omega), List.getElem?_append_right (by omega), List.getElem?_append_right (by omega), List.getElem?_append_right (by omega), hl]
theorem ae0 {a w wd n i : Nat} {c : Option Nat} (h : i < n) : iadE wd (.sl a 0 w n c) (.i .i64 (i : Int)) = some (.p a (i * wd)) := by
 simp only [iadE]
 rw [if_pos ⟨by omega, by omega⟩]
 simp
theorem af5 {a o w n : Nat} {c : Option Nat} : lenE false (.sl a o w n c) = some (.i .i64 (n : Int)) := rfl
theorem flat_split {wd : Nat} {l : List (List V)} {i : Nat} {r : List V} (hw : ∀ r, r ∈ l → r.length = wd) (h : l[i]? = some r) : ∃ p s, l.flatten = p ++ (r ++ s) ∧ p.length = i * wd := by
 refine ⟨(l.take i).flatten, (l.drop (i + 1)).flatten, ?_, ?_⟩
 ·have : l = l.take i ++ (r :: l.drop (i + 1)) := by rw [← t6 h, List.take_append_drop]
  conv => lhs; rw [this]
  rw [List.flatten_append, List.flatten_cons]
 ·rw [as0 (fun r hr => hw r (List.mem_of_mem_take hr)), List.length_take, Nat.min_eq_left (Nat.le_of_lt (List.getElem?_eq_some_iff.1 h).1)]
theorem ld_row {wd off : Nat} {gr : Bool} {cs p r s : List V} (hcs : cs = p ++ (r ++ s)) (hp : p.length = off) (hr : r.length = wd) : ldE.ldO wd true off (.c gr cs) = some (.ag r) := by
 subst hcs hp hr
 rw [ld_c (by rw [Nat.ble_eq]; simp), List.drop_left, List.take_left]
 rfl
def NEqn.okw (q : NEqn) : Prop := Lst.ok q.left ∧ q.right.ok ∧ Lst.ok q.args ∧ Ex.oks q.args ∧ Lst.ok q.ck
def NEqn.ok (q : NEqn) : Prop := Lst.ok q.left ∧ q.right.ok ∧ Lst.ok q.args ∧ Ex.oks q.args ∧ Lst.ok q.ck ∧ q.args.length + q.left.length + q.ck.length < 20000000
structure NNode where
 nm : Str
 ins : List Decl
 outs : List Decl
 locals : List Decl
 eqs : List NEqn
def NNode.row (n : NNode) : List V := [.s n.nm.1 n.nm.2, .ts (n.ins.map Decl.row), .ts (n.outs.map Decl.row), .ts (n.locals.map Decl.row), .ts (n.eqs.map NEqn.row)]
theorem neqns_cl (l : List NEqn) : clR (l.map NEqn.row) = true := bd0 au2 l
theorem aj4 (n : NNode) : clL n.row = true := by simp only [NNode.row, clL, V.cl, decls_cl, neqns_cl, Bool.and_self]
theorem i9 (n : NNode) : n.row.length = 5 := rfl
def NNode.okw (n : NNode) : Prop := decOk n.ins ∧ decOk n.outs ∧ decOk n.locals ∧ Lst.ok n.eqs ∧ ∀ q, q ∈ n.eqs → q.okw
def NNode.ok (n : NNode) : Prop := decOk n.ins ∧ decOk n.outs ∧ decOk n.locals ∧ Lst.ok n.eqs ∧ ∀ q, q ∈ n.eqs → q.ok
structure NPrg where
 enums : List Enm
 nodes : List NNode
def NPrg.row (p : NPrg) : List V := [.ts (p.enums.map Enm.row), .ts (p.nodes.map NNode.row)]
def NPrg.ok (p : NPrg) : Prop := enmOk p.enums ∧ Lst.ok p.nodes ∧ ∀ n, n ∈ p.nodes → n.ok
def NNode.vars (n : NNode) : List Decl := n.ins ++ n.outs ++ n.locals
theorem Se.mono {h h' : Hp} {D D' : Nat → Prop} (hh : ∀ a gr cs, h a = .c gr cs → h' a = .c gr cs) (hd : ∀ a, D a → D' a) {x y : V} (hs : Se h D x y) : Se h' D' x y := by
 induction hs with
 | same x => exact .same x
 | nil => exact .nil
 | sl a off wd len cp gr cs rows ha hD hl hb hw hr ih => exact .sl a off wd len cp gr cs rows (hh _ _ _ ha) (hd _ hD) hl hb hw ih
 | ag xs ys hl hr ih => exact .ag xs ys hl ih
 | tu xs ys hl hr ih => exact .tu xs ys hl ih
theorem Sl.mono {h h' : Hp} {D D' : Nat → Prop} (hh : ∀ a gr cs, h a = .c gr cs → h' a = .c gr cs) (hd : ∀ a, D a → D' a) : ∀ {xs ys : List V}, Sl h D xs ys → Sl h' D' xs ys
 | [], [], _ => trivial
 | x :: xs, y :: ys, hs => ⟨Se.mono hh hd hs.1, Sl.mono hh hd hs.2⟩
theorem Sll.mono {h h' : Hp} {D D' : Nat → Prop} (hh : ∀ a gr cs, h a = .c gr cs → h' a = .c gr cs) (hd : ∀ a, D a → D' a) : ∀ {xs ys : List (List V)}, Sll h D xs ys → Sll h' D' xs ys
 | [], [], _ => trivial
 | x :: xs, y :: ys, hs => ⟨Sl.mono hh hd hs.1, Sll.mono hh hd hs.2⟩
theorem Sll.app {h : Hp} {D : Nat → Prop} {x y : List V} (hs : Sl h D x y) : ∀ {xs ys : List (List V)}, Sll h D xs ys → Sll h D (xs ++ [x]) (ys ++ [y])
 | [], [], _ => ⟨hs, trivial⟩
 | a :: xs, b :: ys, q => ⟨q.1, Sll.app hs q.2⟩
theorem j2 {l m : List O} {a : Nat} {gr : Bool} {cs : List V} (h : hpL l a = .c gr cs) : hpL (l ++ m) a = .c gr cs := by
 unfold hpL at h ⊢
 simp only [List.getD_eq_getElem?_getD] at h ⊢
 cases e : l[a]? with
 | none => rw [e] at h; cases h
 | some o =>
   rw [List.getElem?_append_left (List.getElem?_eq_some_iff.1 e).1, e]
   rw [e] at h; exact h
def GT (base wd n : Nat) (v : V) (T0 T : List O) (cs : List V) : Prop :=
 (n = 0 ∧ v = .ns ∧ cs = [] ∧ T = T0) ∨ (0 < n ∧ T = T0 ++ [.c true cs] ∧ v = .sl (base + T0.length) 0 wd n none ∧ cs.length = n * wd)
theorem aj7 {l : List O} {x o : O} {n : Nat} (h : n = l.length) : u6 (l ++ [x]) n o = some (l ++ [o]) := by subst h; exact hs_ap0
theorem GT.app {base wd n bytes : Nat} {v : V} {T0 T : List O} {cs xs : List V} (h : GT base wd n v T0 T cs) (hw : wd ≠ 0) (hx : xs.length = wd) (hroom : room (n + 1) bytes = true) :
  ∃ T1, (∃ t, T1 = T0 ++ t) ∧ T1.length = T.length ∧ (∀ (pre zs : List O) (rb k : Nat), pre.length = base → rb + k = base + (T.length + zs.length) →
   ag9 rb (pre ++ (T ++ (zs ++ [.no]))) k v (some xs) (some 1) wd bytes = some (.sl (base + (T.length + zs.length)) 0 wd (n + 1) none, pre ++ (T1 ++ (zs ++ [.c true (cs ++ xs)]))))
   ∧ ∀ zs : List O, GT base wd (n + 1) (.sl (base + (T.length + zs.length)) 0 wd (n + 1) none) (T1 ++ zs) (T1 ++ (zs ++ [.c true (cs ++ xs)])) (cs ++ xs) := by
 have hwb : Nat.beq wd 0 = false := by cases wd with | zero => exact (hw rfl).elim | succ n => rfl
 have hl : cs.length = n * wd := by
  rcases h with ⟨rfl, rfl, rfl, rfl⟩ | ⟨_, _, _, h⟩
  ·simp
  ·exact h
 have hcl : (cs ++ xs).length = (n + 1) * wd := by rw [List.length_append, hl, hx, Nat.add_mul, Nat.one_mul]
 rcases h with ⟨rfl, rfl, rfl, rfl⟩ | ⟨h0, rfl, rfl, _⟩
 ·refine ⟨T, ⟨[], by simp⟩, rfl, fun pre zs rb k hp hr => ?_, fun zs => .inr ⟨by omega, by simp, by simp, hcl⟩⟩
  rw [ap_ns rfl hroom, hr, show pre ++ (T ++ (zs ++ [.no])) = (pre ++ (T ++ zs)) ++ [.no] by simp, aj7 (by simp [hp])]
  simp
 ·refine ⟨T0 ++ [.gone], ⟨_, rfl⟩, by simp, fun pre zs rb k hp hr => ?_, fun zs => .inr ⟨by omega, by simp, by simp; omega, hcl⟩⟩
  have hh : hpL (pre ++ ((T0 ++ [.c true cs]) ++ (zs ++ [.no]))) (base + T0.length) = .c true cs := by
   have : pre ++ ((T0 ++ [.c true cs]) ++ (zs ++ [.no])) = (pre ++ T0) ++ .c true cs :: (zs ++ [.no]) := by simp
   rw [this, show base + T0.length = (pre ++ T0).length by simp [hp]]
   exact ab9
  rw [ap_sl rfl, hh, aq3 rfl hwb (by rw [hl]; exact Nat.beq_refl _) hroom]
  have e1 : u6 (pre ++ ((T0 ++ [.c true cs]) ++ (zs ++ [.no]))) (base + T0.length) .gone = some ((pre ++ (T0 ++ .gone :: zs)) ++ [.no]) := by
   have : pre ++ ((T0 ++ [.c true cs]) ++ (zs ++ [.no])) = (pre ++ T0) ++ .c true cs :: (zs ++ [.no]) := by simp
   rw [this, show base + T0.length = (pre ++ T0).length by simp [hp], hs_ap0]
   simp
  rw [e1, Option.bind_some, aj7 (by rw [hr]; simp [hp]; omega), hr]
  simp
theorem putAt_full {zs r : List V} (h : zs.length = r.length) : putAt zs 0 r = r := by
 have := putAt_mid (p := []) (u := zs) (s := []) (xs := r) (off := 0) rfl h.symm
 simpa using this
theorem ak6 {a b c d e f g h i j k l m : V} (q : NEqn) : putAt [a, b, c, d, e, f, g, h, i, j, k, l, m] 0 q.row = q.row := putAt_full (by rw [i6]; rfl)
theorem i4 (q : NEqn) : q.row.take 13 = q.row := List.take_of_length_le (by rw [i6]; omega)
theorem i5 (n : NNode) : n.row.take 5 = n.row := rfl
theorem ac6 (q : NEqn) : (q.row.drop 1).take 1 = [.ts (q.left.map v6)] := rfl
theorem nn4 (n : NNode) : (n.row.drop 4).take 1 = [.ts (n.eqs.map NEqn.row)] := rfl
theorem m9 (q : NEqn) : (q.row.drop 12).take 1 = [.ts (q.ck.map On.row)] := by obtain ⟨_, _, ⟨_, _, _, _, _, _, _⟩, _, _, _, _, _⟩ := q; rfl
theorem l6 (q : NEqn) : (q.row.drop 2).take 6 = q.right.row := by obtain ⟨_, _, ⟨_, _, _, _, _, _, _⟩, _, _, _, _, _⟩ := q; rfl
theorem j6 (q : NEqn) : (q.row.drop 10).take 1 = [.ts (Ex.rows q.args)] := by obtain ⟨_, _, ⟨_, _, _, _, _, _, _⟩, _, _, _, _, _⟩ := q; rfl
def one (n : NNode) : NPrg := ⟨[], [n]⟩
def eqB {α : Type} (f : α → α → Bool) : List α → List α → Bool
 | [], [] => true
 | x :: l, y :: m => f x y && eqB f l m
 | _, _ => false
theorem eqB_ne {α : Type} {f : α → α → Bool} : ∀ {a b : List α}, a.length ≠ b.length → eqB f a b = false
 | [], [], h => (h rfl).elim
 | [], _ :: _, _ => rfl
 | _ :: _, [], _ => rfl
 | x :: a, y :: b, h => by simp only [eqB, eqB_ne (a := a) (b := b) (fun e => h (by simp [e])), Bool.and_false]
theorem eqB_step {α : Type} {f : α → α → Bool} {a b : List α} {i : Nat} {x y : α} (hx : a[i]? = some x) (hy : b[i]? = some y) : eqB f (a.drop i) (b.drop i) = (f x y && eqB f (a.drop (i + 1)) (b.drop (i + 1))) := by
 rw [t6 hx, t6 hy]; rfl
theorem eqB_done {α : Type} {f : α → α → Bool} {a b : List α} {i : Nat} (hl : a.length = b.length) (h : ¬ i < a.length) : eqB f (a.drop i) (b.drop i) = true := by
 rw [List.drop_eq_nil_of_le (by omega), List.drop_eq_nil_of_le (by omega)]; rfl
def ad0 (s t : Str) : Bool := s.1 == t.1 && s.2 == t.2
def eqOn (o p : On) : Bool := ad0 o.nm p.nm && o.t == p.t && o.tag == p.tag
mutual
def exB : Ex → Ex → Bool
 | .mk k op t v nl nn l, .mk k' op' t' v' nl' nn' l' => k == k' && op == op' && t == t' && v == v' && ad0 (nl, nn) (nl', nn') && exsB l l'
def exsB : List Ex → List Ex → Bool
 | [], [] => true
 | x :: l, y :: m => exB x y && exsB l m
 | [], _ :: _ => false
 | _ :: _, [] => false
end
theorem on_sqs (o p : On) : sqs [2, 1, 1] o.row p.row = some (eqOn o p) := by
 unfold eqOn ad0
 simp only [On.row, sqs, sq1, if_true]
 generalize (o.nm.1 == p.nm.1 && o.nm.2 == p.nm.2) = a
 generalize (o.t == p.t) = b
 generalize (o.tag == p.tag) = c
 cases a <;> cases b <;> cases c <;> rfl
theorem seqon_pc (a b : List On) (hn : Lst.ok a) : PC Tryz.prog 35 [.ts (a.map On.row), .ts (b.map On.row)] (.b (eqB eqOn a b)) := by
 unfold Lst.ok at hn
 by_cases hl : a.length = b.length
 ·have hne : ((a.length : Int) != (b.length : Int)) = false := by rw [hl]; simp
  refine aq9 Tryz.func35 k35 rfl ?_
  repeat' (first
   | ((with_reducible refine b8 (fun h => ?_) (fun h => ?_)) <;> simp only [h, List.length_map, hne, SXR, simprocAttr])
   | (simp only [c35, List.length_map, hne, SXR, simprocAttr]))
  refine m5 (X := Nat) (fun i ll hs => Hd (fun j => [.ts (a.map On.row), .ts (b.map On.row), j 2, j 3, .b false, j 5, j 6, j 7, j 8, j 9, j 10, .ts (a.map On.row), .i .i64 (a.length : Int), .i .i64 (i : Int), j 14, j 15, j 16, j 17, j 18, j 19, j 20, j 21, j 22, j 23, j 24, j 25]) ll ∧ hs = [])
   (fun i => i ≤ a.length ∧ eqB eqOn a b = eqB eqOn (a.drop i) (b.drop i)) (fun i => a.length - i) ?_ 0 _ _ (by exact ⟨rfl, rfl⟩) ⟨Nat.zero_le _, rfl⟩
  rintro i _ _ ⟨e, rfl⟩ ⟨hi, hinv⟩ IH
  obtain ⟨j, rfl⟩ := e.open
  clear e
  by_cases hlt : i < a.length
  ·obtain ⟨x, hx, hxm⟩ := ats hlt
   obtain ⟨y, hy, hym⟩ := ats (show i < b.length by omega)
   have hxr := mg (f := On.row) hx
   have hyr := mg (f := On.row) hy
   have hd := ltd hlt
   have hw := j1 (n := i) (by omega)
   rw [eqB_step hx hy] at hinv
   cases g0 : eqOn x y with
   | false =>
     have h0 := g0
     have hr : eqB eqOn a b = false := by rw [hinv]; simp [g0]
     rw [hr]
     repeat' (first
      | ((with_reducible refine b8 (fun h => ?_) (fun h => ?_)) <;> simp only [h, List.length_map, hd, hxr, hyr, hw, bne, bg3, on_take, on_sqs, h0, SXR, simprocAttr])
      | (simp only [c35, List.length_map, hd, hxr, hyr, hw, bne, bg3, on_take, on_sqs, h0, SXR, simprocAttr]))
   | true =>
     have h0 := g0
     repeat' (first
      | ((with_reducible refine b8 (fun h => ?_) (fun h => ?_)) <;> simp only [h, List.length_map, hd, hxr, hyr, hw, bne, bg3, on_take, on_sqs, h0, SXR, simprocAttr])
      | (simp only [c35, List.length_map, hd, hxr, hyr, hw, bne, bg3, on_take, on_sqs, h0, SXR, simprocAttr]))
     exact IH (i + 1) _ _ (by exact ⟨rfl, rfl⟩) ⟨hlt, by rw [hinv]; simp [g0]⟩ (by omega)
  ·have hd := ltn hlt
   clear IH
   rw [eqB_done hl hlt] at hinv
   rw [hinv]
   repeat' (first
    | ((with_reducible refine b8 (fun h => ?_) (fun h => ?_)) <;> simp only [h, List.length_map, hd, SXR, simprocAttr])
    | (simp only [c35, List.length_map, hd, SXR, simprocAttr]))
 ·have hne : ((a.length : Int) != (b.length : Int)) = true := by simp; omega
  rw [eqB_ne hl]
  refine aq9 Tryz.func35 k35 rfl ?_
  repeat' (first
   | ((with_reducible refine b8 (fun h => ?_) (fun h => ?_)) <;> simp only [h, List.length_map, hne, SXR, simprocAttr])
   | (simp only [c35, List.length_map, hne, SXR, simprocAttr]))
theorem ab1 (q : NEqn) : q.row.take 1 = [.i .i64 q.kind] := by obtain ⟨_, _, ⟨_, _, _, _, _, _, _⟩, _, _, _, _, _⟩ := q; rfl
theorem m4 (q : NEqn) : (q.row.drop 11).take 1 = [.s q.every.1 q.every.2] := by obtain ⟨_, _, ⟨_, _, _, _, _, _, _⟩, _, _, _, _, _⟩ := q; rfl
def Ex.nm : Ex → Str | .mk _ _ _ _ nl nn _ => (nl, nn)
theorem bb2 {gr : Bool} {cs p r s : List V} {off c : Nat} {x : V} (hcs : cs = p ++ (r ++ s)) (hp : p.length = off) (hr : r[c]? = some x) : ldE.ldO 1 false (off + c) (.c gr cs) = some x := by
 subst hcs hp
 have hc := (List.getElem?_eq_some_iff.1 hr).1
 rw [ld_c (by rw [Nat.ble_eq]; simp; omega), List.drop_append]
 have e : List.drop (p.length + c) p = [] := List.drop_of_length_le (by omega)
 rw [e, List.nil_append, Nat.add_sub_cancel_left, List.drop_append_of_le_length (by omega)]
 rw [List.take_append_of_le_length (by simp; omega), List.take_one, List.head?_drop, hr]
 rfl
def ocl : O → Bool
 | .no => true
 | .gone => true
 | .c _ cs => clL cs
 | _ => false
theorem ab2 {n : Nat} {o : O} (h : ocl o = true) : o.lt n = true := by
 cases o <;> first | rfl | (simp [ocl] at h; done) | skip
 simp only [ocl] at h
 simp only [O.lt]
 exact ac7 n _ h
mutual
theorem V.lt_mono {n m : Nat} (hnm : n ≤ m) : ∀ (x : V), x.lt n = true → x.lt m = true
 | .p _ _, h => by simp only [V.lt, decide_eq_true_eq] at h ⊢; omega
 | .sl _ _ _ _ _, h => by simp only [V.lt, decide_eq_true_eq] at h ⊢; omega
 | .m _, h => by simp only [V.lt, decide_eq_true_eq] at h ⊢; omega
 | .yl _, h => by simp only [V.lt, decide_eq_true_eq] at h ⊢; omega
 | .fn _ a b, h => by simp only [V.lt, Bool.and_eq_true] at h ⊢; exact ⟨ag6 hnm a h.1, ag6 hnm b h.2⟩
 | .ifc _ v, h => by simp only [V.lt] at h ⊢; exact V.lt_mono hnm v h
 | .ag l, h => by simp only [V.lt] at h ⊢; exact ag6 hnm l h
 | .tu l, h => by simp only [V.lt] at h ⊢; exact ag6 hnm l h
 | .ts r, h => by simp only [V.lt] at h ⊢; exact ltR_mono hnm r h
 | .tp r _, h => by simp only [V.lt] at h ⊢; exact ag6 hnm r h
 | .b _, _ => by simp only [V.lt]
 | .i _ _, _ => by simp only [V.lt]
 | .s _ _, _ => by simp only [V.lt]
 | .np, _ => by simp only [V.lt]
 | .ns, _ => by simp only [V.lt]
 | .nm, _ => by simp only [V.lt]
 | .nf, _ => by simp only [V.lt]
 | .ni, _ => by simp only [V.lt]
 | .und, _ => by simp only [V.lt]
 | .te, _ => by simp only [V.lt]
theorem ag6 {n m : Nat} (hnm : n ≤ m) : ∀ (l : List V), ltL n l = true → ltL m l = true
 | [], _ => by simp only [ltL]
 | x :: l, h => by simp only [ltL, Bool.and_eq_true] at h ⊢; exact ⟨V.lt_mono hnm x h.1, ag6 hnm l h.2⟩
theorem ltR_mono {n m : Nat} (hnm : n ≤ m) : ∀ (l : List (List V)), ltR n l = true → ltR m l = true
 | [], _ => by simp only [ltR]
 | x :: l, h => by simp only [ltR, Bool.and_eq_true] at h ⊢; exact ⟨ag6 hnm x h.1, ltR_mono hnm l h.2⟩
end
theorem ltE_mono {n m : Nat} (hnm : n ≤ m) : ∀ (l : List (V × V × Nat)), ltE n l = true → ltE m l = true
 | [], _ => rfl
 | (k, v, b) :: l, h => by simp only [ltE, Bool.and_eq_true] at h ⊢; exact ⟨⟨V.lt_mono hnm k h.1.1, V.lt_mono hnm v h.1.2⟩, ltE_mono hnm l h.2⟩
theorem O.lt_mono {n m : Nat} (hnm : n ≤ m) {o : O} (h : o.lt n = true) : o.lt m = true := by
 cases o with
 | c gr cs => simp only [O.lt] at h ⊢; exact ag6 hnm _ h
 | m es ck => simp only [O.lt] at h ⊢; exact ltE_mono hnm _ h
 | _ => first | rfl | (simp [O.lt] at h)
theorem aa7 {n m : Nat} (hnm : n ≤ m) : ∀ {js zs : List O}, ltO n js = true → zs.all ocl = true → ltO m (js ++ zs) = true
 | [], [], _, _ => rfl
 | [], z :: zs, h, h' => by
   simp only [List.all_cons, Bool.and_eq_true] at h'
   simp only [List.nil_append, ltO, Bool.and_eq_true]
   exact ⟨ab2 h'.1, aa7 hnm (js := []) h h'.2⟩
 | o :: js, zs, h, h' => by
   simp only [ltO, Bool.and_eq_true] at h
   simp only [List.cons_append, ltO, Bool.and_eq_true]
   exact ⟨O.lt_mono hnm h.1, aa7 hnm h.2 h'⟩
theorem ac4 {gr : Bool} {cs : List V} : ocl (.c gr cs) = clL cs := rfl
theorem aj6 : ∀ {js : List O} {zs : List O} {B : Nat} {o : O}, B < js.length → u6 (js ++ zs) B o = some (js.set B o ++ zs)
 | [], _, B, o, h => by simp at h
 | x :: js, zs, 0, o, _ => rfl
 | x :: js, zs, B + 1, o, h => by simp only [List.cons_append, u6, aj6 (js := js) (zs := zs) (B := B) (o := o) (by simpa using h), Option.map_some, List.set_cons_succ]
theorem i8 {js : List O} {A B : Nat} {o : O} (h : A ≠ B) : hpL (js.set B o) A = hpL js A := by
 simp only [hpL, List.getD_eq_getElem?_getD, List.getElem?_set_ne (Ne.symm h)]
theorem m8 {js : List O} {B : Nat} {o : O} (h : B < js.length) : hpL (js.set B o) B = o := by
 simp only [hpL, List.getD_eq_getElem?_getD, List.getElem?_set_self h]; rfl
theorem t8 {js : List O} {A : Nat} {gr : Bool} {cs : List V} (h : hpL js A = .c gr cs) : A < js.length := by
 rcases Nat.lt_or_ge A js.length with q | q
 ·exact q
 ·simp only [hpL, List.getD_eq_getElem?_getD, List.getElem?_eq_none q] at h; cases h
theorem ltO_set {n : Nat} {o : O} (ho : o.lt n = true) : ∀ {js : List O} {B : Nat}, ltO n js = true → ltO n (js.set B o) = true
 | [], B, h => by simpa using h
 | x :: js, 0, h => by simp only [ltO, Bool.and_eq_true] at h; simp only [List.set_cons_zero, ltO, ho, h.2, Bool.and_self]
 | x :: js, B + 1, h => by simp only [ltO, Bool.and_eq_true] at h; simp only [List.set_cons_succ, ltO, h.1, ltO_set ho h.2, Bool.and_self]
theorem hpL_ge {l : List O} {a : Nat} (h : l.length ≤ a) : hpL l a = .no := by
 simp only [hpL, List.getD_eq_getElem?_getD, List.getElem?_eq_none h]; rfl
theorem o0 {l m : List O} {a : Nat} (h : a < l.length) : hpL (l ++ m) a = hpL l a := by
 simp only [hpL, List.getD_eq_getElem?_getD, List.getElem?_append_left h]
def p6 (g : List Nat) : List (List V) := g.map fun (m : Nat) => [.i .i64 (m : Int)]
theorem ai1 {g : List Nat} : ∀ r, r ∈ p6 g → r.length = 1 := by
 intro r hr
 obtain ⟨m, _, rfl⟩ := List.mem_map.1 hr
 rfl
def irow (g : List Nat) : List V := [.ts (p6 g)]
theorem hp_mid {us W I0 K : List O} {o : O} : hpL (us ++ (W ++ ((I0 ++ [o]) ++ K))) (us.length + W.length + I0.length) = o := by
 have : us ++ (W ++ ((I0 ++ [o]) ++ K)) = (us ++ W ++ I0) ++ o :: K := by simp
 rw [this, show us.length + W.length + I0.length = (us ++ W ++ I0).length by simp; omega]
 exact ab9
theorem eqStr_eq {s t : Str} (h : ad0 s t = true) : s = t := by
 simp only [ad0, Bool.and_eq_true, beq_iff_eq] at h
 exact Prod.ext h.1 h.2
def zrows (g : List Int) : List (List V) := g.map fun (m : Int) => [.i .i64 m]
theorem zrows_len (g : List Int) : (zrows g).length = g.length := by simp [zrows]
theorem zrows_get {g : List Int} {k : Nat} {m : Int} (h : g[k]? = some m) : (zrows g)[k]? = some [.i .i64 m] := by simp [zrows, h]
theorem wid_fl {wd : Nat} : ∀ {rows : List (List V)}, (∀ r, r ∈ rows → r.length = wd) → rows.flatten.length = rows.length * wd
 | [], _ => by simp
 | r :: rows, h => by
   have := wid_fl (rows := rows) fun r hr => h r (List.mem_cons_of_mem _ hr)
   rw [List.flatten_cons, List.length_append, this, h r (List.mem_cons_self ..), List.length_cons, Nat.add_mul]; omega
def zcs (l : List Int) : List V := l.map fun (m : Int) => V.i .i64 m
theorem zcs_len (l : List Int) : (zcs l).length = l.length := by simp [zcs]
theorem zcs_ld {gr : Bool} {l : List Int} {i : Nat} {m : Int} (h : l[i]? = some m) : ldE.ldO 1 false i (.c gr (zcs l)) = some (.i .i64 m) := by
 have h1 : zcs l = zcs (l.take i) ++ ([.i .i64 m] ++ zcs (l.drop (i + 1))) := by
  conv => lhs; rw [← List.take_append_drop i l, t6 h]
  simp [zcs]
 have := bb2 (gr := gr) (c := 0) (x := .i .i64 m) h1 (off := i) (by rw [zcs_len, List.length_take, Nat.min_eq_left (Nat.le_of_lt (List.getElem?_eq_some_iff.1 h).1)]) rfl
 exact this
structure RP (js : List O) (pv : V) (p : List Int) : Prop where
 len : lenE false pv = some (.i .i64 (p.length : Int))
 get : ∀ (i : Nat) (m : Int), p[i]? = some m → ∃ ad : V, iadE 1 pv (.i .i64 (i : Int)) = some ad ∧ ∀ ks, ldE (hpL (js ++ ks)) 1 false ad = some (.i .i64 m)
theorem RP.more {js : List O} {pv : V} {p : List Int} (h : RP js pv p) (zs : List O) : RP (js ++ zs) pv p := ⟨h.len, fun i m hm => by
 obtain ⟨ad, h1, h2⟩ := h.get i m hm
 exact ⟨ad, h1, fun ks => by rw [List.append_assoc]; exact h2 _⟩⟩
theorem RP.get0 {js : List O} {pv : V} {p : List Int} (h : RP js pv p) {i : Nat} {m : Int} (hm : p[i]? = some m) : ∃ ad : V, iadE 1 pv (.i .i64 (i : Int)) = some ad ∧ ldE (hpL js) 1 false ad = some (.i .i64 m) := by
 obtain ⟨ad, h1, h2⟩ := h.get i m hm
 exact ⟨ad, h1, by simpa using h2 []⟩
theorem RP.ts (js : List O) (p : List Int) : RP js (.ts (zrows p)) p := ⟨by rw [ab8, zrows_len], fun i m hm => ⟨.tp [.i .i64 m] 0, by rw [iad_i, ar8, zrows_get hm]; rfl, fun ks => rfl⟩⟩
theorem RP.sl {js : List O} {a : Nat} {gr : Bool} {p : List Int} (h : hpL js a = .c gr (zcs p)) : RP js (.sl a 0 1 p.length none) p := ⟨af5, fun i m hm => ⟨.p a i, by
 rw [ae0 (List.getElem?_eq_some_iff.1 hm).1, Nat.mul_one], fun ks => by rw [ld_p, j2 h]; exact zcs_ld hm⟩⟩
theorem RP.ns (js : List O) : RP js .ns [] := ⟨rfl, fun i m hm => by simp at hm⟩
mutual
theorem exB_to : ∀ (x y : Ex), exB x y = true → x = y
 | .mk k op t v nl nn l, .mk k' op' t' v' nl' nn' l', h => by
   simp only [exB, Bool.and_eq_true, beq_iff_eq] at h
   obtain ⟨⟨⟨⟨⟨rfl, rfl⟩, rfl⟩, rfl⟩, h5⟩, h6⟩ := h
   have h5 := eqStr_eq h5
   cases h5
   rw [exsB_to l l' h6]
theorem exsB_to : ∀ (x y : List Ex), exsB x y = true → x = y
 | [], [], _ => rfl
 | x :: l, y :: m, h => by
   simp only [exsB, Bool.and_eq_true] at h
   rw [exB_to x y h.1, exsB_to l m h.2]
 | [], _ :: _, h => by simp [exsB] at h
 | _ :: _, [], h => by simp [exsB] at h
end
mutual
theorem exB_self : ∀ (x : Ex), exB x x = true
 | .mk k op t v nl nn l => by simp only [exB, beq_self_eq_true, ad0, exsB_self l, Bool.and_self]
theorem exsB_self : ∀ (x : List Ex), exsB x x = true
 | [] => rfl
 | x :: l => by simp only [exsB, exB_self x, exsB_self l, Bool.and_self]
end
end Go.Proofs.YtagogibgoknncaaGreatDoor
