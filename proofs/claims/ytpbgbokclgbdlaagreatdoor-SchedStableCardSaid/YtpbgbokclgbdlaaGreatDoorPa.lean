/-
  Programs in normal form as types; lists that grow.
  Lists and structures that are compared; what lies below an address.
-/
import Derived.Test.YtpbgbokclgbdlaaGreatDoorTab
import Derived.Test.YtpbgbokclgbdlaaGreatDoorBT
import Derived.Test.YtpbgbokclgbdlaaGreatDoorBZ
import Derived.Test.YtpbgbokclgbdlaaGreatDoorBX
import Derived.Test.YtpbgbokclgbdlaaGreatDoorBR
set_option linter.unusedSimpArgs false
set_option linter.unusedVariables false
namespace Go.Proofs.YtpbgbokclgbdlaaGreatDoor
open Go Go.B
inductive Ex where
 | mk (k op t v : Int) (nl nn : Nat) (args : List Ex)
mutual
def Ex.row : Ex → List V
 | .mk k op t v nl nn rs => [.i .i64 k, .i .i64 op, .i .i64 t, .i .i64 v, .s nl nn, .ts (Ex.rows rs)]
def Ex.rows : List Ex → List (List V)
 | [] => []
 | e :: l => e.row :: Ex.rows l
end
def Ex.k : Ex → Int | .mk k _ _ _ _ _ _ => k
def Ex.args : Ex → List Ex | .mk _ _ _ _ _ _ rs => rs
theorem af4 (l : List Ex) : Ex.rows l = l.map Ex.row := by
 induction l with
 | nil => rfl
 | cons e l ih => simp [Ex.rows, ih]
theorem ad3 (l : List Ex) (j : Nat) : (Ex.rows l)[j]? = (l[j]?).map Ex.row := by rw [af4, List.getElem?_map]
theorem i4 (l : List Ex) : (Ex.rows l).length = l.length := by rw [af4, List.length_map]
mutual
theorem j4 : ∀ e : Ex, clL e.row = true
 | .mk k op t v nl nn rs => by simp only [Ex.row, clL, V.cl, i9 rs, Bool.and_self]
theorem i9 : ∀ l : List Ex, clR (Ex.rows l) = true
 | [] => by simp only [Ex.rows, clR]
 | e :: l => by simp only [Ex.rows, clR, j4 e, i9 l, Bool.and_self]
end
mutual
def Ex.sz : Ex → Nat
 | .mk _ _ _ _ _ _ l => 1 + Ex.szs l
def Ex.szs : List Ex → Nat
 | [] => 0
 | e :: l => Ex.sz e + Ex.szs l
end
theorem ap3 {e : Ex} : ∀ {l : List Ex}, e ∈ l → e.sz ≤ Ex.szs l
 | x :: l, h => by
   rcases List.mem_cons.1 h with rfl | h
   ·simp [Ex.szs]
   ·have := ap3 h; simp [Ex.szs]; omega
theorem sz_pos (e : Ex) : 1 ≤ e.sz := by cases e; simp [Ex.sz]
theorem au4 : ∀ (l : List Ex), l.length ≤ Ex.szs l
 | [] => by simp
 | e :: l => by have := au4 l; have := sz_pos e; simp [Ex.szs]; omega
theorem szs_app : ∀ (a b : List Ex), Ex.szs (a ++ b) = Ex.szs a + Ex.szs b
 | [], b => by simp [Ex.szs]
 | e :: a, b => by simp [Ex.szs, szs_app a b]; omega
theorem szs_take {l : List Ex} {i : Nat} {x : Ex} (h : l[i]? = some x) : Ex.szs (l.take (i + 1)) = Ex.szs (l.take i) + x.sz := by
 rw [List.take_add_one, h, szs_app]; simp [Ex.szs]
theorem ai0 {l : List Ex} {i : Nat} (h : i < l.length) : ∃ x, l[i]? = some x ∧ x ∈ l := ⟨l[i], by simp [h], List.getElem_mem h⟩
theorem j5 (e : Ex) : e.row.length = 6 := by cases e; rfl
theorem j3 (e : Ex) : e.row.take 6 = e.row := by cases e; rfl
abbrev xg (e : Ex) : V := .ag e.row
theorem j0 {n : Nat} (h : n < 1000000000000000000) : IntKind.i64.wrap ((n : Int) + 1) = ((n + 1 : Nat) : Int) := by
 rw [IntKind.wrap_i64]; omega
theorem mg {α β : Type} {f : α → β} {l : List α} {i : Nat} {x : α} (h : l[i]? = some x) : (l.map f)[i]? = some (f x) := by rw [List.getElem?_map, h]; rfl
theorem ak9 {α : Type} {f : α → List V} (hf : ∀ x, clL (f x) = true) : ∀ l : List α, clR (l.map f) = true
 | [] => by simp only [List.map_nil, clR]
 | x :: l => by simp only [List.map_cons, clR, hf x, ak9 hf l, Bool.and_self]
theorem ats {α : Type} {l : List α} {i : Nat} (h : i < l.length) : ∃ x, l[i]? = some x ∧ x ∈ l := ⟨l[i], by simp [h], List.getElem_mem h⟩
theorem ltd {a b : Nat} (h : a < b) : decide ((a : Int) < (b : Int)) = true := by simp; omega
theorem ltn {a b : Nat} (h : ¬ a < b) : decide ((a : Int) < (b : Int)) = false := by simp; omega
theorem aj4 (a : Int) : (a != a) = false := by simp
theorem beq_n (a : Nat) : (a == a) = true := by simp
abbrev Str := Nat × Nat
def z8 (s : Str) : List V := [.s s.1 s.2]
theorem v8 (s : Str) : (z8 s).length = 1 := rfl
theorem aa1 (s : Str) : clL (z8 s) = true := rfl
theorem j6 (l : List Str) : clR (l.map z8) = true := ak9 aa1 l
structure On where
 nm : Str
 t : Int
 tag : Int
def On.row (o : On) : List V := [.s o.nm.1 o.nm.2, .i .i64 o.t, .i .i64 o.tag]
theorem ap4 (o : On) : o.row.length = 3 := rfl
theorem on_cl (o : On) : clL o.row = true := rfl
theorem m0 (l : List On) : clR (l.map On.row) = true := ak9 on_cl l
structure Decl where
 nm : Str
 ty : Int
 ck : List On
def Decl.row (d : Decl) : List V := [.s d.nm.1 d.nm.2, .i .i64 d.ty, .ts (d.ck.map On.row)]
theorem ao7 (d : Decl) : d.row.length = 3 := rfl
theorem decl_cl (d : Decl) : clL d.row = true := by simp only [Decl.row, clL, V.cl, m0, Bool.and_self]
theorem m5 (l : List Decl) : clR (l.map Decl.row) = true := ak9 decl_cl l
def Lst.ok {α : Type} (l : List α) : Prop := l.length ≤ 140737488355328
theorem on_sq (o : On) : sqs [2, 1, 1] o.row o.row = some true := by simp [sqs, sq1, On.row]
theorem be3 (o : On) : o.row.take 3 = o.row := rfl
mutual
def Ex.ok : Ex → Prop
 | .mk _ _ _ _ _ _ l => Lst.ok l ∧ Ex.oks l
def Ex.oks : List Ex → Prop
 | [] => True
 | e :: l => Ex.ok e ∧ Ex.oks l
end
theorem ag5 {e : Ex} : ∀ {l : List Ex}, Ex.oks l → e ∈ l → e.ok
 | x :: l, h, hm => by
   simp only [Ex.oks] at h
   rcases List.mem_cons.1 hm with rfl | hm
   ·exact h.1
   ·exact ag5 h.2 hm
def Decl.ok (d : Decl) : Prop := d.ck.length ≤ 4398046511104
def bg5 (l : List Decl) : Prop := l.length ≤ 2932031007402 ∧ ∀ d, d ∈ l → d.ok
structure Eqn where
 left : List Str
 right : Ex
def Eqn.row (q : Eqn) : List V := .ts (q.left.map z8) :: q.right.row
theorem eqn_cl (q : Eqn) : clL q.row = true := by simp only [Eqn.row, clL, V.cl, j6, j4, Bool.and_self]
theorem ac6 (l : List Eqn) : clR (l.map Eqn.row) = true := ak9 eqn_cl l
def Eqn.ok (q : Eqn) : Prop := Lst.ok q.left ∧ q.right.ok
structure PNode where
 nm : Str
 ins : List Decl
 outs : List Decl
 locals : List Decl
 eqs : List Eqn
def PNode.row (n : PNode) : List V := [.s n.nm.1 n.nm.2, .ts (n.ins.map Decl.row), .ts (n.outs.map Decl.row), .ts (n.locals.map Decl.row), .ts (n.eqs.map Eqn.row), .ts [], .ts [], .ts []]
theorem o9 : clR [] = true := by simp only [clR]
theorem pnode_cl (n : PNode) : clL n.row = true := by simp only [PNode.row, clL, V.cl, m5, ac6, o9, Bool.and_self]
theorem pnodes_cl (l : List PNode) : clR (l.map PNode.row) = true := ak9 pnode_cl l
def PNode.ok (n : PNode) : Prop := bg5 n.ins ∧ bg5 n.outs ∧ bg5 n.locals ∧ Lst.ok n.eqs ∧ ∀ q, q ∈ n.eqs → q.ok
structure Enm where
 nm : Str
 tags : List Str
def Enm.row (u : Enm) : List V := [.s u.nm.1 u.nm.2, .ts (u.tags.map z8)]
theorem enm_cl (u : Enm) : clL u.row = true := by simp only [Enm.row, clL, V.cl, j6, Bool.and_self]
theorem enms_cl (l : List Enm) : clR (l.map Enm.row) = true := ak9 enm_cl l
def enmOk (l : List Enm) : Prop := Lst.ok l ∧ ∀ u, u ∈ l → Lst.ok u.tags
structure Prg where
 enums : List Enm
 nodes : List PNode
def Prg.row (p : Prg) : List V := [.ts (p.enums.map Enm.row), .ts (p.nodes.map PNode.row)]
theorem prg_cl (p : Prg) : clL p.row = true := by simp only [Prg.row, clL, V.cl, enms_cl, pnodes_cl, Bool.and_self]
def Prg.ok (p : Prg) : Prop := enmOk p.enums ∧ Lst.ok p.nodes ∧ ∀ n, n ∈ p.nodes → n.ok
theorem u9 {n b : Nat} (hn : n ≤ 100000000) (hb : b ≤ 1000) : room n b = true := by
 refine decide_eq_true ?_
 have : n * b ≤ 100000000 * 1000 := Nat.mul_le_mul (by omega) (by omega)
 omega
theorem bh5 {α : Type} {f : α → List V} {wd : Nat} (hf : ∀ x, (f x).length = wd) (l : List α) : (l.map f).all (fun r => r.length == wd) = true := by
 simp [hf]
theorem mem_map {α : Type} {f : α → List V} {wd : Nat} (hf : ∀ x, (f x).length = wd) (l : List α) : ∀ r, r ∈ l.map f → r.length = wd := by
 intro r hr
 obtain ⟨x, _, rfl⟩ := List.mem_map.1 hr
 exact hf x
theorem Se.flat' {h : Hp} {D : Nat → Prop} {a wd n : Nat} {cp : Option Nat} {gr : Bool} {cs : List V} {rs : List (List V)} (ha : h a = .c gr cs) (hcs : cs = rs.flatten) (hn : rs.length = n) (hD : D a) (hw : ∀ r, r ∈ rs → r.length = wd) : Se h D (.sl a 0 wd n cp) (.ts rs) := by
 subst hcs hn
 exact Se.flat ha hD hw
def cells {α : Type} (f : α → List V) (l : List α) (i : Nat) : List V := ((l.take i).map f).flatten
theorem ao9 {α : Type} {f : α → List V} {l : List α} {i : Nat} {x : α} (h : l[i]? = some x) : cells f l i ++ f x = cells f l (i + 1) := by
 unfold cells; rw [List.take_add_one, h]; simp
theorem au0 {α : Type} {f : α → List V} {l : List α} : cells f l l.length = (l.map f).flatten := by unfold cells; rw [List.take_length]
def Sl (h : Hp) (D : Nat → Prop) : List V → List V → Prop
 | [], [] => True
 | x :: xs, y :: ys => Se h D x y ∧ Sl h D xs ys
 | _, _ => False
theorem Sl.get {h : Hp} {D : Nat → Prop} : ∀ {xs ys : List V}, Sl h D xs ys → xs.length = ys.length ∧ ∀ (j : Nat) (a b : V), xs[j]? = some a → ys[j]? = some b → Se h D a b
 | [], [], _ => ⟨rfl, fun j a b e => by simp at e⟩
 | x :: xs, y :: ys, hs => by
   obtain ⟨h1, h2⟩ := hs
   obtain ⟨q1, q2⟩ := Sl.get h2
   refine ⟨by simp [q1], fun j a b e1 e2 => ?_⟩
   cases j with
   | zero => cases e1; cases e2; exact h1
   | succ j => exact q2 j a b e1 e2
theorem Sl.ag {h : Hp} {D : Nat → Prop} {xs ys : List V} (hs : Sl h D xs ys) : Se h D (.ag xs) (.ag ys) := .ag _ _ hs.get.1 hs.get.2
theorem ad4 {a b c d e f : V} (x : Ex) : putAt [a, b, c, d, e, f] 0 x.row = x.row := by cases x; rfl
structure NEqn where
 kind : Int
 left : List Str
 right : Ex
 init : Int
 node : Str
 args : List Ex
 every : Str
 ck : List On
def NEqn.row (q : NEqn) : List V := .i .i64 q.kind :: .ts (q.left.map z8) :: (q.right.row ++ [.i .i64 q.init, .s q.node.1 q.node.2, .ts (Ex.rows q.args), .s q.every.1 q.every.2, .ts (q.ck.map On.row)])
theorem i7 (q : NEqn) : q.row.length = 13 := by simp [NEqn.row, j5]
theorem clL_app : ∀ (a b : List V), clL (a ++ b) = (clL a && clL b)
 | [], b => by simp [clL]
 | x :: a, b => by simp [clL, clL_app a b, Bool.and_assoc]
theorem ac5 (q : NEqn) : clL q.row = true := by simp only [NEqn.row, clL, V.cl, j6, clL_app, j4, i9, m0, Bool.and_self]
def hit (s : Str) (d : Decl) : Bool := d.nm.1 == s.1 && d.nm.2 == s.2
def place (s : Str) : List Decl → Nat → Option (Nat × Int)
 | [], _ => none
 | d :: l, i => if hit s d = true then some (i, d.ty) else place s l (i + 1)
def boxes (l : List Decl) : List O := l.map fun d => .c false d.row
def cst (t v : Int) : Ex := .mk 1 0 t v 0 0 []
def none? (s : Str) : Bool := s.1 == 0 && s.2 == 0
def Sll (h : Hp) (D : Nat → Prop) : List (List V) → List (List V) → Prop
 | [], [] => True
 | x :: xs, y :: ys => Sl h D x y ∧ Sll h D xs ys
 | _, _ => False
theorem Sll.get {h : Hp} {D : Nat → Prop} : ∀ {xs ys : List (List V)}, Sll h D xs ys → xs.length = ys.length ∧ ∀ (i : Nat) (a b : List V), xs[i]? = some a → ys[i]? = some b → Sl h D a b
 | [], [], _ => ⟨rfl, fun j a b e => by simp at e⟩
 | x :: xs, y :: ys, hs => by
   obtain ⟨h1, h2⟩ := hs
   obtain ⟨q1, q2⟩ := Sll.get h2
   refine ⟨by simp [q1], fun j a b e1 e2 => ?_⟩
   cases j with
   | zero => cases e1; cases e2; exact h1
   | succ j => exact q2 j a b e1 e2
theorem Se.rowsL {h : Hp} {D : Nat → Prop} {a wd n : Nat} {cp : Option Nat} {gr : Bool} {cs : List V} {rs ys : List (List V)} (ha : h a = .c gr cs) (hcs : cs = rs.flatten) (hn : rs.length = n) (hD : D a) (hw : ∀ r, r ∈ rs → r.length = wd) (hw' : ∀ r, r ∈ ys → r.length = wd)
  (hs : Sll h D rs ys) : Se h D (.sl a 0 wd n cp) (.ts ys) := by
 subst hcs hn
 exact Se.rows ha hD hs.get.1 hw hw' (fun i j r r' x y e1 e2 e3 e4 => (hs.get.2 i r r' e1 e2).get.2 j x y e3 e4)
theorem Sl.refl {h : Hp} {D : Nat → Prop} : ∀ {xs : List V}, Sl h D xs xs
 | [] => trivial
 | x :: xs => ⟨.same _, Sl.refl⟩
theorem rows_w {l : List Ex} : ∀ r, r ∈ Ex.rows l → r.length = 6 := by rw [af4]; exact mem_map j5 l
theorem Sll.refl {h : Hp} {D : Nat → Prop} : ∀ {xs : List (List V)}, Sll h D xs xs
 | [] => trivial
 | x :: xs => ⟨Sl.refl, Sll.refl⟩
mutual
def w6 : Ex → Int → Int
 | .mk _ _ _ _ _ _ args, m => if m < w6s args m 1 then m else w6s args m 1
def w6s : List Ex → Int → Int → Int
 | [], _, n => n
 | e :: l, m, n => if n < m then w6s l m (IntKind.i64.wrap (n + w6 e (IntKind.i64.wrap (m - n)))) else n
end
theorem v6 {α : Type} {l : List α} {i : Nat} {x : α} (h : l[i]? = some x) : l.drop i = x :: l.drop (i + 1) := by
 have hlt := (List.getElem?_eq_some_iff.1 h).1
 rw [List.drop_eq_getElem_cons hlt]
 have : l[i] = x := by simpa [List.getElem?_eq_getElem hlt] using h
 rw [this]
theorem ba8 : ∀ (n : Nat) (e : Ex) (m : Int), e.sz ≤ n → e.ok → PC Tryz.prog 17 [xg e, .i .i64 m] (.i .i64 (w6 e m))
 | 0, e, m, h, _ => by have := sz_pos e; omega
 | n + 1, .mk k op t v nl nn args, m, h, hn => by
   have hszs : Ex.szs args ≤ n := by simp [Ex.sz] at h; omega
   simp only [Ex.ok] at hn
   have hf : ∀ a, a ∈ args → ∀ m : Int, PC Tryz.prog 17 [xg a, .i .i64 m] (.i .i64 (w6 a m)) := fun a ha m => ba8 n a m (by have := ap3 ha; omega) (ag5 hn.2 ha)
   have hlen := hn.1
   unfold Lst.ok at hlen
   simp only [w6]
   refine u4 Tryz.func17 k17 rfl ?_
   repeat' (first
    | (simp only [c17, Ex.row, SXR, simprocAttr]))
   refine m4 (X := Nat × Int) (fun x ll hs => Hd (fun j => [xg (.mk k op t v nl nn args), .i .i64 m, .p 0 0, j 3, .i .i64 0, .i .i64 x.2, .i .i64 (x.1 : Int), j 7, j 8, j 9, j 10, j 11, j 12, j 13, j 14, j 15, j 16, j 17, j 18, j 19, j 20, j 21, j 22, j 23, j 24, j 25, j 26, j 27, j 28, j 29, j 30, j 31, j 32]) ll ∧ hs = [.c false [.i .i64 k, .i .i64 op, .i .i64 t, .i .i64 v, .s nl nn, .ts (Ex.rows args)]])
    (fun x => x.1 ≤ args.length ∧ w6s args m 1 = w6s (args.drop x.1) m x.2) (fun x => args.length - x.1) ?_ (0, 1) _ _ (by exact ⟨rfl, rfl⟩) ⟨Nat.zero_le _, rfl⟩
   rintro ⟨i, a⟩ _ _ ⟨e, rfl⟩ ⟨hi, hw6⟩ IH
   obtain ⟨j, rfl⟩ := e.open
   clear e
   simp only at hi hw6 IH
   by_cases hlt : i < args.length
   ·obtain ⟨x, hx, hxm⟩ := ats hlt
    have hr : (Ex.rows args)[i]? = some x.row := by rw [ad3, hx]; rfl
    have hd := ltd hlt
    have hw := j0 (n := i) (by omega)
    rw [v6 hx] at hw6
    simp only [w6s] at hw6
    by_cases hg : a < m
    ·rw [if_pos hg] at hw6
     have hgd : decide (a < m) = true := by simpa using hg
     have hc := hf x hxm (IntKind.i64.wrap (m - a))
     repeat' (first
      | (with_reducible refine b8 (hc) (by simp only [SXR, i9, j4]) (by simp only [SXR, i9, j4]) ?_)
      | (simp only [c17, i4, i9, hd, hr, j5, j3, j4, hgd, hw, SXR, simprocAttr]))
     exact IH (i + 1, _) _ _ (by exact ⟨rfl, rfl⟩) ⟨hlt, hw6⟩ (by simp only; omega)
    ·rw [if_neg hg] at hw6
     have hgd : decide (a < m) = false := by simpa using hg
     clear IH
     rw [hw6]
     repeat' (first
      | (simp only [c17, i4, hd, hgd, SXR, simprocAttr]))
   ·have hd := ltn hlt
    clear IH
    have : args.drop i = [] := List.drop_eq_nil_of_le (by omega)
    rw [this] at hw6
    simp only [w6s] at hw6
    rw [hw6]
    repeat' (first
     | (simp only [c17, i4, hd, SXR, simprocAttr]))
theorem rall (l : List Ex) : (Ex.rows l).all (fun r => r.length == 6) = true := by rw [af4]; exact bh5 j5 l
abbrev dz : List V := [.s 0 0, .i .i64 0, .ns]
def zs (n : Nat) : List V := (List.replicate n dz).flatten
theorem wrap_0 : IntKind.i64.wrap 0 = 0 := rfl
theorem putAt_mid {p u s xs : List V} {off : Nat} (ho : off = p.length) (hl : xs.length = u.length) : putAt (p ++ (u ++ s)) off xs = p ++ (xs ++ s) := by
 subst ho
 apply List.ext_getElem?
 intro j
 rw [bd6 _ _ _ _ (by simp; omega)]
 split
 ·rename_i h
  rw [List.getElem?_append_right h.1, List.getElem?_append_left (by omega)]
 ·rename_i h
  by_cases hj : j < p.length
  ·rw [List.getElem?_append_left hj, List.getElem?_append_left hj]
  ·rw [List.getElem?_append_right (by omega), List.getElem?_append_right (by omega), List.getElem?_append_right (by omega), List.getElem?_append_right (by omega), hl]
theorem ac0 {a w wd n i : Nat} {c : Option Nat} (h : i < n) : iadE wd (.sl a 0 w n c) (.i .i64 (i : Int)) = some (.p a (i * wd)) := by
 simp only [iadE]
 rw [if_pos ⟨by omega, by omega⟩]
 simp
theorem as3 {a o w n : Nat} {c : Option Nat} : lenE false (.sl a o w n c) = some (.i .i64 (n : Int)) := rfl
theorem flat_split {wd : Nat} {l : List (List V)} {i : Nat} {r : List V} (hw : ∀ r, r ∈ l → r.length = wd) (h : l[i]? = some r) : ∃ p s, l.flatten = p ++ (r ++ s) ∧ p.length = i * wd := by
 refine ⟨(l.take i).flatten, (l.drop (i + 1)).flatten, ?_, ?_⟩
 ·have : l = l.take i ++ (r :: l.drop (i + 1)) := by rw [← v6 h, List.take_append_drop]
  conv => lhs; rw [this]
  rw [List.flatten_append, List.flatten_cons]
 ·rw [bf9 (fun r hr => hw r (List.mem_of_mem_take hr)), List.length_take, Nat.min_eq_left (Nat.le_of_lt (List.getElem?_eq_some_iff.1 h).1)]
theorem ld_row {wd off : Nat} {gr : Bool} {cs p r s : List V} (hcs : cs = p ++ (r ++ s)) (hp : p.length = off) (hr : r.length = wd) : ldE.ldO wd true off (.c gr cs) = some (.ag r) := by
 subst hcs hp hr
 rw [ld_c (by rw [Nat.ble_eq]; simp), List.drop_left, List.take_left]
 rfl
def NEqn.okw (q : NEqn) : Prop := Lst.ok q.left ∧ q.right.ok ∧ Lst.ok q.args ∧ Ex.oks q.args ∧ Lst.ok q.ck
def NEqn.ok (q : NEqn) : Prop := Lst.ok q.left ∧ q.right.ok ∧ Lst.ok q.args ∧ Ex.oks q.args ∧ Lst.ok q.ck ∧ q.args.length + q.left.length + q.ck.length < 20000000
structure NNode where
 nm : Str
 ins : List Decl
 outs : List Decl
 locals : List Decl
 eqs : List NEqn
def NNode.row (n : NNode) : List V := [.s n.nm.1 n.nm.2, .ts (n.ins.map Decl.row), .ts (n.outs.map Decl.row), .ts (n.locals.map Decl.row), .ts (n.eqs.map NEqn.row)]
theorem ar9 (l : List NEqn) : clR (l.map NEqn.row) = true := ak9 ac5 l
theorem t7 (n : NNode) : clL n.row = true := by simp only [NNode.row, clL, V.cl, m5, ar9, Bool.and_self]
theorem i6 (n : NNode) : n.row.length = 5 := rfl
theorem nnodes_cl (l : List NNode) : clR (l.map NNode.row) = true := ak9 t7 l
def NNode.okw (n : NNode) : Prop := bg5 n.ins ∧ bg5 n.outs ∧ bg5 n.locals ∧ Lst.ok n.eqs ∧ ∀ q, q ∈ n.eqs → q.okw
def NNode.ok (n : NNode) : Prop := bg5 n.ins ∧ bg5 n.outs ∧ bg5 n.locals ∧ Lst.ok n.eqs ∧ ∀ q, q ∈ n.eqs → q.ok
structure NPrg where
 enums : List Enm
 nodes : List NNode
def NPrg.row (p : NPrg) : List V := [.ts (p.enums.map Enm.row), .ts (p.nodes.map NNode.row)]
theorem nprg_cl (p : NPrg) : clL p.row = true := by simp only [NPrg.row, clL, V.cl, enms_cl, nnodes_cl, Bool.and_self]
def NPrg.ok (p : NPrg) : Prop := enmOk p.enums ∧ Lst.ok p.nodes ∧ ∀ n, n ∈ p.nodes → n.ok
def NNode.vars (n : NNode) : List Decl := n.ins ++ n.outs ++ n.locals
theorem Se.mono {h h' : Hp} {D D' : Nat → Prop} (hh : ∀ a gr cs, h a = .c gr cs → h' a = .c gr cs) (hd : ∀ a, D a → D' a) {x y : V} (hs : Se h D x y) : Se h' D' x y := by
 induction hs with
 | same x => exact .same x
 | nil => exact .nil
 | sl a off wd len cp gr cs rows ha hD hl hb hw hr ih => exact .sl a off wd len cp gr cs rows (hh _ _ _ ha) (hd _ hD) hl hb hw ih
 | ag xs ys hl hr ih => exact .ag xs ys hl ih
 | tu xs ys hl hr ih => exact .tu xs ys hl ih
theorem Sl.mono {h h' : Hp} {D D' : Nat → Prop} (hh : ∀ a gr cs, h a = .c gr cs → h' a = .c gr cs) (hd : ∀ a, D a → D' a) : ∀ {xs ys : List V}, Sl h D xs ys → Sl h' D' xs ys
 | [], [], _ => trivial
 | x :: xs, y :: ys, hs => ⟨Se.mono hh hd hs.1, Sl.mono hh hd hs.2⟩
theorem Sll.mono {h h' : Hp} {D D' : Nat → Prop} (hh : ∀ a gr cs, h a = .c gr cs → h' a = .c gr cs) (hd : ∀ a, D a → D' a) : ∀ {xs ys : List (List V)}, Sll h D xs ys → Sll h' D' xs ys
 | [], [], _ => trivial
 | x :: xs, y :: ys, hs => ⟨Sl.mono hh hd hs.1, Sll.mono hh hd hs.2⟩
theorem Sll.app {h : Hp} {D : Nat → Prop} {x y : List V} (hs : Sl h D x y) : ∀ {xs ys : List (List V)}, Sll h D xs ys → Sll h D (xs ++ [x]) (ys ++ [y])
 | [], [], _ => ⟨hs, trivial⟩
 | a :: xs, b :: ys, q => ⟨q.1, Sll.app hs q.2⟩
theorem l9 {l m : List O} {a : Nat} {gr : Bool} {cs : List V} (h : hpL l a = .c gr cs) : hpL (l ++ m) a = .c gr cs := by
 unfold hpL at h ⊢
 simp only [List.getD_eq_getElem?_getD] at h ⊢
 cases e : l[a]? with
 | none => rw [e] at h; cases h
 | some o =>
   rw [List.getElem?_append_left (List.getElem?_eq_some_iff.1 e).1, e]
   rw [e] at h; exact h
def GT (base wd n : Nat) (v : V) (T0 T : List O) (cs : List V) : Prop :=
 (n = 0 ∧ v = .ns ∧ cs = [] ∧ T = T0) ∨ (0 < n ∧ T = T0 ++ [.c true cs] ∧ v = .sl (base + T0.length) 0 wd n none ∧ cs.length = n * wd)
theorem ag7 {l : List O} {x o : O} {n : Nat} (h : n = l.length) : aa3 (l ++ [x]) n o = some (l ++ [o]) := by subst h; exact hs_ap0
theorem GT.app {base wd n bytes : Nat} {v : V} {T0 T : List O} {cs xs : List V} (h : GT base wd n v T0 T cs) (hw : wd ≠ 0) (hx : xs.length = wd) (hroom : room (n + 1) bytes = true) :
  ∃ T1, (∃ t, T1 = T0 ++ t) ∧ T1.length = T.length ∧ (∀ (pre zs : List O) (rb k : Nat), pre.length = base → rb + k = base + (T.length + zs.length) →
   ah2 rb (pre ++ (T ++ (zs ++ [.no]))) k v (some xs) (some 1) wd bytes = some (.sl (base + (T.length + zs.length)) 0 wd (n + 1) none, pre ++ (T1 ++ (zs ++ [.c true (cs ++ xs)]))))
   ∧ ∀ zs : List O, GT base wd (n + 1) (.sl (base + (T.length + zs.length)) 0 wd (n + 1) none) (T1 ++ zs) (T1 ++ (zs ++ [.c true (cs ++ xs)])) (cs ++ xs) := by
 have hwb : Nat.beq wd 0 = false := by cases wd with | zero => exact (hw rfl).elim | succ n => rfl
 have hl : cs.length = n * wd := by
  rcases h with ⟨rfl, rfl, rfl, rfl⟩ | ⟨_, _, _, h⟩
  ·simp
  ·exact h
 have hcl : (cs ++ xs).length = (n + 1) * wd := by rw [List.length_append, hl, hx, Nat.add_mul, Nat.one_mul]
 rcases h with ⟨rfl, rfl, rfl, rfl⟩ | ⟨h0, rfl, rfl, _⟩
 ·refine ⟨T, ⟨[], by simp⟩, rfl, fun pre zs rb k hp hr => ?_, fun zs => .inr ⟨by omega, by simp, by simp, hcl⟩⟩
  rw [ap_ns rfl hroom, hr, show pre ++ (T ++ (zs ++ [.no])) = (pre ++ (T ++ zs)) ++ [.no] by simp, ag7 (by simp [hp])]
  simp
 ·refine ⟨T0 ++ [.gone], ⟨_, rfl⟩, by simp, fun pre zs rb k hp hr => ?_, fun zs => .inr ⟨by omega, by simp, by simp; omega, hcl⟩⟩
  have hh : hpL (pre ++ ((T0 ++ [.c true cs]) ++ (zs ++ [.no]))) (base + T0.length) = .c true cs := by
   have : pre ++ ((T0 ++ [.c true cs]) ++ (zs ++ [.no])) = (pre ++ T0) ++ .c true cs :: (zs ++ [.no]) := by simp
   rw [this, show base + T0.length = (pre ++ T0).length by simp [hp]]
   exact ag8
  rw [ap_sl rfl, hh, an2 rfl hwb (by rw [hl]; exact Nat.beq_refl _) hroom]
  have e1 : aa3 (pre ++ ((T0 ++ [.c true cs]) ++ (zs ++ [.no]))) (base + T0.length) .gone = some ((pre ++ (T0 ++ .gone :: zs)) ++ [.no]) := by
   have : pre ++ ((T0 ++ [.c true cs]) ++ (zs ++ [.no])) = (pre ++ T0) ++ .c true cs :: (zs ++ [.no]) := by simp
   rw [this, show base + T0.length = (pre ++ T0).length by simp [hp], hs_ap0]
   simp
  rw [e1, Option.bind_some, ag7 (by rw [hr]; simp [hp]; omega), hr]
  simp
theorem putAt_full {zs r : List V} (h : zs.length = r.length) : putAt zs 0 r = r := by
 have := putAt_mid (p := []) (u := zs) (s := []) (xs := r) (off := 0) rfl h.symm
 simpa using this
theorem put13 {a b c d e f g h i j k l m : V} (q : NEqn) : putAt [a, b, c, d, e, f, g, h, i, j, k, l, m] 0 q.row = q.row := putAt_full (by rw [i7]; rfl)
theorem put_row1 {u a b c d e f : V} (x : Ex) : putAt [u, a, b, c, d, e, f] 1 x.row = u :: x.row := by cases x; rfl
theorem i8 (q : NEqn) : q.row.take 13 = q.row := List.take_of_length_le (by rw [i7]; omega)
theorem f0 (n : NNode) : n.row.take 5 = n.row := rfl
theorem p9 (q : NEqn) : (q.row.drop 1).take 1 = [.ts (q.left.map z8)] := rfl
theorem nn4 (n : NNode) : (n.row.drop 4).take 1 = [.ts (n.eqs.map NEqn.row)] := rfl
theorem m8 (q : NEqn) : (q.row.drop 12).take 1 = [.ts (q.ck.map On.row)] := by obtain ⟨_, _, ⟨_, _, _, _, _, _, _⟩, _, _, _, _, _⟩ := q; rfl
theorem j7 (q : NEqn) : (q.row.drop 2).take 6 = q.right.row := by obtain ⟨_, _, ⟨_, _, _, _, _, _, _⟩, _, _, _, _, _⟩ := q; rfl
theorem m7 (q : NEqn) : (q.row.drop 10).take 1 = [.ts (Ex.rows q.args)] := by obtain ⟨_, _, ⟨_, _, _, _, _, _, _⟩, _, _, _, _, _⟩ := q; rfl
def one (n : NNode) : NPrg := ⟨[], [n]⟩
def eqB {α : Type} (f : α → α → Bool) : List α → List α → Bool
 | [], [] => true
 | x :: l, y :: m => f x y && eqB f l m
 | _, _ => false
theorem eqB_ne {α : Type} {f : α → α → Bool} : ∀ {a b : List α}, a.length ≠ b.length → eqB f a b = false
 | [], [], h => (h rfl).elim
 | [], _ :: _, _ => rfl
 | _ :: _, [], _ => rfl
 | x :: a, y :: b, h => by simp only [eqB, eqB_ne (a := a) (b := b) (fun e => h (by simp [e])), Bool.and_false]
theorem eqB_step {α : Type} {f : α → α → Bool} {a b : List α} {i : Nat} {x y : α} (hx : a[i]? = some x) (hy : b[i]? = some y) : eqB f (a.drop i) (b.drop i) = (f x y && eqB f (a.drop (i + 1)) (b.drop (i + 1))) := by
 rw [v6 hx, v6 hy]; rfl
theorem eqB_done {α : Type} {f : α → α → Bool} {a b : List α} {i : Nat} (hl : a.length = b.length) (h : ¬ i < a.length) : eqB f (a.drop i) (b.drop i) = true := by
 rw [List.drop_eq_nil_of_le (by omega), List.drop_eq_nil_of_le (by omega)]; rfl
theorem eqB_refl {α : Type} {f : α → α → Bool} : ∀ (l : List α), (∀ x, x ∈ l → f x x = true) → eqB f l l = true
 | [], _ => rfl
 | x :: l, h => by simp only [eqB, h x (List.mem_cons_self ..), eqB_refl l (fun y hy => h y (List.mem_cons_of_mem _ hy)), Bool.and_true]
def ac1 (s t : Str) : Bool := s.1 == t.1 && s.2 == t.2
def az9 (o p : On) : Bool := ac1 o.nm p.nm && o.t == p.t && o.tag == p.tag
mutual
def exB : Ex → Ex → Bool
 | .mk k op t v nl nn l, .mk k' op' t' v' nl' nn' l' => k == k' && op == op' && t == t' && v == v' && ac1 (nl, nn) (nl', nn') && exsB l l'
def exsB : List Ex → List Ex → Bool
 | [], [] => true
 | x :: l, y :: m => exB x y && exsB l m
 | [], _ :: _ => false
 | _ :: _, [] => false
end
theorem exsB_eq : ∀ (l m : List Ex), exsB l m = eqB exB l m
 | [], [] => by simp only [exsB, eqB]
 | [], _ :: _ => by simp only [exsB, eqB]
 | _ :: _, [] => by simp only [exsB, eqB]
 | x :: l, y :: m => by simp only [exsB, eqB, exsB_eq l m]
theorem on_sqs (o p : On) : sqs [2, 1, 1] o.row p.row = some (az9 o p) := by
 unfold az9 ac1
 simp only [On.row, sqs, sq1, if_true]
 generalize (o.nm.1 == p.nm.1 && o.nm.2 == p.nm.2) = a
 generalize (o.t == p.t) = b
 generalize (o.tag == p.tag) = c
 cases a <;> cases b <;> cases c <;> rfl
theorem seqon_pc (a b : List On) (hn : Lst.ok a) : PC Tryz.prog 40 [.ts (a.map On.row), .ts (b.map On.row)] (.b (eqB az9 a b)) := by
 unfold Lst.ok at hn
 by_cases hl : a.length = b.length
 ·have hne : ((a.length : Int) != (b.length : Int)) = false := by rw [hl]; simp
  refine u4 Tryz.func40 k40 rfl ?_
  repeat' (first
   | (simp only [c40, List.length_map, hne, SXR, simprocAttr]))
  refine m4 (X := Nat) (fun i ll hs => Hd (fun j => [.ts (a.map On.row), .ts (b.map On.row), j 2, j 3, .b false, j 5, j 6, j 7, j 8, j 9, j 10, .ts (a.map On.row), .i .i64 (a.length : Int), .i .i64 (i : Int), j 14, j 15, j 16, j 17, j 18, j 19, j 20, j 21, j 22, j 23, j 24, j 25]) ll ∧ hs = [])
   (fun i => i ≤ a.length ∧ eqB az9 a b = eqB az9 (a.drop i) (b.drop i)) (fun i => a.length - i) ?_ 0 _ _ (by exact ⟨rfl, rfl⟩) ⟨Nat.zero_le _, rfl⟩
  rintro i _ _ ⟨e, rfl⟩ ⟨hi, hinv⟩ IH
  obtain ⟨j, rfl⟩ := e.open
  clear e
  by_cases hlt : i < a.length
  ·obtain ⟨x, hx, hxm⟩ := ats hlt
   obtain ⟨y, hy, hym⟩ := ats (show i < b.length by omega)
   have hxr := mg (f := On.row) hx
   have hyr := mg (f := On.row) hy
   have hd := ltd hlt
   have hw := j0 (n := i) (by omega)
   rw [eqB_step hx hy] at hinv
   cases g0 : az9 x y with
   | false =>
     have h0 := g0
     have hr : eqB az9 a b = false := by rw [hinv]; simp [g0]
     rw [hr]
     repeat' (first
      | (simp only [c40, List.length_map, hd, hxr, hyr, hw, bne, ap4, be3, on_sqs, h0, SXR, simprocAttr]))
   | true =>
     have h0 := g0
     repeat' (first
      | (simp only [c40, List.length_map, hd, hxr, hyr, hw, bne, ap4, be3, on_sqs, h0, SXR, simprocAttr]))
     exact IH (i + 1) _ _ (by exact ⟨rfl, rfl⟩) ⟨hlt, by rw [hinv]; simp [g0]⟩ (by omega)
  ·have hd := ltn hlt
   clear IH
   rw [eqB_done hl hlt] at hinv
   rw [hinv]
   repeat' (first
    | (simp only [c40, List.length_map, hd, SXR, simprocAttr]))
 ·have hne : ((a.length : Int) != (b.length : Int)) = true := by simp; omega
  rw [eqB_ne hl]
  refine u4 Tryz.func40 k40 rfl ?_
  repeat' (first
   | (simp only [c40, List.length_map, hne, SXR, simprocAttr]))
theorem bg9 (a b : List On) (hn : Lst.ok a) : PC Tryz.prog 16 [.ts (a.map On.row), .ts (b.map On.row)] (.b (eqB az9 a b)) := by
 unfold Lst.ok at hn
 by_cases hl : a.length = b.length
 ·have hne : ((a.length : Int) != (b.length : Int)) = false := by rw [hl]; simp
  refine u4 Tryz.func16 k16 rfl ?_
  repeat' (first
   | (simp only [c16, List.length_map, hne, SXR, simprocAttr]))
  refine m4 (X := Nat) (fun i ll hs => Hd (fun j => [.ts (a.map On.row), .ts (b.map On.row), j 2, j 3, .b false, .i .i64 (i : Int), j 6, j 7, j 8, j 9, j 10, j 11, j 12, j 13, j 14, j 15, j 16, j 17, j 18, j 19, j 20, j 21, j 22, j 23, j 24, j 25]) ll ∧ hs = [])
   (fun i => i ≤ a.length ∧ eqB az9 a b = eqB az9 (a.drop i) (b.drop i)) (fun i => a.length - i) ?_ 0 _ _ (by exact ⟨rfl, rfl⟩) ⟨Nat.zero_le _, rfl⟩
  rintro i _ _ ⟨e, rfl⟩ ⟨hi, hinv⟩ IH
  obtain ⟨j, rfl⟩ := e.open
  clear e
  by_cases hlt : i < a.length
  ·obtain ⟨x, hx, hxm⟩ := ats hlt
   obtain ⟨y, hy, hym⟩ := ats (show i < b.length by omega)
   have hxr := mg (f := On.row) hx
   have hyr := mg (f := On.row) hy
   have hd := ltd hlt
   have hw := j0 (n := i) (by omega)
   rw [eqB_step hx hy] at hinv
   cases g0 : az9 x y with
   | false =>
     have h0 := g0
     have hr : eqB az9 a b = false := by rw [hinv]; simp [g0]
     rw [hr]
     repeat' (first
      | (simp only [c16, List.length_map, hd, hxr, hyr, hw, bne, ap4, be3, on_sqs, h0, SXR, simprocAttr]))
   | true =>
     have h0 := g0
     repeat' (first
      | (simp only [c16, List.length_map, hd, hxr, hyr, hw, bne, ap4, be3, on_sqs, h0, SXR, simprocAttr]))
     exact IH (i + 1) _ _ (by exact ⟨rfl, rfl⟩) ⟨hlt, by rw [hinv]; simp [g0]⟩ (by omega)
  ·have hd := ltn hlt
   clear IH
   rw [eqB_done hl hlt] at hinv
   rw [hinv]
   repeat' (first
    | (simp only [c16, List.length_map, hd, SXR, simprocAttr]))
 ·have hne : ((a.length : Int) != (b.length : Int)) = true := by simp; omega
  rw [eqB_ne hl]
  refine u4 Tryz.func16 k16 rfl ?_
  repeat' (first
   | (simp only [c16, List.length_map, hne, SXR, simprocAttr]))
theorem t6 (q : NEqn) : q.row.take 1 = [.i .i64 q.kind] := by obtain ⟨_, _, ⟨_, _, _, _, _, _, _⟩, _, _, _, _, _⟩ := q; rfl
theorem aa8 (q : NEqn) : (q.row.drop 8).take 1 = [.i .i64 q.init] := by obtain ⟨_, _, ⟨_, _, _, _, _, _, _⟩, _, _, _, _, _⟩ := q; rfl
theorem aa7 (q : NEqn) : (q.row.drop 9).take 1 = [.s q.node.1 q.node.2] := by obtain ⟨_, _, ⟨_, _, _, _, _, _, _⟩, _, _, _, _, _⟩ := q; rfl
theorem j9 (q : NEqn) : (q.row.drop 11).take 1 = [.s q.every.1 q.every.2] := by obtain ⟨_, _, ⟨_, _, _, _, _, _, _⟩, _, _, _, _, _⟩ := q; rfl
theorem same6_pc : ∀ (n : Nat) (x y : Ex), x.sz ≤ n → x.ok → PC Tryz.prog 89 [xg x, xg y] (.b (exB x y))
 | 0, x, y, h, _ => by have := sz_pos x; omega
 | n + 1, .mk k op t v nl nn l, .mk k' op' t' v' nl' nn' l', h, hok => by
   have hszs : Ex.szs l ≤ n := by simp [Ex.sz] at h; omega
   simp only [Ex.ok] at hok
   have hf : ∀ a b, a ∈ l → PC Tryz.prog 89 [xg a, xg b] (.b (exB a b)) := fun a b ha => same6_pc n a b (by have := ap3 ha; omega) (ag5 hok.2 ha)
   have hlen := hok.1
   unfold Lst.ok at hlen
   cases g0 : k == k' with
   | false =>
     have h0 := g0
     have hr : exB (.mk k op t v nl nn l) (.mk k' op' t' v' nl' nn' l') = false := by simp [exB, g0]
     rw [hr]
     refine u4 Tryz.func89 k89 rfl ?_
     repeat' (first
      | (simp only [c89, bne, Ex.row, h0, SXR, simprocAttr]))
   | true =>
     have h0 := g0
     cases g1 : op == op' with
     | false =>
       have h1 := g1
       have hr : exB (.mk k op t v nl nn l) (.mk k' op' t' v' nl' nn' l') = false := by simp [exB, g0, g1]
       rw [hr]
       refine u4 Tryz.func89 k89 rfl ?_
       repeat' (first
        | (simp only [c89, bne, Ex.row, h0, h1, SXR, simprocAttr]))
     | true =>
       have h1 := g1
       cases g2 : t == t' with
       | false =>
         have h2 := g2
         have hr : exB (.mk k op t v nl nn l) (.mk k' op' t' v' nl' nn' l') = false := by simp [exB, g0, g1, g2]
         rw [hr]
         refine u4 Tryz.func89 k89 rfl ?_
         repeat' (first
          | (simp only [c89, bne, Ex.row, h0, h1, h2, SXR, simprocAttr]))
       | true =>
         have h2 := g2
         cases g3 : v == v' with
         | false =>
           have h3 := g3
           have hr : exB (.mk k op t v nl nn l) (.mk k' op' t' v' nl' nn' l') = false := by simp [exB, g0, g1, g2, g3]
           rw [hr]
           refine u4 Tryz.func89 k89 rfl ?_
           repeat' (first
            | (simp only [c89, bne, Ex.row, h0, h1, h2, h3, SXR, simprocAttr]))
         | true =>
           have h3 := g3
           cases g4 : ac1 (nl, nn) (nl', nn') with
           | false =>
             have h4 := g4
             simp only [ac1] at h4
             have hr : exB (.mk k op t v nl nn l) (.mk k' op' t' v' nl' nn' l') = false := by simp [exB, g0, g1, g2, g3, g4]
             rw [hr]
             refine u4 Tryz.func89 k89 rfl ?_
             repeat' (first
              | (simp only [c89, bne, Ex.row, h0, h1, h2, h3, h4, SXR, simprocAttr]))
           | true =>
             have h4 := g4
             simp only [ac1] at h4
             have he : exB (.mk k op t v nl nn l) (.mk k' op' t' v' nl' nn' l') = eqB exB l l' := by simp [exB, exsB_eq, g0, g1, g2, g3, g4]
             rw [he]
             by_cases hl : l.length = l'.length
             ·have hne : ((l.length : Int) == (l'.length : Int)) = true := by rw [hl]; simp
              refine u4 Tryz.func89 k89 rfl ?_
              repeat' (first
               | (simp only [c89, bne, Ex.row, i4, hne, h0, h1, h2, h3, h4, SXR, simprocAttr]))
              refine m4 (X := Nat) (fun i ll hs => Hd (fun j => [xg (.mk k op t v nl nn l), xg (.mk k' op' t' v' nl' nn' l'), .p 0 0, .p 1 0, .b false, .i .i64 (i : Int), j 6, j 7, j 8, j 9, j 10, j 11, j 12, j 13, j 14, j 15, j 16, j 17, j 18, j 19, j 20, j 21, j 22, j 23, j 24, j 25, j 26, j 27, j 28, j 29, j 30, j 31, j 32, j 33, j 34, j 35, j 36, j 37, j 38, j 39, j 40, j 41, j 42, j 43, j 44, j 45, j 46, j 47, j 48, j 49, j 50, j 51, j 52, j 53, j 54, j 55, j 56, j 57, j 58, j 59, j 60, j 61, j 62, j 63, j 64, j 65, j 66]) ll ∧ hs = [.c false [.i .i64 k, .i .i64 op, .i .i64 t, .i .i64 v, .s nl nn, .ts (Ex.rows l)], .c false [.i .i64 k', .i .i64 op', .i .i64 t', .i .i64 v', .s nl' nn', .ts (Ex.rows l')]])
               (fun i => i ≤ l.length ∧ eqB exB l l' = eqB exB (l.drop i) (l'.drop i)) (fun i => l.length - i) ?_ 0 _ _ (by exact ⟨rfl, rfl⟩) ⟨Nat.zero_le _, rfl⟩
              rintro i _ _ ⟨e, rfl⟩ ⟨hi, hinv⟩ IH
              obtain ⟨j, rfl⟩ := e.open
              clear e
              by_cases hlt : i < l.length
              ·obtain ⟨x, hx, hxm⟩ := ai0 hlt
               obtain ⟨y, hy, hym⟩ := ai0 (show i < l'.length by omega)
               have hxr : (Ex.rows l)[i]? = some x.row := by rw [ad3, hx]; rfl
               have hyr : (Ex.rows l')[i]? = some y.row := by rw [ad3, hy]; rfl
               have hd := ltd hlt
               have hw := j0 (n := i) (by omega)
               rw [eqB_step hx hy] at hinv
               have hc := hf x y hxm
               cases gv : exB x y with
               | false =>
                 rw [gv] at hc
                 have hr : eqB exB l l' = false := by rw [hinv]; simp [gv]
                 rw [hr]
                 repeat' (first
                  | (with_reducible refine b8 (hc) (by simp only [SXR, i9, j4]) (by simp only [SXR, i9, j4]) ?_)
                  | (simp only [c89, i4, i9, hd, hxr, hyr, j5, j3, j4, hw, SXR, simprocAttr]))
               | true =>
                 rw [gv] at hc
                 repeat' (first
                  | (with_reducible refine b8 (hc) (by simp only [SXR, i9, j4]) (by simp only [SXR, i9, j4]) ?_)
                  | (simp only [c89, i4, i9, hd, hxr, hyr, j5, j3, j4, hw, SXR, simprocAttr]))
                 exact IH (i + 1) _ _ (by exact ⟨rfl, rfl⟩) ⟨hlt, by rw [hinv]; simp [gv]⟩ (by omega)
              ·have hd := ltn hlt
               clear IH
               rw [eqB_done hl hlt] at hinv
               rw [hinv]
               repeat' (first
                | (simp only [c89, i4, hd, SXR, simprocAttr]))
             ·have hne : ((l.length : Int) == (l'.length : Int)) = false := by simp; omega
              rw [eqB_ne hl]
              refine u4 Tryz.func89 k89 rfl ?_
              repeat' (first
               | (simp only [c89, bne, Ex.row, i4, hne, h0, h1, h2, h3, h4, SXR, simprocAttr]))
def Ex.nm : Ex → Str | .mk _ _ _ _ nl nn _ => (nl, nn)
theorem bf2 {gr : Bool} {cs p r s : List V} {off c : Nat} {x : V} (hcs : cs = p ++ (r ++ s)) (hp : p.length = off) (hr : r[c]? = some x) : ldE.ldO 1 false (off + c) (.c gr cs) = some x := by
 subst hcs hp
 have hc := (List.getElem?_eq_some_iff.1 hr).1
 rw [ld_c (by rw [Nat.ble_eq]; simp; omega), List.drop_append]
 have e : List.drop (p.length + c) p = [] := List.drop_of_length_le (by omega)
 rw [e, List.nil_append, Nat.add_sub_cancel_left, List.drop_append_of_le_length (by omega)]
 rw [List.take_append_of_le_length (by simp; omega), List.take_one, List.head?_drop, hr]
 rfl
def ocl : O → Bool
 | .no => true
 | .gone => true
 | .c _ cs => clL cs
 | _ => false
theorem u5 {n : Nat} {o : O} (h : ocl o = true) : o.lt n = true := by
 cases o <;> first | rfl | (simp [ocl] at h; done) | skip
 simp only [ocl] at h
 simp only [O.lt]
 exact ad7 n _ h
mutual
theorem V.lt_mono {n m : Nat} (hnm : n ≤ m) : ∀ (x : V), x.lt n = true → x.lt m = true
 | .p _ _, h => by simp only [V.lt, decide_eq_true_eq] at h ⊢; omega
 | .sl _ _ _ _ _, h => by simp only [V.lt, decide_eq_true_eq] at h ⊢; omega
 | .m _, h => by simp only [V.lt, decide_eq_true_eq] at h ⊢; omega
 | .yl _, h => by simp only [V.lt, decide_eq_true_eq] at h ⊢; omega
 | .fn _ a b, h => by simp only [V.lt, Bool.and_eq_true] at h ⊢; exact ⟨ah6 hnm a h.1, ah6 hnm b h.2⟩
 | .ifc _ v, h => by simp only [V.lt] at h ⊢; exact V.lt_mono hnm v h
 | .ag l, h => by simp only [V.lt] at h ⊢; exact ah6 hnm l h
 | .tu l, h => by simp only [V.lt] at h ⊢; exact ah6 hnm l h
 | .ts r, h => by simp only [V.lt] at h ⊢; exact ltR_mono hnm r h
 | .tp r _, h => by simp only [V.lt] at h ⊢; exact ah6 hnm r h
 | .b _, _ => by simp only [V.lt]
 | .i _ _, _ => by simp only [V.lt]
 | .s _ _, _ => by simp only [V.lt]
 | .np, _ => by simp only [V.lt]
 | .ns, _ => by simp only [V.lt]
 | .nm, _ => by simp only [V.lt]
 | .nf, _ => by simp only [V.lt]
 | .ni, _ => by simp only [V.lt]
 | .und, _ => by simp only [V.lt]
 | .te, _ => by simp only [V.lt]
theorem ah6 {n m : Nat} (hnm : n ≤ m) : ∀ (l : List V), ltL n l = true → ltL m l = true
 | [], _ => by simp only [ltL]
 | x :: l, h => by simp only [ltL, Bool.and_eq_true] at h ⊢; exact ⟨V.lt_mono hnm x h.1, ah6 hnm l h.2⟩
theorem ltR_mono {n m : Nat} (hnm : n ≤ m) : ∀ (l : List (List V)), ltR n l = true → ltR m l = true
 | [], _ => by simp only [ltR]
 | x :: l, h => by simp only [ltR, Bool.and_eq_true] at h ⊢; exact ⟨ah6 hnm x h.1, ltR_mono hnm l h.2⟩
end
theorem ltE_mono {n m : Nat} (hnm : n ≤ m) : ∀ (l : List (V × V × Nat)), ltE n l = true → ltE m l = true
 | [], _ => rfl
 | (k, v, b) :: l, h => by simp only [ltE, Bool.and_eq_true] at h ⊢; exact ⟨⟨V.lt_mono hnm k h.1.1, V.lt_mono hnm v h.1.2⟩, ltE_mono hnm l h.2⟩
theorem O.lt_mono {n m : Nat} (hnm : n ≤ m) {o : O} (h : o.lt n = true) : o.lt m = true := by
 cases o with
 | c gr cs => simp only [O.lt] at h ⊢; exact ah6 hnm _ h
 | m es ck => simp only [O.lt] at h ⊢; exact ltE_mono hnm _ h
 | _ => first | rfl | (simp [O.lt] at h)
theorem ad6 {n m : Nat} (hnm : n ≤ m) : ∀ {js zs : List O}, ltO n js = true → zs.all ocl = true → ltO m (js ++ zs) = true
 | [], [], _, _ => rfl
 | [], z :: zs, h, h' => by
   simp only [List.all_cons, Bool.and_eq_true] at h'
   simp only [List.nil_append, ltO, Bool.and_eq_true]
   exact ⟨u5 h'.1, ad6 hnm (js := []) h h'.2⟩
 | o :: js, zs, h, h' => by
   simp only [ltO, Bool.and_eq_true] at h
   simp only [List.cons_append, ltO, Bool.and_eq_true]
   exact ⟨O.lt_mono hnm h.1, ad6 hnm h.2 h'⟩
theorem ab8 {gr : Bool} {cs : List V} : ocl (.c gr cs) = clL cs := rfl
theorem ao2 : ∀ {js : List O} {zs : List O} {B : Nat} {o : O}, B < js.length → aa3 (js ++ zs) B o = some (js.set B o ++ zs)
 | [], _, B, o, h => by simp at h
 | x :: js, zs, 0, o, _ => rfl
 | x :: js, zs, B + 1, o, h => by simp only [List.cons_append, aa3, ao2 (js := js) (zs := zs) (B := B) (o := o) (by simpa using h), Option.map_some, List.set_cons_succ]
theorem j2 {js : List O} {A B : Nat} {o : O} (h : A ≠ B) : hpL (js.set B o) A = hpL js A := by
 simp only [hpL, List.getD_eq_getElem?_getD, List.getElem?_set_ne (Ne.symm h)]
theorem p4 {js : List O} {B : Nat} {o : O} (h : B < js.length) : hpL (js.set B o) B = o := by
 simp only [hpL, List.getD_eq_getElem?_getD, List.getElem?_set_self h]; rfl
theorem u6 {js : List O} {A : Nat} {gr : Bool} {cs : List V} (h : hpL js A = .c gr cs) : A < js.length := by
 rcases Nat.lt_or_ge A js.length with q | q
 ·exact q
 ·simp only [hpL, List.getD_eq_getElem?_getD, List.getElem?_eq_none q] at h; cases h
theorem bf0 {n : Nat} {o : O} (ho : o.lt n = true) : ∀ {js : List O} {B : Nat}, ltO n js = true → ltO n (js.set B o) = true
 | [], B, h => by simpa using h
 | x :: js, 0, h => by simp only [ltO, Bool.and_eq_true] at h; simp only [List.set_cons_zero, ltO, ho, h.2, Bool.and_self]
 | x :: js, B + 1, h => by simp only [ltO, Bool.and_eq_true] at h; simp only [List.set_cons_succ, ltO, h.1, bf0 ho h.2, Bool.and_self]
theorem hpL_ge {l : List O} {a : Nat} (h : l.length ≤ a) : hpL l a = .no := by
 simp only [hpL, List.getD_eq_getElem?_getD, List.getElem?_eq_none h]; rfl
theorem v9 {l m : List O} {a : Nat} (h : a < l.length) : hpL (l ++ m) a = hpL l a := by
 simp only [hpL, List.getD_eq_getElem?_getD, List.getElem?_append_left h]
def p6 (g : List Nat) : List (List V) := g.map fun (m : Nat) => [.i .i64 (m : Int)]
theorem as5 {g : List Nat} : ∀ r, r ∈ p6 g → r.length = 1 := by
 intro r hr
 obtain ⟨m, _, rfl⟩ := List.mem_map.1 hr
 rfl
def irow (g : List Nat) : List V := [.ts (p6 g)]
theorem hp_mid {us W I0 K : List O} {o : O} : hpL (us ++ (W ++ ((I0 ++ [o]) ++ K))) (us.length + W.length + I0.length) = o := by
 have : us ++ (W ++ ((I0 ++ [o]) ++ K)) = (us ++ W ++ I0) ++ o :: K := by simp
 rw [this, show us.length + W.length + I0.length = (us ++ W ++ I0).length by simp; omega]
 exact ag8
theorem eqB_eq {α : Type} {f : α → α → Bool} (hf : ∀ x y, f x y = true → x = y) : ∀ {a b : List α}, eqB f a b = true → a = b
 | [], [], _ => rfl
 | [], _ :: _, h => by simp [eqB] at h
 | _ :: _, [], h => by simp [eqB] at h
 | x :: a, y :: b, h => by
   simp only [eqB, Bool.and_eq_true] at h
   rw [hf x y h.1, eqB_eq hf h.2]
theorem eqStr_eq {s t : Str} (h : ac1 s t = true) : s = t := by
 simp only [ac1, Bool.and_eq_true, beq_iff_eq] at h
 exact Prod.ext h.1 h.2
theorem eqOn_eq (o p : On) (h : az9 o p = true) : o = p := by
 obtain ⟨a, b, c⟩ := o
 obtain ⟨a', b', c'⟩ := p
 simp only [az9, Bool.and_eq_true, beq_iff_eq] at h
 obtain ⟨⟨h1, h2⟩, h3⟩ := h
 rw [eqStr_eq h1, h2, h3]
theorem eqOn_refl' (o : On) : az9 o o = true := by simp [az9, ac1]
theorem cks_refl (l : List On) : eqB az9 l l = true := eqB_refl l (fun o _ => eqOn_refl' o)
def zrows (g : List Int) : List (List V) := g.map fun (m : Int) => [.i .i64 m]
theorem zrows_len (g : List Int) : (zrows g).length = g.length := by simp [zrows]
theorem zrows_get {g : List Int} {k : Nat} {m : Int} (h : g[k]? = some m) : (zrows g)[k]? = some [.i .i64 m] := by simp [zrows, h]
theorem wid_fl {wd : Nat} : ∀ {rows : List (List V)}, (∀ r, r ∈ rows → r.length = wd) → rows.flatten.length = rows.length * wd
 | [], _ => by simp
 | r :: rows, h => by
   have := wid_fl (rows := rows) fun r hr => h r (List.mem_cons_of_mem _ hr)
   rw [List.flatten_cons, List.length_append, this, h r (List.mem_cons_self ..), List.length_cons, Nat.add_mul]; omega
theorem GT.appR {base wd n bytes : Nat} {v : V} {T0 T : List O} {cs : List V} {rows : List (List V)} (h : GT base wd n v T0 T cs) (hw : wd ≠ 0) (hx : ∀ r, r ∈ rows → r.length = wd) (hroom : room (n + rows.length) bytes = true) (zs : List O) :
  ∃ (v' : V) (T0' T' J' : List O), GT base wd (n + rows.length) v' T0' T' (cs ++ rows.flatten) ∧ (∀ (pre : List O) (rb k : Nat), pre.length = base → rb + k = base + (T.length + zs.length) →
   ah2 rb (pre ++ (T ++ (zs ++ [.no]))) k v (some rows.flatten) (some rows.length) wd bytes = some (v', pre ++ (T' ++ J'))) ∧ (T.all ocl = true → zs.all ocl = true → clL (cs ++ rows.flatten) = true → T'.all ocl = true ∧ J'.all ocl = true) := by
 have hwb : Nat.beq wd 0 = false := by cases wd with | zero => exact (hw rfl).elim | succ n => rfl
 have hfl := wid_fl hx
 cases hr : rows with
 | nil =>
   refine ⟨v, T0, T, zs ++ [.no], by simpa using h, fun pre rb k _ _ => ?_, fun h1 h2 _ => ⟨h1, by simp only [List.all_append, List.all_cons, List.all_nil, h2, ocl, Bool.and_self]⟩⟩
   rcases h with ⟨rfl, rfl, rfl, rfl⟩ | ⟨_, rfl, rfl, _⟩ <;> rfl
 | cons r rows' =>
   rw [← hr]
   have h0 : Nat.beq rows.length 0 = false := by rw [hr]; rfl
   rcases h with ⟨rfl, rfl, rfl, rfl⟩ | ⟨hn0, rfl, rfl, hcl⟩
   ·refine ⟨.sl (base + (T.length + zs.length)) 0 wd rows.length none, T ++ zs, (T ++ zs) ++ [.c true rows.flatten], [], .inr ⟨by rw [hr]; simp, by simp, by simp, by simp [hfl]⟩, fun pre rb k hp hrk => ?_, fun h1 h2 h3 => ⟨by simp only [List.all_append, List.all_cons, List.all_nil, h1, h2, ocl, Bool.and_self, Bool.and_true]; exact h3, rfl⟩⟩
    rw [Nat.zero_add] at hroom
    rw [ap_ns h0 hroom, hrk, show pre ++ (T ++ (zs ++ [.no])) = (pre ++ (T ++ zs)) ++ [.no] by simp, ag7 (by simp [hp])]
    simp
   ·refine ⟨.sl (base + ((T0 ++ [O.c true cs]).length + zs.length)) 0 wd (n + rows.length) none, T0 ++ .gone :: zs, (T0 ++ .gone :: zs) ++ [.c true (cs ++ rows.flatten)], [], .inr ⟨by omega, rfl, by simp; omega, by rw [List.length_append, hcl, hfl, Nat.add_mul]⟩, fun pre rb k hp hrk => ?_, fun h1 h2 h3 => ⟨by
     simp only [List.all_append, Bool.and_eq_true] at h1
     simp only [List.all_append, List.all_cons, List.all_nil, h1.1, h2, ocl, h3, Bool.and_self], rfl⟩⟩
    have hh : hpL (pre ++ ((T0 ++ [.c true cs]) ++ (zs ++ [.no]))) (base + T0.length) = .c true cs := by
     have : pre ++ ((T0 ++ [.c true cs]) ++ (zs ++ [.no])) = (pre ++ T0) ++ .c true cs :: (zs ++ [.no]) := by simp
     rw [this, show base + T0.length = (pre ++ T0).length by simp [hp]]
     exact ag8
    rw [ap_sl h0, hh, an2 h0 hwb (by rw [hcl]; exact Nat.beq_refl _) hroom]
    have e1 : aa3 (pre ++ ((T0 ++ [.c true cs]) ++ (zs ++ [.no]))) (base + T0.length) .gone = some ((pre ++ (T0 ++ .gone :: zs)) ++ [.no]) := by
     have : pre ++ ((T0 ++ [.c true cs]) ++ (zs ++ [.no])) = (pre ++ T0) ++ .c true cs :: (zs ++ [.no]) := by simp
     rw [this, show base + T0.length = (pre ++ T0).length by simp [hp], hs_ap0]
     simp
    rw [e1, Option.bind_some, ag7 (by rw [hrk]; simp [hp]; omega), hrk]
    simp
def zcs (l : List Int) : List V := l.map fun (m : Int) => V.i .i64 m
theorem zcs_len (l : List Int) : (zcs l).length = l.length := by simp [zcs]
theorem zcs_ld {gr : Bool} {l : List Int} {i : Nat} {m : Int} (h : l[i]? = some m) : ldE.ldO 1 false i (.c gr (zcs l)) = some (.i .i64 m) := by
 have h1 : zcs l = zcs (l.take i) ++ ([.i .i64 m] ++ zcs (l.drop (i + 1))) := by
  conv => lhs; rw [← List.take_append_drop i l, v6 h]
  simp [zcs]
 have := bf2 (gr := gr) (c := 0) (x := .i .i64 m) h1 (off := i) (by rw [zcs_len, List.length_take, Nat.min_eq_left (Nat.le_of_lt (List.getElem?_eq_some_iff.1 h).1)]) rfl
 exact this
structure RP (js : List O) (pv : V) (p : List Int) : Prop where
 len : lenE false pv = some (.i .i64 (p.length : Int))
 get : ∀ (i : Nat) (m : Int), p[i]? = some m → ∃ ad : V, iadE 1 pv (.i .i64 (i : Int)) = some ad ∧ ∀ ks, ldE (hpL (js ++ ks)) 1 false ad = some (.i .i64 m)
theorem RP.more {js : List O} {pv : V} {p : List Int} (h : RP js pv p) (zs : List O) : RP (js ++ zs) pv p := ⟨h.len, fun i m hm => by
 obtain ⟨ad, h1, h2⟩ := h.get i m hm
 exact ⟨ad, h1, fun ks => by rw [List.append_assoc]; exact h2 _⟩⟩
theorem RP.get0 {js : List O} {pv : V} {p : List Int} (h : RP js pv p) {i : Nat} {m : Int} (hm : p[i]? = some m) : ∃ ad : V, iadE 1 pv (.i .i64 (i : Int)) = some ad ∧ ldE (hpL js) 1 false ad = some (.i .i64 m) := by
 obtain ⟨ad, h1, h2⟩ := h.get i m hm
 exact ⟨ad, h1, by simpa using h2 []⟩
theorem RP.ts (js : List O) (p : List Int) : RP js (.ts (zrows p)) p := ⟨by rw [ap5, zrows_len], fun i m hm => ⟨.tp [.i .i64 m] 0, by rw [iad_i, as9, zrows_get hm]; rfl, fun ks => rfl⟩⟩
theorem RP.sl {js : List O} {a : Nat} {gr : Bool} {p : List Int} (h : hpL js a = .c gr (zcs p)) : RP js (.sl a 0 1 p.length none) p := ⟨as3, fun i m hm => ⟨.p a i, by
 rw [ac0 (List.getElem?_eq_some_iff.1 hm).1, Nat.mul_one], fun ks => by rw [ld_p, l9 h]; exact zcs_ld hm⟩⟩
theorem RP.ns (js : List O) : RP js .ns [] := ⟨rfl, fun i m hm => by simp at hm⟩
mutual
theorem exB_to : ∀ (x y : Ex), exB x y = true → x = y
 | .mk k op t v nl nn l, .mk k' op' t' v' nl' nn' l', h => by
   simp only [exB, Bool.and_eq_true, beq_iff_eq] at h
   obtain ⟨⟨⟨⟨⟨rfl, rfl⟩, rfl⟩, rfl⟩, h5⟩, h6⟩ := h
   have h5 := eqStr_eq h5
   cases h5
   rw [exsB_to l l' h6]
theorem exsB_to : ∀ (x y : List Ex), exsB x y = true → x = y
 | [], [], _ => rfl
 | x :: l, y :: m, h => by
   simp only [exsB, Bool.and_eq_true] at h
   rw [exB_to x y h.1, exsB_to l m h.2]
 | [], _ :: _, h => by simp [exsB] at h
 | _ :: _, [], h => by simp [exsB] at h
end
mutual
theorem exB_self : ∀ (x : Ex), exB x x = true
 | .mk k op t v nl nn l => by simp only [exB, beq_self_eq_true, ac1, exsB_self l, Bool.and_self]
theorem exsB_self : ∀ (x : List Ex), exsB x x = true
 | [] => rfl
 | x :: l => by simp only [exsB, exB_self x, exsB_self l, Bool.and_self]
end
theorem cks_iff {a b : List On} : eqB az9 a b = true ↔ a = b := ⟨eqB_eq eqOn_eq, fun h => by subst h; exact cks_refl a⟩
end Go.Proofs.YtpbgbokclgbdlaaGreatDoor
