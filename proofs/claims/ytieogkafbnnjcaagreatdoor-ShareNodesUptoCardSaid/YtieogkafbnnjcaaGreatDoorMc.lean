/-
  Declarations in one list, with room made ahead: slices.Grow, slices.Concat.
  The declarations of a node in one list: scope.Vars.
  Programs in normal form; lists that grow beside other objects.
  A program in normal form, as a program: norm.Back.
  The reference's program of a program in normal form.
  Whether a node in normal form is too large to be looked at.
-/
import Derived.Test.YtieogkafbnnjcaaGreatDoorMb
import Derived.Test.YtieogkafbnnjcaaGreatDoorBY
set_option linter.unusedSimpArgs false
set_option linter.unusedVariables false
namespace Go.Proofs.YtieogkafbnnjcaaGreatDoor
open Go Go.B
abbrev dz : List V := [.s 0 0, .i .i64 0, .ns]
def zs (n : Nat) : List V := (List.replicate n dz).flatten
theorem putAt_mid {p u s xs : List V} {off : Nat} (ho : off = p.length) (hl : xs.length = u.length) : putAt (p ++ (u ++ s)) off xs = p ++ (xs ++ s) := by
 subst ho
 apply List.ext_getElem?
 intro j
 rw [bb5 _ _ _ _ (by simp; omega)]
 split
 ·rename_i h
  rw [List.getElem?_append_right h.1, List.getElem?_append_left (by omega)]
 ·rename_i h
  by_cases hj : j < p.length
  ·rw [List.getElem?_append_left hj, List.getElem?_append_left hj]
  ·rw [List.getElem?_append_right (by omega), List.getElem?_append_right (by omega), List.getElem?_append_right (by omega), List.getElem?_append_right (by omega), hl]
theorem al4 {a w wd n i : Nat} {c : Option Nat} (h : i < n) : iadE wd (.sl a 0 w n c) (.i .i64 (i : Int)) = some (.p a (i * wd)) := by
 simp only [iadE]
 rw [if_pos ⟨by omega, by omega⟩]
 simp
theorem ah2 {a o w n : Nat} {c : Option Nat} : lenE false (.sl a o w n c) = some (.i .i64 (n : Int)) := rfl
theorem ao0 {wd : Nat} {l : List (List V)} {i : Nat} {r : List V} (hw : ∀ r, r ∈ l → r.length = wd) (h : l[i]? = some r) : ∃ p s, l.flatten = p ++ (r ++ s) ∧ p.length = i * wd := by
 refine ⟨(l.take i).flatten, (l.drop (i + 1)).flatten, ?_, ?_⟩
 ·have : l = l.take i ++ (r :: l.drop (i + 1)) := by rw [← u9 h, List.take_append_drop]
  conv => lhs; rw [this]
  rw [List.flatten_append, List.flatten_cons]
 ·rw [am8 (fun r hr => hw r (List.mem_of_mem_take hr)), List.length_take, Nat.min_eq_left (Nat.le_of_lt (List.getElem?_eq_some_iff.1 h).1)]
theorem ld_row {wd off : Nat} {gr : Bool} {cs p r s : List V} (hcs : cs = p ++ (r ++ s)) (hp : p.length = off) (hr : r.length = wd) : ldE.ldO wd true off (.c gr cs) = some (.ag r) := by
 subst hcs hp hr
 rw [ld_c (by rw [Nat.ble_eq]; simp), List.drop_left, List.take_left]
 rfl
def NEqn.ok (q : NEqn) : Prop := Lst.ok q.left ∧ q.right.ok ∧ Lst.ok q.args ∧ Ex.oks q.args ∧ Lst.ok q.ck ∧ q.args.length < 20000000
structure NNode where
 nm : Str
 ins : List Decl
 outs : List Decl
 locals : List Decl
 eqs : List NEqn
def NNode.row (n : NNode) : List V := [.s n.nm.1 n.nm.2, .ts (n.ins.map Decl.row), .ts (n.outs.map Decl.row), .ts (n.locals.map Decl.row), .ts (n.eqs.map NEqn.row)]
theorem ad8 (l : List NEqn) : clR (l.map NEqn.row) = true := ad1 j5 l
theorem b9 (n : NNode) : clL n.row = true := by simp only [NNode.row, clL, V.cl, i8, ad8, Bool.and_self]
theorem e8 (n : NNode) : n.row.length = 5 := rfl
theorem nnodes_cl (l : List NNode) : clR (l.map NNode.row) = true := ad1 b9 l
def NNode.ok (n : NNode) : Prop := ao6 n.ins ∧ ao6 n.outs ∧ ao6 n.locals ∧ Lst.ok n.eqs ∧ ∀ q, q ∈ n.eqs → q.ok
structure NPrg where
 enums : List Enm
 nodes : List NNode
def NPrg.row (p : NPrg) : List V := [.ts (p.enums.map Enm.row), .ts (p.nodes.map NNode.row)]
theorem nprg_cl (p : NPrg) : clL p.row = true := by simp only [NPrg.row, clL, V.cl, enms_cl, nnodes_cl, Bool.and_self]
def NPrg.ok (p : NPrg) : Prop := enmOk p.enums ∧ Lst.ok p.nodes ∧ ∀ n, n ∈ p.nodes → n.ok
def NNode.vars (n : NNode) : List Decl := n.ins ++ n.outs ++ n.locals
def an4 (vars : List Decl) (q : NEqn) : Eqn := ⟨q.left, backE vars q⟩
def at3 (n : NNode) : PNode := ⟨n.nm, n.ins, n.outs, n.locals, n.eqs.map (an4 n.vars)⟩
def backP (p : NPrg) : Prg := ⟨p.enums, p.nodes.map at3⟩
theorem NNode.vars_len {n : NNode} (h : n.ok) : n.vars.length ≤ 90000000 := by
 obtain ⟨h1, h2, h3, _⟩ := h
 have := h1.1; have := h2.1; have := h3.1
 unfold Lst.ok at *
 unfold NNode.vars
 simp; omega
theorem rright_pc (vars : List Decl) (hn : vars.length ≤ 90000000) (q : NEqn) (hq : q.ok) : PC Tryz.prog 36 [.ts (vars.map Decl.row), .ag q.row] (xg (backE vars q)) := by
 obtain ⟨h1, h2, h3, h4, _⟩ := hq
 unfold backE
 by_cases k2 : q.kind = 2
 ·rw [if_pos k2]
  cases hl : q.left with
  | nil => exact rright_delay0 vars q k2 hl
  | cons s ls => exact rright_delay1 vars hn q s ls k2 hl
 rw [if_neg k2]
 by_cases k3 : q.kind = 3
 ·rw [if_pos k3]
  cases hl : q.args with
  | nil => exact rright_call0 vars q k3 hl (none? q.every) rfl
  | cons a l =>
    refine rright_call1 vars q a l ?_ k3 hl (none? q.every) rfl
    rw [hl] at h3
    unfold Lst.ok at h3
    simp at h3; omega
 rw [if_neg k3]
 by_cases k4 : q.kind = 4
 ·rw [if_pos k4]; exact rright_word vars q k4
 rw [if_neg k4]
 exact rright_else vars q k2 k3 k4
theorem Se.mono {h h' : Hp} {D D' : Nat → Prop} (hh : ∀ a gr cs, h a = .c gr cs → h' a = .c gr cs) (hd : ∀ a, D a → D' a) {x y : V} (hs : Se h D x y) : Se h' D' x y := by
 induction hs with
 | same x => exact .same x
 | nil => exact .nil
 | sl a off wd len cp gr cs rows ha hD hl hb hw hr ih => exact .sl a off wd len cp gr cs rows (hh _ _ _ ha) (hd _ hD) hl hb hw ih
 | ag xs ys hl hr ih => exact .ag xs ys hl ih
 | tu xs ys hl hr ih => exact .tu xs ys hl ih
theorem Sl.mono {h h' : Hp} {D D' : Nat → Prop} (hh : ∀ a gr cs, h a = .c gr cs → h' a = .c gr cs) (hd : ∀ a, D a → D' a) : ∀ {xs ys : List V}, Sl h D xs ys → Sl h' D' xs ys
 | [], [], _ => trivial
 | x :: xs, y :: ys, hs => ⟨Se.mono hh hd hs.1, Sl.mono hh hd hs.2⟩
theorem Sll.mono {h h' : Hp} {D D' : Nat → Prop} (hh : ∀ a gr cs, h a = .c gr cs → h' a = .c gr cs) (hd : ∀ a, D a → D' a) : ∀ {xs ys : List (List V)}, Sll h D xs ys → Sll h' D' xs ys
 | [], [], _ => trivial
 | x :: xs, y :: ys, hs => ⟨Sl.mono hh hd hs.1, Sll.mono hh hd hs.2⟩
theorem Sll.app {h : Hp} {D : Nat → Prop} {x y : List V} (hs : Sl h D x y) : ∀ {xs ys : List (List V)}, Sll h D xs ys → Sll h D (xs ++ [x]) (ys ++ [y])
 | [], [], _ => ⟨hs, trivial⟩
 | a :: xs, b :: ys, q => ⟨q.1, Sll.app hs q.2⟩
theorem ac7 {l m : List O} {a : Nat} {gr : Bool} {cs : List V} (h : hpL l a = .c gr cs) : hpL (l ++ m) a = .c gr cs := by
 unfold hpL at h ⊢
 simp only [List.getD_eq_getElem?_getD] at h ⊢
 cases e : l[a]? with
 | none => rw [e] at h; cases h
 | some o =>
   rw [List.getElem?_append_left (List.getElem?_eq_some_iff.1 e).1, e]
   rw [e] at h; exact h
theorem hpL_three {a b c a' b' c' : O} {l m : List O} {n : Nat} {gr : Bool} {cs : List V} (ha : ∀ gr cs, a ≠ .c gr cs) (hb : ∀ gr cs, b ≠ .c gr cs) (hc : ∀ gr cs, c ≠ .c gr cs) (h : hpL (a :: b :: c :: l) n = .c gr cs) : hpL (a' :: b' :: c' :: (l ++ m)) n = .c gr cs := by
 match n with
 | 0 => exact (ha _ _ h).elim
 | 1 => exact (hb _ _ h).elim
 | 2 => exact (hc _ _ h).elim
 | n + 3 => exact ac7 (l := l) (m := m) h
def GT (base wd n : Nat) (v : V) (T0 T : List O) (cs : List V) : Prop :=
 (n = 0 ∧ v = .ns ∧ cs = [] ∧ T = T0) ∨ (0 < n ∧ T = T0 ++ [.c true cs] ∧ v = .sl (base + T0.length) 0 wd n none ∧ cs.length = n * wd)
theorem av0 {l : List O} {x o : O} {n : Nat} (h : n = l.length) : ac5 (l ++ [x]) n o = some (l ++ [o]) := by subst h; exact as0
theorem GT.app {base wd n bytes : Nat} {v : V} {T0 T : List O} {cs xs : List V} (h : GT base wd n v T0 T cs) (hw : wd ≠ 0) (hx : xs.length = wd) (hroom : room (n + 1) bytes = true) :
  ∃ T1, (∃ t, T1 = T0 ++ t) ∧ T1.length = T.length ∧ (∀ (pre zs : List O) (rb k : Nat), pre.length = base → rb + k = base + (T.length + zs.length) →
   ah6 rb (pre ++ (T ++ (zs ++ [.no]))) k v (some xs) (some 1) wd bytes = some (.sl (base + (T.length + zs.length)) 0 wd (n + 1) none, pre ++ (T1 ++ (zs ++ [.c true (cs ++ xs)]))))
   ∧ ∀ zs : List O, GT base wd (n + 1) (.sl (base + (T.length + zs.length)) 0 wd (n + 1) none) (T1 ++ zs) (T1 ++ (zs ++ [.c true (cs ++ xs)])) (cs ++ xs) := by
 have hwb : Nat.beq wd 0 = false := by cases wd with | zero => exact (hw rfl).elim | succ n => rfl
 have hl : cs.length = n * wd := by
  rcases h with ⟨rfl, rfl, rfl, rfl⟩ | ⟨_, _, _, h⟩
  ·simp
  ·exact h
 have hcl : (cs ++ xs).length = (n + 1) * wd := by rw [List.length_append, hl, hx, Nat.add_mul, Nat.one_mul]
 rcases h with ⟨rfl, rfl, rfl, rfl⟩ | ⟨h0, rfl, rfl, _⟩
 ·refine ⟨T, ⟨[], by simp⟩, rfl, fun pre zs rb k hp hr => ?_, fun zs => .inr ⟨by omega, by simp, by simp, hcl⟩⟩
  rw [ap_ns rfl hroom, hr, show pre ++ (T ++ (zs ++ [.no])) = (pre ++ (T ++ zs)) ++ [.no] by simp, av0 (by simp [hp])]
  simp
 ·refine ⟨T0 ++ [.gone], ⟨_, rfl⟩, by simp, fun pre zs rb k hp hr => ?_, fun zs => .inr ⟨by omega, by simp, by simp; omega, hcl⟩⟩
  have hh : hpL (pre ++ ((T0 ++ [.c true cs]) ++ (zs ++ [.no]))) (base + T0.length) = .c true cs := by
   have : pre ++ ((T0 ++ [.c true cs]) ++ (zs ++ [.no])) = (pre ++ T0) ++ .c true cs :: (zs ++ [.no]) := by simp
   rw [this, show base + T0.length = (pre ++ T0).length by simp [hp]]
   exact hp_ap0
  rw [ap_sl rfl, hh, aw0 rfl hwb (by rw [hl]; exact Nat.beq_refl _) hroom]
  have e1 : ac5 (pre ++ ((T0 ++ [.c true cs]) ++ (zs ++ [.no]))) (base + T0.length) .gone = some ((pre ++ (T0 ++ .gone :: zs)) ++ [.no]) := by
   have : pre ++ ((T0 ++ [.c true cs]) ++ (zs ++ [.no])) = (pre ++ T0) ++ .c true cs :: (zs ++ [.no]) := by simp
   rw [this, show base + T0.length = (pre ++ T0).length by simp [hp], as0]
   simp
  rw [e1, Option.bind_some, av0 (by rw [hr]; simp [hp]; omega), hr]
  simp
theorem putAt_full {zs r : List V} (h : zs.length = r.length) : putAt zs 0 r = r := by
 have := putAt_mid (p := []) (u := zs) (s := []) (xs := r) (off := 0) rfl h.symm
 simpa using this
theorem p5 {a b c d e f g h i j k l m : V} (q : NEqn) : putAt [a, b, c, d, e, f, g, h, i, j, k, l, m] 0 q.row = q.row := putAt_full (by rw [f0]; rfl)
theorem put_row1 {u a b c d e f : V} (x : Ex) : putAt [u, a, b, c, d, e, f] 1 x.row = u :: x.row := by cases x; rfl
theorem i5 (q : NEqn) : q.row.take 13 = q.row := List.take_of_length_le (by rw [f0]; omega)
theorem j7 (n : NNode) : n.row.take 5 = n.row := rfl
theorem j0 (q : NEqn) : (q.row.drop 1).take 1 = [.ts (q.left.map af8)] := rfl
theorem se_node {h : Hp} {n : NNode} {v : V} (hv : Se h (fun _ => True) v (.ts ((n.eqs.map (an4 n.vars)).map Eqn.row))) :
  Sl h (fun _ => True) [.s n.nm.1 n.nm.2, .ts (n.ins.map Decl.row), .ts (n.outs.map Decl.row), .ts (n.locals.map Decl.row), v, .ns, .ns, .ns] (at3 n).row :=
 ⟨.same _, .same _, .same _, .same _, hv, .nil, .nil, .nil, trivial⟩
theorem hp_tail {a b c x y bs : O} {T T1 Tin0 : List O} {es : List V} (hl : T1.length = T.length) : hpL (a :: b :: c :: (T1 ++ x :: y :: ((Tin0 ++ [.c true es]) ++ [bs]))) (T.length + 3 + 2 + Tin0.length) = .c true es := by
 have : a :: b :: c :: (T1 ++ x :: y :: ((Tin0 ++ [.c true es]) ++ [bs])) = ([a, b, c] ++ T1 ++ [x, y] ++ Tin0) ++ .c true es :: [bs] := by simp
 rw [this, show T.length + 3 + 2 + Tin0.length = ([a, b, c] ++ T1 ++ [x, y] ++ Tin0).length by simp [hl]; omega]
 exact hp_ap0
theorem hset_in {a b c x y o p q : O} {T I : List O} : ac5 (a :: b :: c :: (T ++ x :: y :: (I ++ [p, q]))) (T.length + (I.length + 5)) o = some (a :: b :: c :: (T ++ x :: y :: (I ++ [o, q]))) := by
 have : ∀ p, a :: b :: c :: (T ++ x :: y :: (I ++ [p, q])) = ([a, b, c] ++ T ++ [x, y] ++ I) ++ p :: [q] := by intro p; simp
 rw [this, this, show T.length + (I.length + 5) = ([a, b, c] ++ T ++ [x, y] ++ I).length by simp; omega]
 exact as0
theorem hp_in {a b c x y p q : O} {T I : List O} : hpL (a :: b :: c :: (T ++ x :: y :: (I ++ [p, q]))) (T.length + (I.length + 5)) = p := by
 have : a :: b :: c :: (T ++ x :: y :: (I ++ [p, q])) = ([a, b, c] ++ T ++ [x, y] ++ I) ++ p :: [q] := by simp
 rw [this, show T.length + (I.length + 5) = ([a, b, c] ++ T ++ [x, y] ++ I).length by simp; omega]
 exact hp_ap0
theorem take_succ_map {α β : Type} {f : α → β} {l : List α} {i : Nat} {x : α} (h : l[i]? = some x) : (l.take (i + 1)).map f = (l.take i).map f ++ [f x] := by
 rw [List.take_add_one, h]; simp
theorem nn4 (n : NNode) : (n.row.drop 4).take 1 = [.ts (n.eqs.map NEqn.row)] := rfl
set_option maxHeartbeats 1000000 in
theorem rback_pc (p : NPrg) (hok : p.ok) : PC Tryz.prog 11 [.ag p.row] (.ag (backP p).row) := by
 obtain ⟨en, nd⟩ := p
 obtain ⟨he, hnd, hnn⟩ := hok
 simp only at he hnd hnn
 unfold Lst.ok at hnd
 refine ac1 Tryz.func11 k11 rfl ?_
 repeat' (first
  | ((with_reducible refine j3 ?rdq ?_); (case rdq => refine j2 rfl ?_ ?_ <;> simp only [Option.isSome_some, u5, u4, NPrg.row, List.length_map, SXR, simprocAttr]))
  | (simp only [c11, u5, u4, NPrg.row, List.length_map, SXR, simprocAttr]))
 refine o8 (X := Nat) (fun i ll hs => ∃ (v : V) (T0 T : List O) (rs : List (List V)), Hd (fun j => [.ag (NPrg.row ⟨en, nd⟩), .p 0 0, .p 1 0, .p 2 0, .i .i64 (i : Int), j 5, j 6, j 7, j 8, j 9, j 10, j 11, j 12, j 13, j 14, j 15, j 16, j 17, j 18, j 19, j 20, j 21, j 22, j 23, j 24, j 25, j 26, j 27, j 28, j 29, j 30, j 31, j 32, j 33, j 34, j 35, j 36, j 37, j 38, j 39, j 40, j 41, j 42, j 43, j 44, j 45, j 46, j 47, j 48, j 49, j 50, j 51, j 52, j 53, j 54, j 55, j 56, j 57, j 58, j 59, j 60, j 61, j 62, j 63, j 64, j 65, j 66, j 67]) ll ∧ hs = .c false (NPrg.row ⟨en, nd⟩) :: .c false [.ns, .ns] :: .c false [.ts (en.map Enm.row), v] :: T ∧
   GT 3 8 i v T0 T rs.flatten ∧ rs.length = i ∧ (∀ r, r ∈ rs → r.length = 8) ∧ Sll (hpL (.no :: .no :: .no :: T0)) (fun _ => True) rs ((nd.take i).map fun n => (at3 n).row))
  (fun i => i ≤ nd.length) (fun i => nd.length - i) ?_ 0 _ _ (by exact ⟨.ns, [], [], [], rfl, rfl, .inl ⟨rfl, rfl, rfl, rfl⟩, rfl, by simp, trivial⟩) (Nat.zero_le _)
 rintro i _ _ ⟨v, T0, T, rs, e, rfl, hGT, hrl, hrw, hse⟩ hi IH
 obtain ⟨j, rfl⟩ := e.open
 clear e
 by_cases hlt : i < nd.length
 ·obtain ⟨n, hx, hxm⟩ := ats hlt
  have hr := mg (f := NNode.row) hx
  have hd := ltd hlt
  have hw := l6 (n := i) (by omega)
  have hnok := hnn n hxm
  have hvl := NNode.vars_len hnok
  obtain ⟨o1, o2, o3, o4, o5⟩ := hnok
  have hcv := rvars_pc n.nm (n.eqs.map NEqn.row) n.ins n.outs n.locals (by unfold NNode.vars at hvl; simp at hvl; omega)
  rw [show n.ins ++ n.outs ++ n.locals = n.vars from rfl] at hcv
  have e1 : (n.row.drop 0).take 1 = [.s n.nm.1 n.nm.2] := rfl
  have el := o4
  unfold Lst.ok at el
  repeat' (first
   | ((with_reducible refine j3 ?rdq ?_); (case rdq => refine j2 rfl ?_ ?_ <;> simp only [Option.isSome_some, u5, u4, List.length_map, hd, hr, NPrg.row, NNode.row, i8, ad8, Nat.add_assoc, SXR, simprocAttr]))
   | (with_reducible refine b8 (hcv) (by simp only [SXR, i8, ad8]) (by simp only [SXR, i8, ad8]) ?_)
   | (simp only [c11, u5, u4, List.length_map, hd, hr, NPrg.row, NNode.row, i8, ad8, Nat.add_assoc, SXR, simprocAttr]))
  obtain ⟨us, hus⟩ : ∃ us, us = (.c false (NPrg.row ⟨en, nd⟩) :: .c false [.ns, .ns] :: .c false [.ts (en.map Enm.row), v] :: T : List O) := ⟨_, rfl⟩
  have husl : us.length = T.length + 3 := by rw [hus]; rfl
  refine o8 (X := Nat) (fun k ll hs => ∃ (v' : V) (I0 I : List O), Hd (fun j => [.ag (NPrg.row ⟨en, nd⟩), .p 0 0, .p 1 0, .p 2 0, .i .i64 (i : Int), .p us.length 0, .p (us.length + 1) 0, .ts (n.vars.map Decl.row), .i .i64 (k : Int), j 9, j 10, j 11, j 12, j 13, j 14, j 15, j 16, j 17, j 18, j 19, j 20, j 21, j 22, j 23, j 24, j 25, j 26, j 27, j 28, j 29, j 30, j 31, j 32, j 33, j 34, j 35, j 36, j 37, j 38, j 39, j 40, j 41, j 42, j 43, j 44, j 45, j 46, j 47, j 48, j 49, j 50, j 51, j 52, j 53, j 54, j 55, j 56, j 57, j 58, j 59, j 60, j 61, j 62, j 63, j 64, j 65, j 66, j 67]) ll ∧ hs = us ++ .c false n.row :: .c false [.s n.nm.1 n.nm.2, .ts (n.ins.map Decl.row), .ts (n.outs.map Decl.row), .ts (n.locals.map Decl.row), v', .ns, .ns, .ns] :: I ∧
    GT (us.length + 2) 7 k v' I0 I (cells (fun q => (an4 n.vars q).row) n.eqs k))
   (fun k => k ≤ n.eqs.length) (fun k => n.eqs.length - k) ?_ 0 _ _ (by exact ⟨.ns, [], [], by rw [husl]; rfl, by rw [hus]; rfl, .inl ⟨rfl, rfl, rfl, rfl⟩⟩) (Nat.zero_le _)
  rintro k _ _ ⟨v', I0, I, e, rfl, hIT⟩ hk IK
  obtain ⟨j, rfl⟩ := e.open
  clear e
  by_cases hkl : k < n.eqs.length
  ·clear IH
   obtain ⟨q, hq, hqm⟩ := ats hkl
   have hqr := mg (f := NEqn.row) hq
   have hd := ltd hkl
   have hw := l6 (n := k) (by omega)
   have hqok := o5 q hqm
   have hc2 := rright_pc n.vars hvl q hqok
   have hroom := p6 (n := k + 1) (b := 96) (by omega) (by omega)
   obtain ⟨I1, _, hI1, hap, hgt⟩ := hIT.app (by omega) (eqn_len (an4 n.vars q)) hroom
   have hcs : cells (fun q => (an4 n.vars q).row) n.eqs k ++ (an4 n.vars q).row = cells (fun q => (an4 n.vars q).row) n.eqs (k + 1) := ad5 (f := fun q => (an4 n.vars q).row) hq
   have hap' : ∀ (b : O) (rb k' : Nat), rb + k' = us.length + (I.length + 3) → ah6 rb (us ++ .c false n.row :: .c false [.s n.nm.1 n.nm.2, .ts (n.ins.map Decl.row), .ts (n.outs.map Decl.row), .ts (n.locals.map Decl.row), v', .ns, .ns, .ns] :: (I ++ [b, .no])) k' v' (some (.ts (q.left.map af8) :: (backE n.vars q).row)) (some 1) 7 96
     = some (.sl (us.length + (I.length + 3)) 0 7 (k + 1) none, us ++ .c false n.row :: .c false [.s n.nm.1 n.nm.2, .ts (n.ins.map Decl.row), .ts (n.outs.map Decl.row), .ts (n.locals.map Decl.row), v', .ns, .ns, .ns] :: (I1 ++ [b, .c true (cells (fun q => (an4 n.vars q).row) n.eqs (k + 1))])) := by
    intro b rb k' h
    have := hap (us ++ [.c false n.row, .c false [.s n.nm.1 n.nm.2, .ts (n.ins.map Decl.row), .ts (n.outs.map Decl.row), .ts (n.locals.map Decl.row), v', .ns, .ns, .ns]]) [b] rb k' (by simp) (by rw [h]; simp; omega)
    rw [show us.length + 2 + (I.length + [b].length) = us.length + (I.length + 3) by simp; omega] at this
    rw [hcs] at this
    simp only [List.append_assoc, List.cons_append, List.nil_append] at this
    exact this
   have hgt' : ∀ b, GT (us.length + 2) 7 (k + 1) (.sl (us.length + (I.length + 3)) 0 7 (k + 1) none) (I1 ++ [b]) (I1 ++ [b, .c true (cells (fun q => (an4 n.vars q).row) n.eqs (k + 1))]) (cells (fun q => (an4 n.vars q).row) n.eqs (k + 1)) := by
    intro b
    have := hgt [b]
    rw [hcs, show us.length + 2 + (I.length + [b].length) = us.length + (I.length + 3) by simp; omega] at this
    exact this
   repeat' (first
    | ((with_reducible refine j3 ?rdq ?_); (case rdq => refine j2 rfl ?_ ?_ <;> simp only [Option.isSome_some, u5, u4, List.length_map, hd, hw, e8, nn4, hqr, f0, i5, j0, p5, put_row1, i8, hap', j9, m4, e9, j5, j6, Nat.add_assoc, SXR, simprocAttr]))
    | (with_reducible refine b8 (hc2) (by simp only [SXR, i8, e9, j5, j6]) (by simp only [SXR, i8, e9, j5, j6]) ?_)
    | (simp only [c11, u5, u4, List.length_map, hd, hw, e8, nn4, hqr, f0, i5, j0, p5, put_row1, i8, hap', j9, m4, e9, j5, j6, Nat.add_assoc, SXR, simprocAttr]))
   exact IK (k + 1) _ _ (by exact ⟨_, _, _, rfl, rfl, hgt' _⟩) hkl (by omega)
  ·clear IK
   have hd := ltn hkl
   have hke : k = n.eqs.length := by omega
   subst hke
   have hvw : (.s n.nm.1 n.nm.2 :: .ts (n.ins.map Decl.row) :: .ts (n.outs.map Decl.row) :: .ts (n.locals.map Decl.row) :: v' :: .ns :: .ns :: .ns :: [] : List V).length = 8 := rfl
   have hroom := p6 (n := i + 1) (b := 184) (by omega) (by omega)
   obtain ⟨T1, hT1, hT1l, hap, hgt⟩ := hGT.app (by omega) hvw hroom
   have hap' : ∀ (b : O) (rb k' : Nat), rb + k' = T.length + (I.length + 6) → ah6 rb (.c false (NPrg.row ⟨en, nd⟩) :: .c false [.ns, .ns] :: .c false [.ts (en.map Enm.row), v] :: (T ++ .c false n.row :: .c false [.s n.nm.1 n.nm.2, .ts (n.ins.map Decl.row), .ts (n.outs.map Decl.row), .ts (n.locals.map Decl.row), v', .ns, .ns, .ns] :: (I ++ [b, .no]))) k' v (some [.s n.nm.1 n.nm.2, .ts (n.ins.map Decl.row), .ts (n.outs.map Decl.row), .ts (n.locals.map Decl.row), v', .ns, .ns, .ns]) (some 1) 8 184
     = some (.sl (T.length + (I.length + 6)) 0 8 (i + 1) none, .c false (NPrg.row ⟨en, nd⟩) :: .c false [.ns, .ns] :: .c false [.ts (en.map Enm.row), v] :: (T1 ++ .c false n.row :: .c false [.s n.nm.1 n.nm.2, .ts (n.ins.map Decl.row), .ts (n.outs.map Decl.row), .ts (n.locals.map Decl.row), v', .ns, .ns, .ns] :: (I ++ [b, .c true (rs.flatten ++ [.s n.nm.1 n.nm.2, .ts (n.ins.map Decl.row), .ts (n.outs.map Decl.row), .ts (n.locals.map Decl.row), v', .ns, .ns, .ns])]))) := by
    intro b rb k' h
    have := hap [.c false (NPrg.row ⟨en, nd⟩), .c false [.ns, .ns], .c false [.ts (en.map Enm.row), v]] (.c false n.row :: .c false [.s n.nm.1 n.nm.2, .ts (n.ins.map Decl.row), .ts (n.outs.map Decl.row), .ts (n.locals.map Decl.row), v', .ns, .ns, .ns] :: (I ++ [b])) rb k' rfl (by rw [h]; simp; omega)
    rw [show ∀ (x y : O), 3 + (T.length + (x :: y :: (I ++ [b])).length) = T.length + (I.length + 6) by intro x y; simp; omega] at this
    simp only [List.append_assoc, List.cons_append, List.nil_append] at this
    exact this
   subst hus
   repeat' (first
    | ((with_reducible refine j3 ?rdq ?_); (case rdq => refine j2 rfl ?_ ?_ <;> simp only [Option.isSome_some, u5, u4, e8, nn4, List.length_map, hd, hw, hap', hset_in, hp_in, Nat.add_assoc, SXR, simprocAttr]))
    | (simp only [c11, u5, u4, e8, nn4, List.length_map, hd, hw, hap', hset_in, hp_in, Nat.add_assoc, SXR, simprocAttr]))
   refine IH (i + 1) _ _ ?_ hlt (by omega)
   obtain ⟨t, hT1⟩ := hT1
   refine ⟨_, T1 ++ (.c false n.row :: .c false [.s n.nm.1 n.nm.2, .ts (n.ins.map Decl.row), .ts (n.outs.map Decl.row), .ts (n.locals.map Decl.row), v', .ns, .ns, .ns] :: (I ++ [.c false [.s n.nm.1 n.nm.2, .ts (n.ins.map Decl.row), .ts (n.outs.map Decl.row), .ts (n.locals.map Decl.row), v', .ns, .ns, .ns]])), _, rs ++ [[.s n.nm.1 n.nm.2, .ts (n.ins.map Decl.row), .ts (n.outs.map Decl.row), .ts (n.locals.map Decl.row), v', .ns, .ns, .ns]], by exact rfl, rfl, ?_, by simp [hrl], ?_, ?_⟩
   ·have := hgt (.c false n.row :: .c false [.s n.nm.1 n.nm.2, .ts (n.ins.map Decl.row), .ts (n.outs.map Decl.row), .ts (n.locals.map Decl.row), v', .ns, .ns, .ns] :: (I ++ [.c false [.s n.nm.1 n.nm.2, .ts (n.ins.map Decl.row), .ts (n.outs.map Decl.row), .ts (n.locals.map Decl.row), v', .ns, .ns, .ns]]))
    rw [show ∀ (x y z : O), 3 + (T.length + (x :: y :: (I ++ [z])).length) = T.length + (I.length + 6) by intro x y z; simp; omega] at this
    rw [List.flatten_append, List.flatten_singleton]
    simp only [List.append_assoc, List.cons_append, List.nil_append] at this ⊢
    exact this
   ·intro r hr
    rcases List.mem_append.1 hr with h | h
    ·exact hrw r h
    ·simp at h; subst h; rfl
   ·rw [take_succ_map hx]
    refine Sll.app (se_node ?_) (Sll.mono (fun a gr cs h => ?_) (fun _ h => h) hse)
    ·rw [List.map_map]
     rcases hIT with ⟨h0, rfl, _, _⟩ | ⟨_, rfl, rfl, _⟩
     ·rw [List.length_eq_zero_iff.1 h0]; exact .nil
     ·refine Se.flat' (hp_tail hT1l) ?_ (by simp) trivial (fun r hr => ?_)
      ·exact af2
      ·obtain ⟨q, _, rfl⟩ := List.mem_map.1 hr
       exact eqn_len _
    ·rw [hT1, List.append_assoc]
     exact hpL_three (by simp) (by simp) (by simp) h
 ·have hd := ltn hlt
  clear IH
  have hie : i = nd.length := by omega
  subst hie
  repeat' (first
   | ((with_reducible refine j3 ?rdq ?_); (case rdq => refine j2 rfl ?_ ?_ <;> simp only [Option.isSome_some, u5, u4, NPrg.row, NNode.row, List.length_map, hd, SXR, simprocAttr]))
   | (simp only [c11, u5, u4, NPrg.row, NNode.row, List.length_map, hd, SXR, simprocAttr]))
  rw [List.take_length] at hse
  refine Sl.ag ⟨.same _, ?_, trivial⟩
  show Se _ _ v (.ts ((nd.map at3).map PNode.row))
  rw [List.map_map]
  rcases hGT with ⟨h0, rfl, _, _⟩ | ⟨_, rfl, rfl, _⟩
  ·rw [List.length_eq_zero_iff.1 h0]; exact .nil
  ·refine Se.rowsL (rs := rs) (cs := rs.flatten) (gr := true) ?_ rfl hrl trivial hrw (fun r hr => ?_) (Sll.mono (fun a gr cs h => hpL_three (by simp) (by simp) (by simp) h) (fun _ h => h) hse)
   ·rw [Nat.add_comm 3]
    exact hp_ap0 (l := T0) (xs := []) (x := .c true rs.flatten)
   ·obtain ⟨q, _, rfl⟩ := List.mem_map.1 hr
    rfl
theorem cst_ok (t v : Int) : (cst t v).ok := by simp [cst, Ex.ok, Ex.oks, Lst.ok]
theorem vrb_ok (s : Str) : (vrb s).ok := by simp [vrb, Ex.ok, Ex.oks, Lst.ok]
theorem oks_app : ∀ {a b : List Ex}, Ex.oks a → Ex.oks b → Ex.oks (a ++ b)
 | [], b, _, h => h
 | e :: a, b, h, h' => by simp only [List.cons_append, Ex.oks] at h ⊢; exact ⟨h.1, oks_app h.2 h'⟩
theorem backE_ok (vars : List Decl) (q : NEqn) (hq : q.ok) : (backE vars q).ok := by
 obtain ⟨h1, h2, h3, h4, h5, h6⟩ := hq
 unfold backE
 split
 ·simp only [Ex.ok, Ex.oks, Lst.ok, and_true]
  exact ⟨by simp, cst_ok _ _, h2⟩
 split
 ·simp only [Ex.ok, Lst.ok]
  split
  ·rw [List.append_nil]; exact ⟨h3, h4⟩
  ·refine ⟨by simp; omega, oks_app h4 ?_⟩
   simp only [Ex.oks, and_true]; exact vrb_ok _
 split
 ·simp [Ex.ok, Ex.oks, Lst.ok]
 ·exact h2
theorem backP_ok (p : NPrg) (hp : p.ok) : (backP p).ok := by
 obtain ⟨h1, h2, h3⟩ := hp
 refine ⟨h1, ?_, ?_⟩
 ·show Lst.ok (p.nodes.map at3)
  unfold Lst.ok at *; simpa using h2
 ·intro n hn
  obtain ⟨m, hm, rfl⟩ := List.mem_map.1 hn
  obtain ⟨k1, k2, k3, k4, k5⟩ := h3 m hm
  refine ⟨k1, k2, k3, ?_, ?_⟩
  ·show Lst.ok (m.eqs.map _)
   unfold Lst.ok at *; simpa using k4
  ·intro q hq
   obtain ⟨r, hr, rfl⟩ := List.mem_map.1 hq
   exact ⟨(k5 r hr).1, backE_ok _ r (k5 r hr)⟩
theorem o0 (q : NEqn) : (q.row.drop 12).take 1 = [.ts (q.ck.map On.row)] := by obtain ⟨_, _, ⟨_, _, _, _, _, _, _⟩, _, _, _, _, _⟩ := q; rfl
theorem j4 (q : NEqn) : (q.row.drop 2).take 6 = q.right.row := by obtain ⟨_, _, ⟨_, _, _, _, _, _, _⟩, _, _, _, _, _⟩ := q; rfl
theorem ah0 (q : NEqn) : (q.row.drop 10).take 1 = [.ts (Ex.rows q.args)] := by obtain ⟨_, _, ⟨_, _, _, _, _, _, _⟩, _, _, _, _, _⟩ := q; rfl
def wArg (e : Ex) (k : Int) : Int := IntKind.i64.wrap (k + w6 e 1000)
def wEq (q : NEqn) (k : Int) : Int := IntKind.i64.wrap (k + IntKind.i64.wrap (IntKind.i64.wrap ((q.left.length : Int) + (q.ck.length : Int)) + w6 q.right 1000))
def wNeq (q : NEqn) (k : Int) : Int := wl wArg 1000 q.args (wEq q k)
def one (n : NNode) : NPrg := ⟨[], [n]⟩
theorem one_ok {n : NNode} (h : n.ok) : (one n).ok := ⟨⟨by simp [one, Lst.ok], by simp [one]⟩, by simp [one, Lst.ok], fun m hm => by simp only [one, List.mem_singleton] at hm; subst hm; exact h⟩
def largeB (n : NNode) : Bool := if (n.eqs.length : Int) > 150 then true else if w10 (backP (one n)) 1000 ≥ 1000 then true else decide (wl wNeq 1000 n.eqs 0 ≥ 1000)
theorem wl_end {α : Type} {f : α → Int → Int} {m b : Int} {l : List α} {i : Nat} (h : ¬ (i < l.length ∧ b < m)) : wl f m (l.drop i) b = b := by
 by_cases hal : i < l.length
 ·obtain ⟨x, hx, hxm⟩ := ats hal
  have hg : ¬ b < m := fun h' => h ⟨hal, h'⟩
  rw [u9 hx]
  simp only [wl]
  rw [if_neg hg]
 ·have : l.drop i = [] := List.drop_eq_nil_of_le (by omega)
  rw [this]
  rfl
theorem go_end {a n : Nat} {b m : Int} (h : ¬ (a < n ∧ b < m)) : (decide ((a : Int) < (n : Int)) = false) ∨ (decide ((a : Int) < (n : Int)) = true ∧ decide (b < m) = false) := by
 by_cases hal : a < n
 ·exact .inr ⟨ltd hal, by have : ¬ b < m := fun h' => h ⟨hal, h'⟩; simpa using this⟩
 ·exact .inl (ltn hal)
set_option maxHeartbeats 1000000 in
theorem large_pc (n : NNode) (hok : n.ok) : PC Tryz.prog 4 [.ag n.row] (.b (largeB n)) := by
 have hrb := rback_pc (one n) (one_ok hok)
 have hwe := weigh10_pc (backP (one n)) 1000 (backP_ok _ (one_ok hok))
 have hpcl : clL (backP (one n)).row = true := prg_cl _
 generalize (backP (one n)).row = br at hrb hwe hpcl
 unfold largeB
 generalize w10 (backP (one n)) 1000 = wv at hwe
 have hse : ∀ (h : Hp), h 1 = .c false n.row → ∀ (j : Nat) (x y : V), [V.ag [.ns, .sl 1 0 5 1 none]][j]? = some x → [V.ag (one n).row][j]? = some y → Se h (· ∈ [1]) x y := fun h h1 =>
  (Sl.get (xs := [V.ag [.ns, .sl 1 0 5 1 none]]) (ys := [V.ag (one n).row]) ⟨Sl.ag ⟨.nil, Se.flat' (rs := [n.row]) h1 (by simp) rfl (by simp) (by simp [e8]), trivial⟩, trivial⟩).2
 have hcl1 : clL [V.ag (one n).row] = true := by simp only [clL, V.cl, nprg_cl, Bool.and_self]
 obtain ⟨_, _, _, o4, o5⟩ := hok
 have hne := o4
 unfold Lst.ok at hne
 by_cases h100 : (n.eqs.length : Int) > 150
 ·have hd100 : decide ((n.eqs.length : Int) > 150) = true := by simpa using h100
  rw [if_pos h100]
  refine v6 Tryz.func4 k4 rfl ?_
  repeat' (first
   | ((with_reducible refine j3 ?rdq ?_); (case rdq => refine j2 rfl ?_ ?_ <;> simp only [Option.isSome_some, e8, j7, nn4, List.length_map, hd100, SXR, simprocAttr]))
   | (simp only [c4, e8, j7, nn4, List.length_map, hd100, SXR, simprocAttr]))
 have hd100 : decide ((n.eqs.length : Int) > 150) = false := by simpa using h100
 rw [if_neg h100]
 by_cases hhe : wv ≥ 1000
 ·have hdh : decide (wv ≥ 1000) = true := by simpa using hhe
  rw [if_pos hhe]
  refine v6 Tryz.func4 k4 rfl ?_
  repeat' (first
   | ((with_reducible refine j3 ?rdq ?_); (case rdq => refine j2 rfl ?_ ?_ <;> simp only [Option.isSome_some, e8, j7, nn4, List.length_map, hd100, SXR, simprocAttr]))
   | (simp only [c4, e8, j7, nn4, List.length_map, hd100, SXR, simprocAttr]))
  refine aj2 hrb [1] rfl rfl (hse _ rfl) hcl1 (by simp only [V.cl, hpcl]) ?_
  repeat' (first
   | ((with_reducible refine j3 ?rdq ?_); (case rdq => refine j2 rfl ?_ ?_ <;> simp only [Option.isSome_some, e8, j7, nn4, List.length_map, hdh, hpcl, SXR, simprocAttr]))
   | (with_reducible refine b8 (hwe) (by simp only [SXR, hpcl]) (by simp only [SXR, hpcl]) ?_)
   | (simp only [c4, e8, j7, nn4, List.length_map, hdh, hpcl, SXR, simprocAttr]))
 have hdh : decide (wv ≥ 1000) = false := by simpa using hhe
 rw [if_neg hhe]
 refine v6 Tryz.func4 k4 rfl ?_
 repeat' (first
  | ((with_reducible refine j3 ?rdq ?_); (case rdq => refine j2 rfl ?_ ?_ <;> simp only [Option.isSome_some, e8, j7, nn4, List.length_map, hd100, SXR, simprocAttr]))
  | (simp only [c4, e8, j7, nn4, List.length_map, hd100, SXR, simprocAttr]))
 refine aj2 hrb [1] rfl rfl (hse _ rfl) hcl1 (by simp only [V.cl, hpcl]) ?_
 repeat' (first
  | ((with_reducible refine j3 ?rdq ?_); (case rdq => refine j2 rfl ?_ ?_ <;> simp only [Option.isSome_some, e8, j7, nn4, List.length_map, hdh, hpcl, SXR, simprocAttr]))
  | (with_reducible refine b8 (hwe) (by simp only [SXR, hpcl]) (by simp only [SXR, hpcl]) ?_)
  | (simp only [c4, e8, j7, nn4, List.length_map, hdh, hpcl, SXR, simprocAttr]))
 refine o8 (X := Nat × Int) (fun x ll hs => ∃ js : List O, Hd (fun j => [.ag n.row, .p 0 0, .b false, j 3, .i .i64 x.2, .i .i64 (x.1 : Int), j 6, j 7, j 8, j 9, j 10, j 11, j 12, j 13, j 14, j 15, j 16, j 17, j 18, j 19, j 20, j 21, j 22, j 23, j 24, j 25, j 26, j 27, j 28, j 29, j 30, j 31, j 32, j 33, j 34, j 35, j 36, j 37, j 38, j 39, j 40, j 41, j 42, j 43, j 44, j 45, j 46, j 47, j 48, j 49, j 50, j 51, j 52, j 53, j 54, j 55, j 56, j 57, j 58, j 59, j 60, j 61, j 62, j 63, j 64, j 65, j 66, j 67, j 68, j 69, j 70]) ll ∧ hs = .c false n.row :: js)
  (fun x => x.1 ≤ n.eqs.length ∧ wl wNeq 1000 n.eqs 0 = wl wNeq 1000 (n.eqs.drop x.1) x.2) (fun x => n.eqs.length - x.1) ?_ (0, 0) _ _ (by exact ⟨_, rfl, rfl⟩) ⟨Nat.zero_le _, rfl⟩
 rintro ⟨i, k⟩ _ _ ⟨js, e, rfl⟩ ⟨hi, hln⟩ IH
 obtain ⟨j, rfl⟩ := e.open
 clear e
 simp only at hi hln IH
 by_cases hgo : i < n.eqs.length ∧ k < 1000
 ·obtain ⟨hlt, hg⟩ := hgo
  obtain ⟨q, hq, hqm⟩ := ats hlt
  have hqr := mg (f := NEqn.row) hq
  have hd := ltd hlt
  have hw := l6 (n := i) (by omega)
  have hgd : decide (k < 1000) = true := by simpa using hg
  obtain ⟨k1, k2, k3, k4, k5, _⟩ := o5 q hqm
  unfold Lst.ok at k3
  have hc := aq4 _ q.right 1000 (Nat.le_refl _) k2
  have hf : ∀ a, a ∈ q.args → PC Tryz.prog 12 [xg a, .i .i64 1000] (.i .i64 (w6 a 1000)) := fun a ha => aq4 _ a 1000 (Nat.le_refl _) (ak2 k4 ha)
  rw [u9 hq] at hln
  simp only [wl] at hln
  rw [if_pos hg] at hln
  unfold wNeq at hln
  generalize hk1 : wEq q k = k1' at hln
  unfold wEq at hk1
  repeat' (first
   | ((with_reducible refine j3 ?rdq ?_); (case rdq => refine j2 rfl ?_ ?_ <;> simp only [Option.isSome_some, e8, nn4, List.length_map, hqr, hd, hgd, f0, i5, j0, o0, j4, p5, e9, hk1, Nat.add_assoc, SXR, simprocAttr]))
   | (with_reducible refine b8 (hc) (by simp only [SXR, e9]) (by simp only [SXR, e9]) ?_)
   | (simp only [c4, e8, nn4, List.length_map, hqr, hd, hgd, f0, i5, j0, o0, j4, p5, e9, hk1, Nat.add_assoc, SXR, simprocAttr]))
  refine o8 (X := Nat × Int) (fun x ll hs => Hd (fun j => [.ag n.row, .p 0 0, .b false, j 3, .i .i64 x.2, .i .i64 (i : Int), .p (js.length + 1) 0, .i .i64 (x.1 : Int), j 8, j 9, j 10, j 11, j 12, j 13, j 14, j 15, j 16, j 17, j 18, j 19, j 20, j 21, j 22, j 23, j 24, j 25, j 26, j 27, j 28, j 29, j 30, j 31, j 32, j 33, j 34, j 35, j 36, j 37, j 38, j 39, j 40, j 41, j 42, j 43, j 44, j 45, j 46, j 47, j 48, j 49, j 50, j 51, j 52, j 53, j 54, j 55, j 56, j 57, j 58, j 59, j 60, j 61, j 62, j 63, j 64, j 65, j 66, j 67, j 68, j 69, j 70]) ll ∧ hs = .c false n.row :: (js ++ [.c false q.row]))
   (fun x => x.1 ≤ q.args.length ∧ wl wArg 1000 q.args k1' = wl wArg 1000 (q.args.drop x.1) x.2) (fun x => q.args.length - x.1) ?_ (0, k1') _ _ (by exact ⟨rfl, rfl⟩) ⟨Nat.zero_le _, rfl⟩
  rintro ⟨a, b⟩ _ _ ⟨e, rfl⟩ ⟨ha, hwl⟩ IA
  obtain ⟨j, rfl⟩ := e.open
  clear e
  simp only at ha hwl IA
  by_cases hgo : a < q.args.length ∧ b < 1000
  ·clear IH
   obtain ⟨hal, hg⟩ := hgo
   obtain ⟨x, hx, hxm⟩ := ats hal
   have hxr : (Ex.rows q.args)[a]? = some x.row := by rw [aj9, hx]; rfl
   have hda := ltd hal
   have hwa := l6 (n := a) (by omega)
   have hgd : decide (b < 1000) = true := by simpa using hg
   have hc := hf x hxm
   rw [u9 hx] at hwl
   simp only [wl] at hwl
   rw [if_pos hg] at hwl
   repeat' (first
    | ((with_reducible refine j3 ?rdq ?_); (case rdq => refine j2 rfl ?_ ?_ <;> simp only [Option.isSome_some, m5, hxr, hda, hwa, hgd, f0, ah0, j9, m4, e9, Nat.add_assoc, SXR, simprocAttr]))
    | (with_reducible refine b8 (hc) (by simp only [SXR, e9]) (by simp only [SXR, e9]) ?_)
    | (simp only [c4, m5, hxr, hda, hwa, hgd, f0, ah0, j9, m4, e9, Nat.add_assoc, SXR, simprocAttr]))
   exact IA (a + 1, _) _ _ (by exact ⟨rfl, rfl⟩) ⟨hal, hwl⟩ (by simp only; omega)
  ·rw [wl_end hgo] at hwl
   rw [hwl] at hln
   have hgb := go_end hgo
   clear IA hwl hgo
   rcases hgb with hd0 | ⟨hd0, hgd0⟩
   ·skip
    repeat' (first
     | ((with_reducible refine j3 ?rdq ?_); (case rdq => refine j2 rfl ?_ ?_ <;> simp only [Option.isSome_some, m5, hd0, hw, f0, ah0, Nat.add_assoc, SXR, simprocAttr]))
     | (simp only [c4, m5, hd0, hw, f0, ah0, Nat.add_assoc, SXR, simprocAttr]))
    exact IH (i + 1, _) _ _ (by exact ⟨_, rfl, rfl⟩) ⟨hlt, hln⟩ (by simp only; omega)
   ·skip
    repeat' (first
     | ((with_reducible refine j3 ?rdq ?_); (case rdq => refine j2 rfl ?_ ?_ <;> simp only [Option.isSome_some, m5, hd0, hgd0, hw, f0, ah0, Nat.add_assoc, SXR, simprocAttr]))
     | (simp only [c4, m5, hd0, hgd0, hw, f0, ah0, Nat.add_assoc, SXR, simprocAttr]))
    exact IH (i + 1, _) _ _ (by exact ⟨_, rfl, rfl⟩) ⟨hlt, hln⟩ (by simp only; omega)
 ·rw [wl_end hgo] at hln
  rw [hln]
  have hgb := go_end hgo
  clear IH hln hgo
  rcases hgb with hd0 | ⟨hd0, hgd0⟩
  ·skip
   repeat' (first
    | ((with_reducible refine j3 ?rdq ?_); (case rdq => refine j2 rfl ?_ ?_ <;> simp only [Option.isSome_some, e8, nn4, List.length_map, hd0, SXR, simprocAttr]))
    | (simp only [c4, e8, nn4, List.length_map, hd0, SXR, simprocAttr]))
  ·skip
   repeat' (first
    | ((with_reducible refine j3 ?rdq ?_); (case rdq => refine j2 rfl ?_ ?_ <;> simp only [Option.isSome_some, e8, nn4, List.length_map, hd0, hgd0, SXR, simprocAttr]))
    | (simp only [c4, e8, nn4, List.length_map, hd0, hgd0, SXR, simprocAttr]))
end Go.Proofs.YtieogkafbnnjcaaGreatDoor
