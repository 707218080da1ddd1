/-
  The reference's small functions: is it a delay; the delay of a variable; two divisions are the same; two lists of parts are the same.
  The reference's type of a variable: lists that are appended, whatever their lengths.
  A division of the equations: a list of numbers, as an array or as a tree; two of them agree.
  Two delays that are compared by the reference. Printed by mkali.py.
-/
import Derived.Test.YtieogkafbnnjcaaGreatDoorMf
import Derived.Test.YtieogkafbnnjcaaGreatDoorBX
set_option linter.unusedSimpArgs false
set_option linter.unusedVariables false
namespace Go.Proofs.YtieogkafbnnjcaaGreatDoor
open Go Go.B
theorem ar0 (q : NEqn) : PC Tryz.prog 53 [.ag q.row] (.b (isD q)) := by
 have hkd : isD q = (q.kind == 2 && q.left.length == 1) := rfl
 rw [hkd]
 cases hk : (q.kind == 2) with
 | false =>
   refine v6 Tryz.func53 k53 rfl ?_
   repeat' (first
    | (simp only [c53, hk, f0, i5, p7, Bool.false_and, SXR, simprocAttr]))
 | true =>
   have hli : ((q.left.length : Int) == 1) = (q.left.length == 1) := by
    cases h : (q.left.length == 1) <;> simp only [beq_iff_eq, beq_eq_false_iff_ne, ne_eq] at h ⊢ <;> omega
   refine v6 Tryz.func53 k53 rfl ?_
   repeat' (first
    | (simp only [c53, hk, hli, f0, i5, p7, j0, List.length_map, Bool.true_and, SXR, simprocAttr]))
def al6 (g : List Int) : List (List V) := g.map fun (m : Int) => [.i .i64 m]
theorem ab9 (g : List Int) : (al6 g).length = g.length := by simp [al6]
theorem az1 {g : List Int} {k : Nat} {m : Int} (h : g[k]? = some m) : (al6 g)[k]? = some [.i .i64 m] := by simp [al6, h]
theorem aq3 (g : List Int) : clR (al6 g) = true := by
 induction g with
 | nil => rfl
 | cons m g ih => simp only [al6, List.map_cons, clR, clL, V.cl, Bool.true_and] at ih ⊢; exact ih
def ofG (s : Str) (c : Nat → Option NEqn) : Nat → Nat → Int
 | _, 0 => -1
 | i, r + 1 => match c i with
   | some q => if isD q = true ∧ aa4 (hd1 q) s = true then (i : Int) else ofG s c (i + 1) r
   | none => -1
def ofI (n : NNode) (s : Str) : Int := ofG s (fun i => n.eqs[i]?) 0 n.eqs.length
set_option maxHeartbeats 1000000 in
theorem rof_pc (n : NNode) (s : Str) (hok : n.ok) : PC Tryz.prog 95 [.ag n.row, .s s.1 s.2] (.i .i64 (ofI n s)) := by
 obtain ⟨_, _, _, o4, o5⟩ := hok
 have hne := o4
 unfold Lst.ok at hne
 refine v6 Tryz.func95 k95 rfl ?_
 repeat' (first
  | (simp only [c95, SXR, simprocAttr]))
 refine o8 (X := Nat) (fun i ll hs => ∃ js : List O, Hd (fun j => [.ag n.row, .s s.1 s.2, .p 0 0, j 3, .i .i64 0, .i .i64 (i : Int), j 6, j 7, j 8, j 9, j 10, j 11, j 12, j 13, j 14, j 15, j 16, j 17, j 18, j 19, j 20, j 21, j 22, j 23, j 24, j 25, j 26, j 27, j 28, j 29, j 30, j 31]) ll ∧ hs = .c false n.row :: js)
  (fun i => i ≤ n.eqs.length ∧ ofI n s = ofG s (fun i => n.eqs[i]?) i (n.eqs.length - i)) (fun i => n.eqs.length - i) ?_ 0 _ _ (by exact ⟨[], rfl, rfl⟩) ⟨Nat.zero_le _, rfl⟩
 rintro i _ _ ⟨js, e, rfl⟩ ⟨hi, hinv⟩ IH
 obtain ⟨j, rfl⟩ := e.open
 clear e
 by_cases hlt : i < n.eqs.length
 ·obtain ⟨q, hq, hqm⟩ := ats hlt
  have hqr := mg (f := NEqn.row) hq
  have hd := ltd hlt
  have hw := l6 (n := i) (by omega)
  have hc := ar0 q
  rw [show n.eqs.length - i = (n.eqs.length - (i + 1)) + 1 by omega] at hinv
  simp only [ofG, hq] at hinv
  cases hD : isD q with
  | false =>
    rw [hD] at hc
    rw [if_neg (by simp [hD])] at hinv
    repeat' (first
     | (with_reducible refine b8 (hc) (by simp only [SXR, j5]) (by simp only [SXR, j5]) ?_)
     | (simp only [c95, e8, nn4, List.length_map, hqr, hd, hw, f0, i5, j5, SXR, simprocAttr]))
    exact IH (i + 1) _ _ (by exact ⟨_, rfl, rfl⟩) ⟨hlt, hinv⟩ (by omega)
  | true =>
    rw [hD] at hc
    have hl1 := ab8 hD
    have hlr : q.left.map af8 = [[.s (hd1 q).1 (hd1 q).2]] := by rw [hl1]; rfl
    cases hs : aa4 (hd1 q) s with
    | false =>
      rw [if_neg (by simp [hs])] at hinv
      unfold aa4 at hs
      repeat' (first
       | (with_reducible refine b8 (hc) (by simp only [SXR, j5]) (by simp only [SXR, j5]) ?_)
       | (simp only [c95, e8, nn4, List.length_map, hqr, hd, hw, f0, i5, j5, j0, hlr, hs, SXR, simprocAttr]))
      exact IH (i + 1) _ _ (by exact ⟨_, rfl, rfl⟩) ⟨hlt, hinv⟩ (by omega)
    | true =>
      rw [if_pos ⟨hD, hs⟩] at hinv
      rw [hinv]
      unfold aa4 at hs
      repeat' (first
       | (with_reducible refine b8 (hc) (by simp only [SXR, j5]) (by simp only [SXR, j5]) ?_)
       | (simp only [c95, e8, nn4, List.length_map, hqr, hd, hw, f0, i5, j5, j0, hlr, hs, SXR, simprocAttr]))
 ·clear IH
  have hd := ltn hlt
  rw [show n.eqs.length - i = 0 by omega] at hinv
  rw [hinv]
  repeat' (first
   | (simp only [c95, e8, nn4, List.length_map, hd, SXR, simprocAttr]))
  rfl
theorem bh4 {wd : Nat} : ∀ {rows : List (List V)}, (∀ r, r ∈ rows → r.length = wd) → rows.flatten.length = rows.length * wd
 | [], _ => by simp
 | r :: rows, h => by
   have := bh4 (rows := rows) fun r hr => h r (List.mem_cons_of_mem _ hr)
   rw [List.flatten_cons, List.length_append, this, h r (List.mem_cons_self ..), List.length_cons, Nat.add_mul]; omega
theorem GT.appR {base wd n bytes : Nat} {v : V} {T0 T : List O} {cs : List V} {rows : List (List V)} (h : GT base wd n v T0 T cs) (hw : wd ≠ 0) (hx : ∀ r, r ∈ rows → r.length = wd) (hroom : room (n + rows.length) bytes = true) (zs : List O) :
  ∃ (v' : V) (T0' T' J' : List O), GT base wd (n + rows.length) v' T0' T' (cs ++ rows.flatten) ∧ (∀ (pre : List O) (rb k : Nat), pre.length = base → rb + k = base + (T.length + zs.length) →
   ah6 rb (pre ++ (T ++ (zs ++ [.no]))) k v (some rows.flatten) (some rows.length) wd bytes = some (v', pre ++ (T' ++ J'))) ∧ (T.all ocl = true → zs.all ocl = true → clL (cs ++ rows.flatten) = true → T'.all ocl = true ∧ J'.all ocl = true) := by
 have hwb : Nat.beq wd 0 = false := by cases wd with | zero => exact (hw rfl).elim | succ n => rfl
 have hfl := bh4 hx
 cases hr : rows with
 | nil =>
   refine ⟨v, T0, T, zs ++ [.no], by simpa using h, fun pre rb k _ _ => ?_, fun h1 h2 _ => ⟨h1, by simp only [List.all_append, List.all_cons, List.all_nil, h2, ocl, Bool.and_self]⟩⟩
   rcases h with ⟨rfl, rfl, rfl, rfl⟩ | ⟨_, rfl, rfl, _⟩ <;> rfl
 | cons r rows' =>
   rw [← hr]
   have h0 : Nat.beq rows.length 0 = false := by rw [hr]; rfl
   rcases h with ⟨rfl, rfl, rfl, rfl⟩ | ⟨hn0, rfl, rfl, hcl⟩
   ·refine ⟨.sl (base + (T.length + zs.length)) 0 wd rows.length none, T ++ zs, (T ++ zs) ++ [.c true rows.flatten], [], .inr ⟨by rw [hr]; simp, by simp, by simp, by simp [hfl]⟩, fun pre rb k hp hrk => ?_, fun h1 h2 h3 => ⟨by simp only [List.all_append, List.all_cons, List.all_nil, h1, h2, ocl, Bool.and_self, Bool.and_true]; exact h3, rfl⟩⟩
    rw [Nat.zero_add] at hroom
    rw [ap_ns h0 hroom, hrk, show pre ++ (T ++ (zs ++ [.no])) = (pre ++ (T ++ zs)) ++ [.no] by simp, av0 (by simp [hp])]
    simp
   ·refine ⟨.sl (base + ((T0 ++ [O.c true cs]).length + zs.length)) 0 wd (n + rows.length) none, T0 ++ .gone :: zs, (T0 ++ .gone :: zs) ++ [.c true (cs ++ rows.flatten)], [], .inr ⟨by omega, rfl, by simp; omega, by rw [List.length_append, hcl, hfl, Nat.add_mul]⟩, fun pre rb k hp hrk => ?_, fun h1 h2 h3 => ⟨by
     simp only [List.all_append, Bool.and_eq_true] at h1
     simp only [List.all_append, List.all_cons, List.all_nil, h1.1, h2, ocl, h3, Bool.and_self], rfl⟩⟩
    have hh : hpL (pre ++ ((T0 ++ [.c true cs]) ++ (zs ++ [.no]))) (base + T0.length) = .c true cs := by
     have : pre ++ ((T0 ++ [.c true cs]) ++ (zs ++ [.no])) = (pre ++ T0) ++ .c true cs :: (zs ++ [.no]) := by simp
     rw [this, show base + T0.length = (pre ++ T0).length by simp [hp]]
     exact hp_ap0
    rw [ap_sl h0, hh, aw0 h0 hwb (by rw [hcl]; exact Nat.beq_refl _) hroom]
    have e1 : ac5 (pre ++ ((T0 ++ [.c true cs]) ++ (zs ++ [.no]))) (base + T0.length) .gone = some ((pre ++ (T0 ++ .gone :: zs)) ++ [.no]) := by
     have : pre ++ ((T0 ++ [.c true cs]) ++ (zs ++ [.no])) = (pre ++ T0) ++ .c true cs :: (zs ++ [.no]) := by simp
     rw [this, show base + T0.length = (pre ++ T0).length by simp [hp], as0]
     simp
    rw [e1, Option.bind_some, av0 (by rw [hrk]; simp [hp]; omega), hrk]
    simp
theorem an1 (l : List Decl) : ∀ r, r ∈ l.map Decl.row → r.length = 3 := by
 intro r hr
 obtain ⟨d, _, rfl⟩ := List.mem_map.1 hr
 rfl
theorem tyF_drop {s : Str} : ∀ (l : List Decl) (i : Nat) {d : Decl}, l[i]? = some d → tyF s (l.drop i) = if hit s d = true then some d.ty else tyF s (l.drop (i + 1)) := fun l i d h => by rw [u9 h]; rfl
theorem dcell {L : List Decl} {k : Nat} {x : Decl} (hx : L[k]? = some x) {c : Nat} {y : V} (hy : x.row[c]? = some y) (gr : Bool) : ldE.ldO 1 false (k * 3 + c) (.c gr (L.map Decl.row).flatten) = some y := by
 have h1 : (L.map Decl.row).flatten = ((L.take k).map Decl.row).flatten ++ (x.row ++ ((L.drop (k + 1)).map Decl.row).flatten) := by
  conv => lhs; rw [← List.take_append_drop k L, u9 hx]
  simp
 refine bc9 h1 ?_ hy
 rw [bh4 (an1 _), List.length_map, List.length_take, Nat.min_eq_left (Nat.le_of_lt (List.getElem?_eq_some_iff.1 hx).1)]
theorem nn1 (n : NNode) : (n.row.drop 1).take 1 = [.ts (n.ins.map Decl.row)] := rfl
theorem nn2 (n : NNode) : (n.row.drop 2).take 1 = [.ts (n.outs.map Decl.row)] := rfl
theorem nn3 (n : NNode) : (n.row.drop 3).take 1 = [.ts (n.locals.map Decl.row)] := rfl
set_option maxHeartbeats 1000000 in
theorem rkind_pc (n : NNode) (s : Str) (hok : n.ok) : PC Tryz.prog 94 [.ag n.row, .s s.1 s.2] (.i .i64 (tyN n s)) := by
 obtain ⟨o1, o2, o3, _, _⟩ := hok
 have l1 := o1.1; have l2 := o2.1; have l3 := o3.1
 unfold Lst.ok at l1 l2 l3
 have g0 : GT 1 3 0 .ns [] [] [] := .inl ⟨rfl, rfl, rfl, rfl⟩
 obtain ⟨v1, A1, T1, J1, g1, a1, _⟩ := g0.appR (bytes := 48) (by omega) (an1 n.ins) (p6 (by simp; omega) (by omega)) []
 obtain ⟨v2, A2, T2, J2, g2, a2, _⟩ := g1.appR (bytes := 48) (by omega) (an1 n.outs) (p6 (by simp; omega) (by omega)) J1
 obtain ⟨v3, A3, T3, J3, g3, a3, _⟩ := g2.appR (bytes := 48) (by omega) (an1 n.locals) (p6 (by simp; omega) (by omega)) J2
 have b1 : ∀ rb k, rb + k = 1 → ah6 rb [.c false n.row, .no] k .ns (some (n.ins.map Decl.row).flatten) (some n.ins.length) 3 48 = some (v1, .c false n.row :: (T1 ++ J1)) := fun rb k h => by
  have := a1 [.c false n.row] rb k rfl (by simpa using h)
  rw [List.length_map] at this
  exact this
 have b2 : ∀ rb k, rb + k = (T1 ++ J1).length + 1 → ah6 rb (.c false n.row :: ((T1 ++ J1) ++ [.no])) k v1 (some (n.outs.map Decl.row).flatten) (some n.outs.length) 3 48 = some (v2, .c false n.row :: (T2 ++ J2)) := fun rb k h => by
  have := a2 [.c false n.row] rb k rfl (by rw [h]; simp; omega)
  rw [List.length_map] at this
  simp only [List.cons_append, List.nil_append, List.append_assoc] at this ⊢
  exact this
 have b3 : ∀ rb k, rb + k = (T2 ++ J2).length + 1 → ah6 rb (.c false n.row :: ((T2 ++ J2) ++ [.no])) k v2 (some (n.locals.map Decl.row).flatten) (some n.locals.length) 3 48 = some (v3, .c false n.row :: (T3 ++ J3)) := fun rb k h => by
  have := a3 [.c false n.row] rb k rfl (by rw [h]; simp; omega)
  rw [List.length_map] at this
  simp only [List.cons_append, List.nil_append, List.append_assoc] at this ⊢
  exact this
 have hcs : [] ++ (n.ins.map Decl.row).flatten ++ (n.outs.map Decl.row).flatten ++ (n.locals.map Decl.row).flatten = ((n.ins ++ (n.outs ++ n.locals)).map Decl.row).flatten := by simp
 have hln : 0 + (n.ins.map Decl.row).length + (n.outs.map Decl.row).length + (n.locals.map Decl.row).length = (n.ins ++ (n.outs ++ n.locals)).length := by simp; omega
 rw [hcs, hln] at g3
 unfold tyN
 have hLl : (n.ins ++ (n.outs ++ n.locals)).length ≤ 90000000 := by simp; omega
 generalize n.ins ++ (n.outs ++ n.locals) = L at g3 hLl
 clear a1 a2 a3 g0 g1 g2 hcs hln
 generalize T1 ++ J1 = W1 at b1 b2
 generalize T2 ++ J2 = W2 at b2 b3
 obtain ⟨W3, hW3⟩ : ∃ W3, W3 = T3 ++ J3 := ⟨_, rfl⟩
 rw [← hW3] at b3
 refine v6 Tryz.func94 k94 rfl ?_
 by_cases hL0 : L = []
 ·subst hL0
  have hv : v3 = .ns := by
   rcases g3 with ⟨_, h, _⟩ | ⟨h, _⟩
   ·exact h
   ·simp at h
  subst hv
  repeat' (first
   | (with_reducible refine al2 ?_)
   | (simp only [c94, e8, nn1, nn2, nn3, dall, o9, List.length_map, b1, b2, b3, Int.natCast_zero, Int.lt_irrefl, decide_false, SXR, simprocAttr]))
  rfl
 ·have h0 : 0 < L.length := List.length_pos_iff.2 hL0
  obtain ⟨hv, hT⟩ : v3 = .sl (1 + A3.length) 0 3 L.length none ∧ T3 = A3 ++ [.c true (L.map Decl.row).flatten] := by
   rcases g3 with ⟨h, _⟩ | ⟨_, h1, h2, _⟩
   ·omega
   ·exact ⟨h2, h1⟩
  subst hv
  have hA : ∀ js, hpL (.c false n.row :: (W3 ++ js)) (1 + A3.length) = .c true (L.map Decl.row).flatten := fun js => by
   rw [hW3, hT, show O.c false n.row :: (A3 ++ [O.c true (L.map Decl.row).flatten] ++ J3 ++ js) = (.c false n.row :: A3) ++ .c true (L.map Decl.row).flatten :: (J3 ++ js) by simp, show 1 + A3.length = (O.c false n.row :: A3).length by simp; omega]
   exact hp_ap0
  generalize 1 + A3.length = B at hA b3
  repeat' (first
   | (simp only [c94, e8, nn1, nn2, nn3, dall, o9, List.length_map, b1, b2, b3, SXR, simprocAttr]))
  refine o8 (X := Nat) (fun i ll hs => ∃ js : List O, Hd (fun j => [.ag n.row, .s s.1 s.2, .p 0 0, j 3, .i .i64 0, .sl B 0 3 L.length none, .i .i64 (i : Int), j 7, j 8, j 9, j 10, j 11, j 12, j 13, j 14, j 15, j 16, j 17, j 18, j 19, j 20, j 21, j 22, j 23, j 24, j 25, j 26, j 27, j 28, j 29, j 30, j 31, j 32, j 33, j 34, j 35, j 36]) ll ∧ hs = .c false n.row :: (W3 ++ js))
   (fun i => i ≤ L.length ∧ tyF s L = tyF s (L.drop i)) (fun i => L.length - i) ?_ 0 _ _ (by exact ⟨[], rfl, by simp⟩) ⟨Nat.zero_le _, rfl⟩
  rintro i _ _ ⟨js, e, rfl⟩ ⟨hi, hinv⟩ IH
  obtain ⟨j, rfl⟩ := e.open
  clear e
  by_cases hlt : i < L.length
  ·obtain ⟨x, hx, _⟩ := ats hlt
   have hd := ltd hlt
   have hw := l6 (n := i) (by omega)
   have hia := fun a w c => al4 (a := a) (w := w) (wd := 3) (c := c) hlt
   have hc0 : ldE.ldO 1 false (i * 3) (.c true (L.map Decl.row).flatten) = some (.s x.nm.1 x.nm.2) := dcell hx (c := 0) rfl true
   have hc1 : ldE.ldO 1 false (i * 3 + 1) (.c true (L.map Decl.row).flatten) = some (.i .i64 x.ty) := dcell hx (c := 1) rfl true
   rw [tyF_drop L i hx] at hinv
   cases hh : hit s x with
   | true =>
     rw [if_pos hh] at hinv
     rw [hinv]
     unfold hit at hh
     repeat' (first
      | (simp only [c94, ah2, hd, hA, hia, hc0, hc1, hh, Option.getD_some, SXR, simprocAttr]))
   | false =>
     rw [if_neg (by simp [hh])] at hinv
     unfold hit at hh
     repeat' (first
      | (simp only [c94, ah2, hd, hA, hia, hc0, hc1, hh, hw, SXR, simprocAttr]))
     exact IH (i + 1) _ _ (by exact ⟨_, rfl, rfl⟩) ⟨hlt, hinv⟩ (by omega)
  ·clear IH
   have hd := ltn hlt
   rw [List.drop_eq_nil_of_le (by omega)] at hinv
   rw [hinv]
   repeat' (first
    | (simp only [c94, ah2, hd, SXR, simprocAttr]))
   rfl
def zcs (l : List Int) : List V := l.map fun (m : Int) => V.i .i64 m
theorem zcs_len (l : List Int) : (zcs l).length = l.length := by simp [zcs]
theorem zcs_cl : ∀ l : List Int, clL (zcs l) = true
 | [] => rfl
 | m :: l => by simp only [zcs, List.map_cons, clL, V.cl, Bool.true_and]; exact zcs_cl l
theorem zcs_snoc (l : List Int) (m : Int) : zcs l ++ [.i .i64 m] = zcs (l ++ [m]) := by simp [zcs]
theorem bh3 (g : List Int) : (al6 g).flatten = zcs g := by
 induction g with
 | nil => rfl
 | cons m g ih => simp only [al6, zcs, List.map_cons, List.flatten_cons] at ih ⊢; rw [ih]; rfl
theorem zrows_w {g : List Int} : ∀ r, r ∈ al6 g → r.length = 1 := by
 intro r hr
 obtain ⟨m, _, rfl⟩ := List.mem_map.1 hr
 rfl
theorem zcs_ld {gr : Bool} {l : List Int} {i : Nat} {m : Int} (h : l[i]? = some m) : ldE.ldO 1 false i (.c gr (zcs l)) = some (.i .i64 m) := by
 have h1 : zcs l = zcs (l.take i) ++ ([.i .i64 m] ++ zcs (l.drop (i + 1))) := by
  conv => lhs; rw [← List.take_append_drop i l, u9 h]
  simp [zcs]
 have := bc9 (gr := gr) (c := 0) (x := .i .i64 m) h1 (off := i) (by rw [zcs_len, List.length_take, Nat.min_eq_left (Nat.le_of_lt (List.getElem?_eq_some_iff.1 h).1)]) rfl
 exact this
structure RP (js : List O) (pv : V) (p : List Int) : Prop where
 len : lenE false pv = some (.i .i64 (p.length : Int))
 get : ∀ (i : Nat) (m : Int), p[i]? = some m → ∃ ad : V, iadE 1 pv (.i .i64 (i : Int)) = some ad ∧ ∀ ks, ldE (hpL (js ++ ks)) 1 false ad = some (.i .i64 m)
theorem RP.more {js : List O} {pv : V} {p : List Int} (h : RP js pv p) (zs : List O) : RP (js ++ zs) pv p := ⟨h.len, fun i m hm => by
 obtain ⟨ad, h1, h2⟩ := h.get i m hm
 exact ⟨ad, h1, fun ks => by rw [List.append_assoc]; exact h2 _⟩⟩
theorem RP.get0 {js : List O} {pv : V} {p : List Int} (h : RP js pv p) {i : Nat} {m : Int} (hm : p[i]? = some m) : ∃ ad : V, iadE 1 pv (.i .i64 (i : Int)) = some ad ∧ ldE (hpL js) 1 false ad = some (.i .i64 m) := by
 obtain ⟨ad, h1, h2⟩ := h.get i m hm
 exact ⟨ad, h1, by simpa using h2 []⟩
theorem RP.ts (js : List O) (p : List Int) : RP js (.ts (al6 p)) p := ⟨by rw [len_ts, ab9], fun i m hm => ⟨.tp [.i .i64 m] 0, by rw [iad_i, as3, az1 hm]; rfl, fun ks => rfl⟩⟩
theorem RP.sl {js : List O} {a : Nat} {gr : Bool} {p : List Int} (h : hpL js a = .c gr (zcs p)) : RP js (.sl a 0 1 p.length none) p := ⟨ah2, fun i m hm => ⟨.p a i, by
 rw [al4 (List.getElem?_eq_some_iff.1 hm).1, Nat.mul_one], fun ks => by rw [ld_p, ac7 h]; exact zcs_ld hm⟩⟩
theorem RP.ns (js : List O) : RP js .ns [] := ⟨rfl, fun i m hm => by simp at hm⟩
theorem rsamel_ac {js : List O} {av bv : V} {a b : List Int} (ha : RP js av a) (hb : RP js bv b) (hl : a.length = b.length) (hn : a.length < 30000000) (hlt : ltO js.length js = true) : ACalls Tryz.prog 55 [av, bv] (hpL js) js.length (.b (a == b)) (hpL js) js.length := by
 have hal := ha.len
 refine p8 Tryz.func55 k55 rfl rfl (by simp only [V.lt]) hlt ?_
 repeat' (first
  | (simp only [c55, aa8, aa7, SXR, simprocAttr]))
 refine o8 (X := Nat) (fun i ll hs => Hd (fun j => [av, bv, j 2, j 3, .b false, .i .i64 (i : Int), j 6, j 7, j 8, j 9, j 10, j 11, j 12, j 13, j 14, j 15, j 16, j 17, j 18, j 19, j 20]) ll ∧ hs = js)
  (fun i => i ≤ a.length ∧ (a == b) = (a.drop i == b.drop i)) (fun i => a.length - i) ?_ 0 _ _ (by exact ⟨rfl, rfl⟩) ⟨Nat.zero_le _, rfl⟩
 rintro i _ _ ⟨e, rfl⟩ ⟨hi, hinv⟩ IH
 obtain ⟨j, rfl⟩ := e.open
 clear e
 by_cases hlt : i < a.length
 ·obtain ⟨x, hx, _⟩ := ats hlt
  obtain ⟨y, hy, _⟩ := ats (show i < b.length by omega)
  obtain ⟨ax, hxr, hxl⟩ := ha.get0 hx
  obtain ⟨ay, hyr, hyl⟩ := hb.get0 hy
  have hd := ltd hlt
  have hw := l6 (n := i) (by omega)
  rw [u9 hx, u9 hy, List.cons_beq_cons] at hinv
  cases hb : (x == y) with
  | false =>
    rw [hb, Bool.false_and] at hinv
    rw [hinv]
    repeat' (first
     | (simp only [c55, aa8, aa7, hal, hxr, hyr, hxl, hyl, hd, hb, bne, Bool.not_false, SXR, simprocAttr]))
    exact ⟨[], by simp⟩
  | true =>
    rw [hb, Bool.true_and] at hinv
    repeat' (first
     | (simp only [c55, aa8, aa7, hal, hxr, hyr, hxl, hyl, hd, hb, hw, bne, Bool.not_true, SXR, simprocAttr]))
    exact IH (i + 1) _ _ (by exact ⟨rfl, rfl⟩) ⟨hlt, hinv⟩ (by omega)
 ·clear IH
  have hd := ltn hlt
  rw [List.drop_eq_nil_of_le (by omega), List.drop_eq_nil_of_le (by omega)] at hinv
  rw [hinv]
  repeat' (first
   | (simp only [c55, aa8, aa7, hal, hd, SXR, simprocAttr]))
  exact ⟨rfl, [], by simp⟩
theorem ab6 (q : NEqn) : (q.row.drop 2).take 1 = [.i .i64 q.right.k] := by obtain ⟨_, _, ⟨_, _, _, _, _, _, _⟩, _, _, _, _, _⟩ := q; rfl
theorem ab5 (q : NEqn) : (q.row.drop 6).take 1 = [.s q.right.nm.1 q.right.nm.2] := by obtain ⟨_, _, ⟨_, _, _, _, _, _, _⟩, _, _, _, _, _⟩ := q; rfl
def aw5 (p : List Int) (x : Int) : Int := (p[x.toNat]?).getD 0
def aw8 (n : NNode) (p : List Int) (a b : NEqn) : Bool :=
 a.init == b.init && eqB bf9 a.ck b.ck && tyN n (hd1 a) == tyN n (hd1 b) && (exB a.right b.right || (a.right.k == 2 && b.right.k == 2 && decide (ofI n a.right.nm ≥ 0) && decide (ofI n b.right.nm ≥ 0) && aw5 p (ofI n a.right.nm) == aw5 p (ofI n b.right.nm)))
theorem ofG_rng {s : Str} {c : Nat → Option NEqn} : ∀ (r i : Nat), ofG s c i r = -1 ∨ ∃ k, i ≤ k ∧ k < i + r ∧ ofG s c i r = (k : Int) ∧ (∃ q, c k = some q ∧ isD q = true ∧ aa4 (hd1 q) s = true) ∧ ∀ m, i ≤ m → m < k → ∀ q, c m = some q → ¬ (isD q = true ∧ aa4 (hd1 q) s = true)
 | 0, i => .inl rfl
 | r + 1, i => by
   simp only [ofG]
   cases hc : c i with
   | none => exact .inl rfl
   | some q =>
     simp only
     by_cases hq : isD q = true ∧ aa4 (hd1 q) s = true
     ·rw [if_pos hq]
      exact .inr ⟨i, Nat.le_refl _, by omega, rfl, ⟨q, hc, hq⟩, fun m h1 h2 => by omega⟩
     ·rw [if_neg hq]
      rcases ofG_rng (s := s) (c := c) r (i + 1) with h | ⟨k, h1, h2, h3, h4, h5⟩
      ·exact .inl h
      ·refine .inr ⟨k, by omega, by omega, h3, h4, fun m hm hk q' hq' => ?_⟩
       by_cases e : m = i
       ·subst e; rw [hc] at hq'; cases hq'; exact hq
       ·exact h5 m (by omega) hk q' hq'
theorem ofI_rng (n : NNode) (s : Str) : ofI n s = -1 ∨ ∃ k : Nat, k < n.eqs.length ∧ ofI n s = (k : Int) := by
 rcases ofG_rng (s := s) (c := fun i => n.eqs[i]?) n.eqs.length 0 with h | ⟨k, _, h2, h3, _⟩
 ·exact .inl h
 ·exact .inr ⟨k, by omega, h3⟩
set_option maxHeartbeats 2000000 in
theorem ralike_ac {js : List O} {pv : V} (n : NNode) (p : List Int) {i j : Nat} {a b : NEqn} (hr : RP js pv p) (hlt : ltO js.length js = true) (hok : n.ok) (hp : p.length = n.eqs.length) (ha : n.eqs[i]? = some a) (hb : n.eqs[j]? = some b) (hDa : isD a = true) (hDb : isD b = true) :
  ACalls Tryz.prog 75 [.ag n.row, pv, .i .i64 (i : Int), .i .i64 (j : Int)] (hpL js) js.length (.b (aw8 n p a b)) (hpL js) js.length := by
 have oka := hok.2.2.2.2 a (List.mem_of_getElem? ha)
 have hqa := mg (f := NEqn.row) ha
 have hqb := mg (f := NEqn.row) hb
 have hla : a.left.map af8 = [[.s (hd1 a).1 (hd1 a).2]] := by rw [ab8 hDa]; rfl
 have hlb : b.left.map af8 = [[.s (hd1 b).1 (hd1 b).2]] := by rw [ab8 hDb]; rfl
 have hka := rkind_pc n (hd1 a) hok
 have hkb := rkind_pc n (hd1 b) hok
 have hX := ofI_rng n a.right.nm
 have hY := ofI_rng n b.right.nm
 have hxa := rof_pc n a.right.nm hok
 have hxb := rof_pc n b.right.nm hok
 unfold aw8
 generalize ofI n a.right.nm = X at hX hxa
 generalize ofI n b.right.nm = Y at hY hxb
 generalize tyN n (hd1 a) = ta at hka
 generalize tyN n (hd1 b) = tb at hkb
 cases g0 : a.init == b.init with
 | false =>
   have h0 := g0
   simp only [g0, Bool.and_true, Bool.true_and, Bool.and_false, Bool.false_and, Bool.or_true, Bool.true_or, Bool.or_false, Bool.false_or]
   refine p8 Tryz.func75 k75 rfl rfl (by simp only [V.lt]) hlt ?_
   repeat' (first
    | ((with_reducible refine j3 ?rdq ?_); (case rdq => refine j2 rfl ?_ ?_ <;> simp only [Option.isSome_some, h0, aa8, aa7, e8, j7, b9, nn4, List.length_map, hqa, hqb, hla, hlb, bne, p5, f0, i5, j0, m7, o0, j4, ab6, ab5, i6, j9, m4, e9, Nat.mul_one, if_true, if_false, Bool.false_eq_true, beq_self_eq_true, Bool.not_true, Bool.not_false, Nat.add_assoc, SXR, simprocAttr]))
    | (with_reducible refine b8 (hka) (by simp only [SXR, b9, i6, e9]) (by simp only [SXR, b9, i6, e9]) ?_)
    | (with_reducible refine b8 (hkb) (by simp only [SXR, b9, i6, e9]) (by simp only [SXR, b9, i6, e9]) ?_)
    | (with_reducible refine b8 (hxa) (by simp only [SXR, b9, i6, e9]) (by simp only [SXR, b9, i6, e9]) ?_)
    | (with_reducible refine b8 (hxb) (by simp only [SXR, b9, i6, e9]) (by simp only [SXR, b9, i6, e9]) ?_)
    | (simp only [c75, h0, aa8, aa7, e8, j7, b9, nn4, List.length_map, hqa, hqb, hla, hlb, bne, p5, f0, i5, j0, m7, o0, j4, ab6, ab5, i6, j9, m4, e9, Nat.mul_one, if_true, if_false, Bool.false_eq_true, beq_self_eq_true, Bool.not_true, Bool.not_false, Nat.add_assoc, SXR, simprocAttr]))
   exact ⟨_, rfl⟩
 | true =>
   have h0 := g0
   cases g1 : eqB bf9 a.ck b.ck with
   | false =>
     have h1 := bf2 a.ck b.ck oka.2.2.2.2.1
     rw [g1] at h1
     simp only [g0, g1, Bool.and_true, Bool.true_and, Bool.and_false, Bool.false_and, Bool.or_true, Bool.true_or, Bool.or_false, Bool.false_or]
     refine p8 Tryz.func75 k75 rfl rfl (by simp only [V.lt]) hlt ?_
     repeat' (first
      | ((with_reducible refine j3 ?rdq ?_); (case rdq => refine j2 rfl ?_ ?_ <;> simp only [Option.isSome_some, h0, aa8, aa7, e8, j7, b9, nn4, List.length_map, hqa, hqb, hla, hlb, bne, p5, f0, i5, j0, m7, o0, j4, ab6, ab5, i6, j9, m4, e9, Nat.mul_one, if_true, if_false, Bool.false_eq_true, beq_self_eq_true, Bool.not_true, Bool.not_false, Nat.add_assoc, SXR, simprocAttr]))
      | (with_reducible refine b8 (hka) (by simp only [SXR, b9, i6, e9]) (by simp only [SXR, b9, i6, e9]) ?_)
      | (with_reducible refine b8 (hkb) (by simp only [SXR, b9, i6, e9]) (by simp only [SXR, b9, i6, e9]) ?_)
      | (with_reducible refine b8 (hxa) (by simp only [SXR, b9, i6, e9]) (by simp only [SXR, b9, i6, e9]) ?_)
      | (with_reducible refine b8 (hxb) (by simp only [SXR, b9, i6, e9]) (by simp only [SXR, b9, i6, e9]) ?_)
      | (with_reducible refine b8 (h1) (by simp only [SXR, b9, i6, e9]) (by simp only [SXR, b9, i6, e9]) ?_)
      | (simp only [c75, h0, aa8, aa7, e8, j7, b9, nn4, List.length_map, hqa, hqb, hla, hlb, bne, p5, f0, i5, j0, m7, o0, j4, ab6, ab5, i6, j9, m4, e9, Nat.mul_one, if_true, if_false, Bool.false_eq_true, beq_self_eq_true, Bool.not_true, Bool.not_false, Nat.add_assoc, SXR, simprocAttr]))
     exact ⟨_, rfl⟩
   | true =>
     have h1 := bf2 a.ck b.ck oka.2.2.2.2.1
     rw [g1] at h1
     cases g2 : ta == tb with
     | false =>
       have h2 := g2
       simp only [g0, g1, g2, Bool.and_true, Bool.true_and, Bool.and_false, Bool.false_and, Bool.or_true, Bool.true_or, Bool.or_false, Bool.false_or]
       refine p8 Tryz.func75 k75 rfl rfl (by simp only [V.lt]) hlt ?_
       repeat' (first
        | ((with_reducible refine j3 ?rdq ?_); (case rdq => refine j2 rfl ?_ ?_ <;> simp only [Option.isSome_some, h0, h2, aa8, aa7, e8, j7, b9, nn4, List.length_map, hqa, hqb, hla, hlb, bne, p5, f0, i5, j0, m7, o0, j4, ab6, ab5, i6, j9, m4, e9, Nat.mul_one, if_true, if_false, Bool.false_eq_true, beq_self_eq_true, Bool.not_true, Bool.not_false, Nat.add_assoc, SXR, simprocAttr]))
        | (with_reducible refine b8 (hka) (by simp only [SXR, b9, i6, e9]) (by simp only [SXR, b9, i6, e9]) ?_)
        | (with_reducible refine b8 (hkb) (by simp only [SXR, b9, i6, e9]) (by simp only [SXR, b9, i6, e9]) ?_)
        | (with_reducible refine b8 (hxa) (by simp only [SXR, b9, i6, e9]) (by simp only [SXR, b9, i6, e9]) ?_)
        | (with_reducible refine b8 (hxb) (by simp only [SXR, b9, i6, e9]) (by simp only [SXR, b9, i6, e9]) ?_)
        | (with_reducible refine b8 (h1) (by simp only [SXR, b9, i6, e9]) (by simp only [SXR, b9, i6, e9]) ?_)
        | (simp only [c75, h0, h2, aa8, aa7, e8, j7, b9, nn4, List.length_map, hqa, hqb, hla, hlb, bne, p5, f0, i5, j0, m7, o0, j4, ab6, ab5, i6, j9, m4, e9, Nat.mul_one, if_true, if_false, Bool.false_eq_true, beq_self_eq_true, Bool.not_true, Bool.not_false, Nat.add_assoc, SXR, simprocAttr]))
       exact ⟨_, rfl⟩
     | true =>
       have h2 := g2
       cases g3 : exB a.right b.right with
       | false =>
         have h3 := ax7 _ a.right b.right (Nat.le_refl _) oka.2.1
         rw [g3] at h3
         cases g4 : a.right.k == 2 with
         | false =>
           have h4 := g4
           simp only [g0, g1, g2, g3, g4, Bool.and_true, Bool.true_and, Bool.and_false, Bool.false_and, Bool.or_true, Bool.true_or, Bool.or_false, Bool.false_or]
           refine p8 Tryz.func75 k75 rfl rfl (by simp only [V.lt]) hlt ?_
           repeat' (first
            | ((with_reducible refine j3 ?rdq ?_); (case rdq => refine j2 rfl ?_ ?_ <;> simp only [Option.isSome_some, h0, h2, h4, aa8, aa7, e8, j7, b9, nn4, List.length_map, hqa, hqb, hla, hlb, bne, p5, f0, i5, j0, m7, o0, j4, ab6, ab5, i6, j9, m4, e9, Nat.mul_one, if_true, if_false, Bool.false_eq_true, beq_self_eq_true, Bool.not_true, Bool.not_false, Nat.add_assoc, SXR, simprocAttr]))
            | (with_reducible refine b8 (hka) (by simp only [SXR, b9, i6, e9]) (by simp only [SXR, b9, i6, e9]) ?_)
            | (with_reducible refine b8 (hkb) (by simp only [SXR, b9, i6, e9]) (by simp only [SXR, b9, i6, e9]) ?_)
            | (with_reducible refine b8 (hxa) (by simp only [SXR, b9, i6, e9]) (by simp only [SXR, b9, i6, e9]) ?_)
            | (with_reducible refine b8 (hxb) (by simp only [SXR, b9, i6, e9]) (by simp only [SXR, b9, i6, e9]) ?_)
            | (with_reducible refine b8 (h1) (by simp only [SXR, b9, i6, e9]) (by simp only [SXR, b9, i6, e9]) ?_)
            | (with_reducible refine b8 (h3) (by simp only [SXR, b9, i6, e9]) (by simp only [SXR, b9, i6, e9]) ?_)
            | (simp only [c75, h0, h2, h4, aa8, aa7, e8, j7, b9, nn4, List.length_map, hqa, hqb, hla, hlb, bne, p5, f0, i5, j0, m7, o0, j4, ab6, ab5, i6, j9, m4, e9, Nat.mul_one, if_true, if_false, Bool.false_eq_true, beq_self_eq_true, Bool.not_true, Bool.not_false, Nat.add_assoc, SXR, simprocAttr]))
           exact ⟨_, rfl⟩
         | true =>
           have h4 := g4
           cases g5 : b.right.k == 2 with
           | false =>
             have h5 := g5
             simp only [g0, g1, g2, g3, g4, g5, Bool.and_true, Bool.true_and, Bool.and_false, Bool.false_and, Bool.or_true, Bool.true_or, Bool.or_false, Bool.false_or]
             refine p8 Tryz.func75 k75 rfl rfl (by simp only [V.lt]) hlt ?_
             repeat' (first
              | ((with_reducible refine j3 ?rdq ?_); (case rdq => refine j2 rfl ?_ ?_ <;> simp only [Option.isSome_some, h0, h2, h4, h5, aa8, aa7, e8, j7, b9, nn4, List.length_map, hqa, hqb, hla, hlb, bne, p5, f0, i5, j0, m7, o0, j4, ab6, ab5, i6, j9, m4, e9, Nat.mul_one, if_true, if_false, Bool.false_eq_true, beq_self_eq_true, Bool.not_true, Bool.not_false, Nat.add_assoc, SXR, simprocAttr]))
              | (with_reducible refine b8 (hka) (by simp only [SXR, b9, i6, e9]) (by simp only [SXR, b9, i6, e9]) ?_)
              | (with_reducible refine b8 (hkb) (by simp only [SXR, b9, i6, e9]) (by simp only [SXR, b9, i6, e9]) ?_)
              | (with_reducible refine b8 (hxa) (by simp only [SXR, b9, i6, e9]) (by simp only [SXR, b9, i6, e9]) ?_)
              | (with_reducible refine b8 (hxb) (by simp only [SXR, b9, i6, e9]) (by simp only [SXR, b9, i6, e9]) ?_)
              | (with_reducible refine b8 (h1) (by simp only [SXR, b9, i6, e9]) (by simp only [SXR, b9, i6, e9]) ?_)
              | (with_reducible refine b8 (h3) (by simp only [SXR, b9, i6, e9]) (by simp only [SXR, b9, i6, e9]) ?_)
              | (simp only [c75, h0, h2, h4, h5, aa8, aa7, e8, j7, b9, nn4, List.length_map, hqa, hqb, hla, hlb, bne, p5, f0, i5, j0, m7, o0, j4, ab6, ab5, i6, j9, m4, e9, Nat.mul_one, if_true, if_false, Bool.false_eq_true, beq_self_eq_true, Bool.not_true, Bool.not_false, Nat.add_assoc, SXR, simprocAttr]))
             exact ⟨_, rfl⟩
           | true =>
             have h5 := g5
             rcases hX with rfl | ⟨kx, hkx, rfl⟩
             ·have hm : decide ((-1 : Int) ≥ 0) = false := by decide
              simp only [g0, g1, g2, g3, g4, g5, hm, Bool.and_true, Bool.true_and, Bool.and_false, Bool.false_and, Bool.or_true, Bool.true_or, Bool.or_false, Bool.false_or]
              refine p8 Tryz.func75 k75 rfl rfl (by simp only [V.lt]) hlt ?_
              repeat' (first
               | ((with_reducible refine j3 ?rdq ?_); (case rdq => refine j2 rfl ?_ ?_ <;> simp only [Option.isSome_some, h0, h2, h4, h5, aa8, aa7, e8, j7, b9, nn4, List.length_map, hqa, hqb, hla, hlb, bne, p5, f0, i5, j0, m7, o0, j4, ab6, ab5, i6, j9, m4, e9, hm, Nat.mul_one, if_true, if_false, Bool.false_eq_true, beq_self_eq_true, Bool.not_true, Bool.not_false, Nat.add_assoc, SXR, simprocAttr]))
               | (with_reducible refine b8 (hka) (by simp only [SXR, b9, i6, e9]) (by simp only [SXR, b9, i6, e9]) ?_)
               | (with_reducible refine b8 (hkb) (by simp only [SXR, b9, i6, e9]) (by simp only [SXR, b9, i6, e9]) ?_)
               | (with_reducible refine b8 (hxa) (by simp only [SXR, b9, i6, e9]) (by simp only [SXR, b9, i6, e9]) ?_)
               | (with_reducible refine b8 (hxb) (by simp only [SXR, b9, i6, e9]) (by simp only [SXR, b9, i6, e9]) ?_)
               | (with_reducible refine b8 (h1) (by simp only [SXR, b9, i6, e9]) (by simp only [SXR, b9, i6, e9]) ?_)
               | (with_reducible refine b8 (h3) (by simp only [SXR, b9, i6, e9]) (by simp only [SXR, b9, i6, e9]) ?_)
               | (simp only [c75, h0, h2, h4, h5, aa8, aa7, e8, j7, b9, nn4, List.length_map, hqa, hqb, hla, hlb, bne, p5, f0, i5, j0, m7, o0, j4, ab6, ab5, i6, j9, m4, e9, hm, Nat.mul_one, if_true, if_false, Bool.false_eq_true, beq_self_eq_true, Bool.not_true, Bool.not_false, Nat.add_assoc, SXR, simprocAttr]))
              exact ⟨_, rfl⟩
             ·have hm : decide ((kx : Int) ≥ 0) = true := by simp
              obtain ⟨vx, hvx, _⟩ := ats (show kx < p.length by omega)
              obtain ⟨ax, hpx, hpxl⟩ := hr.get _ _ hvx
              have hax : aw5 p (kx : Int) = vx := by simp only [aw5, Int.toNat_natCast, hvx, Option.getD_some]
              rcases hY with rfl | ⟨ky, hky, rfl⟩
              ·have hm' : decide ((-1 : Int) ≥ 0) = false := by decide
               simp only [g0, g1, g2, g3, g4, g5, hm, hm', Bool.and_true, Bool.true_and, Bool.and_false, Bool.false_and, Bool.or_true, Bool.true_or, Bool.or_false, Bool.false_or]
               refine p8 Tryz.func75 k75 rfl rfl (by simp only [V.lt]) hlt ?_
               repeat' (first
                | ((with_reducible refine j3 ?rdq ?_); (case rdq => refine j2 rfl ?_ ?_ <;> simp only [Option.isSome_some, h0, h2, h4, h5, aa8, aa7, e8, j7, b9, nn4, List.length_map, hqa, hqb, hla, hlb, bne, p5, f0, i5, j0, m7, o0, j4, ab6, ab5, i6, j9, m4, e9, hm, hm', Nat.mul_one, if_true, if_false, Bool.false_eq_true, beq_self_eq_true, Bool.not_true, Bool.not_false, Nat.add_assoc, SXR, simprocAttr]))
                | (with_reducible refine b8 (hka) (by simp only [SXR, b9, i6, e9]) (by simp only [SXR, b9, i6, e9]) ?_)
                | (with_reducible refine b8 (hkb) (by simp only [SXR, b9, i6, e9]) (by simp only [SXR, b9, i6, e9]) ?_)
                | (with_reducible refine b8 (hxa) (by simp only [SXR, b9, i6, e9]) (by simp only [SXR, b9, i6, e9]) ?_)
                | (with_reducible refine b8 (hxb) (by simp only [SXR, b9, i6, e9]) (by simp only [SXR, b9, i6, e9]) ?_)
                | (with_reducible refine b8 (h1) (by simp only [SXR, b9, i6, e9]) (by simp only [SXR, b9, i6, e9]) ?_)
                | (with_reducible refine b8 (h3) (by simp only [SXR, b9, i6, e9]) (by simp only [SXR, b9, i6, e9]) ?_)
                | (simp only [c75, h0, h2, h4, h5, aa8, aa7, e8, j7, b9, nn4, List.length_map, hqa, hqb, hla, hlb, bne, p5, f0, i5, j0, m7, o0, j4, ab6, ab5, i6, j9, m4, e9, hm, hm', Nat.mul_one, if_true, if_false, Bool.false_eq_true, beq_self_eq_true, Bool.not_true, Bool.not_false, Nat.add_assoc, SXR, simprocAttr]))
               exact ⟨_, rfl⟩
              ·have hm' : decide ((ky : Int) ≥ 0) = true := by simp
               obtain ⟨vy, hvy, _⟩ := ats (show ky < p.length by omega)
               obtain ⟨ay, hpy, hpyl⟩ := hr.get _ _ hvy
               have hay : aw5 p (ky : Int) = vy := by simp only [aw5, Int.toNat_natCast, hvy, Option.getD_some]
               simp only [g0, g1, g2, g3, g4, g5, hm, hm', hax, hay, Bool.and_true, Bool.true_and, Bool.and_false, Bool.false_and, Bool.or_true, Bool.true_or, Bool.or_false, Bool.false_or]
               refine p8 Tryz.func75 k75 rfl rfl (by simp only [V.lt]) hlt ?_
               repeat' (first
                | ((with_reducible refine j3 ?rdq ?_); (case rdq => refine j2 rfl ?_ ?_ <;> simp only [Option.isSome_some, h0, h2, h4, h5, aa8, aa7, e8, j7, b9, nn4, List.length_map, hqa, hqb, hla, hlb, bne, p5, f0, i5, j0, m7, o0, j4, ab6, ab5, i6, j9, m4, e9, hm, hm', hpx, hpy, hpxl, hpyl, Nat.mul_one, if_true, if_false, Bool.false_eq_true, beq_self_eq_true, Bool.not_true, Bool.not_false, Nat.add_assoc, SXR, simprocAttr]))
                | (with_reducible refine b8 (hka) (by simp only [SXR, b9, i6, e9]) (by simp only [SXR, b9, i6, e9]) ?_)
                | (with_reducible refine b8 (hkb) (by simp only [SXR, b9, i6, e9]) (by simp only [SXR, b9, i6, e9]) ?_)
                | (with_reducible refine b8 (hxa) (by simp only [SXR, b9, i6, e9]) (by simp only [SXR, b9, i6, e9]) ?_)
                | (with_reducible refine b8 (hxb) (by simp only [SXR, b9, i6, e9]) (by simp only [SXR, b9, i6, e9]) ?_)
                | (with_reducible refine b8 (h1) (by simp only [SXR, b9, i6, e9]) (by simp only [SXR, b9, i6, e9]) ?_)
                | (with_reducible refine b8 (h3) (by simp only [SXR, b9, i6, e9]) (by simp only [SXR, b9, i6, e9]) ?_)
                | (simp only [c75, h0, h2, h4, h5, aa8, aa7, e8, j7, b9, nn4, List.length_map, hqa, hqb, hla, hlb, bne, p5, f0, i5, j0, m7, o0, j4, ab6, ab5, i6, j9, m4, e9, hm, hm', hpx, hpy, hpxl, hpyl, Nat.mul_one, if_true, if_false, Bool.false_eq_true, beq_self_eq_true, Bool.not_true, Bool.not_false, Nat.add_assoc, SXR, simprocAttr]))
               exact ⟨_, rfl⟩
       | true =>
         have h3 := ax7 _ a.right b.right (Nat.le_refl _) oka.2.1
         rw [g3] at h3
         simp only [g0, g1, g2, g3, Bool.and_true, Bool.true_and, Bool.and_false, Bool.false_and, Bool.or_true, Bool.true_or, Bool.or_false, Bool.false_or]
         refine p8 Tryz.func75 k75 rfl rfl (by simp only [V.lt]) hlt ?_
         repeat' (first
          | ((with_reducible refine j3 ?rdq ?_); (case rdq => refine j2 rfl ?_ ?_ <;> simp only [Option.isSome_some, h0, h2, aa8, aa7, e8, j7, b9, nn4, List.length_map, hqa, hqb, hla, hlb, bne, p5, f0, i5, j0, m7, o0, j4, ab6, ab5, i6, j9, m4, e9, Nat.mul_one, if_true, if_false, Bool.false_eq_true, beq_self_eq_true, Bool.not_true, Bool.not_false, Nat.add_assoc, SXR, simprocAttr]))
          | (with_reducible refine b8 (hka) (by simp only [SXR, b9, i6, e9]) (by simp only [SXR, b9, i6, e9]) ?_)
          | (with_reducible refine b8 (hkb) (by simp only [SXR, b9, i6, e9]) (by simp only [SXR, b9, i6, e9]) ?_)
          | (with_reducible refine b8 (hxa) (by simp only [SXR, b9, i6, e9]) (by simp only [SXR, b9, i6, e9]) ?_)
          | (with_reducible refine b8 (hxb) (by simp only [SXR, b9, i6, e9]) (by simp only [SXR, b9, i6, e9]) ?_)
          | (with_reducible refine b8 (h1) (by simp only [SXR, b9, i6, e9]) (by simp only [SXR, b9, i6, e9]) ?_)
          | (with_reducible refine b8 (h3) (by simp only [SXR, b9, i6, e9]) (by simp only [SXR, b9, i6, e9]) ?_)
          | (simp only [c75, h0, h2, aa8, aa7, e8, j7, b9, nn4, List.length_map, hqa, hqb, hla, hlb, bne, p5, f0, i5, j0, m7, o0, j4, ab6, ab5, i6, j9, m4, e9, Nat.mul_one, if_true, if_false, Bool.false_eq_true, beq_self_eq_true, Bool.not_true, Bool.not_false, Nat.add_assoc, SXR, simprocAttr]))
         exact ⟨_, rfl⟩
end Go.Proofs.YtieogkafbnnjcaaGreatDoor
