/-
  Variables that are replaced, in an equation.
  Declarations: whether there is one of a name; a list without the first one.
  A list of declarations without the first one of a name, in ak0.
-/
import Derived.Test.YtieogkafbnnjcaaGreatDoorMj
set_option linter.unusedSimpArgs false
set_option linter.unusedVariables false
namespace Go.Proofs.YtieogkafbnnjcaaGreatDoor
open Go Go.B
set_option maxHeartbeats 2000000 in
theorem mequation_ac {js : List O} {mv : V} {ρ : Str → Str} (h : NmC 49 js mv ρ) (q : NEqn) (hok : q.ok) : ACalls Tryz.prog 20 [mv, .ag q.row] (hpL js) js.length (.ag (q.rn ρ).row) (hpL js) js.length := by
 obtain ⟨kind, left, ⟨k, op, t, v, nl, nn, aa⟩, init, node, ags, every, ck⟩ := q
 obtain ⟨o1, o2, o3, o4, o5, _⟩ := hok
 simp only at o1 o2 o3 o4 o5
 have hx : ∀ ks : List O, ks.all ocl = true → ACalls Tryz.prog 47 [mv, .ag [.i .i64 k, .i .i64 op, .i .i64 t, .i .i64 v, .s nl nn, .ts (Ex.rows aa)]] (hpL (js ++ ks)) (js ++ ks).length (.ag [.i .i64 k, .i .i64 op, .i .i64 t, .i .i64 v, .s (if vB k = true then ρ (nl, nn) else (nl, nn)).1 (if vB k = true then ρ (nl, nn) else (nl, nn)).2, .ts (Ex.rows (Ex.rns ρ aa))]) (hpL (js ++ ks)) (js ++ ks).length := fun ks hk => by
  have := mexpr_ac (h.moreo hk) (.mk k op t v nl nn aa) o2
  simp only [Ex.row, Ex.rn] at this
  exact this
 have hxs : ∀ ks : List O, ks.all ocl = true → ACalls Tryz.prog 48 [mv, .ts (Ex.rows ags)] (hpL (js ++ ks)) (js ++ ks).length (.ts (Ex.rows (Ex.rns ρ ags))) (hpL (js ++ ks)) (js ++ ks).length := fun ks hk => bc4 _ (h.moreo hk) ags (Nat.lt_succ_self _) o3 o4
 have hck : ∀ ks : List O, ks.all ocl = true → ACalls Tryz.prog 23 [mv, .ts (ck.map On.row)] (hpL (js ++ ks)) (js ++ ks).length (.ts ((ck.map (On.rn ρ)).map On.row)) (hpL (js ++ ks)) (js ++ ks).length := fun ks hk => bc5 (h.moreo hk) ck o5
 have hcl := clstr_pc left o1
 refine p8 Tryz.func20 k20 rfl rfl (V.lt_of_cl _ _ (by simp only [V.cl]; exact j5 _)) h.lt ?_
 simp only [NEqn.rn, NEqn.row, Ex.rn, Ex.row, ← bb0, List.cons_append, List.nil_append]
 cases hB : (every.1 == 0 && every.2 == 0) with
 | true =>
   rw [evN_t hB]
   repeat' (first
    | (with_reducible refine i7 (hx [_, _] (by simp only [List.all_cons, List.all_nil, t8, clL, V.cl, m0, j6, i6, Bool.and_self])) ?_)
    | (with_reducible refine i7 (hxs [_, _] (by simp only [List.all_cons, List.all_nil, t8, clL, V.cl, m0, j6, i6, Bool.and_self])) ?_)
    | (with_reducible refine i7 (hck [_, _] (by simp only [List.all_cons, List.all_nil, t8, clL, V.cl, m0, j6, i6, Bool.and_self])) ?_)
    | (with_reducible refine b8 (hcl) (by simp only [SXR, j6]) (by simp only [SXR, j6]) ?_)
    | (simp only [c20, aa8, aa7, j6, hB, and_true, SXR, simprocAttr]))
   exact ⟨_, rfl⟩
 | false =>
   rw [evN_f hB]
   repeat' (first
    | (with_reducible refine i7 (hx [_, _] (by simp only [List.all_cons, List.all_nil, t8, clL, V.cl, m0, j6, i6, Bool.and_self])) ?_)
    | (with_reducible refine i7 (hxs [_, _] (by simp only [List.all_cons, List.all_nil, t8, clL, V.cl, m0, j6, i6, Bool.and_self])) ?_)
    | (with_reducible refine i7 (hck [_, _] (by simp only [List.all_cons, List.all_nil, t8, clL, V.cl, m0, j6, i6, Bool.and_self])) ?_)
    | (with_reducible refine i7 (h.aco [_, _] (by simp only [List.all_cons, List.all_nil, t8, clL, V.cl, m0, j6, i6, Bool.and_self]) every) ?_)
    | (with_reducible refine b8 (hcl) (by simp only [SXR, j6]) (by simp only [SXR, j6]) ?_)
    | (simp only [c20, aa8, aa7, j6, hB, Bool.false_eq_true, and_true, SXR, simprocAttr]))
   exact ⟨_, rfl⟩
set_option maxHeartbeats 2000000 in
theorem requation_ac {js : List O} {mv : V} {ρ : Str → Str} (h : NmC 57 js mv ρ) (q : NEqn) (hok : q.ok) : ACalls Tryz.prog 27 [mv, .ag q.row] (hpL js) js.length (.ag (q.rn ρ).row) (hpL js) js.length := by
 obtain ⟨kind, left, ⟨k, op, t, v, nl, nn, aa⟩, init, node, ags, every, ck⟩ := q
 obtain ⟨o1, o2, o3, o4, o5, _⟩ := hok
 simp only at o1 o2 o3 o4 o5
 have hx : ∀ ks : List O, ks.all ocl = true → ACalls Tryz.prog 56 [mv, .ag [.i .i64 k, .i .i64 op, .i .i64 t, .i .i64 v, .s nl nn, .ts (Ex.rows aa)]] (hpL (js ++ ks)) (js ++ ks).length (.ag [.i .i64 k, .i .i64 op, .i .i64 t, .i .i64 v, .s (if vB k = true then ρ (nl, nn) else (nl, nn)).1 (if vB k = true then ρ (nl, nn) else (nl, nn)).2, .ts (Ex.rows (Ex.rns ρ aa))]) (hpL (js ++ ks)) (js ++ ks).length := fun ks hk => by
  have := rexpr_ac (h.moreo hk) (.mk k op t v nl nn aa) o2
  simp only [Ex.row, Ex.rn] at this
  exact this
 have hn := o3
 unfold Lst.ok at hn
 have h0 : ocl (.c false [.i .i64 kind, .ts (left.map af8), .i .i64 k, .i .i64 op, .i .i64 t, .i .i64 v, .s nl nn, .ts (Ex.rows aa), .i .i64 init, .s node.1 node.2, .ts (Ex.rows ags), .s every.1 every.2, .ts (ck.map On.row)]) = true := by simp only [t8, clL, V.cl, m0, j6, i6, Bool.and_self]
 have h1 : ocl (.c false [.i .i64 0, .ns, .i .i64 0, .i .i64 0, .i .i64 0, .i .i64 0, .s 0 0, .ns, .i .i64 0, .s 0 0, .ns, .s 0 0, .ns]) = true := rfl
 refine ai1 Tryz.func27 k27 rfl rfl (by simp only [V.cl]; exact j5 _) h.lt ?_
 simp only [NEqn.rn, NEqn.row, Ex.rn, Ex.row, ← bb0, exr_map ρ ags, List.cons_append, List.nil_append]
 repeat' (first
  | ((with_reducible refine j3 ?rdq ?_); (case rdq => refine j2 rfl ?_ ?_ <;> simp only [Option.isSome_some, ae7, ae6, SXR, simprocAttr]))
  | (with_reducible refine i7 (hx [_, _, _] (by simp only [List.all_cons, List.all_nil, t8, clL, V.cl, m0, j6, i6, Bool.and_self])) ?_)
  | (simp only [c27, ae7, ae6, SXR, simprocAttr]))
 refine o8 (X := Nat) (fun i ll hs => ∃ (w : V) (T0 T J : List O), Hd (fun j => [mv, j 1, j 2, .p js.length 0, .p (js.length + 1) 0, .p (js.length + 2) 0, .i .i64 (i : Int), j 7, j 8, j 9, j 10, j 11, j 12, j 13, j 14, j 15, j 16, j 17, j 18, j 19, j 20, j 21, j 22, j 23, j 24, j 25, j 26, j 27, j 28, j 29, j 30, j 31, j 32, j 33, j 34, j 35, j 36, j 37, j 38, j 39, j 40, j 41, j 42, j 43, j 44, j 45, j 46]) ll ∧ hs = js ++ .c false [.i .i64 kind, .ts (left.map af8), .i .i64 k, .i .i64 op, .i .i64 t, .i .i64 v, .s nl nn, .ts (Ex.rows aa), .i .i64 init, .s node.1 node.2, .ts (Ex.rows ags), .s every.1 every.2, .ts (ck.map On.row)] :: .c false [.i .i64 0, .ns, .i .i64 0, .i .i64 0, .i .i64 0, .i .i64 0, .s 0 0, .ns, .i .i64 0, .s 0 0, .ns, .s 0 0, .ns] :: .c false [.i .i64 kind, .ts (left.map af8), .i .i64 k, .i .i64 op, .i .i64 t, .i .i64 v, .s (if vB k = true then ρ (nl, nn) else (nl, nn)).1 (if vB k = true then ρ (nl, nn) else (nl, nn)).2, .ts (Ex.rows (Ex.rns ρ aa)), .i .i64 init, .s node.1 node.2, w, .s every.1 every.2, .ts (ck.map On.row)] :: (T ++ J) ∧
   GT (js.length + 3) 6 i w T0 T (cells (exr ρ) ags i) ∧ T.all ocl = true ∧ J.all ocl = true)
  (fun i => i ≤ ags.length) (fun i => ags.length - i) ?_ 0 _ _ (by exact ⟨.ns, [], [], [], rfl, rfl, .inl ⟨rfl, rfl, rfl, rfl⟩, rfl, rfl⟩) (Nat.zero_le _)
 rintro i _ _ ⟨w, T0, T, J, e, rfl, hGT, hTc, hJc⟩ hi IH
 obtain ⟨j, rfl⟩ := e.open
 clear e
 have hck : ∀ ks : List O, ltO (js ++ ks).length (js ++ ks) = true → ACalls Tryz.prog 29 [mv, .ts (ck.map On.row)] (hpL (js ++ ks)) (js ++ ks).length (.ts ((ck.map (On.rn ρ)).map On.row)) (hpL (js ++ ks)) (js ++ ks).length := fun ks hk => bb3 (h.more hk) ck o5
 generalize (if vB k = true then ρ (nl, nn) else (nl, nn)) = nm at *
 by_cases hil : i < ags.length
 ·obtain ⟨W, hW⟩ : ∃ W, W = T ++ J := ⟨_, rfl⟩
  rw [← hW]
  obtain ⟨x, hx', hxm⟩ := ats hil
  have hxr : (Ex.rows ags)[i]? = some x.row := by rw [aj9, hx']; rfl
  have hd := ltd hil
  have hw := l6 (n := i) (by omega)
  have hroom := p6 (n := i + 1) (b := 72) (by omega) (by omega)
  have hWc : W.all ocl = true := by rw [hW]; simp only [List.all_append, hTc, hJc, Bool.and_self]
  have hwl : w.lt (js.length + 3 + (W ++ [O.no, O.no]).length) = true := hGT.lt (by rw [hW]; simp <;> omega)
  have hm := h.more (lt3 (W := W ++ [.no, .no]) (cs := [.i .i64 kind, .ts (left.map af8), .i .i64 k, .i .i64 op, .i .i64 t, .i .i64 v, .s (nm).1 (nm).2, .ts (Ex.rows (Ex.rns ρ aa)), .i .i64 init, .s node.1 node.2, w, .s every.1 every.2, .ts (ck.map On.row)]) h.lt h0 h1 (by simp only [ltL, V.lt, hwl, r8 _ _ (m0 _), r8 _ _ (j6 _), r8 _ _ (i6 _), Bool.and_self]) (by simp only [List.all_append, hWc, List.all_cons, List.all_nil, ocl, Bool.and_self]))
  have hcc := rexpr_ac hm x (ak2 o4 hxm)
  rw [show (Ex.rn ρ x).row = exr ρ x from rfl] at hcc
  obtain ⟨w', T0', T', J', hgt, hap, hoc⟩ := gt_app3 hGT hW (by omega) (af5 ρ x) hroom [.c false (exr ρ x)] (.c false [.i .i64 kind, .ts (left.map af8), .i .i64 k, .i .i64 op, .i .i64 t, .i .i64 v, .s nl nn, .ts (Ex.rows aa), .i .i64 init, .s node.1 node.2, .ts (Ex.rows ags), .s every.1 every.2, .ts (ck.map On.row)]) (.c false [.i .i64 0, .ns, .i .i64 0, .i .i64 0, .i .i64 0, .i .i64 0, .s 0 0, .ns, .i .i64 0, .s 0 0, .ns, .s 0 0, .ns]) (.c false [.i .i64 kind, .ts (left.map af8), .i .i64 k, .i .i64 op, .i .i64 t, .i .i64 v, .s (nm).1 (nm).2, .ts (Ex.rows (Ex.rns ρ aa)), .i .i64 init, .s node.1 node.2, w, .s every.1 every.2, .ts (ck.map On.row)])
  rw [ad5 hx'] at hgt hoc
  obtain ⟨hTc', hJc'⟩ := hoc hTc hJc (by simp only [List.all_cons, List.all_nil, t8, be2, Bool.and_self]) (al0 (be2 ρ) _ _)
  simp only [List.cons_append, List.nil_append, List.length_cons, List.length_nil, Nat.zero_add, Nat.reduceAdd] at hap
  have hst := hgt.st
  clear hoc hGT hW hm hx
  repeat' (first
   | ((with_reducible refine j3 ?rdq ?_); (case rdq => refine j2 rfl ?_ ?_ <;> simp only [Option.isSome_some, ae7, ae6, m5, hxr, hd, hw, j9, m4, af5, ao2, hap, hst, Nat.add_assoc, SXR, simprocAttr]))
   | (with_reducible refine i7 (hcc) ?_)
   | (simp only [c27, ae7, ae6, m5, hxr, hd, hw, j9, m4, af5, ao2, hap, hst, Nat.add_assoc, SXR, simprocAttr]))
  exact IH (i + 1) _ _ (by exact ⟨w', T0', T', J', rfl, rfl, hgt, hTc', hJc'⟩) hil (by omega)
 ·clear IH
  have hie : i = ags.length := by omega
  subst hie
  have hd := ltn hil
  obtain ⟨W, hW⟩ : ∃ W, W = T ++ J := ⟨_, rfl⟩
  have hWc : W.all ocl = true := by rw [hW]; simp only [List.all_append, hTc, hJc, Bool.and_self]
  have hwl : w.lt (js.length + 3 + W.length) = true := hGT.lt (by rw [hW]; simp <;> omega)
  have hl : ∀ a b : Nat, ltL (js.length + 3 + W.length) [.i .i64 kind, .ts (left.map af8), .i .i64 k, .i .i64 op, .i .i64 t, .i .i64 v, .s (nm).1 (nm).2, .ts (Ex.rows (Ex.rns ρ aa)), .i .i64 init, .s node.1 node.2, w, .s a b, .ts (ck.map On.row)] = true := fun a b => by simp only [ltL, V.lt, hwl, r8 _ _ (m0 _), r8 _ _ (j6 _), r8 _ _ (i6 _), Bool.and_self]
  have hev := h.ac _ (lt3 h.lt h0 h1 (hl every.1 every.2) hWc) every
  have hse : ∀ a b c : O, Se (hpL (js ++ a :: b :: c :: W)) (fun a => js.length ≤ a) w (.ts (ags.map (exr ρ))) := fun a b c => by
   rw [hW]
   exact gt_se3 hGT af2 (by simp) (mem_map (f := exr ρ) (wd := 6) (af5 ρ) ags) (fun a h => by omega)
  rw [← hW]
  cases hB : (every.1 == 0 && every.2 == 0) with
  | true =>
    rw [evN_t hB]
    repeat' (first
     | ((with_reducible refine j3 ?rdq ?_); (case rdq => refine j2 rfl ?_ ?_ <;> simp only [Option.isSome_some, ae7, ae6, m5, hd, hB, and_true, SXR, simprocAttr]))
     | (with_reducible refine i7 (hck _ (lt3 h.lt h0 h1 (hl every.1 every.2) hWc)) ?_)
     | (simp only [c27, ae7, ae6, m5, hd, hB, and_true, SXR, simprocAttr]))
    refine ⟨?_, _, rfl⟩
    exact Sl.ag ⟨.same _, .same _, .same _, .same _, .same _, .same _, .same _, .same _, .same _, .same _, hse _ _ _, .same _, .same _, trivial⟩
  | false =>
    rw [evN_f hB]
    repeat' (first
     | ((with_reducible refine j3 ?rdq ?_); (case rdq => refine j2 rfl ?_ ?_ <;> simp only [Option.isSome_some, ae7, ae6, m5, hd, hB, Bool.false_eq_true, and_true, SXR, simprocAttr]))
     | (with_reducible refine i7 (hev) ?_)
     | (with_reducible refine i7 (hck _ (lt3 h.lt h0 h1 (hl _ _) hWc)) ?_)
     | (simp only [c27, ae7, ae6, m5, hd, hB, Bool.false_eq_true, and_true, SXR, simprocAttr]))
    refine ⟨?_, _, rfl⟩
    exact Sl.ag ⟨.same _, .same _, .same _, .same _, .same _, .same _, .same _, .same _, .same _, .same _, hse _ _ _, .same _, .same _, trivial⟩
def bd5 (s : Str) (l : List Decl) : Bool := l.any (hit s)
def rmD (s : Str) : List Decl → List Decl
 | [] => []
 | d :: l => if hit s d = true then l else d :: rmD s l
theorem rmD_len (s : Str) : ∀ l : List Decl, (rmD s l).length ≤ l.length
 | [] => Nat.le_refl _
 | d :: l => by
   have := rmD_len s l
   simp only [rmD]
   split <;> simp only [List.length_cons] <;> omega
theorem rmD_snoc (s : Str) : ∀ (l : List Decl) (x : Decl), rmD s (l ++ [x]) = if bd5 s l = false ∧ hit s x = true then rmD s l else rmD s l ++ [x]
 | [], x => by
   simp only [List.nil_append, rmD, bd5, List.any_nil, true_and]
 | d :: l, x => by
   simp only [List.cons_append, rmD, bd5, List.any_cons, Bool.or_eq_false_iff]
   by_cases h : hit s d = true
   ·rw [if_pos h, if_pos h, if_neg (by simp [h])]
   ·rw [if_neg h, if_neg h, rmD_snoc s l x]
    have h' : hit s d = false := by simpa using h
    by_cases hc : bd5 s l = false ∧ hit s x = true
    ·rw [if_pos hc, if_pos ⟨⟨h', hc.1⟩, hc.2⟩]
    ·rw [if_neg hc, if_neg (fun e => hc ⟨e.1.2, e.2⟩)]; rfl
theorem hasD_snoc (s : Str) (l : List Decl) (x : Decl) : bd5 s (l ++ [x]) = (bd5 s l || hit s x) := by simp [bd5]
theorem bb7 (s : Str) : ∀ (l : List Decl) (k : Nat), (ak0 s l k = none ∧ bd5 s l = false ∧ rmD s l = l) ∨ ∃ (A C : List Decl) (d : Decl), ak0 s l k = some (k + A.length, d.ty) ∧ bd5 s l = true ∧ l = A ++ d :: C ∧ rmD s l = A ++ C
 | [], k => .inl ⟨rfl, rfl, rfl⟩
 | d :: l, k => by
   simp only [ak0, bd5, List.any_cons, rmD]
   by_cases h : hit s d = true
   ·rw [if_pos h, if_pos h]
    exact .inr ⟨[], l, d, rfl, by simp [h], rfl, rfl⟩
   ·rw [if_neg h, if_neg h]
    have h' : hit s d = false := by simpa using h
    rcases bb7 s l (k + 1) with ⟨h1, h2, h3⟩ | ⟨A, C, x, h1, h2, h3, h4⟩
    ·exact .inl ⟨h1, by rw [h', Bool.false_or]; exact h2, by rw [h3]⟩
    ·exact .inr ⟨d :: A, C, x, by rw [h1, List.length_cons, show k + 1 + A.length = k + (A.length + 1) by omega], by rw [h', Bool.false_or]; exact h2, by rw [h3]; rfl, by rw [h4]; rfl⟩
structure RD (js : List O) (lv : V) (l : List Decl) : Prop where
 len : lenE false lv = some (.i .i64 (l.length : Int))
 get : ∀ (i : Nat) (x : Decl), l[i]? = some x → ∃ ad : V, iadE 3 lv (.i .i64 (i : Int)) = some ad ∧ ∀ ks, ldE (hpL (js ++ ks)) 3 true ad = some (.ag x.row)
theorem RD.ts (js : List O) (l : List Decl) : RD js (.ts (l.map Decl.row)) l := ⟨by rw [len_ts, List.length_map], fun i x hx => ⟨.tp x.row 0, by rw [iad_i, as3, mg hx]; rfl, fun ks => rfl⟩⟩
theorem RD.ns (js : List O) : RD js .ns [] := ⟨rfl, fun i m hm => by simp at hm⟩
theorem RD.sl {js : List O} {a : Nat} {gr : Bool} {l : List Decl} {z : List V} (h : hpL js a = .c gr ((l.map Decl.row).flatten ++ z)) : RD js (.sl a 0 3 l.length none) l := by
 refine ⟨ah2, fun i x hx => ⟨.p a (i * 3), al4 (List.getElem?_eq_some_iff.1 hx).1, fun ks => ?_⟩⟩
 rw [ld_p, ac7 h]
 obtain ⟨p, q, hf, hp⟩ := ao0 (an1 l) (mg (f := Decl.row) hx)
 exact ld_row (s := q ++ z) (by rw [hf]; simp) hp rfl
theorem node1_ac {js : List O} {b : Nat} {gr : Bool} {s : Str} (hb : hpL js b = .c gr [.s s.1 s.2]) (hlt : ltO js.length js = true) (d : Decl) : ACalls Tryz.prog 22 [.ag d.row, .p b 0] (hpL js) js.length (.b (hit s d)) (hpL js) js.length := by
 have hb' := fun ks => ac7 (m := ks) hb
 refine p8 Tryz.func22 k22 rfl rfl (by simp only [V.lt]) hlt ?_
 repeat' (first
  | (simp only [c22, aa8, aa7, hb', Decl.row, hit, SXR, simprocAttr]))
 exact ⟨_, rfl⟩
theorem az3 {js : List O} {b : Nat} {gr : Bool} {s : Str} (hb : hpL js b = .c gr [.s s.1 s.2]) (hlt : ltO js.length js = true) (d : Decl) : ACalls Tryz.prog 51 [.ag d.row, .p b 0] (hpL js) js.length (.b (hit s d)) (hpL js) js.length := by
 have hb' := fun ks => ac7 (m := ks) hb
 refine p8 Tryz.func51 k51 rfl rfl (by simp only [V.lt]) hlt ?_
 repeat' (first
  | (simp only [c51, aa8, aa7, hb', Decl.row, hit, SXR, simprocAttr]))
 exact ⟨_, rfl⟩
theorem bd4 {js : List O} {lv : V} {l : List Decl} {f : FuncId} {b : Nat} {s : Str} (hr : RD js lv l) (hn : l.length < 30000000) (hlt : ltO js.length js = true) (hc : ∀ d : Decl, ACalls Tryz.prog f [.ag d.row, .p b 0] (hpL js) js.length (.b (hit s d)) (hpL js) js.length) :
  ACalls Tryz.prog 50 [lv, .fn f [] [.p b 0]] (hpL js) js.length (.i .i64 (idx (ak0 s l 0))) (hpL js) js.length := by
 have hll := hr.len
 refine p8 Tryz.func50 k50 rfl rfl (by simp only [V.lt]) hlt ?_
 repeat' (first
  | (simp only [c50, aa8, aa7, hll, SXR, simprocAttr]))
 refine o8 (X := Nat) (fun i ll hs => Hd (fun j => [lv, .fn f [] [.p b 0], j 2, j 3, j 4, j 5, lv, .i .i64 (l.length : Int), .i .i64 (i : Int), j 9, j 10, j 11, j 12, j 13, j 14, j 15, j 16, j 17, j 18]) ll ∧ hs = js)
  (fun i => i ≤ l.length ∧ ak0 s l 0 = ak0 s (l.drop i) i) (fun i => l.length - i) ?_ 0 _ _ (by exact ⟨rfl, rfl⟩) ⟨Nat.zero_le _, rfl⟩
 rintro i _ _ ⟨e, rfl⟩ ⟨hi, hinv⟩ IH
 obtain ⟨j, rfl⟩ := e.open
 clear e
 by_cases hil : i < l.length
 ·obtain ⟨x, hx, _⟩ := ats hil
  obtain ⟨ad, h1, h2⟩ := hr.get i x hx
  have h2 := h2 []
  rw [List.append_nil] at h2
  have hd := ltd hil
  have hw := l6 (n := i) (by omega)
  have hcx := hc x
  rw [u9 hx] at hinv
  simp only [ak0] at hinv
  cases hb : hit s x with
  | true =>
    rw [if_pos hb] at hinv
    rw [hinv]
    rw [hb] at hcx
    repeat' (first
     | (with_reducible refine i7 (hcx) ?_)
     | (simp only [c50, aa8, aa7, h1, h2, hd, idx, SXR, simprocAttr]))
    exact ⟨[], by simp⟩
  | false =>
    rw [if_neg (by simp [hb])] at hinv
    rw [hb] at hcx
    repeat' (first
     | (with_reducible refine i7 (hcx) ?_)
     | (simp only [c50, aa8, aa7, h1, h2, hd, hw, SXR, simprocAttr]))
    exact IH (i + 1) _ _ (by exact ⟨rfl, rfl⟩) ⟨hil, hinv⟩ (by omega)
 ·clear IH
  have hd := ltn hil
  rw [List.drop_eq_nil_of_le (by omega)] at hinv
  simp only [ak0] at hinv
  rw [hinv]
  repeat' (first
   | (simp only [c50, aa8, aa7, hd, idx, SXR, simprocAttr]))
  exact ⟨[], by simp⟩
theorem idx_ge (s : Str) (l : List Decl) : decide (idx (ak0 s l 0) ≥ 0) = bd5 s l := by
 rcases bb7 s l 0 with ⟨h1, h2, _⟩ | ⟨A, C, d, h1, h2, _, _⟩
 ·rw [h1, h2]; rfl
 ·rw [h1, h2]; simp [idx]
theorem containsf_ac {js : List O} {lv : V} {l : List Decl} {b : Nat} {gr : Bool} {s : Str} (hr : RD js lv l) (hn : l.length < 30000000) (hlt : ltO js.length js = true) (hb : hpL js b = .c gr [.s s.1 s.2]) :
  ACalls Tryz.prog 21 [lv, .fn 22 [] [.p b 0]] (hpL js) js.length (.b (bd5 s l)) (hpL js) js.length := by
 have hx := bd4 (s := s) hr hn hlt (node1_ac hb hlt)
 have hg := idx_ge s l
 refine p8 Tryz.func21 k21 rfl rfl (by simp only [V.lt]) hlt ?_
 repeat' (first
  | (with_reducible refine i7 (hx) ?_)
  | (simp only [c21, aa8, aa7, hg, SXR, simprocAttr]))
 exact ⟨[], by simp⟩
theorem rdeclared_pc (l : List Decl) (s : Str) (hok : ao6 l) : PC Tryz.prog 28 [.ts (l.map Decl.row), .s s.1 s.2] (.b (bd5 s l)) := by
 have hn := hok.1
 unfold Lst.ok at hn
 refine v6 Tryz.func28 k28 rfl ?_
 repeat' (first
  | (simp only [c28, List.length_map, SXR, simprocAttr]))
 refine o8 (X := Nat) (fun i ll hs => ∃ js : List O, Hd (fun j => [.ts (l.map Decl.row), .s s.1 s.2, j 2, j 3, j 4, .i .i64 (i : Int), j 6, j 7, j 8, j 9, j 10, j 11, j 12, j 13, j 14, j 15, j 16, j 17, j 18]) ll ∧ hs = js)
  (fun i => i ≤ l.length ∧ bd5 s l = bd5 s (l.drop i)) (fun i => l.length - i) ?_ 0 _ _ (by exact ⟨[], rfl, rfl⟩) ⟨Nat.zero_le _, rfl⟩
 rintro i _ _ ⟨js, e, rfl⟩ ⟨hi, hinv⟩ IH
 obtain ⟨j, rfl⟩ := e.open
 clear e
 by_cases hil : i < l.length
 ·obtain ⟨x, hx, _⟩ := ats hil
  have hxr := mg (f := Decl.row) hx
  have hd := ltd hil
  have hw := l6 (n := i) (by omega)
  rw [u9 hx] at hinv
  simp only [bd5, List.any_cons] at hinv
  cases hb : hit s x with
  | true =>
    rw [hb, Bool.true_or] at hinv
    simp only [bd5]
    rw [hinv]
    unfold hit at hb
    repeat' (first
     | (simp only [c28, List.length_map, hxr, o9, at0, hd, hb, SXR, simprocAttr]))
  | false =>
    rw [hb, Bool.false_or] at hinv
    unfold hit at hb
    repeat' (first
     | (simp only [c28, List.length_map, hxr, o9, at0, hd, hb, hw, SXR, simprocAttr]))
    exact IH (i + 1) _ _ (by exact ⟨_, rfl, rfl⟩) ⟨hil, hinv⟩ (by omega)
 ·clear IH
  have hd := ltn hil
  rw [List.drop_eq_nil_of_le (by omega)] at hinv
  rw [hinv]
  repeat' (first
   | (simp only [c28, List.length_map, hd, SXR, simprocAttr]))
  rfl
theorem rwithout_ac {js : List O} (l : List Decl) (s : Str) (hok : ao6 l) (hlt : ltO js.length js = true) : ACalls Tryz.prog 30 [.ts (l.map Decl.row), .s s.1 s.2] (hpL js) js.length (.ts ((rmD s l).map Decl.row)) (hpL js) js.length := by
 have hn := hok.1
 unfold Lst.ok at hn
 refine ai1 Tryz.func30 k30 rfl rfl (by simp only [V.cl]; exact i8 _) hlt ?_
 repeat' (first
  | (simp only [c30, ae7, ae6, SXR, simprocAttr]))
 refine o8 (X := Nat) (fun i ll hs => ∃ (v : V) (T0 T J : List O), Hd (fun j => [.ts (l.map Decl.row), .s s.1 s.2, j 2, j 3, j 4, v, .b (bd5 s (l.take i)), .i .i64 (i : Int), j 8, j 9, j 10, j 11, j 12, j 13, j 14, j 15, j 16, j 17, j 18, j 19, j 20, j 21, j 22, j 23, j 24, j 25, j 26, j 27, j 28, j 29, j 30, j 31, j 32]) ll ∧ hs = js ++ (T ++ J) ∧
   GT js.length 3 (rmD s (l.take i)).length v T0 T ((rmD s (l.take i)).map Decl.row).flatten)
  (fun i => i ≤ l.length) (fun i => l.length - i) ?_ 0 _ _ (by exact ⟨.ns, [], [], [], rfl, by simp, .inl ⟨rfl, rfl, rfl, rfl⟩⟩) (Nat.zero_le _)
 rintro i _ _ ⟨v, T0, T, J, e, rfl, hGT⟩ hi IH
 obtain ⟨j, rfl⟩ := e.open
 clear e
 by_cases hil : i < l.length
 ·obtain ⟨W, hW⟩ : ∃ W, W = T ++ J := ⟨_, rfl⟩
  rw [← hW]
  obtain ⟨x, hx, hxm⟩ := ats hil
  have hxr := mg (f := Decl.row) hx
  have hd := ltd hil
  have hw := l6 (n := i) (by omega)
  have htk : l.take (i + 1) = l.take i ++ [x] := by rw [List.take_add_one, hx]; rfl
  have hrm := rmD_snoc s (l.take i) x
  have hhd := hasD_snoc s (l.take i) x
  rw [← htk] at hrm hhd
  have hlen : (rmD s (l.take i)).length ≤ i := by have := rmD_len s (l.take i); simp at this; omega
  obtain ⟨v', T0', T', J', hgt, hap, _⟩ := as1 (bytes := 48) rfl hGT hW (by omega) (show x.row.length = 3 from rfl) (p6 (by omega) (by omega)) [.c false x.row]
  have hap' : ∀ (rb k' : Nat), rb + k' = js.length + (W.length + 1) → ah6 rb (js ++ (W ++ [.c false x.row, .no])) k' v (some x.row) (some 1) 3 48 = some (v', js ++ (T' ++ J')) := hap
  have hfl : ((rmD s (l.take i)).map Decl.row).flatten ++ x.row = ((rmD s (l.take i) ++ [x]).map Decl.row).flatten := by simp
  have hln : (rmD s (l.take i)).length + 1 = (rmD s (l.take i) ++ [x]).length := by simp
  rw [hfl, hln] at hgt
  simp only [Decl.row] at hap'
  clear hap
  cases hg : bd5 s (l.take i) with
  | true =>
    rw [if_neg (by simp [hg])] at hrm
    rw [hg, Bool.true_or] at hhd
    rw [← hrm] at hgt
    repeat' (first
     | (simp only [c30, ae7, ae6, List.length_map, hxr, hd, hw, o9, Decl.row, hap', Nat.add_assoc, SXR, simprocAttr]))
    exact IH (i + 1) _ _ (by exact ⟨v', T0', T', J', by rw [hhd]; exact rfl, rfl, hgt⟩) hil (by omega)
  | false =>
    cases hb : hit s x with
    | true =>
      rw [if_pos ⟨hg, hb⟩] at hrm
      rw [hb, Bool.or_true] at hhd
      rw [← hrm] at hGT
      unfold hit at hb
      repeat' (first
       | (simp only [c30, ae7, ae6, List.length_map, hxr, hd, hw, o9, Decl.row, hb, Nat.add_assoc, SXR, simprocAttr]))
      exact IH (i + 1) _ _ (by exact ⟨v, T0, T, J, by rw [hhd]; exact rfl, by rw [hW], hGT⟩) hil (by omega)
    | false =>
      rw [if_neg (by simp [hb])] at hrm
      rw [hg, hb, Bool.or_false] at hhd
      rw [← hrm] at hgt
      unfold hit at hb
      repeat' (first
       | (simp only [c30, ae7, ae6, List.length_map, hxr, hd, hw, o9, Decl.row, hb, hap', Nat.add_assoc, SXR, simprocAttr]))
      exact IH (i + 1) _ _ (by exact ⟨v', T0', T', J', by rw [hhd]; exact rfl, rfl, hgt⟩) hil (by omega)
 ·clear IH
  have hie : i = l.length := by omega
  subst hie
  have hd := ltn hil
  rw [List.take_length] at hGT
  repeat' (first
   | (simp only [c30, ae7, ae6, List.length_map, hd, SXR, simprocAttr]))
  exact ⟨gt_se rfl hGT rfl (by simp) (an1 _) (fun a h => h), _, rfl⟩
def sslF (wd : Nat) (x : V) (lo hi mx : Option V) : Option V := evX (fun _ => .und) e0 (.ssl (.k x) (lo.map .k) (hi.map .k) (mx.map .k) wd)
theorem x_sslF {sl : Nat → V} {h : Hp} {x : AO} {lo hi mx : Option AO} {wd : Nat} : evX sl h (.ssl x lo hi mx wd) = sslF wd (evO sl x) (lo.map (evO sl)) (hi.map (evO sl)) (mx.map (evO sl)) := by
 rcases lo with _ | lo <;> rcases hi with _ | hi <;> rcases mx with _ | mx <;> simp only [sslF, evX, evIo, Option.map_some, Option.map_none, eO_k] <;> generalize evO sl x = vx <;> cases vx <;> first | rfl | (generalize vI (evO sl hi) = a; cases a <;> rfl) | (generalize vI (evO sl lo) = a; cases a <;> rfl) | (generalize vI (evO sl lo) = a; generalize vI (evO sl hi) = b; cases a <;> cases b <;> rfl)
theorem x_ssxF {sl : Nat → V} {h : Hp} {x lo hi : AO} {wd : Nat} : evX sl h (.ssx x lo hi wd) = ssxV h wd (evO sl x) (evO sl lo) (evO sl hi) := rfl
theorem sslF_m {a n l h m : Nat} (h1 : l ≤ h) (h2 : h ≤ m) (h3 : m ≤ n) : sslF 3 (.sl a 0 3 n none) (some (.i .i64 (l : Int))) (some (.i .i64 (h : Int))) (some (.i .i64 (m : Int))) = some (.sl a (l * 3) 3 (h - l) (some (m - l))) := by
 simp only [sslF, evX, evIo, evO, vI, Option.map_some]
 rw [if_pos ⟨by omega, by omega, by omega, by omega, trivial⟩]
 simp
theorem sslF_h {a n h : Nat} (h2 : h ≤ n) : sslF 3 (.sl a 0 3 n none) none (some (.i .i64 (h : Int))) none = some (.sl a 0 3 h none) := by
 simp only [sslF, evX, evIo, evO, vI, Option.map_some, Option.map_none]
 rw [if_pos ⟨by omega, by omega, by omega, trivial⟩]
 simp
theorem sslF_l {a n l : Nat} (h2 : l ≤ n) : sslF 3 (.sl a 0 3 n none) (some (.i .i64 (l : Int))) none none = some (.sl a (l * 3) 3 (n - l) none) := by
 simp only [sslF, evX, evIo, evO, vI, Option.map_some, Option.map_none]
 rw [if_pos ⟨by omega, by omega, by omega, trivial⟩]
 simp
theorem bb6 : ∀ (xs q p r : List V), q.length = xs.length → putAt (p ++ (q ++ r)) p.length xs = p ++ (xs ++ r)
 | [], q, p, r, h => by
   rw [List.length_eq_zero_iff.1 h]; rfl
 | x :: xs, [], p, r, h => by simp at h
 | x :: xs, y :: q, p, r, h => by
   have e : (p ++ (y :: q ++ r)).set p.length x = (p ++ [x]) ++ (q ++ r) := by
    rw [List.set_append_right _ _ (Nat.le_refl _), Nat.sub_self]
    simp
   have := bb6 xs q (p ++ [x]) r (by simpa using h)
   simp only [putAt]
   rw [e, show p.length + 1 = (p ++ [x]).length by simp, this]
   simp
def zd : List V := [.s 0 0, .i .i64 0, .ns]
def dfl (l : List Decl) : List V := (l.map Decl.row).flatten
theorem av7 (l : List Decl) : (dfl l).length = l.length * 3 := by unfold dfl; rw [bh4 (an1 l)]; simp
theorem dfl_app (a b : List Decl) : dfl (a ++ b) = dfl a ++ dfl b := by simp [dfl]
theorem dfl_cons (d : Decl) (l : List Decl) : dfl (d :: l) = d.row ++ dfl l := by simp [dfl]
theorem dfl_cl (l : List Decl) : clL (dfl l) = true := by
 induction l with
 | nil => rfl
 | cons d l ih => rw [dfl_cons, af6, be7, ih]; rfl
theorem sdelete_ac {P S : List O} {z : List V} (A C : List Decl) (d : Decl) (hn : A.length + (C.length + 1) < 30000000) (hP : ltO (P.length + (S.length + 1)) P = true) (hS : ltO (P.length + (S.length + 1)) S = true) (hz : clL z = true) :
  ACalls Tryz.prog 52 [.sl P.length 0 3 (A.length + (C.length + 1)) none, .i .i64 (A.length : Int), .i .i64 ((A.length + 1 : Nat) : Int)] (hpL (P ++ .c true (dfl (A ++ d :: C) ++ z) :: S)) (P ++ .c true (dfl (A ++ d :: C) ++ z) :: S).length
   (.sl P.length 0 3 (A.length + C.length) none) (hpL (P ++ .c true (dfl (A ++ C) ++ (zd ++ z)) :: S)) (P ++ .c true (dfl (A ++ C) ++ (zd ++ z)) :: S).length := by
 obtain ⟨cs, hcs⟩ : ∃ cs, cs = dfl (A ++ d :: C) ++ z := ⟨_, rfl⟩
 obtain ⟨c2, hc2⟩ : ∃ c2, c2 = dfl (A ++ C) ++ (zd ++ z) := ⟨_, rfl⟩
 have hcl2 : clL c2 = true := by rw [hc2, af6, af6, dfl_cl, hz]; rfl
 have hlc : cs.length = (A.length + (C.length + 1)) * 3 + z.length := by rw [hcs, List.length_append, av7]; simp
 obtain ⟨y, hy, c1, hc1, hput⟩ : ∃ y : List V, y.length = 3 ∧ ∃ c1 : List V, c1 = dfl (A ++ C) ++ (y ++ z) ∧ putAt cs (A.length * 3) (dfl C) = c1 := by
  have e1 : cs = dfl A ++ ((d.row ++ dfl C) ++ z) := by rw [hcs, dfl_app, dfl_cons]; simp
  have e2 : d.row ++ dfl C = ((d.row ++ dfl C).take (dfl C).length) ++ ((d.row ++ dfl C).drop (dfl C).length) := (List.take_append_drop _ _).symm
  refine ⟨(d.row ++ dfl C).drop (dfl C).length, by rw [List.length_drop, List.length_append, o9]; omega, _, rfl, ?_⟩
  have := bb6 (dfl C) ((d.row ++ dfl C).take (dfl C).length) (dfl A) ((d.row ++ dfl C).drop (dfl C).length ++ z) (by rw [List.length_take, List.length_append]; omega)
  rw [av7 A] at this
  rw [e1, e2, List.append_assoc, this, dfl_app]
  simp
 have hl1 : c1.length = cs.length := by rw [hc1, hlc, List.length_append, List.length_append, av7, hy]; simp; omega
 have hput2 : putAt c1 ((A.length + C.length) * 3) [V.s 0 0, V.i .i64 0, V.ns] = c2 := by
  rw [hc1, hc2, show (A.length + C.length) * 3 = (dfl (A ++ C)).length by rw [av7]; simp]
  exact bb6 zd y (dfl (A ++ C)) z (by rw [hy]; rfl)
 rw [← hcs, ← hc2]
 have hs1 := sslF_m (a := P.length) (n := A.length + (C.length + 1)) (l := A.length) (h := A.length + 1) (m := A.length + (C.length + 1)) (by omega) (by omega) (by omega)
 have hs2 := sslF_h (a := P.length) (n := A.length + (C.length + 1)) (h := A.length) (by omega)
 have hs3 := sslF_l (a := P.length) (n := A.length + (C.length + 1)) (l := A.length + 1) (by omega)
 rw [show A.length + (C.length + 1) - (A.length + 1) = C.length by omega] at hs3
 have hne : ((A.length : Int) == ((A.length + 1 : Nat) : Int)) = false := by simp only [beq_eq_false_iff_ne, ne_eq]; omega
 have hsee : seeO ((A.length + 1) * 3) (C.length * 3) (.c true cs) = some (dfl C) := by
  rw [seo_c (by rw [Nat.ble_eq]; omega)]
  have e1 : cs = (dfl A ++ d.row) ++ (dfl C ++ z) := by rw [hcs, dfl_app, dfl_cons]; simp
  have e2 : (A.length + 1) * 3 = (dfl A ++ d.row).length := by rw [List.length_append, av7, o9]; omega
  rw [e1, e2, List.drop_left, ← av7 C, List.take_left]
 have hap : ∀ (rb k : Nat) (S' : List O), ah6 rb (P ++ .c true cs :: S') k (.sl P.length 0 3 A.length none) (some (dfl C)) (some C.length) 3 48 = some (.sl P.length 0 3 (A.length + C.length) none, P ++ .c true c1 :: S') := by
  intro rb k S'
  have := app_fit (hs := P ++ .c true cs :: S') (rb := rb) (k := k) (a := P.length) (len := A.length) (wd := 3) (bytes := 48) (gr := true) (cs := cs) (rows := C.map Decl.row) rfl hp_ap0 (by simp) (by rw [hlc]; simp; omega) (fun h => by
   rw [List.length_map] at h
   rw [List.length_eq_zero_iff.1 h]; rfl)
  rw [List.length_map, show (C.map Decl.row).flatten = dfl C from rfl, hput, as0] at this
  exact this
 have hsx : ∀ S', ssxV (hpL (P ++ .c true c1 :: S')) 3 (.sl P.length 0 3 (A.length + C.length) none) (.i .i64 ((A.length + C.length : Nat) : Int)) (.i .i64 ((A.length + (C.length + 1) : Nat) : Int)) = some (.sl P.length ((A.length + C.length) * 3) 3 1 none) := by
  intro S'
  simp only [ssxV, vI, hp_ap0]
  rw [if_pos ⟨by omega, by omega, trivial, by omega, by rw [hl1, hlc]; omega⟩]
  simp only [Int.toNat_natCast, Nat.zero_add]
  rw [show A.length + (C.length + 1) - (A.length + C.length) = 1 by omega]
 have hclr : ∀ S', clrB (P ++ .c true c1 :: S') 3 [.s 0 0, .i .i64 0, .ns] (.sl P.length ((A.length + C.length) * 3) 3 1 none) = some (P ++ .c true c2 :: S') := by
  intro S'
  simp only [clrB, hp_ap0]
  rw [if_pos ⟨trivial, rfl, by rw [hl1, hlc]; omega⟩, as0]
  have : (List.replicate 1 [V.s 0 0, .i .i64 0, .ns]).flatten = [V.s 0 0, .i .i64 0, .ns] := rfl
  rw [this, hput2]
 have hlt2 : ltO (P ++ O.c true cs :: S).length (P ++ O.c true c2 :: S) = true := by
  rw [show (P ++ O.c true cs :: S).length = P.length + (S.length + 1) by simp]
  exact aa5 hP (by simp only [ltO, O.lt, t9 _ _ hcl2, hS, Bool.and_self])
 clear hput hput2 hc1 hy hcl2
 refine p8 Tryz.func52 k52 rfl (by simp) (by simp only [V.lt, decide_eq_true_eq]; simp) hlt2 ?_
 repeat' (first
  | (simp only [c52, aa8, aa7, x_sslF, x_ssxF, Option.map_none, ah2, hs1, hs2, hs3, hne, hsee, hap, hsx, hclr, SXR, simprocAttr]))
 exact ⟨_, by simp; rfl⟩
theorem swithout_ac {P S : List O} {z : List V} (l : List Decl) (s : Str) (hn : l.length < 30000000) (hP : ltO (P.length + (S.length + 1)) P = true) (hS : ltO (P.length + (S.length + 1)) S = true) (hz : clL z = true) :
  ∃ z', clL z' = true ∧ ACalls Tryz.prog 24 [.sl P.length 0 3 l.length none, .s s.1 s.2] (hpL (P ++ .c true (dfl l ++ z) :: S)) (P ++ .c true (dfl l ++ z) :: S).length
   (.sl P.length 0 3 (rmD s l).length none) (hpL (P ++ .c true (dfl (rmD s l) ++ z') :: S)) (P ++ .c true (dfl (rmD s l) ++ z') :: S).length := by
 have hlt : ∀ c, clL c = true → ltO (P ++ O.c true c :: S).length (P ++ O.c true c :: S) = true := fun c hc => by
  rw [show (P ++ O.c true c :: S).length = P.length + (S.length + 1) by simp]
  exact aa5 hP (by simp only [ltO, O.lt, t9 _ _ hc, hS, Bool.and_self])
 have h0 := hlt (dfl l ++ z) (by rw [af6, dfl_cl, hz]; rfl)
 have h1 : ltO ((P ++ O.c true (dfl l ++ z) :: S) ++ [O.c false [.s s.1 s.2]]).length ((P ++ O.c true (dfl l ++ z) :: S) ++ [O.c false [.s s.1 s.2]]) = true := ah1 (by simp) h0 rfl
 have hb : hpL ((P ++ O.c true (dfl l ++ z) :: S) ++ [O.c false [.s s.1 s.2]]) (P.length + (S.length + 1)) = .c false [.s s.1 s.2] := by
  have := hp_mid (us := P ++ O.c true (dfl l ++ z) :: S) (W := []) (I0 := []) (K := []) (o := O.c false [.s s.1 s.2])
  simpa using this
 have hix := bd4 (s := s) (RD.sl (js := (P ++ O.c true (dfl l ++ z) :: S) ++ [O.c false [.s s.1 s.2]]) (a := P.length) (gr := true) (l := l) (z := z) (by
  rw [List.append_assoc]
  exact hp_ap0)) hn h1 (az3 hb h1)
 simp only [List.append_assoc, List.cons_append] at hix
 have hlw : ∀ m, (V.sl P.length 0 3 m none).lt (P ++ O.c true (dfl l ++ z) :: S).length = true := fun m => by simp only [V.lt, decide_eq_true_eq]; simp
 rcases bb7 s l 0 with ⟨p1, p2, p3⟩ | ⟨A, C, d, p1, p2, p3, p4⟩
 ·refine ⟨z, hz, ?_⟩
  rw [p3]
  rw [p1] at hix
  refine p8 Tryz.func24 k24 rfl rfl (hlw _) h0 ?_
  repeat' (first
   | (with_reducible refine i7 (hix) ?_)
   | (simp only [c24, aa8, aa7, idx, SXR, simprocAttr]))
  exact ⟨_, by simp; rfl⟩
 ·have hln : l.length = A.length + (C.length + 1) := by rw [p3]; simp
  refine ⟨zd ++ z, by rw [af6, hz]; rfl, ?_⟩
  have hdl := sdelete_ac (P := P) (S := S ++ [.c false [.s s.1 s.2]]) (z := z) A C d (by omega) (ao7 hP (by simp)) (ah1 (by simp) hS rfl) hz
  rw [← p3, ← hln] at hdl
  rw [p1] at hix
  rw [p4]
  have hcl2 : clL (dfl (A ++ C) ++ (zd ++ z)) = true := by rw [af6, af6, dfl_cl, hz]; rfl
  have h2 := hlt _ hcl2
  rw [show (P ++ O.c true (dfl (A ++ C) ++ (zd ++ z)) :: S).length = (P ++ O.c true (dfl l ++ z) :: S).length by simp] at h2
  have hw := l6 (n := A.length) (by omega)
  have hge : decide ((A.length : Int) < 0) = false := by simp
  have hlen : (A ++ C).length = A.length + C.length := by simp
  rw [hlen]
  refine p8 Tryz.func24 k24 rfl (by simp) (by simp only [V.lt, decide_eq_true_eq]; simp) h2 ?_
  repeat' (first
   | (with_reducible refine i7 (hix) ?_)
   | (with_reducible refine i7 (hdl) ?_)
   | (simp only [c24, aa8, aa7, idx, hw, hge, SXR, simprocAttr]))
  exact ⟨_, by simp; rfl⟩
theorem swithout_ns {js : List O} (s : Str) (hlt : ltO js.length js = true) : ACalls Tryz.prog 24 [.ns, .s s.1 s.2] (hpL js) js.length .ns (hpL js) js.length := by
 have h1 : ltO (js ++ [O.c false [.s s.1 s.2]]).length (js ++ [O.c false [.s s.1 s.2]]) = true := ah1 (by simp) hlt rfl
 have hb : hpL (js ++ [O.c false [.s s.1 s.2]]) js.length = .c false [.s s.1 s.2] := hp_ap0
 have hix := bd4 (s := s) (RD.ns (js ++ [O.c false [.s s.1 s.2]])) (by simp) h1 (az3 hb h1)
 simp only [ak0] at hix
 refine p8 Tryz.func24 k24 rfl rfl (by simp only [V.lt]) hlt ?_
 repeat' (first
  | (with_reducible refine i7 (hix) ?_)
  | (simp only [c24, aa8, aa7, idx, SXR, simprocAttr]))
 exact ⟨_, rfl⟩
end Go.Proofs.YtieogkafbnnjcaaGreatDoor
