/-
  A node with shared delays: the reference's walk.
  A node is the same as itself.
  Two delays of one variable; the law.
-/
import Derived.Test.YtieogkafbnnjcaaGreatDoorMl
set_option linter.unusedSimpArgs false
set_option linter.unusedVariables false
namespace Go.Proofs.YtieogkafbnnjcaaGreatDoor
open Go Go.B
theorem lk_cases (n : NNode) {i : Nat} (hi : i < n.eqs.length) : ∃ m : Int, (EM n)[i]? = some m ∧ ((decide (m ≥ 0) = false ∧ decide (m < 0) = true ∧ lkR n i = none) ∨ (m = (i : Int) ∧ lkR n i = none) ∨
  ∃ (r : Nat) (q d : NEqn), m = (r : Int) ∧ r ≠ i ∧ n.eqs[i]? = some q ∧ isD q = true ∧ n.eqs[r]? = some d ∧ isD d = true ∧ lkR n i = some (hd1 d)) := by
 obtain ⟨m, hm, _⟩ := ats (show i < (EM n).length by rw [EM_len]; exact hi)
 refine ⟨m, hm, ?_⟩
 by_cases h0 : 0 ≤ m
 ·obtain ⟨r, q, d, rfl, h2, h3, h4, h5, _⟩ := EM_ge n hm h0
  by_cases hr : r = i
  ·refine .inr (.inl ⟨by rw [hr], ?_⟩)
   unfold lkR
   rw [hm]
   simp only
   rw [if_neg (by omega)]
  ·exact .inr (.inr ⟨r, q, d, rfl, hr, h2, h3, h4, h5, lkR_of n hm hr h4⟩)
 ·refine .inl ⟨by simp; omega, by simp; omega, ?_⟩
  unfold lkR
  rw [hm]
  simp only
  rw [if_neg (fun e => h0 e.1)]
set_option maxRecDepth 10000 in
set_option maxHeartbeats 8000000 in
theorem rnode_pc (n : NNode) (hok : n.ok) : PC Tryz.prog 9 [.ag n.row] (.ag (nodeN n).row) := by
 obtain ⟨o1, o2, o3, o4, o5⟩ := id hok
 have hne := o4
 unfold Lst.ok at hne
 have hnum : PC Tryz.prog 25 [.ag n.row] (.ts (al6 (EM n))) := numbers_pc n hok
 have hEl := EM_len n
 have hge0 : ∀ a : Nat, decide ((a : Int) ≥ 0) = true := fun a => by simp
 have hlt0 : ∀ a : Nat, decide ((a : Int) < 0) = false := fun a => by simp
 have hne0 : ∀ a : Nat, ((a : Int) != (a : Int)) = false := fun a => by simp
 have heq0 : ∀ a : Nat, ((a : Int) == (a : Int)) = true := fun a => by simp
 refine ac1 Tryz.func9 k9 rfl ?_
 repeat' (first
  | ((with_reducible refine j3 ?rdq ?_); (case rdq => refine j2 rfl ?_ ?_ <;> simp only [Option.isSome_some, u5, u4, e8, j7, b9, aq3, SXR, simprocAttr]))
  | (with_reducible refine b8 (hnum) (by simp only [SXR, b9, aq3]) (by simp only [SXR, b9, aq3]) ?_)
  | (simp only [c9, u5, u4, e8, j7, b9, aq3, SXR, simprocAttr]))
 refine o8 (X := Nat) (fun i ll hs => ∃ (v : V) (T0 T J : List O), Hd (fun j => [j 0, .p 0 0, .p 1 0, .ts (al6 (EM n)), v, .i .i64 (i : Int), j 6, j 7, j 8, j 9, j 10, j 11, j 12, j 13, j 14, j 15, j 16, j 17, j 18, j 19, j 20, j 21, j 22, j 23, j 24, j 25, j 26, j 27, j 28, j 29, j 30, j 31, j 32, j 33, j 34, j 35, j 36, j 37, j 38, j 39, j 40, j 41, j 42, j 43, j 44, j 45, j 46, j 47, j 48, j 49, j 50, j 51, j 52, j 53, j 54, j 55, j 56, j 57, j 58, j 59, j 60, j 61, j 62, j 63, j 64, j 65, j 66, j 67, j 68, j 69, j 70, j 71, j 72, j 73, j 74, j 75, j 76, j 77, j 78, j 79, j 80, j 81, j 82, j 83, j 84, j 85, j 86, j 87, j 88, j 89, j 90, j 91, j 92, j 93, j 94, j 95, j 96, j 97, j 98, j 99, j 100, j 101, j 102, j 103, j 104, j 105, j 106, j 107, j 108, j 109, j 110, j 111, j 112, j 113, j 114, j 115, j 116, j 117, j 118, j 119, j 120, j 121, j 122, j 123, j 124, j 125, j 126, j 127, j 128, j 129, j 130, j 131, j 132, j 133, j 134, j 135, j 136, j 137, j 138, j 139, j 140, j 141, j 142]) ll ∧ hs = .c false n.row :: .c false [.s 0 0, .ns, .ns, .ns, .ns] :: (T ++ J) ∧
   GT 2 2 (aa3 n i).length v T0 T ((aa3 n i).map trow).flatten ∧ T.all ocl = true ∧ J.all ocl = true)
  (fun i => i ≤ n.eqs.length) (fun i => n.eqs.length - i) ?_ 0 _ _ (by exact ⟨.ns, [], [], [], rfl, rfl, .inl ⟨rfl, rfl, rfl, rfl⟩, rfl, rfl⟩) (Nat.zero_le _)
 rintro i _ _ ⟨v, T0, T, J, e, rfl, hGT, hTc, hJc⟩ hi IH
 obtain ⟨j, rfl⟩ := e.open
 clear e
 by_cases hil : i < n.eqs.length
 ·obtain ⟨W, hW⟩ : ∃ W, W = T ++ J := ⟨_, rfl⟩
  rw [← hW]
  have hd := ltd (show i < (EM n).length by omega)
  have hw := l6 (n := i) (by omega)
  obtain ⟨m, hm, hcase⟩ := lk_cases n hil
  have hmr := az1 hm
  rcases hcase with ⟨c1, c2, c3⟩ | ⟨rfl, c3⟩ | ⟨r, q, d, rfl, c1, hq, hDq, hdq, hDd, c3⟩
  ·rw [← turn_no c3] at hGT
   repeat' (first
    | ((with_reducible refine j3 ?rdq ?_); (case rdq => refine j2 rfl ?_ ?_ <;> simp only [Option.isSome_some, u5, u4, ab9, hmr, hd, hw, c1, SXR, simprocAttr]))
    | (simp only [c9, u5, u4, ab9, hmr, hd, hw, c1, SXR, simprocAttr]))
   exact IH (i + 1) _ _ (by exact ⟨v, T0, T, J, rfl, by rw [hW], hGT, hTc, hJc⟩) hil (by omega)
  ·rw [← turn_no c3] at hGT
   repeat' (first
    | ((with_reducible refine j3 ?rdq ?_); (case rdq => refine j2 rfl ?_ ?_ <;> simp only [Option.isSome_some, u5, u4, ab9, hmr, hd, hw, hge0, hne0, heq0, Bool.not_true, bne, SXR, simprocAttr]))
    | (simp only [c9, u5, u4, ab9, hmr, hd, hw, hge0, hne0, heq0, Bool.not_true, bne, SXR, simprocAttr]))
   exact IH (i + 1) _ _ (by exact ⟨v, T0, T, J, rfl, by rw [hW], hGT, hTc, hJc⟩) hil (by omega)
  ·have hta := turn_add hq c3
   have htl := at8 n i
   have hl1 : q.left.map af8 = [[.s (hd1 q).1 (hd1 q).2]] := by rw [ab8 hDq]; rfl
   have hl2 : d.left.map af8 = [[.s (hd1 d).1 (hd1 d).2]] := by rw [ab8 hDd]; rfl
   have hqr := mg (f := NEqn.row) hq
   have hdr := mg (f := NEqn.row) hdq
   have hri : ((r : Int) == (i : Int)) = false := by simp only [beq_eq_false_iff_ne, ne_eq]; omega
   obtain ⟨v', T0', T', J', hgt, hap, hoc⟩ := as1 (P := [.c false n.row, .c false [.s 0 0, .ns, .ns, .ns, .ns]]) (bytes := 32) rfl hGT hW (by omega) (show (trow (hd1 q, hd1 d)).length = 2 from rfl) (p6 (by omega) (by omega)) [.c false (trow (hd1 q, hd1 d))]
   have hfl : ((aa3 n i).map trow).flatten ++ trow (hd1 q, hd1 d) = ((aa3 n (i + 1)).map trow).flatten := by rw [hta]; simp
   have hln : (aa3 n i).length + 1 = (aa3 n (i + 1)).length := by rw [hta]; simp
   have htc : ∀ l : List (Str × Str), clL (l.map trow).flatten = true := fun l => by
    induction l with
    | nil => rfl
    | cons x l ih => rw [List.map_cons, List.flatten_cons, af6, ih]; rfl
   rw [hfl, hln] at hgt
   rw [hfl] at hoc
   obtain ⟨hTc', hJc'⟩ := hoc hTc hJc rfl (htc _)
   have hap' : ∀ (rb k' : Nat), rb + k' = W.length + 3 → ah6 rb (.c false n.row :: .c false [.s 0 0, .ns, .ns, .ns, .ns] :: (W ++ [.c false [.s (hd1 q).1 (hd1 q).2, .s (hd1 d).1 (hd1 d).2], .no])) k' v (some [.s (hd1 q).1 (hd1 q).2, .s (hd1 d).1 (hd1 d).2]) (some 1) 2 32 = some (v', .c false n.row :: .c false [.s 0 0, .ns, .ns, .ns, .ns] :: (T' ++ J')) := fun rb k' e => hap rb k' (by rw [e]; simp; omega)
   clear hap hoc hGT hW
   repeat' (first
    | ((with_reducible refine j3 ?rdq ?_); (case rdq => refine j2 rfl ?_ ?_ <;> simp only [Option.isSome_some, u5, u4, ab9, hmr, hd, hw, hge0, hri, Bool.not_false, bne, e8, nn4, hqr, hdr, f0, j0, hl1, hl2, hap', Nat.add_assoc, SXR, simprocAttr]))
    | (simp only [c9, u5, u4, ab9, hmr, hd, hw, hge0, hri, Bool.not_false, bne, e8, nn4, hqr, hdr, f0, j0, hl1, hl2, hap', Nat.add_assoc, SXR, simprocAttr]))
   exact IH (i + 1) _ _ (by exact ⟨v', T0', T', J', rfl, rfl, hgt, hTc', hJc'⟩) hil (by omega)
 ·clear IH
  have hie : i = n.eqs.length := by omega
  subst hie
  have hd := ltn (show ¬ n.eqs.length < (EM n).length by omega)
  obtain ⟨us, hus⟩ : ∃ us : List O, us = .c false n.row :: .c false [.s 0 0, .ns, .ns, .ns, .ns] :: (T ++ J) := ⟨_, rfl⟩
  rw [← hus]
  have hU0 : ∀ ks, hpL (us ++ ks) 0 = .c false n.row := fun ks => by rw [hus]; rfl
  have hU0' : hpL us 0 = .c false n.row := by rw [hus]; rfl
  have hult : ltO us.length us = true := by
   rw [hus]
   exact af4 (by simp only [List.all_cons, List.all_append, hTc, hJc, ocl, clL, V.cl, b9, Bool.and_self])
  have hRT : RT us v (aa3 n n.eqs.length) := by
   rcases hGT with ⟨h1, h2, _, _⟩ | ⟨_, h2, h3, _⟩
   ·rw [List.length_eq_zero_iff.1 h1, h2]; exact RT.ns us
   ·rw [h3]
    refine RT.sl (gr := true) ?_
    have := hp_mid (us := [.c false n.row, .c false [.s 0 0, .ns, .ns, .ns, .ns]]) (W := []) (I0 := T0) (K := J) (o := .c true ((aa3 n n.eqs.length).map trow).flatten)
    rw [hus, h2]
    simpa using this
  have htl := at8 n n.eqs.length
  have hnm : NmC 57 us v (q9 n) := rturn_nm hRT (by omega) hult
  have hc1 := bb2 (hnm.moreo (zs := [.no]) rfl) n.ins o1
  have hc2 := bb2 (hnm.moreo (zs := [.no]) rfl) n.outs o2
  clear hGT hRT hnum
  repeat' (first
   | ((with_reducible refine j3 ?rdq ?_); (case rdq => refine j2 rfl ?_ ?_ <;> simp only [Option.isSome_some, u5, u4, ab9, hd, hU0, hU0', e8, nn0, nn1, nn2, nn3, SXR, simprocAttr]))
   | (with_reducible refine i7 (hc1) ?_)
   | (with_reducible refine i7 (hc2) ?_)
   | (simp only [c9, u5, u4, ab9, hd, hU0, hU0', e8, nn0, nn1, nn2, nn3, SXR, simprocAttr]))
  refine o8 (X := Nat) (fun i ll hs => ∃ (ev : V) (T0 T J : List O) (rs : List (List V)), Hd (fun j => [j 0, .p 0 0, .p 1 0, .ts (al6 (EM n)), v, j 5, .ts ((al3 n n.locals i).map Decl.row), .p us.length 0, .i .i64 (i : Int), j 9, j 10, j 11, j 12, j 13, j 14, j 15, j 16, j 17, j 18, j 19, j 20, j 21, j 22, j 23, j 24, j 25, j 26, j 27, j 28, j 29, j 30, j 31, j 32, j 33, j 34, j 35, j 36, j 37, j 38, j 39, j 40, j 41, j 42, j 43, j 44, j 45, j 46, j 47, j 48, j 49, j 50, j 51, j 52, j 53, j 54, j 55, j 56, j 57, j 58, j 59, j 60, j 61, j 62, j 63, j 64, j 65, j 66, j 67, j 68, j 69, j 70, j 71, j 72, j 73, j 74, j 75, j 76, j 77, j 78, j 79, j 80, j 81, j 82, j 83, j 84, j 85, j 86, j 87, j 88, j 89, j 90, j 91, j 92, j 93, j 94, j 95, j 96, j 97, j 98, j 99, j 100, j 101, j 102, j 103, j 104, j 105, j 106, j 107, j 108, j 109, j 110, j 111, j 112, j 113, j 114, j 115, j 116, j 117, j 118, j 119, j 120, j 121, j 122, j 123, j 124, j 125, j 126, j 127, j 128, j 129, j 130, j 131, j 132, j 133, j 134, j 135, j 136, j 137, j 138, j 139, j 140, j 141, j 142]) ll ∧ hs = us ++ .c false [.s n.nm.1 n.nm.2, .ts ((n.ins.map (Decl.rn (q9 n))).map Decl.row), .ts ((n.outs.map (Decl.rn (q9 n))).map Decl.row), .ns, ev] :: (T ++ J) ∧ EV (us.length + 1) ev T0 T J rs (av5 n i))
   (fun i => i ≤ n.eqs.length) (fun i => n.eqs.length - i) ?_ 0 _ _ (by exact ⟨.ns, [], [], [], [], rfl, rfl, EV.nil⟩) (Nat.zero_le _)
  clear hc1 hc2
  rintro i _ _ ⟨ev, T0', T', J', rs, e, rfl, hEV⟩ hi IH
  obtain ⟨j, rfl⟩ := e.open
  clear e
  obtain ⟨W, hW⟩ : ∃ W, W = T' ++ J' := ⟨_, rfl⟩
  rw [← hW]
  have hlok := locN_ok n n.locals o3 i
  have hevl : ∀ m, us.length + 1 + W.length ≤ m → ev.lt m = true := fun m hm => hEV.gt.lt (by rw [hW] at hm; simp at hm; omega)
  have hWlt : ∀ m, us.length + 1 + W.length ≤ m → ltO m W = true := fun m hm => by
   have := hEV.lt
   rw [← hW] at this
   exact ao7 this hm
  have hbx : ∀ X, X.all ocl = true → ltO (us ++ .c false [.s n.nm.1 n.nm.2, .ts ((n.ins.map (Decl.rn (q9 n))).map Decl.row), .ts ((n.outs.map (Decl.rn (q9 n))).map Decl.row), .ns, ev] :: (W ++ X)).length (us ++ .c false [.s n.nm.1 n.nm.2, .ts ((n.ins.map (Decl.rn (q9 n))).map Decl.row), .ts ((n.outs.map (Decl.rn (q9 n))).map Decl.row), .ns, ev] :: (W ++ X)) = true := fun X hX => by
   have hm : us.length + 1 + W.length ≤ (us ++ O.c false [.s n.nm.1 n.nm.2, .ts ((n.ins.map (Decl.rn (q9 n))).map Decl.row), .ts ((n.outs.map (Decl.rn (q9 n))).map Decl.row), .ns, ev] :: (W ++ X)).length := by simp; omega
   have hm2 : us.length ≤ (us ++ O.c false [.s n.nm.1 n.nm.2, .ts ((n.ins.map (Decl.rn (q9 n))).map Decl.row), .ts ((n.outs.map (Decl.rn (q9 n))).map Decl.row), .ns, ev] :: (W ++ X)).length := by simp
   generalize (us ++ O.c false [.s n.nm.1 n.nm.2, .ts ((n.ins.map (Decl.rn (q9 n))).map Decl.row), .ts ((n.outs.map (Decl.rn (q9 n))).map Decl.row), .ns, ev] :: (W ++ X)).length = m at *
   refine aa5 (ao7 hult hm2) ?_
   have h1 : (O.c false [.s n.nm.1 n.nm.2, .ts ((n.ins.map (Decl.rn (q9 n))).map Decl.row), .ts ((n.outs.map (Decl.rn (q9 n))).map Decl.row), .ns, ev]).lt m = true := by simp only [O.lt, ltL, V.lt, hevl m hm, r8 _ _ (i8 _), Bool.and_self]
   have h2 : ltO m (W ++ X) = true := aa5 (hWlt m hm) (af4 hX)
   simp only [ltO, h1, h2, Bool.and_self]
  by_cases hil : i < n.eqs.length
  ·obtain ⟨q, hq, hqm⟩ := ats hil
   have hqr := mg (f := NEqn.row) hq
   have hd := ltd hil
   have hw := l6 (n := i) (by omega)
   have hel := ay4 n i
   have hqo : ocl (.c false q.row) = true := by rw [t8]; exact j5 q
   obtain ⟨m, hm, hcase⟩ := lk_cases n hil
   have hmr := az1 hm
   have hnone : lkR n i = none → ∃ (ev' : V) (T2 T1 : List O), EV (us.length + 1) ev' T2 T1 [] (rs ++ [(q.rn (q9 n)).row]) (av5 n (i + 1)) ∧ al3 n n.locals (i + 1) = al3 n n.locals i ∧
     (∀ (rb k' : Nat), rb + k' = us.length + (W.length + 3) → ah6 rb (us ++ .c false [.s n.nm.1 n.nm.2, .ts ((n.ins.map (Decl.rn (q9 n))).map Decl.row), .ts ((n.outs.map (Decl.rn (q9 n))).map Decl.row), .ns, ev] :: (W ++ [.c false q.row, .c false (q.rn (q9 n)).row, .no])) k' ev (some (q.rn (q9 n)).row) (some 1) 13 192 = some (ev', us ++ .c false [.s n.nm.1 n.nm.2, .ts ((n.ins.map (Decl.rn (q9 n))).map Decl.row), .ts ((n.outs.map (Decl.rn (q9 n))).map Decl.row), .ns, ev] :: T1)) := by
    intro hl
    have heq : av5 n (i + 1) = av5 n i ++ [q.rn (q9 n)] := by simp only [av5, hq, hl, bg8]
    have hro : ocl (.c false (q.rn (q9 n)).row) = true := by rw [t8]; exact j5 _
    obtain ⟨ev', T2, T1, hEV', hap⟩ := hEV.app (P := us ++ [.c false [.s n.nm.1 n.nm.2, .ts ((n.ins.map (Decl.rn (q9 n))).map Decl.row), .ts ((n.outs.map (Decl.rn (q9 n))).map Decl.row), .ns, ev]]) (by simp) hW (by omega) (q.rn (q9 n)).row (q.rn (q9 n)) [.c false q.row, .c false (q.rn (q9 n)).row] (f0 _) (af4 (by simp only [List.all_cons, List.all_nil, hqo, hro, Bool.and_self])) (t9 _ _ (j5 _)) Sl.refl
    rw [← heq] at hEV'
    refine ⟨ev', T2, T1, hEV', by simp only [al3, hq, hl], fun rb k' e => ?_⟩
    have := hap rb k' (by rw [e]; simp; omega)
    simp only [List.append_assoc, List.cons_append, List.nil_append] at this ⊢
    exact this
   have hc := requation_ac (hnm.more (hbx [.c false q.row, .no, .no] (by simp only [List.all_cons, List.all_nil, ocl, j5, Bool.and_self]))) q (o5 q hqm)
   rcases hcase with ⟨c1, c2, c3⟩ | ⟨rfl, c3⟩ | ⟨r, q', d, rfl, c1, hq', hDq, hdq, hDd, c3⟩
   ·obtain ⟨ev', T2, T1, hEV', hlo, hap⟩ := hnone c3
    have hst := hEV'.gt.st
    clear hEV hbx hnone hW
    repeat' (first
     | ((with_reducible refine j3 ?rdq ?_); (case rdq => refine j2 rfl ?_ ?_ <;> simp only [Option.isSome_some, u5, u4, hmr, hd, hw, hqr, hU0, e8, nn4, List.length_map, c2, p5, i5, f0, hap, hst, Nat.add_assoc, SXR, simprocAttr]))
     | (with_reducible refine i7 (hc) ?_)
     | (simp only [c9, u5, u4, hmr, hd, hw, hqr, hU0, e8, nn4, List.length_map, c2, p5, i5, f0, hap, hst, Nat.add_assoc, SXR, simprocAttr]))
    exact IH (i + 1) _ _ (by exact ⟨ev', T2, T1, [], _, by rw [hlo]; exact rfl, by rw [List.append_nil], hEV'⟩) hil (by omega)
   ·obtain ⟨ev', T2, T1, hEV', hlo, hap⟩ := hnone c3
    have hst := hEV'.gt.st
    clear hEV hbx hnone hW
    repeat' (first
     | ((with_reducible refine j3 ?rdq ?_); (case rdq => refine j2 rfl ?_ ?_ <;> simp only [Option.isSome_some, u5, u4, hmr, hd, hw, hqr, hU0, e8, nn4, List.length_map, hlt0, heq0, p5, i5, f0, hap, hst, Nat.add_assoc, SXR, simprocAttr]))
     | (with_reducible refine i7 (hc) ?_)
     | (simp only [c9, u5, u4, hmr, hd, hw, hqr, hU0, e8, nn4, List.length_map, hlt0, heq0, p5, i5, f0, hap, hst, Nat.add_assoc, SXR, simprocAttr]))
    exact IH (i + 1) _ _ (by exact ⟨ev', T2, T1, [], _, by rw [hlo]; exact rfl, by rw [List.append_nil], hEV'⟩) hil (by omega)
   ·rw [hq] at hq'
    cases hq'
    clear hnone hc
    have hl1 : q.left.map af8 = [[.s (hd1 q).1 (hd1 q).2]] := by rw [ab8 hDq]; rfl
    have hl2 : d.left.map af8 = [[.s (hd1 d).1 (hd1 d).2]] := by rw [ab8 hDd]; rfl
    have hdr := mg (f := NEqn.row) hdq
    have hri : ((r : Int) == (i : Int)) = false := by simp only [beq_eq_false_iff_ne, ne_eq]; omega
    have hdc := rdeclared_pc n.outs (hd1 q) o2
    obtain ⟨t, ht⟩ : ∃ t, t = hd1 d := ⟨_, rfl⟩
    rw [← ht] at c3 hl2
    cases hh : bd5 (hd1 q) n.outs with
    | true =>
      rw [hh] at hdc
      have heq : av5 n (i + 1) = av5 n i ++ [⟨1, [hd1 q], .mk 2 0 0 0 t.1 t.2 [], 0, (0, 0), [], (0, 0), q.ck.map (On.rn (q9 n))⟩] := by simp only [av5, hq, c3, bg8, hh, if_true]
      have hlo : al3 n n.locals (i + 1) = al3 n n.locals i := by simp only [al3, hq, c3, hh, if_true]
      obtain ⟨_, _, _, _, okc, _⟩ := o5 q hqm
      have hc := bb3 (hnm.more (hbx [.c false q.row, .c false [.i .i64 2, .i .i64 0, .i .i64 0, .i .i64 0, .s t.1 t.2, .ns], .no, .no, .no] (by simp only [List.all_cons, List.all_nil, ocl, clL, V.cl, j5, Bool.and_self]))) q.ck okc
      obtain ⟨ck', hck'⟩ : ∃ ck', ck' = q.ck.map (On.rn (q9 n)) := ⟨_, rfl⟩
      rw [← hck'] at heq hc
      obtain ⟨ev', T2, T1, hEV', hap⟩ := hEV.app (P := us ++ [.c false [.s n.nm.1 n.nm.2, .ts ((n.ins.map (Decl.rn (q9 n))).map Decl.row), .ts ((n.outs.map (Decl.rn (q9 n))).map Decl.row), .ns, ev]]) (by simp) hW (by omega) [.i .i64 1, .sl (us.length + (W.length + 3)) 0 1 1 none, .i .i64 2, .i .i64 0, .i .i64 0, .i .i64 0, .s t.1 t.2, .ns, .i .i64 0, .s 0 0, .ns, .s 0 0, .ts (ck'.map On.row)] ⟨1, [hd1 q], .mk 2 0 0 0 t.1 t.2 [], 0, (0, 0), [], (0, 0), ck'⟩ [.c false q.row, .c false [.i .i64 2, .i .i64 0, .i .i64 0, .i .i64 0, .s t.1 t.2, .ns], .c false [.s (hd1 q).1 (hd1 q).2], .c false [.i .i64 1, .sl (us.length + (W.length + 3)) 0 1 1 none, .i .i64 2, .i .i64 0, .i .i64 0, .i .i64 0, .s t.1 t.2, .ns, .i .i64 0, .s 0 0, .ns, .s 0 0, .ts (ck'.map On.row)]] rfl
       (by
         have h1 : ∀ m, ltL m q.row = true := fun m => t9 _ _ (j5 q)
         have h2 : decide (us.length + (W.length + 3) < us.length + 1 + (W.length + 5)) = true := decide_eq_true (by omega)
         simp only [ltO, h1, O.lt, ltL, V.lt, List.length_cons, List.length_nil, Nat.zero_add, Nat.reduceAdd, h2, r8 _ _ (i6 _), Bool.and_self])
       (by
         have h2 : decide (us.length + (W.length + 3) < us.length + 1 + (W.length + 5)) = true := decide_eq_true (by omega)
         simp only [ltL, V.lt, List.length_cons, List.length_nil, Nat.zero_add, Nat.reduceAdd, h2, r8 _ _ (i6 _), Bool.and_self])
       ⟨.same _, Se.flat' (cs := [.s (hd1 q).1 (hd1 q).2]) (gr := false) (by
        show hpL _ (us.length + (W.length + 3) - (us.length + 1 + W.length)) = _
        rw [show us.length + (W.length + 3) - (us.length + 1 + W.length) = 2 by omega]
        rfl) rfl rfl (show us.length + 1 + W.length ≤ us.length + (W.length + 3) by omega) (fun r hr => by simp at hr; subst hr; rfl), .same _, .same _, .same _, .same _, .same _, .nil, .same _, .same _, .nil, .same _, .same _, trivial⟩
      have hap' : ∀ (rb k' : Nat), rb + k' = us.length + (W.length + 5) → ah6 rb (us ++ .c false [.s n.nm.1 n.nm.2, .ts ((n.ins.map (Decl.rn (q9 n))).map Decl.row), .ts ((n.outs.map (Decl.rn (q9 n))).map Decl.row), .ns, ev] :: (W ++ [.c false q.row, .c false [.i .i64 2, .i .i64 0, .i .i64 0, .i .i64 0, .s t.1 t.2, .ns], .c false [.s (hd1 q).1 (hd1 q).2], .c false [.i .i64 1, .sl (us.length + (W.length + 3)) 0 1 1 none, .i .i64 2, .i .i64 0, .i .i64 0, .i .i64 0, .s t.1 t.2, .ns, .i .i64 0, .s 0 0, .ns, .s 0 0, .ts (ck'.map On.row)], .no])) k' ev (some [.i .i64 1, .sl (us.length + (W.length + 3)) 0 1 1 none, .i .i64 2, .i .i64 0, .i .i64 0, .i .i64 0, .s t.1 t.2, .ns, .i .i64 0, .s 0 0, .ns, .s 0 0, .ts (ck'.map On.row)]) (some 1) 13 192 = some (ev', us ++ .c false [.s n.nm.1 n.nm.2, .ts ((n.ins.map (Decl.rn (q9 n))).map Decl.row), .ts ((n.outs.map (Decl.rn (q9 n))).map Decl.row), .ns, ev] :: T1) := fun rb k' e => by
       have := hap rb k' (by rw [e]; simp; omega)
       simp only [List.append_assoc, List.cons_append, List.nil_append] at this ⊢
       exact this
      rw [← heq] at hEV'
      have hst := hEV'.gt.st
      clear hap hEV hbx hW
      repeat' (first
       | ((with_reducible refine j3 ?rdq ?_); (case rdq => refine j2 rfl ?_ ?_ <;> simp only [Option.isSome_some, u5, u4, hmr, hd, hw, hqr, hdr, hU0, e8, nn2, nn4, List.length_map, hlt0, hri, p5, i5, f0, j0, o0, hl1, hl2, i8, hap', hst, Nat.add_assoc, SXR, simprocAttr]))
       | (with_reducible refine i7 (hc) ?_)
       | (with_reducible refine b8 (hdc) (by simp only [SXR, i8]) (by simp only [SXR, i8]) ?_)
       | (simp only [c9, u5, u4, hmr, hd, hw, hqr, hdr, hU0, e8, nn2, nn4, List.length_map, hlt0, hri, p5, i5, f0, j0, o0, hl1, hl2, i8, hap', hst, Nat.add_assoc, SXR, simprocAttr]))
      exact IH (i + 1) _ _ (by exact ⟨ev', T2, T1, [], _, by rw [hlo]; exact rfl, by rw [List.append_nil], hEV'⟩) hil (by omega)
    | false =>
      rw [hh] at hdc
      have heq : av5 n (i + 1) = av5 n i := by simp only [av5, hq, c3, bg8, hh, Bool.false_eq_true, if_false, List.append_nil]
      have hlo : al3 n n.locals (i + 1) = rmD (hd1 q) (al3 n n.locals i) := by simp only [al3, hq, c3, hh, Bool.false_eq_true, if_false]
      have hX0 : ([.c false q.row] : List O).all ocl = true := by simp only [List.all_cons, List.all_nil, ocl, j5, Bool.and_self]
      have hwo := rwithout_ac (al3 n n.locals i) (hd1 q) hlok.1 (hbx _ hX0)
      have hEV2 := hEV.more hX0
      rw [← heq] at hEV2
      clear hEV hbx
      repeat' (first
       | ((with_reducible refine j3 ?rdq ?_); (case rdq => refine j2 rfl ?_ ?_ <;> simp only [Option.isSome_some, u5, u4, hmr, hd, hw, hqr, hU0, e8, nn2, nn4, List.length_map, hlt0, hri, p5, i5, f0, j0, hl1, i8, Nat.add_assoc, SXR, simprocAttr]))
       | (with_reducible refine i7 (hwo) ?_)
       | (with_reducible refine b8 (hdc) (by simp only [SXR, i8]) (by simp only [SXR, i8]) ?_)
       | (simp only [c9, u5, u4, hmr, hd, hw, hqr, hU0, e8, nn2, nn4, List.length_map, hlt0, hri, p5, i5, f0, j0, hl1, i8, Nat.add_assoc, SXR, simprocAttr]))
      exact IH (i + 1) _ _ (by exact ⟨ev, T0', T', _, rs, by rw [hlo]; exact rfl, by rw [← List.append_assoc T', ← hW], hEV2⟩) hil (by omega)
  ·clear IH
   have hie : i = n.eqs.length := by omega
   subst hie
   have hd := ltn hil
   have hb0 := hbx [] rfl
   rw [List.append_nil] at hb0
   have hcl := bb2 (hnm.more hb0) _ hlok.1
   clear hbx hevl hWlt hult
   rw [hW] at hcl ⊢
   clear hnm hb0
   obtain ⟨G, hG⟩ : ∃ G, G = T ++ J := ⟨_, rfl⟩
   rw [← hG] at hus
   subst hus
   have s2 := fun o => hEV.seen (P := (.c false n.row :: .c false [.s n.nm.1 n.nm.2, .ts ((n.ins.map (Decl.rn (q9 n))).map Decl.row), .ts ((n.outs.map (Decl.rn (q9 n))).map Decl.row), .ts (((al3 n n.locals n.eqs.length).map (Decl.rn (q9 n))).map Decl.row), ev] :: G) ++ [o]) (S := J') (by simp)
   simp only [List.append_assoc, List.cons_append, List.nil_append] at s2 hcl
   repeat' (first
    | ((with_reducible refine j3 ?rdq ?_); (case rdq => refine j2 rfl ?_ ?_ <;> simp only [Option.isSome_some, u5, u4, hd, e8, nn4, List.length_map, Nat.add_assoc, SXR, simprocAttr]))
    | (with_reducible refine i7 (hcl) ?_)
    | (simp only [c9, u5, u4, hd, e8, nn4, List.length_map, Nat.add_assoc, SXR, simprocAttr]))
   exact Sl.ag ⟨.same _, .same _, .same _, .same _, s2 _, trivial⟩
theorem bh7 (l : List Str) (hn : Lst.ok l) : PC Tryz.prog 71 [.ts (l.map af8), .ts (l.map af8)] (.b true) := by
 refine v6 Tryz.func71 k71 rfl ?_
 repeat' (first
  | (simp only [c71, List.length_map, aq2, SXR, simprocAttr]))
 refine o8 (X := Nat) (fun i ll hs => Hd (fun j => [.ts (l.map af8), .ts (l.map af8), j 2, j 3, .b false, .i .i64 (i : Int), j 6, j 7, j 8, j 9, j 10, j 11, j 12, j 13, j 14, j 15, j 16, j 17, j 18, j 19, j 20, j 21, j 22, j 23, j 24, j 25]) ll ∧ hs = [])
  (fun i => i ≤ l.length) (fun i => l.length - i) ?_ 0 _ _ (by exact ⟨rfl, rfl⟩) (Nat.zero_le _)
 rintro i _ _ ⟨e, rfl⟩ hi IH
 obtain ⟨j, rfl⟩ := e.open
 clear e
 by_cases hlt : i < l.length
 ·obtain ⟨x, hx, hxm⟩ := ats hlt
  have hr := mg (f := af8) hx
  have hd := ltd hlt
  have hw := l6 (n := i) (by unfold Lst.ok at hn; omega)
  repeat' (first
   | (simp only [c71, List.length_map, hd, hr, af8, hw, beq_n, SXR, simprocAttr]))
  exact IH (i + 1) _ _ (by exact ⟨rfl, rfl⟩) hlt (by omega)
 ·have hd := ltn hlt
  clear IH
  repeat' (first
   | (simp only [c71, List.length_map, hd, SXR, simprocAttr]))
theorem same12_refl (l : List On) (hn : Lst.ok l) : PC Tryz.prog 43 [.ts (l.map On.row), .ts (l.map On.row)] (.b true) := by
 refine v6 Tryz.func43 k43 rfl ?_
 repeat' (first
  | (simp only [c43, List.length_map, aq2, SXR, simprocAttr]))
 refine o8 (X := Nat) (fun i ll hs => Hd (fun j => [.ts (l.map On.row), .ts (l.map On.row), j 2, j 3, .b false, .i .i64 (i : Int), j 6, j 7, j 8, j 9, j 10, j 11, j 12, j 13, j 14, j 15, j 16, j 17, j 18, j 19, j 20, j 21, j 22, j 23, j 24, j 25]) ll ∧ hs = [])
  (fun i => i ≤ l.length) (fun i => l.length - i) ?_ 0 _ _ (by exact ⟨rfl, rfl⟩) (Nat.zero_le _)
 rintro i _ _ ⟨e, rfl⟩ hi IH
 obtain ⟨j, rfl⟩ := e.open
 clear e
 by_cases hlt : i < l.length
 ·obtain ⟨x, hx, hxm⟩ := ats hlt
  have hr := mg (f := On.row) hx
  have hd := ltd hlt
  have hw := l6 (n := i) (by unfold Lst.ok at hn; omega)
  repeat' (first
   | (simp only [c43, List.length_map, hd, hr, ar1, bc1, on_sq, hw, SXR, simprocAttr]))
  exact IH (i + 1) _ _ (by exact ⟨rfl, rfl⟩) hlt (by omega)
 ·have hd := ltn hlt
  clear IH
  repeat' (first
   | (simp only [c43, List.length_map, hd, SXR, simprocAttr]))
theorem clocks_refl (l : List On) (hn : Lst.ok l) : PC Tryz.prog 42 [.ts (l.map On.row), .ts (l.map On.row)] (.b true) := by
 have := bf2 l l hn
 rwa [cks_refl] at this
theorem same6_refl (e : Ex) (h : e.ok) : PC Tryz.prog 92 [xg e, xg e] (.b true) := by
 have := ax7 _ e e (Nat.le_refl _) h
 rwa [exB_self] at this
theorem ag3 (l : List Decl) (hn : ao6 l) : PC Tryz.prog 17 [.ts (l.map Decl.row), .ts (l.map Decl.row)] (.b true) := by
 refine v6 Tryz.func17 k17 rfl ?_
 repeat' (first
  | (simp only [c17, List.length_map, aq2, SXR, simprocAttr]))
 refine o8 (X := Nat) (fun i ll hs => Hd (fun j => [.ts (l.map Decl.row), .ts (l.map Decl.row), j 2, j 3, .b false, .i .i64 (i : Int), j 6, j 7, j 8, j 9, j 10, j 11, j 12, j 13, j 14, j 15, j 16, j 17, j 18, j 19, j 20, j 21, j 22, j 23, j 24, j 25, j 26, j 27, j 28, j 29, j 30, j 31, j 32, j 33, j 34, j 35, j 36, j 37, j 38, j 39, j 40, j 41, j 42, j 43, j 44, j 45, j 46, j 47, j 48, j 49, j 50, j 51, j 52, j 53, j 54]) ll ∧ hs = [])
  (fun i => i ≤ l.length) (fun i => l.length - i) ?_ 0 _ _ (by exact ⟨rfl, rfl⟩) (Nat.zero_le _)
 rintro i _ _ ⟨e, rfl⟩ hi IH
 obtain ⟨j, rfl⟩ := e.open
 clear e
 by_cases hlt : i < l.length
 ·obtain ⟨x, hx, hxm⟩ := ats hlt
  have hr := mg (f := Decl.row) hx
  have hd := ltd hlt
  have hw := l6 (n := i) (by have := hn.1; unfold Lst.ok at this; omega)
  have hc := clocks_refl x.ck (hn.2 x hxm)
  repeat' (first
   | (with_reducible refine b8 (hc) (by simp only [SXR, Decl.row, i6]) (by simp only [SXR, Decl.row, i6]) ?_)
   | (simp only [c17, List.length_map, hd, hr, Decl.row, i6, hw, aq2, beq_n, SXR, simprocAttr]))
  exact IH (i + 1) _ _ (by exact ⟨rfl, rfl⟩) hlt (by omega)
 ·have hd := ltn hlt
  clear IH
  repeat' (first
   | (simp only [c17, List.length_map, hd, SXR, simprocAttr]))
theorem claims_nil : PC Tryz.prog 74 [.ts [], .ts []] (.b true) := by
 refine v6 Tryz.func74 k74 rfl ?_
 repeat' (first
  | (with_reducible refine al2 ?_)
  | (simp only [c74, aq2, Int.natCast_zero, decide_false, decide_true, SXR, simprocAttr]))
theorem autos_nil : PC Tryz.prog 73 [.ts [], .ts []] (.b true) := by
 refine v6 Tryz.func73 k73 rfl ?_
 repeat' (first
  | (with_reducible refine al2 ?_)
  | ((with_reducible refine j3 ?rdq ?_); (case rdq => refine j2 rfl ?_ ?_ <;> simp only [Option.isSome_some, aq2, Int.natCast_zero, decide_false, decide_true, SXR, simprocAttr]))
  | (simp only [c73, aq2, Int.natCast_zero, decide_false, decide_true, SXR, simprocAttr]))
theorem eqs_refl (l : List Eqn) (hl : Lst.ok l) (hn : ∀ q, q ∈ l → q.ok) : PC Tryz.prog 72 [.ts (l.map Eqn.row), .ts (l.map Eqn.row)] (.b true) := by
 refine v6 Tryz.func72 k72 rfl ?_
 repeat' (first
  | (simp only [c72, List.length_map, aq2, SXR, simprocAttr]))
 refine o8 (X := Nat) (fun i ll hs => Hd (fun j => [.ts (l.map Eqn.row), .ts (l.map Eqn.row), j 2, j 3, .b false, .i .i64 (i : Int), j 6, j 7, j 8, j 9, j 10, j 11, j 12, j 13, j 14, j 15, j 16, j 17, j 18, j 19, j 20, j 21, j 22, j 23, j 24, j 25, j 26, j 27, j 28, j 29, j 30, j 31, j 32, j 33, j 34, j 35, j 36, j 37, j 38, j 39, j 40, j 41, j 42]) ll ∧ hs = [])
  (fun i => i ≤ l.length) (fun i => l.length - i) ?_ 0 _ _ (by exact ⟨rfl, rfl⟩) (Nat.zero_le _)
 rintro i _ _ ⟨e, rfl⟩ hi IH
 obtain ⟨j, rfl⟩ := e.open
 clear e
 by_cases hlt : i < l.length
 ·obtain ⟨x, hx, hxm⟩ := ats hlt
  have hr := mg (f := Eqn.row) hx
  have hd := ltd hlt
  have hw := l6 (n := i) (by unfold Lst.ok at hl; omega)
  have hc := bh7 x.left (hn x hxm).1
  have hs := same6_refl x.right (hn x hxm).2
  repeat' (first
   | (with_reducible refine b8 (hc) (by simp only [SXR, e9, j6]) (by simp only [SXR, e9, j6]) ?_)
   | (with_reducible refine b8 (hs) (by simp only [SXR, e9, j6]) (by simp only [SXR, e9, j6]) ?_)
   | (simp only [c72, List.length_map, hd, hr, Eqn.row, j9, m4, e9, j6, hw, aq2, beq_n, SXR, simprocAttr]))
  exact IH (i + 1) _ _ (by exact ⟨rfl, rfl⟩) hlt (by omega)
 ·have hd := ltn hlt
  clear IH
  repeat' (first
   | (simp only [c72, List.length_map, hd, SXR, simprocAttr]))
theorem r7_refl (p : Prg) (hn : p.ok) : PC Tryz.prog 44 [.ag p.row, .ag p.row] (.b true) := by
 obtain ⟨en, nd⟩ := p
 obtain ⟨⟨he, hee⟩, hnd, hnn⟩ := hn
 simp only at he hee hnd hnn
 refine v6 Tryz.func44 k44 rfl ?_
 repeat' (first
  | ((with_reducible refine j3 ?rdq ?_); (case rdq => refine j2 rfl ?_ ?_ <;> simp only [Option.isSome_some, Prg.row, List.length_map, aq2, SXR, simprocAttr]))
  | (simp only [c44, Prg.row, List.length_map, aq2, SXR, simprocAttr]))
 refine o8 (X := Nat) (fun i ll hs => Hd (fun j => [.ag (Prg.row ⟨en, nd⟩), .ag (Prg.row ⟨en, nd⟩), .p 0 0, .p 1 0, .b false, .i .i64 (i : Int), j 6, j 7, j 8, j 9, j 10, j 11, j 12, j 13, j 14, j 15, j 16, j 17, j 18, j 19, j 20, j 21, j 22, j 23, j 24, j 25, j 26, j 27, j 28, j 29, j 30, j 31, j 32, j 33, j 34, j 35, j 36, j 37, j 38, j 39, j 40, j 41, j 42, j 43, j 44, j 45, j 46, j 47, j 48, j 49, j 50, j 51, j 52, j 53, j 54, j 55, j 56, j 57, j 58, j 59, j 60, j 61, j 62, j 63, j 64, j 65, j 66, j 67, j 68, j 69, j 70, j 71, j 72, j 73, j 74, j 75, j 76, j 77, j 78, j 79, j 80, j 81, j 82, j 83, j 84, j 85, j 86, j 87, j 88, j 89, j 90, j 91, j 92, j 93, j 94, j 95, j 96, j 97, j 98, j 99, j 100, j 101, j 102, j 103, j 104, j 105, j 106, j 107, j 108, j 109, j 110, j 111, j 112, j 113, j 114, j 115, j 116, j 117, j 118, j 119, j 120, j 121, j 122, j 123, j 124, j 125, j 126, j 127, j 128, j 129, j 130, j 131, j 132, j 133, j 134, j 135, j 136]) ll ∧ hs = [.c false (Prg.row ⟨en, nd⟩), .c false (Prg.row ⟨en, nd⟩)])
  (fun i => i ≤ en.length) (fun i => en.length - i) ?_ 0 _ _ (by exact ⟨rfl, rfl⟩) (Nat.zero_le _)
 rintro i _ _ ⟨e, rfl⟩ hi IH
 obtain ⟨j, rfl⟩ := e.open
 clear e
 by_cases hlt : i < en.length
 ·obtain ⟨x, hx, hxm⟩ := ats hlt
  have hr := mg (f := Enm.row) hx
  have hd := ltd hlt
  have hw := l6 (n := i) (by unfold Lst.ok at he; omega)
  have hc := bh7 x.tags (hee x hxm)
  repeat' (first
   | ((with_reducible refine j3 ?rdq ?_); (case rdq => refine j2 rfl ?_ ?_ <;> simp only [Option.isSome_some, Prg.row, List.length_map, hd, hr, Enm.row, j6, hw, aq2, beq_n, SXR, simprocAttr]))
   | (with_reducible refine b8 (hc) (by simp only [SXR, j6]) (by simp only [SXR, j6]) ?_)
   | (simp only [c44, Prg.row, List.length_map, hd, hr, Enm.row, j6, hw, aq2, beq_n, SXR, simprocAttr]))
  exact IH (i + 1) _ _ (by exact ⟨rfl, rfl⟩) hlt (by omega)
 have hd := ltn hlt
 clear IH
 repeat' (first
  | ((with_reducible refine j3 ?rdq ?_); (case rdq => refine j2 rfl ?_ ?_ <;> simp only [Option.isSome_some, Prg.row, List.length_map, hd, SXR, simprocAttr]))
  | (simp only [c44, Prg.row, List.length_map, hd, SXR, simprocAttr]))
 refine o8 (X := Nat) (fun i ll hs => ∃ js : List O, Hd (fun j => [.ag (Prg.row ⟨en, nd⟩), .ag (Prg.row ⟨en, nd⟩), .p 0 0, .p 1 0, .b false, j 5, .i .i64 (i : Int), j 7, j 8, j 9, j 10, j 11, j 12, j 13, j 14, j 15, j 16, j 17, j 18, j 19, j 20, j 21, j 22, j 23, j 24, j 25, j 26, j 27, j 28, j 29, j 30, j 31, j 32, j 33, j 34, j 35, j 36, j 37, j 38, j 39, j 40, j 41, j 42, j 43, j 44, j 45, j 46, j 47, j 48, j 49, j 50, j 51, j 52, j 53, j 54, j 55, j 56, j 57, j 58, j 59, j 60, j 61, j 62, j 63, j 64, j 65, j 66, j 67, j 68, j 69, j 70, j 71, j 72, j 73, j 74, j 75, j 76, j 77, j 78, j 79, j 80, j 81, j 82, j 83, j 84, j 85, j 86, j 87, j 88, j 89, j 90, j 91, j 92, j 93, j 94, j 95, j 96, j 97, j 98, j 99, j 100, j 101, j 102, j 103, j 104, j 105, j 106, j 107, j 108, j 109, j 110, j 111, j 112, j 113, j 114, j 115, j 116, j 117, j 118, j 119, j 120, j 121, j 122, j 123, j 124, j 125, j 126, j 127, j 128, j 129, j 130, j 131, j 132, j 133, j 134, j 135, j 136]) ll ∧ hs = (.c false (Prg.row ⟨en, nd⟩) :: .c false (Prg.row ⟨en, nd⟩) :: js))
  (fun i => i ≤ nd.length) (fun i => nd.length - i) ?_ 0 _ _ (by exact ⟨[], rfl, rfl⟩) (Nat.zero_le _)
 rintro i _ _ ⟨js, e, rfl⟩ hi IH
 obtain ⟨j, rfl⟩ := e.open
 clear e
 by_cases hlt : i < nd.length
 ·obtain ⟨x, hx, hxm⟩ := ats hlt
  have hr := mg (f := PNode.row) hx
  have hd := ltd hlt
  have hw := l6 (n := i) (by unfold Lst.ok at hnd; omega)
  obtain ⟨h1, h2, h3, h4, h5⟩ := hnn x hxm
  have hc1 := ag3 x.ins h1
  have hc2 := ag3 x.outs h2
  have hc3 := ag3 x.locals h3
  have hc4 := eqs_refl x.eqs h4 h5
  repeat' (first
   | ((with_reducible refine j3 ?rdq ?_); (case rdq => refine j2 rfl ?_ ?_ <;> simp only [Option.isSome_some, Prg.row, List.length_map, hd, hr, PNode.row, i8, l8, l9, hw, aq2, beq_n, Nat.add_assoc, SXR, simprocAttr]))
   | (with_reducible refine b8 (hc1) (by simp only [SXR, i8, l8, l9]) (by simp only [SXR, i8, l8, l9]) ?_)
   | (with_reducible refine b8 (hc2) (by simp only [SXR, i8, l8, l9]) (by simp only [SXR, i8, l8, l9]) ?_)
   | (with_reducible refine b8 (hc3) (by simp only [SXR, i8, l8, l9]) (by simp only [SXR, i8, l8, l9]) ?_)
   | (with_reducible refine b8 (hc4) (by simp only [SXR, i8, l8, l9]) (by simp only [SXR, i8, l8, l9]) ?_)
   | (with_reducible refine b8 (autos_nil) (by simp only [SXR, i8, l8, l9]) (by simp only [SXR, i8, l8, l9]) ?_)
   | (with_reducible refine b8 (claims_nil) (by simp only [SXR, i8, l8, l9]) (by simp only [SXR, i8, l8, l9]) ?_)
   | (simp only [c44, Prg.row, List.length_map, hd, hr, PNode.row, i8, l8, l9, hw, aq2, beq_n, Nat.add_assoc, SXR, simprocAttr]))
  exact IH (i + 1) _ _ (by exact ⟨_, rfl, rfl⟩) hlt (by omega)
 ·have hd := ltn hlt
  clear IH
  repeat' (first
   | ((with_reducible refine j3 ?rdq ?_); (case rdq => refine j2 rfl ?_ ?_ <;> simp only [Option.isSome_some, Prg.row, List.length_map, hd, SXR, simprocAttr]))
   | (simp only [c44, Prg.row, List.length_map, hd, SXR, simprocAttr]))
def held (left : List Str) (e : Ex) : Prg := ⟨[], [⟨(0, 0), [], [], [], [⟨left, e⟩]⟩]⟩
theorem held_ok {left : List Str} {e : Ex} (h1 : Lst.ok left) (h2 : e.ok) : (held left e).ok := by
 refine ⟨⟨by simp [held, Lst.ok], by simp [held]⟩, by simp [held, Lst.ok], fun n hn => ?_⟩
 simp only [held, List.mem_singleton] at hn
 subst hn
 refine ⟨⟨by simp [Lst.ok], by simp⟩, ⟨by simp [Lst.ok], by simp⟩, ⟨by simp [Lst.ok], by simp⟩, by simp [Lst.ok], fun q hq => ?_⟩
 simp only [List.mem_singleton] at hq
 subst hq
 exact ⟨h1, h2⟩
theorem holder_pc (left : List Str) (e : Ex) : PC Tryz.prog 45 [.ts (left.map af8), xg e] (.ag (held left e).row) := by
 refine ac1 Tryz.func45 k45 rfl ?_
 repeat' (first
  | (simp only [c45, u5, u4, j9, m4, put_row1, SXR, simprocAttr]))
 refine Sl.ag ⟨.nil, Se.rowsL (rs := [[.s 0 0, .ns, .ns, .ns, .sl 2 0 7 1 none, .ns, .ns, .ns]]) rfl rfl rfl trivial (by simp) (by simp [PNode.row]) ⟨⟨.same _, .nil, .nil, .nil, ?_, .nil, .nil, .nil, trivial⟩, trivial⟩, trivial⟩
 exact Se.rowsL (rs := [.ts (left.map af8) :: e.row]) rfl (by simp) rfl trivial (by simp [j9]) (by simp [Eqn.row, j9]) ⟨Sl.refl, trivial⟩
def argE (q : NEqn) : Ex := .mk 0 0 0 0 0 0 (q.right :: q.args)
theorem argE_ok {q : NEqn} (hk : q.ok) : (argE q).ok := by
 obtain ⟨h1, h2, h3, h4, h5, h6⟩ := hk
 simp only [argE, Ex.ok, Ex.oks]
 exact ⟨by unfold Lst.ok; simp; omega, h2, h4⟩
theorem se_args0 {h : Hp} {D : Nat → Prop} {a : Nat} {e : Ex} {gr : Bool} (ha : h a = .c gr e.row) (hD : D a) : Se h D (.ag [.i .i64 0, .i .i64 0, .i .i64 0, .i .i64 0, .s 0 0, .sl a 0 6 1 none]) (xg (.mk 0 0 0 0 0 0 [e])) :=
 Sl.ag ⟨.same _, .same _, .same _, .same _, .same _, Se.flat' (rs := [e.row]) ha (by simp) rfl hD (by simp [j9]), trivial⟩
theorem se_args1 {h : Hp} {D : Nat → Prop} {a n : Nat} {e : Ex} {l : List Ex} {gr : Bool} (ha : h a = .c gr (e.row ++ (Ex.rows l).flatten)) (hn : n = l.length + 1) (hD : D a) : Se h D (.ag [.i .i64 0, .i .i64 0, .i .i64 0, .i .i64 0, .s 0 0, .sl a 0 6 n none]) (xg (.mk 0 0 0 0 0 0 (e :: l))) :=
 Sl.ag ⟨.same _, .same _, .same _, .same _, .same _, Se.flat' (rs := e.row :: Ex.rows l) ha (by simp) (by simp [m5, hn]) hD (fun r hr => by
  rcases List.mem_cons.1 hr with rfl | h
  ·exact j9 e
  ·exact aw3 r h), trivial⟩
theorem sl2 {h : Hp} {D : Nat → Prop} {a b c d : V} (h1 : Se h D a c) (h2 : Se h D b d) : ∀ (j : Nat) (x y : V), [a, b][j]? = some x → [c, d][j]? = some y → Se h D x y := (Sl.get (xs := [a, b]) (ys := [c, d]) ⟨h1, h2, trivial⟩).2
set_option maxRecDepth 10000 in
set_option maxHeartbeats 2000000 in
theorem eqneqn_refl (x : NEqn) (hk : x.ok) : PC Tryz.prog 18 [.ag x.row, .ag x.row] (.b true) := by
 have hh := holder_pc x.left (argE x)
 have hs := r7_refl (held x.left (argE x)) (held_ok hk.1 (argE_ok hk))
 have hcl : clL (held x.left (argE x)).row = true := prg_cl _
 have hax := hk.2.2.2.2.2
 have hi0 : ∀ a : Int, (a == a) = true := fun a => by simp
 have hn0 : ∀ a : Nat, (a == a) = true := fun a => by simp
 have h4 := same12_refl x.ck hk.2.2.2.2.1
 have hcx := ah0 x
 cases hxa : x.args with
 | nil =>
   rw [hxa] at hcx
   refine v6 Tryz.func18 k18 rfl ?_
   repeat' (first
    | ((with_reducible refine j3 ?rdq ?_); (case rdq => refine j2 rfl ?_ ?_ <;> simp only [Option.isSome_some, bne, f0, ab2, j0, j4, ab3, ab1, hcx, aa0, o0, j6, m0, e9, i6, j9, m4, m5, rall, hi0, hn0, Ex.rows, List.flatten_nil, SXR, simprocAttr]))
    | (with_reducible refine b8 (h4) (by simp only [SXR, j6, m0, e9, i6]) (by simp only [SXR, j6, m0, e9, i6]) ?_)
    | (simp only [c18, bne, f0, ab2, j0, j4, ab3, ab1, hcx, aa0, o0, j6, m0, e9, i6, j9, m4, m5, rall, hi0, hn0, Ex.rows, List.flatten_nil, SXR, simprocAttr]))
   refine aj2 hh [2] rfl rfl (by rw [argE, hxa]; exact sl2 (.same _) (se_args0 (gr := false) rfl (by simp))) (by simp only [clL, V.cl, j6, e9, Bool.and_self]) (by simp only [V.cl, hcl]) ?_
   repeat' (first
    | ((with_reducible refine j3 ?rdq ?_); (case rdq => refine j2 rfl ?_ ?_ <;> simp only [Option.isSome_some, bne, f0, ab2, j0, j4, ab3, ab1, hcx, aa0, o0, j6, m0, e9, i6, j9, m4, m5, rall, hi0, hn0, Ex.rows, List.flatten_nil, SXR, simprocAttr]))
    | (with_reducible refine b8 (h4) (by simp only [SXR, j6, m0, e9, i6]) (by simp only [SXR, j6, m0, e9, i6]) ?_)
    | (simp only [c18, bne, f0, ab2, j0, j4, ab3, ab1, hcx, aa0, o0, j6, m0, e9, i6, j9, m4, m5, rall, hi0, hn0, Ex.rows, List.flatten_nil, SXR, simprocAttr]))
   refine aj2 hh [5] rfl rfl (by rw [argE, hxa]; exact sl2 (.same _) (se_args0 (gr := false) rfl (by simp))) (by simp only [clL, V.cl, j6, e9, Bool.and_self]) (by simp only [V.cl, hcl]) ?_
   repeat' (first
    | ((with_reducible refine j3 ?rdq ?_); (case rdq => refine j2 rfl ?_ ?_ <;> simp only [Option.isSome_some, hcl, bne, f0, ab2, j0, j4, ab3, ab1, hcx, aa0, o0, j6, m0, e9, i6, j9, m4, m5, rall, hi0, hn0, Ex.rows, List.flatten_nil, SXR, simprocAttr]))
    | (with_reducible refine b8 (hs) (by simp only [SXR, hcl, j6, m0, e9, i6]) (by simp only [SXR, hcl, j6, m0, e9, i6]) ?_)
    | (with_reducible refine b8 (h4) (by simp only [SXR, hcl, j6, m0, e9, i6]) (by simp only [SXR, hcl, j6, m0, e9, i6]) ?_)
    | (simp only [c18, hcl, bne, f0, ab2, j0, j4, ab3, ab1, hcx, aa0, o0, j6, m0, e9, i6, j9, m4, m5, rall, hi0, hn0, Ex.rows, List.flatten_nil, SXR, simprocAttr]))
 | cons a l =>
   rw [hxa] at hcx hax
   simp only [List.length_cons] at hax
   have hroom1 := p6 (n := 1 + (l.length + 1)) (b := 72) (by omega) (by omega)
   refine v6 Tryz.func18 k18 rfl ?_
   repeat' (first
    | ((with_reducible refine j3 ?rdq ?_); (case rdq => refine j2 rfl ?_ ?_ <;> simp only [Option.isSome_some, bne, f0, ab2, j0, j4, ab3, ab1, hcx, aa0, o0, j6, m0, e9, i6, j9, m4, m5, rall, hi0, hn0, hroom1, Ex.rows, List.flatten_nil, SXR, simprocAttr]))
    | (with_reducible refine b8 (h4) (by simp only [SXR, j6, m0, e9, i6]) (by simp only [SXR, j6, m0, e9, i6]) ?_)
    | (simp only [c18, bne, f0, ab2, j0, j4, ab3, ab1, hcx, aa0, o0, j6, m0, e9, i6, j9, m4, m5, rall, hi0, hn0, hroom1, Ex.rows, List.flatten_nil, SXR, simprocAttr]))
   refine aj2 hh [3] rfl rfl (by rw [argE, hxa]; exact sl2 (.same _) (se_args1 (gr := true) (by first | rfl | (simp [Ex.rows]; rfl)) (by simp; omega) (by simp))) (by simp only [clL, V.cl, j6, e9, Bool.and_self]) (by simp only [V.cl, hcl]) ?_
   repeat' (first
    | ((with_reducible refine j3 ?rdq ?_); (case rdq => refine j2 rfl ?_ ?_ <;> simp only [Option.isSome_some, bne, f0, ab2, j0, j4, ab3, ab1, hcx, aa0, o0, j6, m0, e9, i6, j9, m4, m5, rall, hi0, hn0, hroom1, Ex.rows, List.flatten_nil, SXR, simprocAttr]))
    | (with_reducible refine b8 (h4) (by simp only [SXR, j6, m0, e9, i6]) (by simp only [SXR, j6, m0, e9, i6]) ?_)
    | (simp only [c18, bne, f0, ab2, j0, j4, ab3, ab1, hcx, aa0, o0, j6, m0, e9, i6, j9, m4, m5, rall, hi0, hn0, hroom1, Ex.rows, List.flatten_nil, SXR, simprocAttr]))
   refine aj2 hh [6] rfl rfl (by rw [argE, hxa]; exact sl2 (.same _) (se_args1 (gr := true) (by first | rfl | (simp [Ex.rows]; rfl)) (by simp; omega) (by simp))) (by simp only [clL, V.cl, j6, e9, Bool.and_self]) (by simp only [V.cl, hcl]) ?_
   repeat' (first
    | ((with_reducible refine j3 ?rdq ?_); (case rdq => refine j2 rfl ?_ ?_ <;> simp only [Option.isSome_some, hcl, bne, f0, ab2, j0, j4, ab3, ab1, hcx, aa0, o0, j6, m0, e9, i6, j9, m4, m5, rall, hi0, hn0, hroom1, Ex.rows, List.flatten_nil, SXR, simprocAttr]))
    | (with_reducible refine b8 (hs) (by simp only [SXR, hcl, j6, m0, e9, i6]) (by simp only [SXR, hcl, j6, m0, e9, i6]) ?_)
    | (with_reducible refine b8 (h4) (by simp only [SXR, hcl, j6, m0, e9, i6]) (by simp only [SXR, hcl, j6, m0, e9, i6]) ?_)
    | (simp only [c18, hcl, bne, f0, ab2, j0, j4, ab3, ab1, hcx, aa0, o0, j6, m0, e9, i6, j9, m4, m5, rall, hi0, hn0, hroom1, Ex.rows, List.flatten_nil, SXR, simprocAttr]))
set_option maxRecDepth 10000 in
set_option maxHeartbeats 1000000 in
theorem eqnode_refl (x : NNode) (hk : x.ok) : PC Tryz.prog 7 [.ag x.row, .ag x.row] (.b true) := by
 obtain ⟨o1, o2, o3, o4, o5⟩ := hk
 have hn := o4
 unfold Lst.ok at hn
 have hi0 : ∀ a : Int, (a == a) = true := fun a => by simp
 have hn0 : ∀ a : Nat, (a == a) = true := fun a => by simp
 have h1 := ag3 x.ins o1
 have h2 := ag3 x.outs o2
 have h3 := ag3 x.locals o3
 refine v6 Tryz.func7 k7 rfl ?_
 repeat' (first
  | (with_reducible refine b8 (h1) (by simp only [SXR, i8]) (by simp only [SXR, i8]) ?_)
  | (with_reducible refine b8 (h2) (by simp only [SXR, i8]) (by simp only [SXR, i8]) ?_)
  | (with_reducible refine b8 (h3) (by simp only [SXR, i8]) (by simp only [SXR, i8]) ?_)
  | (simp only [c7, bne, NNode.row, List.length_map, i8, hi0, hn0, SXR, simprocAttr]))
 refine o8 (X := Nat) (fun i ll hs => Hd (fun j => [.ag x.row, .ag x.row, .p 0 0, .p 1 0, .b false, .i .i64 (i : Int), j 6, j 7, j 8, j 9, j 10, j 11, j 12, j 13, j 14, j 15, j 16, j 17, j 18, j 19, j 20, j 21, j 22, j 23, j 24, j 25, j 26, j 27, j 28, j 29, j 30, j 31, j 32, j 33, j 34, j 35, j 36, j 37, j 38, j 39, j 40, j 41, j 42, j 43, j 44, j 45, j 46, j 47, j 48, j 49, j 50, j 51, j 52, j 53, j 54, j 55, j 56, j 57, j 58, j 59, j 60, j 61, j 62]) ll ∧ hs = [.c false x.row, .c false x.row])
  (fun i => i ≤ x.eqs.length) (fun i => x.eqs.length - i) ?_ 0 _ _ (by exact ⟨rfl, rfl⟩) (Nat.zero_le _)
 rintro i _ _ ⟨e, rfl⟩ hi IH
 obtain ⟨j, rfl⟩ := e.open
 clear e
 by_cases hlt : i < x.eqs.length
 ·obtain ⟨u, hu, hum⟩ := ats hlt
  have hur := mg (f := NEqn.row) hu
  have hd := ltd hlt
  have hw := l6 (n := i) (by omega)
  have hc := eqneqn_refl u (o5 u hum)
  repeat' (first
   | (with_reducible refine b8 (hc) (by simp only [SXR, i8, j5]) (by simp only [SXR, i8, j5]) ?_)
   | (simp only [c7, bne, NNode.row, List.length_map, i8, hd, hur, hw, f0, i5, j5, SXR, simprocAttr]))
  exact IH (i + 1) _ _ (by exact ⟨rfl, rfl⟩) hlt (by omega)
 ·have hd := ltn hlt
  clear IH
  repeat' (first
   | (simp only [c7, bne, NNode.row, List.length_map, i8, hd, SXR, simprocAttr]))
theorem ex_rn_ok (ρ : Str → Str) : ∀ (N : Nat) (e : Ex), e.sz < N → e.ok → (e.rn ρ).ok
 | 0, e, h, _ => by omega
 | N + 1, .mk k op t v nl nn l, h, hok => by
   simp only [Ex.ok] at hok
   simp only [Ex.sz] at h
   simp only [Ex.rn, Ex.ok, bb0]
   refine ⟨by have := hok.1; unfold Lst.ok at this ⊢; simpa using this, ?_⟩
   have key : ∀ m : List Ex, (∀ x, x ∈ m → (x.rn ρ).ok) → Ex.oks (m.map (Ex.rn ρ)) := by
    intro m
    induction m with
    | nil => intro _; simp [Ex.oks]
    | cons x m ih =>
      intro hm
      simp only [List.map_cons, Ex.oks]
      exact ⟨hm x (List.mem_cons_self ..), ih fun y hy => hm y (List.mem_cons_of_mem _ hy)⟩
   refine key l fun x hx => ex_rn_ok ρ N x ?_ (ak2 hok.2 hx)
   have := az7 hx
   omega
theorem exs_rn_ok (ρ : Str → Str) (l : List Ex) (h : Ex.oks l) : Ex.oks (l.map (Ex.rn ρ)) := by
 induction l with
 | nil => simp [Ex.oks]
 | cons x l ih =>
   simp only [List.map_cons, Ex.oks] at h ⊢
   exact ⟨ex_rn_ok ρ _ x (Nat.lt_succ_self _) h.1, ih h.2⟩
theorem bc7 {α β : Type} {f : α → β} {l : List α} (h : Lst.ok l) : Lst.ok (l.map f) := by unfold Lst.ok at h ⊢; simpa using h
theorem neqn_rn_ok (ρ : Str → Str) {q : NEqn} (h : q.ok) : (q.rn ρ).ok :=
 ⟨h.1, ex_rn_ok ρ _ q.right (Nat.lt_succ_self _) h.2.1, bc7 h.2.2.1, exs_rn_ok ρ _ h.2.2.2.1, bc7 h.2.2.2.2.1, by simpa [NEqn.rn] using h.2.2.2.2.2⟩
theorem be8 (ρ : Str → Str) {l : List Decl} (h : ao6 l) : ao6 (l.map (Decl.rn ρ)) := by
 refine ⟨bc7 h.1, fun d hd => ?_⟩
 obtain ⟨x, hx, rfl⟩ := List.mem_map.1 hd
 have := h.2 x hx
 unfold Decl.ok at this ⊢
 exact bc7 this
theorem eqsN_ok (n : NNode) (hok : n.ok) : ∀ i, ∀ q, q ∈ av5 n i → q.ok
 | 0, q, h => by cases h
 | i + 1, q, h => by
   simp only [av5] at h
   rcases List.mem_append.1 h with h | h
   ·exact eqsN_ok n hok i q h
   ·split at h
    ·rename_i x hx
     have hxo := hok.2.2.2.2 x (List.mem_of_getElem? hx)
     unfold bg8 at h
     split at h
     ·rw [List.mem_singleton] at h
      subst h
      exact neqn_rn_ok _ hxo
     ·split at h
      ·rw [List.mem_singleton] at h
       subst h
       exact ⟨by simp [Lst.ok], by simp [Ex.ok, Ex.oks, Lst.ok], by simp [Lst.ok], by simp [Ex.oks], bc7 hxo.2.2.2.2.1, by simp⟩
      ·cases h
    ·cases h
theorem nodeN_ok (n : NNode) (hok : n.ok) : (nodeN n).ok := by
 refine ⟨be8 _ hok.1, be8 _ hok.2.1, be8 _ (locN_ok n n.locals hok.2.2.1 _).1, ?_, eqsN_ok n hok _⟩
 have h1 := ay4 n n.eqs.length
 have h2 := hok.2.2.2.1
 unfold Lst.ok at h2 ⊢
 exact Nat.lt_of_le_of_lt h1 h2
def dupB (n : NNode) (i k : Nat) : Bool := match n.eqs[i]?, n.eqs[k]? with
 | some a, some b => isD a && isD b && aa4 (hd1 a) (hd1 b)
 | _, _ => false
def tw2 (n : NNode) (i : Nat) : Nat → Nat → Bool
 | _, 0 => false
 | k, r + 1 => dupB n i k || tw2 n i (k + 1) r
def tw1 (n : NNode) : Nat → Nat → Bool
 | _, 0 => false
 | i, r + 1 => tw2 n i 0 i || tw1 n (i + 1) r
set_option maxRecDepth 10000 in
set_option maxHeartbeats 4000000 in
theorem twice_pc (n : NNode) (hok : n.ok) : PC Tryz.prog 5 [.ag n.row] (.b (tw1 n 0 n.eqs.length)) := by
 have hne := hok.2.2.2.1
 unfold Lst.ok at hne
 refine v6 Tryz.func5 k5 rfl ?_
 repeat' (first
  | ((with_reducible refine j3 ?rdq ?_); (case rdq => refine j2 rfl ?_ ?_ <;> simp only [Option.isSome_some, SXR, simprocAttr]))
  | (simp only [c5, SXR, simprocAttr]))
 refine o8 (X := Nat) (fun i ll hs => ∃ js : List O, Hd (fun j => [j 0, .p 0 0, j 2, .i .i64 (i : Int), j 4, j 5, j 6, j 7, j 8, j 9, j 10, j 11, j 12, j 13, j 14, j 15, j 16, j 17, j 18, j 19, j 20, j 21, j 22, j 23, j 24, j 25, j 26, j 27, j 28, j 29, j 30, j 31, j 32, j 33, j 34, j 35, j 36, j 37, j 38, j 39, j 40, j 41, j 42, j 43, j 44, j 45, j 46, j 47, j 48, j 49, j 50, j 51, j 52, j 53, j 54, j 55, j 56, j 57, j 58, j 59]) ll ∧ hs = .c false n.row :: js)
  (fun i => i ≤ n.eqs.length ∧ tw1 n 0 n.eqs.length = tw1 n i (n.eqs.length - i)) (fun i => n.eqs.length - i) ?_ 0 _ _ (by exact ⟨[], rfl, rfl⟩) ⟨Nat.zero_le _, rfl⟩
 rintro i _ _ ⟨js, e, rfl⟩ ⟨hi, hinv⟩ IH
 obtain ⟨j, rfl⟩ := e.open
 clear e
 by_cases hil : i < n.eqs.length
 ·obtain ⟨a, ha, _⟩ := ats hil
  have har := mg (f := NEqn.row) ha
  have hd := ltd hil
  have hw := l6 (n := i) (by omega)
  rw [show n.eqs.length - i = (n.eqs.length - (i + 1)) + 1 by omega] at hinv
  simp only [tw1] at hinv
  repeat' (first
   | ((with_reducible refine j3 ?rdq ?_); (case rdq => refine j2 rfl ?_ ?_ <;> simp only [Option.isSome_some, e8, nn4, List.length_map, hd, SXR, simprocAttr]))
   | (simp only [c5, e8, nn4, List.length_map, hd, SXR, simprocAttr]))
  refine o8 (X := Nat) (fun k ll hs => ∃ js : List O, Hd (fun j => [j 0, .p 0 0, j 2, .i .i64 (i : Int), .i .i64 (k : Int), j 5, j 6, j 7, j 8, j 9, j 10, j 11, j 12, j 13, j 14, j 15, j 16, j 17, j 18, j 19, j 20, j 21, j 22, j 23, j 24, j 25, j 26, j 27, j 28, j 29, j 30, j 31, j 32, j 33, j 34, j 35, j 36, j 37, j 38, j 39, j 40, j 41, j 42, j 43, j 44, j 45, j 46, j 47, j 48, j 49, j 50, j 51, j 52, j 53, j 54, j 55, j 56, j 57, j 58, j 59]) ll ∧ hs = .c false n.row :: js)
   (fun k => k ≤ i ∧ tw2 n i 0 i = tw2 n i k (i - k)) (fun k => i - k) ?_ 0 _ _ (by exact ⟨js, rfl, rfl⟩) ⟨Nat.zero_le _, rfl⟩
  rintro k _ _ ⟨js, e, rfl⟩ ⟨hk, hin2⟩ IK
  obtain ⟨j, rfl⟩ := e.open
  clear e
  by_cases hki : k < i
  ·clear IH
   obtain ⟨b, hb, _⟩ := ats (show k < n.eqs.length by omega)
   have hbr := mg (f := NEqn.row) hb
   have hdk := ltd hki
   have hwk := l6 (n := k) (by omega)
   rw [show i - k = (i - (k + 1)) + 1 by omega] at hin2
   simp only [tw2] at hin2
   have hdup : dupB n i k = (isD a && isD b && aa4 (hd1 a) (hd1 b)) := by simp only [dupB, ha, hb]
   have no : dupB n i k = false → k + 1 ≤ i ∧ tw2 n i 0 i = tw2 n i (k + 1) (i - (k + 1)) := fun h => ⟨hki, by rw [hin2, h, Bool.false_or]⟩
   have hl1 : ∀ q : NEqn, ((q.left.length : Int) == 1) = (q.left.length == 1) := fun q => by
    rw [Bool.eq_iff_iff]; simp only [beq_iff_eq]; omega
   have hl2 : ∀ q : NEqn, isD q = (q.kind == 2 && q.left.length == 1) := fun q => rfl
   cases c0 : (a.kind == 2) with
   | false =>
     have hno := no (by rw [hdup, hl2, hl2]; simp only [c0, Bool.false_and, Bool.and_false, Bool.true_and])
     repeat' (first
      | ((with_reducible refine j3 ?rdq ?_); (case rdq => refine j2 rfl ?_ ?_ <;> simp only [Option.isSome_some, e8, nn4, List.length_map, har, hbr, hdk, hwk, p5, i5, f0, p7, j0, hl1, Nat.add_assoc, c0, SXR, simprocAttr]))
      | (simp only [c5, e8, nn4, List.length_map, har, hbr, hdk, hwk, p5, i5, f0, p7, j0, hl1, Nat.add_assoc, c0, SXR, simprocAttr]))
     exact IK (k + 1) _ _ (by exact ⟨_, rfl, rfl⟩) hno (by omega)
   | true =>
     cases c1 : (b.kind == 2) with
     | false =>
       have hno := no (by rw [hdup, hl2, hl2]; simp only [c0, c1, Bool.false_and, Bool.and_false, Bool.true_and])
       repeat' (first
        | ((with_reducible refine j3 ?rdq ?_); (case rdq => refine j2 rfl ?_ ?_ <;> simp only [Option.isSome_some, e8, nn4, List.length_map, har, hbr, hdk, hwk, p5, i5, f0, p7, j0, hl1, Nat.add_assoc, c0, c1, SXR, simprocAttr]))
        | (simp only [c5, e8, nn4, List.length_map, har, hbr, hdk, hwk, p5, i5, f0, p7, j0, hl1, Nat.add_assoc, c0, c1, SXR, simprocAttr]))
       exact IK (k + 1) _ _ (by exact ⟨_, rfl, rfl⟩) hno (by omega)
     | true =>
       cases c2 : (a.left.length == 1) with
       | false =>
         have hno := no (by rw [hdup, hl2, hl2]; simp only [c0, c1, c2, Bool.false_and, Bool.and_false, Bool.true_and])
         repeat' (first
          | ((with_reducible refine j3 ?rdq ?_); (case rdq => refine j2 rfl ?_ ?_ <;> simp only [Option.isSome_some, e8, nn4, List.length_map, har, hbr, hdk, hwk, p5, i5, f0, p7, j0, hl1, Nat.add_assoc, c0, c1, c2, SXR, simprocAttr]))
          | (simp only [c5, e8, nn4, List.length_map, har, hbr, hdk, hwk, p5, i5, f0, p7, j0, hl1, Nat.add_assoc, c0, c1, c2, SXR, simprocAttr]))
         exact IK (k + 1) _ _ (by exact ⟨_, rfl, rfl⟩) hno (by omega)
       | true =>
         cases c3 : (b.left.length == 1) with
         | false =>
           have hno := no (by rw [hdup, hl2, hl2]; simp only [c0, c1, c2, c3, Bool.false_and, Bool.and_false, Bool.true_and])
           repeat' (first
            | ((with_reducible refine j3 ?rdq ?_); (case rdq => refine j2 rfl ?_ ?_ <;> simp only [Option.isSome_some, e8, nn4, List.length_map, har, hbr, hdk, hwk, p5, i5, f0, p7, j0, hl1, Nat.add_assoc, c0, c1, c2, c3, SXR, simprocAttr]))
            | (simp only [c5, e8, nn4, List.length_map, har, hbr, hdk, hwk, p5, i5, f0, p7, j0, hl1, Nat.add_assoc, c0, c1, c2, c3, SXR, simprocAttr]))
           exact IK (k + 1) _ _ (by exact ⟨_, rfl, rfl⟩) hno (by omega)
         | true =>
           have hda : isD a = true := by rw [hl2, c0, c2]; rfl
           have hdb : isD b = true := by rw [hl2, c1, c3]; rfl
           have hla : a.left.map af8 = [[.s (hd1 a).1 (hd1 a).2]] := by rw [ab8 hda]; rfl
           have hlb : b.left.map af8 = [[.s (hd1 b).1 (hd1 b).2]] := by rw [ab8 hdb]; rfl
           have hna : a.left.length = 1 := by simpa using c2
           have hnb : b.left.length = 1 := by simpa using c3
           have hlm : ∀ x : List V, (([x] : List (List V)).length : Int) = 1 := fun _ => rfl
           rw [hda, hdb, Bool.true_and, Bool.true_and] at hdup
           cases c4 : aa4 (hd1 a) (hd1 b) with
           | false =>
             have hno := no (by rw [hdup, c4])
             unfold aa4 at c4
             repeat' (first
              | ((with_reducible refine j3 ?rdq ?_); (case rdq => refine j2 rfl ?_ ?_ <;> simp only [Option.isSome_some, e8, nn4, har, hbr, hdk, hwk, p5, i5, f0, p7, j0, Nat.add_assoc, hla, hlb, c0, c1, c4, Int.natCast_one, List.length_cons, List.length_nil, SXR, simprocAttr]))
              | (simp only [c5, e8, nn4, har, hbr, hdk, hwk, p5, i5, f0, p7, j0, Nat.add_assoc, hla, hlb, c0, c1, c4, Int.natCast_one, List.length_cons, List.length_nil, SXR, simprocAttr]))
             exact IK (k + 1) _ _ (by exact ⟨_, rfl, rfl⟩) hno (by omega)
           | true =>
             have hyes : tw1 n 0 n.eqs.length = true := by rw [hinv, hin2, hdup, c4]; rfl
             rw [hyes]
             unfold aa4 at c4
             repeat' (first
              | ((with_reducible refine j3 ?rdq ?_); (case rdq => refine j2 rfl ?_ ?_ <;> simp only [Option.isSome_some, e8, nn4, har, hbr, hdk, hwk, p5, i5, f0, p7, j0, Nat.add_assoc, hla, hlb, c0, c1, c4, Int.natCast_one, List.length_cons, List.length_nil, SXR, simprocAttr]))
              | (simp only [c5, e8, nn4, har, hbr, hdk, hwk, p5, i5, f0, p7, j0, Nat.add_assoc, hla, hlb, c0, c1, c4, Int.natCast_one, List.length_cons, List.length_nil, SXR, simprocAttr]))
  ·clear IK
   have hdk := ltn hki
   have hke : k = i := by omega
   subst hke
   rw [Nat.sub_self] at hin2
   simp only [tw2] at hin2
   rw [hin2, Bool.false_or] at hinv
   repeat' (first
    | ((with_reducible refine j3 ?rdq ?_); (case rdq => refine j2 rfl ?_ ?_ <;> simp only [Option.isSome_some, hdk, hw, SXR, simprocAttr]))
    | (simp only [c5, hdk, hw, SXR, simprocAttr]))
   exact IH (k + 1) _ _ (by exact ⟨_, rfl, rfl⟩) ⟨hil, hinv⟩ (by omega)
 ·clear IH
  have hd := ltn hil
  rw [show n.eqs.length - i = 0 by omega] at hinv
  simp only [tw1] at hinv
  rw [hinv]
  repeat' (first
   | ((with_reducible refine j3 ?rdq ?_); (case rdq => refine j2 rfl ?_ ?_ <;> simp only [Option.isSome_some, e8, nn4, List.length_map, hd, SXR, simprocAttr]))
   | (simp only [c5, e8, nn4, List.length_map, hd, SXR, simprocAttr]))
theorem nodes_pc (n : NNode) (hok : n.ok) (haw : PC Tryz.prog 6 [] (.b true)) : PC Tryz.prog 3 [.ag n.row] (.b true) := by
 have hlg := large_pc n hok
 cases hlb : largeB n with
 | true =>
   rw [hlb] at hlg
   refine v6 Tryz.func3 k3 rfl ?_
   repeat' (first
    | ((with_reducible refine j3 ?rdq ?_); (case rdq => refine j2 rfl ?_ ?_ <;> simp only [Option.isSome_some, e8, j7, b9, SXR, simprocAttr]))
    | (with_reducible refine b8 (hlg) (by simp only [SXR, b9]) (by simp only [SXR, b9]) ?_)
    | (with_reducible refine b8 (haw) (by simp only [SXR, b9]) (by simp only [SXR, b9]) ?_)
    | (simp only [c3, e8, j7, b9, SXR, simprocAttr]))
 | false =>
   rw [hlb] at hlg
   have htw := twice_pc n hok
   cases htb : tw1 n 0 n.eqs.length with
   | true =>
     rw [htb] at htw
     refine v6 Tryz.func3 k3 rfl ?_
     repeat' (first
      | ((with_reducible refine j3 ?rdq ?_); (case rdq => refine j2 rfl ?_ ?_ <;> simp only [Option.isSome_some, e8, j7, b9, SXR, simprocAttr]))
      | (with_reducible refine b8 (hlg) (by simp only [SXR, b9]) (by simp only [SXR, b9]) ?_)
      | (with_reducible refine b8 (haw) (by simp only [SXR, b9]) (by simp only [SXR, b9]) ?_)
      | (with_reducible refine b8 (htw) (by simp only [SXR, b9]) (by simp only [SXR, b9]) ?_)
      | (simp only [c3, e8, j7, b9, SXR, simprocAttr]))
   | false =>
     rw [htb] at htw
     have hsp := snode_pc n hok
     have hrp := rnode_pc n hok
     have hls := eqnode_refl (nodeN n) (nodeN_ok n hok)
     refine v6 Tryz.func3 k3 rfl ?_
     repeat' (first
      | ((with_reducible refine j3 ?rdq ?_); (case rdq => refine j2 rfl ?_ ?_ <;> simp only [Option.isSome_some, e8, j7, b9, SXR, simprocAttr]))
      | (with_reducible refine b8 (hlg) (by simp only [SXR, b9]) (by simp only [SXR, b9]) ?_)
      | (with_reducible refine b8 (haw) (by simp only [SXR, b9]) (by simp only [SXR, b9]) ?_)
      | (with_reducible refine b8 (htw) (by simp only [SXR, b9]) (by simp only [SXR, b9]) ?_)
      | (with_reducible refine b8 (hsp) (by simp only [SXR, b9]) (by simp only [SXR, b9]) ?_)
      | (with_reducible refine b8 (hrp) (by simp only [SXR, b9]) (by simp only [SXR, b9]) ?_)
      | (with_reducible refine b8 (hls) (by simp only [SXR, b9]) (by simp only [SXR, b9]) ?_)
      | (simp only [c3, e8, j7, b9, SXR, simprocAttr]))
end Go.Proofs.YtieogkafbnnjcaaGreatDoor
