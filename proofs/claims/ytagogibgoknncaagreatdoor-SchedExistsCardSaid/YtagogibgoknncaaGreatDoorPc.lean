/-
  The names that an expression reads.
  The names that an equation reads.
  Maps whose values are lists of one's own; what sched.begin builds.
  What sched.begin builds: the edges, the counts; a step of its inner loop.
-/
import Derived.Test.YtagogibgoknncaaGreatDoorPb
set_option linter.unusedSimpArgs false
set_option linter.unusedVariables false
namespace Go.Proofs.YtagogibgoknncaaGreatDoor
open Go Go.B
theorem bh2 (a b : Str) : ad0 a b = ad0 b a := by
 rw [Bool.eq_iff_iff]; simp only [ad0, Bool.and_eq_true, beq_iff_eq]; omega
def hasS (s : Str) (l : List Str) : Bool := l.any fun x => ad0 x s
def nm1E (l : List Str) (k : Int) (s : Str) : List Str := if vB k = true ∧ hasS s l = false then l ++ [s] else l
mutual
def nmE (l : List Str) : Ex → List Str
 | .mk k _ _ _ nl nn args => ak7 (nm1E l k (nl, nn)) args
def ak7 (l : List Str) : List Ex → List Str
 | [] => l
 | e :: r => ak7 (nmE l e) r
end
theorem nmEs_app : ∀ (a b : List Ex) (l : List Str), ak7 l (a ++ b) = ak7 (ak7 l a) b
 | [], b, l => by simp only [List.nil_append, ak7]
 | e :: a, b, l => by simp only [List.cons_append, ak7, nmEs_app a b]
theorem nm1E_len (l : List Str) (k : Int) (s : Str) : (nm1E l k s).length ≤ l.length + 1 := by
 unfold nm1E; split <;> simp
theorem nm1E_pre (l : List Str) (k : Int) (s : Str) : l <+: nm1E l k s := by
 unfold nm1E
 split
 ·exact List.prefix_append _ _
 ·exact List.prefix_refl _
mutual
theorem al6 : ∀ (e : Ex) (l : List Str), (nmE l e).length ≤ l.length + e.sz ∧ l <+: nmE l e
 | .mk k op t v nl nn args, l => by
   obtain ⟨h1, h2⟩ := am9 args (nm1E l k (nl, nn))
   have := nm1E_len l k (nl, nn)
   simp only [nmE, Ex.sz]
   exact ⟨by omega, (nm1E_pre _ _ _).trans h2⟩
theorem am9 : ∀ (r : List Ex) (l : List Str), (ak7 l r).length ≤ l.length + Ex.szs r ∧ l <+: ak7 l r
 | [], l => by simp only [ak7, Ex.szs]; exact ⟨Nat.le_refl _, List.prefix_refl _⟩
 | e :: r, l => by
   obtain ⟨h1, h2⟩ := al6 e l
   obtain ⟨h3, h4⟩ := am9 r (nmE l e)
   simp only [ak7, Ex.szs]
   exact ⟨by omega, h2.trans h4⟩
end
theorem aj0 (l : List Ex) (i : Nat) : Ex.szs (l.take i) ≤ Ex.szs l := by
 have := szs_app (l.take i) (l.drop i)
 rw [List.take_append_drop] at this
 omega
theorem evariable_pc (e : Ex) : PC Tryz.prog 86 [.ag e.row] (.b (vB e.k)) := by
 obtain ⟨k, op, t, v, nl, nn, args⟩ := e
 refine aq9 Tryz.func86 k86 rfl ?_
 cases h2 : (k == 2) <;> cases h8 : (k == 8) <;> cases h9 : (k == 9)
 all_goals
  repeat' (first
   | (simp only [c86, Ex.row, h2, h8, h9, vB, Ex.k, Bool.or_false, Bool.or_true, Bool.or_self, Bool.true_or, Bool.false_or, SXR, simprocAttr]))
theorem r6variable_pc (e : Ex) : PC Tryz.prog 53 [.ag e.row] (.b (vB e.k)) := by
 obtain ⟨k, op, t, v, nl, nn, args⟩ := e
 refine aq9 Tryz.func53 k53 rfl ?_
 cases h2 : (k == 2) <;> cases h8 : (k == 8) <;> cases h9 : (k == 9)
 all_goals
  repeat' (first
   | ((with_reducible refine b8 (fun h => ?_) (fun h => ?_)) <;> simp only [h, Ex.row, h2, h8, h9, vB, Ex.k, Bool.or_false, Bool.or_true, Bool.or_self, Bool.true_or, Bool.false_or, SXR, simprocAttr])
   | (simp only [c53, Ex.row, h2, h8, h9, vB, Ex.k, Bool.or_false, Bool.or_true, Bool.or_self, Bool.true_or, Bool.false_or, SXR, simprocAttr]))
def sV (s : Str) : V := .s s.1 s.2
def sidx (s : Str) : List Str → Nat → Int
 | [], _ => -1
 | x :: l, i => if ad0 s x = true then (i : Int) else sidx s l (i + 1)
theorem sidx_ge (s : Str) : ∀ (l : List Str) (i : Nat), decide (sidx s l i ≥ 0) = hasS s l
 | [], i => rfl
 | x :: l, i => by
   by_cases h : ad0 s x = true
   ·rw [show sidx s (x :: l) i = (i : Int) from if_pos h]; simp [hasS, bh2 x s, h]
   ·rw [show sidx s (x :: l) i = sidx s l (i + 1) from if_neg h, sidx_ge s l (i + 1)]; simp [hasS, bh2 x s, h]
theorem idxstr_ac {js : List O} {lv : V} {l : List Str} {s : Str} (hr : RC sV js lv l) (hn : l.length < 30000000) (hlt : ltO js.length js = true) :
  ACalls Tryz.prog 111 [lv, .s s.1 s.2] (hpL js) js.length (.i .i64 (sidx s l 0)) (hpL js) js.length := by
 have hll := hr.len
 refine ab4 Tryz.func111 k111 rfl rfl (by simp only [V.lt]) hlt ?_
 repeat' (first
  | (simp only [c111, aa9, aa8, hll, SXR, simprocAttr]))
 refine m5 (X := Nat) (fun i ll hs => Hd (fun j => [lv, .s s.1 s.2, j 2, j 3, j 4, j 5, lv, .i .i64 (l.length : Int), .i .i64 (i : Int), j 9, j 10, j 11, j 12, j 13, j 14, j 15, j 16, j 17, j 18]) ll ∧ hs = js)
  (fun i => i ≤ l.length ∧ sidx s l 0 = sidx s (l.drop i) i) (fun i => l.length - i) ?_ 0 _ _ (by exact ⟨rfl, rfl⟩) ⟨Nat.zero_le _, rfl⟩
 rintro i _ _ ⟨e, rfl⟩ ⟨hi, hinv⟩ IH
 obtain ⟨j, rfl⟩ := e.open
 clear e
 by_cases hil : i < l.length
 ·obtain ⟨x, hx, _⟩ := ats hil
  obtain ⟨ad, h1, h2⟩ := hr.get0 hx
  unfold sV at h2
  have hd := ltd hil
  have hw := j1 (n := i) (by omega)
  rw [t6 hx] at hinv
  simp only [sidx] at hinv
  cases hb : ad0 s x with
  | true =>
    rw [if_pos hb] at hinv
    rw [hinv]
    unfold ad0 at hb
    repeat' (first
     | (simp only [c111, aa9, aa8, h1, h2, hd, hb, SXR, simprocAttr]))
    exact ⟨[], by simp⟩
  | false =>
    rw [if_neg (by simp [hb])] at hinv
    unfold ad0 at hb
    repeat' (first
     | (simp only [c111, aa9, aa8, h1, h2, hd, hb, hw, SXR, simprocAttr]))
    exact IH (i + 1) _ _ (by exact ⟨rfl, rfl⟩) ⟨hil, hinv⟩ (by omega)
 ·clear IH
  have hd := ltn hil
  rw [List.drop_eq_nil_of_le (by omega)] at hinv
  simp only [sidx] at hinv
  rw [hinv]
  repeat' (first
   | (simp only [c111, aa9, aa8, hd, SXR, simprocAttr]))
  exact ⟨[], by simp⟩
theorem constr_ac {js : List O} {lv : V} {l : List Str} {s : Str} (hr : RC sV js lv l) (hn : l.length < 30000000) (hlt : ltO js.length js = true) :
  ACalls Tryz.prog 99 [lv, .s s.1 s.2] (hpL js) js.length (.b (hasS s l)) (hpL js) js.length := by
 have hx := idxstr_ac (s := s) hr hn hlt
 have hg := sidx_ge s l 0
 refine ab4 Tryz.func99 k99 rfl rfl (by simp only [V.lt]) hlt ?_
 repeat' (first
  | (with_reducible refine e8 (hx) ?_)
  | (simp only [c99, aa9, aa8, hg, SXR, simprocAttr]))
 exact ⟨[], by simp⟩
theorem r6has_ac {js : List O} {lv : V} {l : List Str} {s : Str} (hr : RC sV js lv l) (hn : l.length < 30000000) (hlt : ltO js.length js = true) :
  ACalls Tryz.prog 18 [lv, .s s.1 s.2] (hpL js) js.length (.b (hasS s l)) (hpL js) js.length := by
 have hll := hr.len
 refine ab4 Tryz.func18 k18 rfl rfl (by simp only [V.lt]) hlt ?_
 repeat' (first
  | ((with_reducible refine b8 (fun h => ?_) (fun h => ?_)) <;> simp only [h, aa9, aa8, SXR, simprocAttr])
  | (simp only [c18, aa9, aa8, SXR, simprocAttr]))
 refine m5 (X := Nat) (fun i ll hs => Hd (fun j => [lv, .s s.1 s.2, j 2, j 3, j 4, .i .i64 (i : Int), j 6, j 7, j 8, j 9, j 10, j 11, j 12, j 13, j 14, j 15, j 16, j 17]) ll ∧ hs = js)
  (fun i => i ≤ l.length ∧ hasS s l = hasS s (l.drop i)) (fun i => l.length - i) ?_ 0 _ _ (by exact ⟨rfl, rfl⟩) ⟨Nat.zero_le _, rfl⟩
 rintro i _ _ ⟨e, rfl⟩ ⟨hi, hinv⟩ IH
 obtain ⟨j, rfl⟩ := e.open
 clear e
 by_cases hil : i < l.length
 ·obtain ⟨x, hx, _⟩ := ats hil
  obtain ⟨ad, h1, h2⟩ := hr.get0 hx
  unfold sV at h2
  have hd := ltd hil
  have hw := j1 (n := i) (by omega)
  rw [t6 hx] at hinv
  simp only [hasS, List.any_cons] at hinv
  cases hb : ad0 x s with
  | true =>
    rw [hb, Bool.true_or] at hinv
    simp only [hasS]
    rw [hinv]
    unfold ad0 at hb
    repeat' (first
     | ((with_reducible refine b8 (fun h => ?_) (fun h => ?_)) <;> simp only [h, aa9, aa8, hll, h1, h2, hd, hb, SXR, simprocAttr])
     | (simp only [c18, aa9, aa8, hll, h1, h2, hd, hb, SXR, simprocAttr]))
    exact ⟨[], by simp⟩
  | false =>
    rw [hb, Bool.false_or] at hinv
    unfold ad0 at hb
    repeat' (first
     | ((with_reducible refine b8 (fun h => ?_) (fun h => ?_)) <;> simp only [h, aa9, aa8, hll, h1, h2, hd, hb, hw, SXR, simprocAttr])
     | (simp only [c18, aa9, aa8, hll, h1, h2, hd, hb, hw, SXR, simprocAttr]))
    exact IH (i + 1) _ _ (by exact ⟨rfl, rfl⟩) ⟨hil, hinv⟩ (by omega)
 ·clear IH
  have hd := ltn hil
  rw [List.drop_eq_nil_of_le (by omega)] at hinv
  rw [hinv]
  repeat' (first
   | ((with_reducible refine b8 (fun h => ?_) (fun h => ?_)) <;> simp only [h, aa9, aa8, hll, hd, SXR, simprocAttr])
   | (simp only [c18, aa9, aa8, hll, hd, SXR, simprocAttr]))
  exact ⟨rfl, [], by simp⟩
set_option maxHeartbeats 4000000 in
theorem au8 : ∀ (N : Nat) {js : List O} {v : V} {l : List Str} (e : Ex), e.sz < N → e.ok → NR v6 1 js v l → l.length + e.sz < 20000000 → ltO js.length js = true →
  ACalls Tryz.prog 74 [v, .ag e.row, .b false] (hpL js) js.length (nmv 1 js v l (nmE l e)) (hpL (nmh v6 js v l (nmE l e))) (nmh v6 js v l (nmE l e)).length
 | 0, js, v, l, e, h, _, _, _, _ => by omega
 | N + 1, js, v, l, e, hN, hok, hr, hl, hlt => by
   have hvar := evariable_pc e
   have hz : ocl (.c false e.row) = true := by rw [ac4]; exact m7 e
   obtain ⟨k, op, t, w, nl, nn, args⟩ := e
   simp only [Ex.ok] at hok
   simp only [Ex.sz] at hN hl
   simp only [Ex.k] at hvar
   obtain ⟨hn, hoks⟩ := hok
   unfold Lst.ok at hn
   obtain ⟨L1, hL1⟩ : ∃ L1, L1 = nm1E l k (nl, nn) := ⟨_, rfl⟩
   rw [show nmE l (.mk k op t w nl nn args) = ak7 L1 args by simp only [nmE, hL1], nmh_eq]
   have hL1l : L1.length ≤ l.length + 1 := by rw [hL1]; exact nm1E_len _ _ _
   have hZ : ([.c false (Ex.row (.mk k op t w nl nn args))] : List O).all ocl = true := by simp only [List.all_cons, List.all_nil, hz, Bool.and_self]
   have hS0 : NS v6 1 js v l (js ++ [.c false (Ex.row (.mk k op t w nl nn args))]) v l := NS.refl.more hZ
   have hb0 : hpL (js ++ [O.c false (Ex.row (.mk k op t w nl nn args))]) js.length = .c false (Ex.row (.mk k op t w nl nn args)) := ab9
   have hct := constr_ac (s := (nl, nn)) ((hr.more [.c false (Ex.row (.mk k op t w nl nn args))]).rc (g := sV)) (by omega) (hS0.lt hlt)
   obtain ⟨H2, v2, hS2, hk2, hap⟩ := hS0.app hr (by omega) u9 t9 (bytes := 16) [(nl, nn)] (v9 (by simp; omega) (by omega)) (X := [.c false [.s nl nn]]) rfl
   have hb2 := hk2 _ _ hb0
   have hap' : ∀ rb kk, rb + kk = js.length + 2 → ag9 rb (js ++ [.c false (Ex.row (.mk k op t w nl nn args)), .c false [.s nl nn], .no]) kk v (some [.s nl nn]) (some 1) 1 16 = some (v2, H2) := fun rb kk e => by
    have := hap rb kk (by rw [e]; simp)
    simp only [List.append_assoc, List.cons_append, List.nil_append, as1] at this
    exact this
   simp only [Ex.row] at hvar hct hap' hZ hS0 hb0 hb2
   clear hap hk2 hz
   refine be0 Tryz.func74 k74 rfl (ba6 _ _ _ _) (nm1_lt hlt _) ?_
   repeat' (first
    | ((with_reducible refine b8 (fun h => ?_) (fun h => ?_)) <;> simp only [h, ah3, ah2, Ex.row, l9, j0, hap', hb2, Nat.add_assoc, SXR, simprocAttr])
    | (with_reducible refine e8 (hct) ?_)
    | (with_reducible refine j9 (hvar) (by simp only [SXR, l9]) (by simp only [SXR, l9]) ?_)
    | (simp only [c74, ah3, ah2, Ex.row, l9, j0, hap', hb2, Nat.add_assoc, SXR, simprocAttr]))
   all_goals
    refine m5 (X := Nat) (fun i ll hs => ∃ (H : List O) (v' : V), Hd (fun j => [v', j 1, .b false, j 3, .p js.length 0, j 5, j 6, j 7, j 8, j 9, j 10, j 11, j 12, j 13, j 14, j 15, j 16, j 17, j 18, j 19, j 20, j 21, j 22, j 23, .ts (Ex.rows args), .i .i64 (args.length : Int), .i .i64 (i : Int), j 27, j 28, j 29, j 30, j 31, j 32, j 33, j 34, j 35, j 36, j 37, j 38, j 39, j 40, j 41, j 42, j 43, j 44, j 45, j 46, j 47, j 48, j 49, j 50, j 51]) ll ∧ hs = H ∧ NS v6 1 js v l H v' (ak7 L1 (args.take i)) ∧ hpL H js.length = .c false [.i .i64 k, .i .i64 op, .i .i64 t, .i .i64 w, .s nl nn, .ts (Ex.rows args)])
     (fun i => i ≤ args.length) (fun i => args.length - i) ?_ 0 _ _ (by
       refine ⟨_, _, rfl, rfl, ?_⟩
       simp only [List.take_zero, ak7]
       first
        | (rw [show L1 = l from (by first | (simp [hL1, nm1E, *]; done) | (rename_i h; simp only [Bool.not_eq_true', Bool.not_eq_false'] at h; simp [hL1, nm1E, *]))]; exact ⟨hS0, hb0⟩)
        | (rw [show L1 = l ++ [(nl, nn)] from (by first | (simp [hL1, nm1E, *]; done) | (rename_i h; simp only [Bool.not_eq_true', Bool.not_eq_false'] at h; simp [hL1, nm1E, *]))]; exact ⟨hS2, hb2⟩)) (Nat.zero_le _)
    clear hS2 hb2 hap' hct hvar hS0 hb0
    rintro i _ H ⟨_, v', e, rfl, hS, hb⟩ hi IH
    obtain ⟨j, rfl⟩ := e.open
    clear e
    by_cases hil : i < args.length
    ·obtain ⟨x, hx, hxm⟩ := bd8 hil
     have hxr : (Ex.rows args)[i]? = some x.row := by rw [am7, hx]; rfl
     have hd := ltd hil
     have hw := j1 (n := i) (by omega)
     have hxo : ([.c false x.row] : List O).all ocl = true := by simp only [List.all_cons, List.all_nil, ac4, m7, Bool.and_self]
     have hsz := bf2 hxm
     have hli : (ak7 L1 (args.take i)).length + x.sz < 20000000 := by
      have h1 := (am9 (args.take (i + 1)) L1).1
      have h2 := (am9 (args.take i) L1).1
      have h3 := szs_take hx
      have h4 := aj0 args (i + 1)
      omega
     have hnx : ak7 L1 (args.take (i + 1)) = nmE (ak7 L1 (args.take i)) x := by rw [List.take_add_one, hx, nmEs_app]; simp only [Option.toList, ak7]
     have hpre := (al6 x (ak7 L1 (args.take i))).2
     have hbm := fun ks => j2 (m := ks) hb
     have hSx := hS.more hxo
     have hbx := j2 (m := [.c false x.row]) hb
     have hc := au8 N x (by omega) (ap2 hoks hxm) (hSx.nr hr) hli (hSx.lt hlt)
     rw [← hnx] at hc hpre
     have hS' := hSx.call hr hpre t9
     have hb' := ax2 (f := v6) (hSx.nr hr) hbx (ak7 L1 (args.take (i + 1)))
     obtain ⟨H3, hH3⟩ : ∃ H3, H3 = nmh v6 (H ++ [.c false x.row]) v' (ak7 L1 (args.take i)) (ak7 L1 (args.take (i + 1))) := ⟨_, rfl⟩
     obtain ⟨v3, hv3⟩ : ∃ v3, v3 = nmv 1 (H ++ [.c false x.row]) v' (ak7 L1 (args.take i)) (ak7 L1 (args.take (i + 1))) := ⟨_, rfl⟩
     rw [← hH3, ← hv3] at hc hS'
     rw [← hH3] at hb'
     clear hH3 hv3 hS hSx hbx
     repeat' (first
      | ((with_reducible refine b8 (fun h => ?_) (fun h => ?_)) <;> simp only [h, ah3, ah2, hb, hbm, j0, hxr, hd, hw, l8, j7, al1, Nat.add_assoc, SXR, simprocAttr])
      | (with_reducible refine e8 (hc) ?_)
      | (simp only [c74, ah3, ah2, hb, hbm, j0, hxr, hd, hw, l8, j7, al1, Nat.add_assoc, SXR, simprocAttr]))
     exact IH (i + 1) _ _ (by exact ⟨H3, v3, rfl, rfl, hS', hb'⟩) hil (by omega)
    ·clear IH
     have hie : i = args.length := by omega
     subst hie
     have hd := ltn hil
     rw [List.take_length] at hS
     repeat' (first
      | ((with_reducible refine b8 (fun h => ?_) (fun h => ?_)) <;> simp only [h, ah3, ah2, hb, j0, hd, SXR, simprocAttr])
      | (simp only [c74, ah3, ah2, hb, j0, hd, SXR, simprocAttr]))
     exact hS.pack hr t9
set_option maxHeartbeats 4000000 in
theorem ao9 : ∀ (N : Nat) {js : List O} {v : V} {l : List Str} (e : Ex), e.sz < N → e.ok → NR v6 1 js v l → l.length + e.sz < 20000000 → ltO js.length js = true →
  ACalls Tryz.prog 30 [.ag e.row, .b false, v] (hpL js) js.length (nmv 1 js v l (nmE l e)) (hpL (nmh v6 js v l (nmE l e))) (nmh v6 js v l (nmE l e)).length
 | 0, js, v, l, e, h, _, _, _, _ => by omega
 | N + 1, js, v, l, e, hN, hok, hr, hl, hlt => by
   have hvar := r6variable_pc e
   have hz : ocl (.c false e.row) = true := by rw [ac4]; exact m7 e
   obtain ⟨k, op, t, w, nl, nn, args⟩ := e
   simp only [Ex.ok] at hok
   simp only [Ex.sz] at hN hl
   simp only [Ex.k] at hvar
   obtain ⟨hn, hoks⟩ := hok
   unfold Lst.ok at hn
   obtain ⟨L1, hL1⟩ : ∃ L1, L1 = nm1E l k (nl, nn) := ⟨_, rfl⟩
   rw [show nmE l (.mk k op t w nl nn args) = ak7 L1 args by simp only [nmE, hL1], nmh_eq]
   have hL1l : L1.length ≤ l.length + 1 := by rw [hL1]; exact nm1E_len _ _ _
   have hZ : ([.c false (Ex.row (.mk k op t w nl nn args))] : List O).all ocl = true := by simp only [List.all_cons, List.all_nil, hz, Bool.and_self]
   have hS0 : NS v6 1 js v l (js ++ [.c false (Ex.row (.mk k op t w nl nn args))]) v l := NS.refl.more hZ
   have hb0 : hpL (js ++ [O.c false (Ex.row (.mk k op t w nl nn args))]) js.length = .c false (Ex.row (.mk k op t w nl nn args)) := ab9
   have hct := r6has_ac (s := (nl, nn)) ((hr.more [.c false (Ex.row (.mk k op t w nl nn args))]).rc (g := sV)) (by omega) (hS0.lt hlt)
   obtain ⟨H2, v2, hS2, hk2, hap⟩ := hS0.app hr (by omega) u9 t9 (bytes := 16) [(nl, nn)] (v9 (by simp; omega) (by omega)) (X := [.c false [.s nl nn]]) rfl
   have hb2 := hk2 _ _ hb0
   have hap' : ∀ rb kk, rb + kk = js.length + 2 → ag9 rb (js ++ [.c false (Ex.row (.mk k op t w nl nn args)), .c false [.s nl nn], .no]) kk v (some [.s nl nn]) (some 1) 1 16 = some (v2, H2) := fun rb kk e => by
    have := hap rb kk (by rw [e]; simp)
    simp only [List.append_assoc, List.cons_append, List.nil_append, as1] at this
    exact this
   simp only [Ex.row] at hvar hct hap' hZ hS0 hb0 hb2
   clear hap hk2 hz
   refine be0 Tryz.func30 k30 rfl (ba6 _ _ _ _) (nm1_lt hlt _) ?_
   repeat' (first
    | ((with_reducible refine b8 (fun h => ?_) (fun h => ?_)) <;> simp only [h, ah3, ah2, Ex.row, l9, j0, hap', hb2, Nat.add_assoc, SXR, simprocAttr])
    | (with_reducible refine e8 (hct) ?_)
    | (with_reducible refine j9 (hvar) (by simp only [SXR, l9]) (by simp only [SXR, l9]) ?_)
    | (simp only [c30, ah3, ah2, Ex.row, l9, j0, hap', hb2, Nat.add_assoc, SXR, simprocAttr]))
   all_goals
    refine m5 (X := Nat) (fun i ll hs => ∃ (H : List O) (v' : V), Hd (fun j => [j 0, .b false, v', .p js.length 0, j 4, j 5, j 6, .i .i64 (i : Int), j 8, j 9, j 10, j 11, j 12, j 13, j 14, j 15, j 16, j 17, j 18, j 19, j 20, j 21, j 22, j 23, j 24, j 25, j 26, j 27, j 28, j 29, j 30, j 31, j 32, j 33, j 34, j 35, j 36, j 37, j 38, j 39, j 40, j 41, j 42, j 43, j 44, j 45, j 46, j 47, j 48, j 49, j 50, j 51, j 52]) ll ∧ hs = H ∧ NS v6 1 js v l H v' (ak7 L1 (args.take i)) ∧ hpL H js.length = .c false [.i .i64 k, .i .i64 op, .i .i64 t, .i .i64 w, .s nl nn, .ts (Ex.rows args)])
     (fun i => i ≤ args.length) (fun i => args.length - i) ?_ 0 _ _ (by
       refine ⟨_, _, rfl, rfl, ?_⟩
       simp only [List.take_zero, ak7]
       first
        | (rw [show L1 = l from (by first | (simp [hL1, nm1E, *]; done) | (rename_i h; simp only [Bool.not_eq_true', Bool.not_eq_false'] at h; simp [hL1, nm1E, *]))]; exact ⟨hS0, hb0⟩)
        | (rw [show L1 = l ++ [(nl, nn)] from (by first | (simp [hL1, nm1E, *]; done) | (rename_i h; simp only [Bool.not_eq_true', Bool.not_eq_false'] at h; simp [hL1, nm1E, *]))]; exact ⟨hS2, hb2⟩)) (Nat.zero_le _)
    clear hS2 hb2 hap' hct hvar hS0 hb0
    rintro i _ H ⟨_, v', e, rfl, hS, hb⟩ hi IH
    obtain ⟨j, rfl⟩ := e.open
    clear e
    by_cases hil : i < args.length
    ·obtain ⟨x, hx, hxm⟩ := bd8 hil
     have hxr : (Ex.rows args)[i]? = some x.row := by rw [am7, hx]; rfl
     have hd := ltd hil
     have hw := j1 (n := i) (by omega)
     have hxo : ([.c false x.row] : List O).all ocl = true := by simp only [List.all_cons, List.all_nil, ac4, m7, Bool.and_self]
     have hsz := bf2 hxm
     have hli : (ak7 L1 (args.take i)).length + x.sz < 20000000 := by
      have h1 := (am9 (args.take (i + 1)) L1).1
      have h2 := (am9 (args.take i) L1).1
      have h3 := szs_take hx
      have h4 := aj0 args (i + 1)
      omega
     have hnx : ak7 L1 (args.take (i + 1)) = nmE (ak7 L1 (args.take i)) x := by rw [List.take_add_one, hx, nmEs_app]; simp only [Option.toList, ak7]
     have hpre := (al6 x (ak7 L1 (args.take i))).2
     have hbm := fun ks => j2 (m := ks) hb
     have hSx := hS
     have hbx := hb
     have hc := ao9 N x (by omega) (ap2 hoks hxm) (hSx.nr hr) hli (hSx.lt hlt)
     rw [← hnx] at hc hpre
     have hS' := hSx.call hr hpre t9
     have hb' := ax2 (f := v6) (hSx.nr hr) hbx (ak7 L1 (args.take (i + 1)))
     obtain ⟨H3, hH3⟩ : ∃ H3, H3 = nmh v6 H v' (ak7 L1 (args.take i)) (ak7 L1 (args.take (i + 1))) := ⟨_, rfl⟩
     obtain ⟨v3, hv3⟩ : ∃ v3, v3 = nmv 1 H v' (ak7 L1 (args.take i)) (ak7 L1 (args.take (i + 1))) := ⟨_, rfl⟩
     rw [← hH3, ← hv3] at hc hS'
     rw [← hH3] at hb'
     clear hH3 hv3 hS hSx hbx
     repeat' (first
      | ((with_reducible refine b8 (fun h => ?_) (fun h => ?_)) <;> simp only [h, ah3, ah2, hb, hbm, j0, hxr, hd, hw, l8, j7, al1, Nat.add_assoc, SXR, simprocAttr])
      | (with_reducible refine e8 (hc) ?_)
      | (simp only [c30, ah3, ah2, hb, hbm, j0, hxr, hd, hw, l8, j7, al1, Nat.add_assoc, SXR, simprocAttr]))
     exact IH (i + 1) _ _ (by exact ⟨H3, v3, rfl, rfl, hS', hb'⟩) hil (by omega)
    ·clear IH
     have hie : i = args.length := by omega
     subst hie
     have hd := ltn hil
     rw [List.take_length] at hS
     repeat' (first
      | ((with_reducible refine b8 (fun h => ?_) (fun h => ?_)) <;> simp only [h, ah3, ah2, hb, j0, hd, SXR, simprocAttr])
      | (simp only [c30, ah3, ah2, hb, j0, hd, SXR, simprocAttr]))
     exact hS.pack hr t9
theorem NR.se {α : Type} {f : α → List V} {wd : Nat} {js : List O} {v : V} {l : List α} (h : NR f wd js v l) (hf : ∀ x, (f x).length = wd) : Se (hpL js) (fun _ => True) v (.ts (l.map f)) := by
 rcases h with ⟨rfl, rfl⟩ | ⟨B, rfl, hB⟩
 ·exact .nil
 ·exact Se.flat' hB rfl (by simp) trivial (mem_map hf l)
def nmL (e : Ex) : List Str := nmE [] e
def evL (s : Str) : List Str := if none? s = true then [] else [s]
def o9 (q : NEqn) : List Str := nmL q.right ++ (q.args.map nmL).flatten ++ evL q.every ++ q.ck.map (·.nm)
def rsz (q : NEqn) : Nat := q.right.sz + Ex.szs q.args + q.ck.length
theorem at9 (e : Ex) : (nmL e).length ≤ e.sz := by unfold nmL; simpa using (al6 e []).1
theorem ax3 : ∀ l : List Ex, ((l.map nmL).flatten).length ≤ Ex.szs l
 | [] => by simp [Ex.szs]
 | e :: l => by
   have h1 := at9 e
   have h2 := ax3 l
   simp only [List.map_cons, List.flatten_cons, List.length_append, Ex.szs]
   omega
theorem evL_len (s : Str) : (evL s).length ≤ 1 := by unfold evL; split <;> simp
theorem bg0 (q : NEqn) : (o9 q).length ≤ rsz q + 1 := by
 have h1 := at9 q.right
 have h2 := ax3 q.args
 have h3 := evL_len q.every
 simp only [o9, rsz, List.length_append, List.length_map]
 omega
theorem bg5 {o : O} (h : ocl o = true) : ltO 1 [o] = true := by
 simpa using aa7 (n := 0) (m := 1) (js := []) (zs := [o]) (by omega) rfl (by simp [h])
theorem enames_ac {js : List O} (e : Ex) (hok : e.ok) (hl : e.sz < 20000000) (hlt : ltO js.length js = true) :
  ACalls Tryz.prog 54 [xg e] (hpL js) js.length (nmv 1 js .ns [] (nmL e)) (hpL (nmh v6 js .ns [] (nmL e))) (nmh v6 js .ns [] (nmL e)).length := by
 have hz : ([.c false e.row] : List O).all ocl = true := by simp only [List.all_cons, List.all_nil, ac4, m7, Bool.and_self]
 have hr0 : NR v6 1 js .ns ([] : List Str) := .inl ⟨rfl, rfl⟩
 have hS := (NS.refl (f := v6) (wd := 1) (js := js) (v := .ns) (l := [])).more hz
 have hc := au8 (e.sz + 1) e (Nat.lt_succ_self _) hok (hS.nr hr0) (by simpa using hl) (hS.lt hlt)
 have hS' := hS.call hr0 (al6 e []).2 t9
 rw [nmh_eq]
 unfold nmL
 generalize nmh v6 (js ++ [.c false e.row]) .ns [] (nmE [] e) = H3 at hc hS'
 generalize nmv 1 (js ++ [.c false e.row]) .ns [] (nmE [] e) = v3 at hc hS'
 refine be0 Tryz.func54 k54 rfl (ba6 _ _ _ _) (nm1_lt hlt _) ?_
 repeat' (first
  | ((with_reducible refine b8 (fun h => ?_) (fun h => ?_)) <;> simp only [h, ah3, ah2, l8, j7, SXR, simprocAttr])
  | (with_reducible refine e8 (hc) ?_)
  | (simp only [c54, ah3, ah2, l8, j7, SXR, simprocAttr]))
 exact hS'.pack hr0 t9
theorem enames_pc (e : Ex) (hok : e.ok) (hl : e.sz < 20000000) : PC Tryz.prog 54 [xg e] (.ts ((nmL e).map v6)) := by
 have hr0 : NR v6 1 [.c false e.row] .ns ([] : List Str) := .inl ⟨rfl, rfl⟩
 have hz : ltO 1 [O.c false e.row] = true := bg5 (by rw [ac4]; exact m7 e)
 have hc := au8 (js := [.c false e.row]) (e.sz + 1) e (Nat.lt_succ_self _) hok hr0 (by simpa using hl) hz
 have hr := (NS.refl.call hr0 (al6 e []).2 t9).nr hr0
 unfold nmL
 generalize nmh v6 [.c false e.row] .ns [] (nmE [] e) = H3 at hc hr
 generalize nmv 1 [.c false e.row] .ns [] (nmE [] e) = v3 at hc hr
 refine pc_frz Tryz.func54 k54 rfl ?_
 repeat' (first
  | ((with_reducible refine b8 (fun h => ?_) (fun h => ?_)) <;> simp only [h, ae2, ae1, l8, j7, SXR, simprocAttr])
  | (with_reducible refine e8 (hc) ?_)
  | (simp only [c54, ae2, ae1, l8, j7, SXR, simprocAttr]))
 exact hr.se u9
theorem r6names_ac {js : List O} (e : Ex) (hok : e.ok) (hl : e.sz < 20000000) (hlt : ltO js.length js = true) :
  ACalls Tryz.prog 17 [xg e] (hpL js) js.length (nmv 1 js .ns [] (nmL e)) (hpL (nmh v6 js .ns [] (nmL e))) (nmh v6 js .ns [] (nmL e)).length := by
 have hz : ([.c false e.row] : List O).all ocl = true := by simp only [List.all_cons, List.all_nil, ac4, m7, Bool.and_self]
 have hr0 : NR v6 1 js .ns ([] : List Str) := .inl ⟨rfl, rfl⟩
 have hS := (NS.refl (f := v6) (wd := 1) (js := js) (v := .ns) (l := [])).more hz
 have hc := ao9 (e.sz + 1) e (Nat.lt_succ_self _) hok (hS.nr hr0) (by simpa using hl) (hS.lt hlt)
 have hS' := hS.call hr0 (al6 e []).2 t9
 rw [nmh_eq]
 unfold nmL
 generalize nmh v6 (js ++ [.c false e.row]) .ns [] (nmE [] e) = H3 at hc hS'
 generalize nmv 1 (js ++ [.c false e.row]) .ns [] (nmE [] e) = v3 at hc hS'
 refine be0 Tryz.func17 k17 rfl (ba6 _ _ _ _) (nm1_lt hlt _) ?_
 repeat' (first
  | ((with_reducible refine b8 (fun h => ?_) (fun h => ?_)) <;> simp only [h, ah3, ah2, l8, j7, SXR, simprocAttr])
  | (with_reducible refine e8 (hc) ?_)
  | (simp only [c17, ah3, ah2, l8, j7, SXR, simprocAttr]))
 exact hS'.pack hr0 t9
theorem r6names_pc (e : Ex) (hok : e.ok) (hl : e.sz < 20000000) : PC Tryz.prog 17 [xg e] (.ts ((nmL e).map v6)) := by
 have hr0 : NR v6 1 [.c false e.row] .ns ([] : List Str) := .inl ⟨rfl, rfl⟩
 have hz : ltO 1 [O.c false e.row] = true := bg5 (by rw [ac4]; exact m7 e)
 have hc := ao9 (js := [.c false e.row]) (e.sz + 1) e (Nat.lt_succ_self _) hok hr0 (by simpa using hl) hz
 have hr := (NS.refl.call hr0 (al6 e []).2 t9).nr hr0
 unfold nmL
 generalize nmh v6 [.c false e.row] .ns [] (nmE [] e) = H3 at hc hr
 generalize nmv 1 [.c false e.row] .ns [] (nmE [] e) = v3 at hc hr
 refine pc_frz Tryz.func17 k17 rfl ?_
 repeat' (first
  | ((with_reducible refine b8 (fun h => ?_) (fun h => ?_)) <;> simp only [h, ae2, ae1, l8, j7, SXR, simprocAttr])
  | (with_reducible refine e8 (hc) ?_)
  | (simp only [c17, ae2, ae1, l8, j7, SXR, simprocAttr]))
 exact hr.se u9
set_option maxHeartbeats 2000000 in
theorem sreads_pc (q : NEqn) (hk : q.ok) (hl : rsz q < 1000000) : PC Tryz.prog 31 [.ag q.row] (.ts ((o9 q).map v6)) := by
 obtain ⟨_, hrok, _, haok, _, _⟩ := hk
 unfold rsz at hl
 have hal := szs_len q.args
 have hz : ltO 1 [O.c false q.row] = true := bg5 (by rw [ac4]; exact au2 q)
 have hr0 : NR v6 1 [.c false q.row] .ns ([] : List Str) := .inl ⟨rfl, rfl⟩
 have hc := enames_ac (js := [.c false q.row]) q.right hrok (by omega) hz
 have hS0 := NS.refl.call hr0 (List.nil_prefix (l := nmL q.right)) t9
 have hb0 := ax2 (f := v6) hr0 (show hpL [.c false q.row] 0 = .c false q.row from rfl) (nmL q.right)
 have hL0 := at9 q.right
 obtain ⟨H3, hH3⟩ : ∃ H3, H3 = nmh v6 [.c false q.row] .ns [] (nmL q.right) := ⟨_, rfl⟩
 obtain ⟨v3, hv3⟩ : ∃ v3, v3 = nmv 1 [.c false q.row] .ns [] (nmL q.right) := ⟨_, rfl⟩
 rw [← hH3, ← hv3] at hc hS0
 rw [← hH3] at hb0
 clear hH3 hv3
 obtain ⟨L0, hL0e⟩ : ∃ L0, L0 = nmL q.right := ⟨_, rfl⟩
 rw [← hL0e] at hS0 hL0
 refine pc_frz Tryz.func31 k31 rfl ?_
 repeat' (first
  | ((with_reducible refine b8 (fun h => ?_) (fun h => ?_)) <;> simp only [h, ae2, ae1, hb0, i6, i4, l6, j6, m4, m9, l9, m7, u5, l8, j7, j0, SXR, simprocAttr])
  | (with_reducible refine e8 (hc) ?_)
  | (simp only [c31, ae2, ae1, hb0, i6, i4, l6, j6, m4, m9, l9, m7, u5, l8, j7, j0, SXR, simprocAttr]))
 refine m5 (X := Nat) (fun i ll hs => ∃ (H : List O) (v : V), Hd (fun j => [j 0, .p 0 0, j 2, v, j 4, j 5, j 6, j 7, j 8, j 9, j 10, j 11, .ts (Ex.rows q.args), .i .i64 (q.args.length : Int), .i .i64 (i : Int), j 15, j 16, j 17, j 18, j 19, j 20, j 21, j 22, j 23, j 24, j 25, j 26, j 27, j 28, j 29, j 30, j 31, j 32, j 33, j 34, j 35, j 36, j 37, j 38, j 39, j 40, j 41, j 42, j 43, j 44]) ll ∧ hs = H ∧ NS v6 1 [.c false q.row] .ns [] H v (L0 ++ ((q.args.take i).map nmL).flatten) ∧ hpL H 0 = .c false q.row)
  (fun i => i ≤ q.args.length) (fun i => q.args.length - i) ?_ 0 _ _ (by refine ⟨_, _, rfl, rfl, ?_⟩; exact ⟨by simpa using hS0, hb0⟩) (Nat.zero_le _)
 clear hS0 hb0 hc
 rintro i _ H ⟨_, v, e, rfl, hS, hb⟩ hi IH
 obtain ⟨j, rfl⟩ := e.open
 clear e
 have hlen := ax3 (q.args.take i)
 have hsz := aj0 q.args i
 by_cases hil : i < q.args.length
 ·obtain ⟨x, hx, hxm⟩ := bd8 hil
  have hxr : (Ex.rows q.args)[i]? = some x.row := by rw [am7, hx]; rfl
  have hd := ltd hil
  have hw := j1 (n := i) (by omega)
  have hxo : ([.c false x.row] : List O).all ocl = true := by first | rfl | simp only [List.all_cons, List.all_nil, ac4, m7, Bool.and_self]
  have hxs := bf2 hxm
  have hxc := at9 x
  have hpc := enames_pc x (ap2 haok hxm) (by omega)
  have hnx : (L0 ++ ((q.args.take i).map nmL).flatten) ++ nmL x = L0 ++ ((q.args.take (i + 1)).map nmL).flatten := by rw [List.take_add_one, hx]; simp
  have hseen : ((nmL x).map v6).all (fun r => r.length == 1) = true := all_map u9 _
  have hcl := am6 (nmL x)
  have hln : ((nmL x).map v6).length = (nmL x).length := List.length_map _
  have hfl : ((nmL x).map v6).flatten = fl v6 (nmL x) := rfl
  obtain ⟨H2, v2, hS2, hk2, hap⟩ := hS.app hr0 (by omega) u9 t9 (bytes := 16) (nmL x) (v9 (by simp; simp at hlen; omega) (by omega)) (X := [.c false x.row]) hxo
  rw [hnx] at hS2
  have hb2 := hk2 _ _ hb
  have hbm := fun ks => j2 (m := ks) hb
  have hap' : ∀ rb k, rb + k = H.length + 1 → ag9 rb (H ++ [.c false x.row, .no]) k v (some (fl v6 (nmL x))) (some (nmL x).length) 1 16 = some (v2, H2) := fun rb k e => by
   have := hap rb k (by rw [e]; simp)
   simpa only [List.append_assoc, List.cons_append, List.nil_append] using this
  clear hS hap hk2
  repeat' (first
   | ((with_reducible refine b8 (fun h => ?_) (fun h => ?_)) <;> simp only [h, ae2, ae1, hb, hbm, hxr, hd, hw, al1, hseen, bf6, nl_ts, hln, hfl, hcl, hap', i6, i4, l6, j6, m4, m9, l9, m7, u5, l8, j7, j0, SXR, simprocAttr])
   | (with_reducible refine j9 (hpc) (by simp only [SXR, hcl, l9, m7, u5]) (by simp only [SXR, hcl, l9, m7, u5]) ?_)
   | (simp only [c31, ae2, ae1, hb, hbm, hxr, hd, hw, al1, hseen, bf6, nl_ts, hln, hfl, hcl, hap', i6, i4, l6, j6, m4, m9, l9, m7, u5, l8, j7, j0, SXR, simprocAttr]))
  exact IH (i + 1) _ _ (by exact ⟨H2, v2, rfl, rfl, hS2, hb2⟩) hil (by omega)
 ·clear IH
  have hie : i = q.args.length := by omega
  subst hie
  have hd := ltn hil
  rw [List.take_length] at hS hlen
  obtain ⟨L1, hL1⟩ : ∃ L1, L1 = L0 ++ (q.args.map nmL).flatten := ⟨_, rfl⟩
  have hL1l : L1.length ≤ q.right.sz + Ex.szs q.args := by rw [hL1]; simp at hlen ⊢; omega
  rw [← hL1] at hS
  obtain ⟨H2, v2, hS2, hk2, hap⟩ := hS.app hr0 (by omega) u9 t9 (bytes := 16) [q.every] (v9 (by simp; omega) (by omega)) (X := [.c false [.s q.every.1 q.every.2]]) rfl
  have hb2 := hk2 _ _ hb
  have hap' : ∀ rb k, rb + k = H.length + 1 → ag9 rb (H ++ [.c false [.s q.every.1 q.every.2], .no]) k v (some [.s q.every.1 q.every.2]) (some 1) 1 16 = some (v2, H2) := fun rb k e => by
   have := hap rb k (by rw [e]; simp)
   simp only [List.append_assoc, List.cons_append, List.nil_append, as1] at this
   exact this
  have hbm := fun ks => j2 (m := ks) hb
  clear hap hk2 hsz hlen
  repeat' (first
   | ((with_reducible refine b8 (fun h => ?_) (fun h => ?_)) <;> simp only [h, ae2, ae1, hb, hbm, hd, hap', hb2, List.length_map, i6, i4, l6, j6, m4, m9, l9, m7, u5, l8, j7, j0, SXR, simprocAttr])
   | (simp only [c31, ae2, ae1, hb, hbm, hd, hap', hb2, List.length_map, i6, i4, l6, j6, m4, m9, l9, m7, u5, l8, j7, j0, SXR, simprocAttr]))
  all_goals
   refine m5 (X := Nat) (fun i ll hs => ∃ (H : List O) (v : V), Hd (fun j => [j 0, .p 0 0, j 2, v, j 4, j 5, j 6, j 7, j 8, j 9, j 10, j 11, j 12, j 13, j 14, j 15, j 16, j 17, j 18, j 19, j 20, j 21, j 22, j 23, j 24, j 25, j 26, j 27, j 28, j 29, j 30, j 31, .ts (q.ck.map On.row), .i .i64 (q.ck.length : Int), .i .i64 (i : Int), j 35, j 36, j 37, j 38, j 39, j 40, j 41, j 42, j 43, j 44]) ll ∧ hs = H ∧ NS v6 1 [.c false q.row] .ns [] H v (L1 ++ evL q.every ++ (q.ck.take i).map (·.nm)) ∧ hpL H 0 = .c false q.row)
    (fun i => i ≤ q.ck.length) (fun i => q.ck.length - i) ?_ 0 _ _ (by
      refine ⟨_, _, rfl, rfl, ?_⟩
      rename_i h
      simp only [List.take_zero, List.map_nil, List.append_nil]
      first
       | (rw [show evL q.every = [] from (by simp only [evL, none?]; simp at h; simp [h])]; simpa using And.intro hS hb)
       | (rw [show evL q.every = [q.every] from (by simp only [evL, none?]; simp at h; simp; intro h1; omega)]; exact ⟨hS2, hb2⟩)) (Nat.zero_le _)
   clear hS hb hap' hb2 hS2 hbm hd
   rintro i _ H ⟨_, v, e, rfl, hS, hb⟩ hi IH
   obtain ⟨j, rfl⟩ := e.open
   clear e
   have hev := evL_len q.every
   by_cases hil : i < q.ck.length
   ·obtain ⟨x, hx, hxm⟩ := ats hil
    have hxr : (q.ck.map On.row)[i]? = some x.row := mg hx
    have hd := ltd hil
    have hw := j1 (n := i) (by omega)
    have hnx : (L1 ++ evL q.every ++ (q.ck.take i).map (·.nm)) ++ [x.nm] = L1 ++ evL q.every ++ (q.ck.take (i + 1)).map (·.nm) := by rw [List.take_add_one, hx]; simp
    obtain ⟨H2, v2, hS2, hk2, hap⟩ := hS.app hr0 (by omega) u9 t9 (bytes := 16) [x.nm] (v9 (by simp; omega) (by omega)) (X := [.c false x.row, .c false [.s x.nm.1 x.nm.2]]) (by simp only [List.all_cons, List.all_nil, ac4, on_cl, clL, V.cl, Bool.and_self])
    rw [hnx] at hS2
    have hb2 := hk2 _ _ hb
    have hbm := fun ks => j2 (m := ks) hb
    have hap' : ∀ rb k, rb + k = H.length + 2 → ag9 rb (H ++ [.c false [.s x.nm.1 x.nm.2, .i .i64 x.t, .i .i64 x.tag], .c false [.s x.nm.1 x.nm.2], .no]) k v (some [.s x.nm.1 x.nm.2]) (some 1) 1 16 = some (v2, H2) := fun rb k e => by
     have := hap rb k (by rw [e]; simp)
     simp only [List.append_assoc, List.cons_append, List.nil_append, as1] at this
     exact this
    clear hS hap hk2
    repeat' (first
     | ((with_reducible refine b8 (fun h => ?_) (fun h => ?_)) <;> simp only [h, ae2, ae1, hb, hbm, hxr, hd, hw, hap', On.row, List.length_map, Nat.add_assoc, i6, i4, l6, j6, m4, m9, l9, m7, u5, l8, j7, j0, SXR, simprocAttr])
     | (simp only [c31, ae2, ae1, hb, hbm, hxr, hd, hw, hap', On.row, List.length_map, Nat.add_assoc, i6, i4, l6, j6, m4, m9, l9, m7, u5, l8, j7, j0, SXR, simprocAttr]))
    exact IH (i + 1) _ _ (by exact ⟨H2, v2, rfl, rfl, hS2, hb2⟩) hil (by omega)
   ·clear IH
    have hie : i = q.ck.length := by omega
    subst hie
    have hd := ltn hil
    rw [List.take_length, hL1, hL0e] at hS
    have hr := hS.nr hr0
    repeat' (first
     | ((with_reducible refine b8 (fun h => ?_) (fun h => ?_)) <;> simp only [h, ae2, ae1, hb, hd, List.length_map, i6, i4, l6, j6, m4, m9, l9, m7, u5, l8, j7, j0, SXR, simprocAttr])
     | (simp only [c31, ae2, ae1, hb, hd, List.length_map, i6, i4, l6, j6, m4, m9, l9, m7, u5, l8, j7, j0, SXR, simprocAttr]))
    exact hr.se u9
set_option maxHeartbeats 2000000 in
theorem rreads_pc (q : NEqn) (hk : q.ok) (hl : rsz q < 1000000) : PC Tryz.prog 6 [.ag q.row] (.ts ((o9 q).map v6)) := by
 obtain ⟨_, hrok, _, haok, _, _⟩ := hk
 unfold rsz at hl
 have hal := szs_len q.args
 have hz : ltO 1 [O.c false q.row] = true := bg5 (by rw [ac4]; exact au2 q)
 have hr0 : NR v6 1 [.c false q.row] .ns ([] : List Str) := .inl ⟨rfl, rfl⟩
 have hc := r6names_ac (js := [.c false q.row]) q.right hrok (by omega) hz
 have hS0 := NS.refl.call hr0 (List.nil_prefix (l := nmL q.right)) t9
 have hb0 := ax2 (f := v6) hr0 (show hpL [.c false q.row] 0 = .c false q.row from rfl) (nmL q.right)
 have hL0 := at9 q.right
 obtain ⟨H3, hH3⟩ : ∃ H3, H3 = nmh v6 [.c false q.row] .ns [] (nmL q.right) := ⟨_, rfl⟩
 obtain ⟨v3, hv3⟩ : ∃ v3, v3 = nmv 1 [.c false q.row] .ns [] (nmL q.right) := ⟨_, rfl⟩
 rw [← hH3, ← hv3] at hc hS0
 rw [← hH3] at hb0
 clear hH3 hv3
 obtain ⟨L0, hL0e⟩ : ∃ L0, L0 = nmL q.right := ⟨_, rfl⟩
 rw [← hL0e] at hS0 hL0
 refine pc_frz Tryz.func6 k6 rfl ?_
 repeat' (first
  | ((with_reducible refine b8 (fun h => ?_) (fun h => ?_)) <;> simp only [h, ae2, ae1, hb0, i6, i4, l6, j6, m4, m9, l9, m7, u5, l8, j7, j0, SXR, simprocAttr])
  | (with_reducible refine e8 (hc) ?_)
  | (simp only [c6, ae2, ae1, hb0, i6, i4, l6, j6, m4, m9, l9, m7, u5, l8, j7, j0, SXR, simprocAttr]))
 refine m5 (X := Nat) (fun i ll hs => ∃ (H : List O) (v : V), Hd (fun j => [j 0, .p 0 0, j 2, v, .i .i64 (i : Int), j 5, j 6, j 7, j 8, j 9, j 10, j 11, j 12, j 13, j 14, j 15, j 16, j 17, j 18, j 19, j 20, j 21, j 22, j 23, j 24, j 25, j 26, j 27, j 28, j 29, j 30, j 31, j 32, j 33, j 34, j 35, j 36, j 37, j 38, j 39, j 40, j 41, j 42, j 43, j 44, j 45, j 46, j 47, j 48]) ll ∧ hs = H ∧ NS v6 1 [.c false q.row] .ns [] H v (L0 ++ ((q.args.take i).map nmL).flatten) ∧ hpL H 0 = .c false q.row)
  (fun i => i ≤ q.args.length) (fun i => q.args.length - i) ?_ 0 _ _ (by refine ⟨_, _, rfl, rfl, ?_⟩; exact ⟨by simpa using hS0, hb0⟩) (Nat.zero_le _)
 clear hS0 hb0 hc
 rintro i _ H ⟨_, v, e, rfl, hS, hb⟩ hi IH
 obtain ⟨j, rfl⟩ := e.open
 clear e
 have hlen := ax3 (q.args.take i)
 have hsz := aj0 q.args i
 by_cases hil : i < q.args.length
 ·obtain ⟨x, hx, hxm⟩ := bd8 hil
  have hxr : (Ex.rows q.args)[i]? = some x.row := by rw [am7, hx]; rfl
  have hd := ltd hil
  have hw := j1 (n := i) (by omega)
  have hxo : ([] : List O).all ocl = true := by first | rfl | simp only [List.all_cons, List.all_nil, ac4, m7, Bool.and_self]
  have hxs := bf2 hxm
  have hxc := at9 x
  have hpc := r6names_pc x (ap2 haok hxm) (by omega)
  have hnx : (L0 ++ ((q.args.take i).map nmL).flatten) ++ nmL x = L0 ++ ((q.args.take (i + 1)).map nmL).flatten := by rw [List.take_add_one, hx]; simp
  have hseen : ((nmL x).map v6).all (fun r => r.length == 1) = true := all_map u9 _
  have hcl := am6 (nmL x)
  have hln : ((nmL x).map v6).length = (nmL x).length := List.length_map _
  have hfl : ((nmL x).map v6).flatten = fl v6 (nmL x) := rfl
  obtain ⟨H2, v2, hS2, hk2, hap⟩ := hS.app hr0 (by omega) u9 t9 (bytes := 16) (nmL x) (v9 (by simp; simp at hlen; omega) (by omega)) (X := []) hxo
  rw [hnx] at hS2
  have hb2 := hk2 _ _ hb
  have hbm := fun ks => j2 (m := ks) hb
  have hap' : ∀ rb k, rb + k = H.length + 0 → ag9 rb (H ++ [.no]) k v (some (fl v6 (nmL x))) (some (nmL x).length) 1 16 = some (v2, H2) := fun rb k e => by
   have := hap rb k (by rw [e]; simp)
   simpa only [List.append_assoc, List.cons_append, List.nil_append] using this
  clear hS hap hk2
  repeat' (first
   | ((with_reducible refine b8 (fun h => ?_) (fun h => ?_)) <;> simp only [h, ae2, ae1, hb, hbm, hxr, hd, hw, al1, hseen, bf6, nl_ts, hln, hfl, hcl, hap', i6, i4, l6, j6, m4, m9, l9, m7, u5, l8, j7, j0, SXR, simprocAttr])
   | (with_reducible refine j9 (hpc) (by simp only [SXR, hcl, l9, m7, u5]) (by simp only [SXR, hcl, l9, m7, u5]) ?_)
   | (simp only [c6, ae2, ae1, hb, hbm, hxr, hd, hw, al1, hseen, bf6, nl_ts, hln, hfl, hcl, hap', i6, i4, l6, j6, m4, m9, l9, m7, u5, l8, j7, j0, SXR, simprocAttr]))
  exact IH (i + 1) _ _ (by exact ⟨H2, v2, rfl, rfl, hS2, hb2⟩) hil (by omega)
 ·clear IH
  have hie : i = q.args.length := by omega
  subst hie
  have hd := ltn hil
  rw [List.take_length] at hS hlen
  obtain ⟨L1, hL1⟩ : ∃ L1, L1 = L0 ++ (q.args.map nmL).flatten := ⟨_, rfl⟩
  have hL1l : L1.length ≤ q.right.sz + Ex.szs q.args := by rw [hL1]; simp at hlen ⊢; omega
  rw [← hL1] at hS
  obtain ⟨H2, v2, hS2, hk2, hap⟩ := hS.app hr0 (by omega) u9 t9 (bytes := 16) [q.every] (v9 (by simp; omega) (by omega)) (X := [.c false [.s q.every.1 q.every.2]]) rfl
  have hb2 := hk2 _ _ hb
  have hap' : ∀ rb k, rb + k = H.length + 1 → ag9 rb (H ++ [.c false [.s q.every.1 q.every.2], .no]) k v (some [.s q.every.1 q.every.2]) (some 1) 1 16 = some (v2, H2) := fun rb k e => by
   have := hap rb k (by rw [e]; simp)
   simp only [List.append_assoc, List.cons_append, List.nil_append, as1] at this
   exact this
  have hbm := fun ks => j2 (m := ks) hb
  clear hap hk2 hsz hlen
  repeat' (first
   | ((with_reducible refine b8 (fun h => ?_) (fun h => ?_)) <;> simp only [h, ae2, ae1, hb, hbm, hd, hap', hb2, List.length_map, i6, i4, l6, j6, m4, m9, l9, m7, u5, l8, j7, j0, SXR, simprocAttr])
   | (simp only [c6, ae2, ae1, hb, hbm, hd, hap', hb2, List.length_map, i6, i4, l6, j6, m4, m9, l9, m7, u5, l8, j7, j0, SXR, simprocAttr]))
  all_goals
   refine m5 (X := Nat) (fun i ll hs => ∃ (H : List O) (v : V), Hd (fun j => [j 0, .p 0 0, j 2, v, j 4, .i .i64 (i : Int), j 6, j 7, j 8, j 9, j 10, j 11, j 12, j 13, j 14, j 15, j 16, j 17, j 18, j 19, j 20, j 21, j 22, j 23, j 24, j 25, j 26, j 27, j 28, j 29, j 30, j 31, j 32, j 33, j 34, j 35, j 36, j 37, j 38, j 39, j 40, j 41, j 42, j 43, j 44, j 45, j 46, j 47, j 48]) ll ∧ hs = H ∧ NS v6 1 [.c false q.row] .ns [] H v (L1 ++ evL q.every ++ (q.ck.take i).map (·.nm)) ∧ hpL H 0 = .c false q.row)
    (fun i => i ≤ q.ck.length) (fun i => q.ck.length - i) ?_ 0 _ _ (by
      refine ⟨_, _, rfl, rfl, ?_⟩
      rename_i h
      simp only [List.take_zero, List.map_nil, List.append_nil]
      first
       | (rw [show evL q.every = [] from (by simp only [evL, none?]; simp at h; simp [h])]; simpa using And.intro hS hb)
       | (rw [show evL q.every = [q.every] from (by simp only [evL, none?]; simp at h; simp; intro h1; omega)]; exact ⟨hS2, hb2⟩)) (Nat.zero_le _)
   clear hS hb hap' hb2 hS2 hbm hd
   rintro i _ H ⟨_, v, e, rfl, hS, hb⟩ hi IH
   obtain ⟨j, rfl⟩ := e.open
   clear e
   have hev := evL_len q.every
   by_cases hil : i < q.ck.length
   ·obtain ⟨x, hx, hxm⟩ := ats hil
    have hxr : (q.ck.map On.row)[i]? = some x.row := mg hx
    have hd := ltd hil
    have hw := j1 (n := i) (by omega)
    have hnx : (L1 ++ evL q.every ++ (q.ck.take i).map (·.nm)) ++ [x.nm] = L1 ++ evL q.every ++ (q.ck.take (i + 1)).map (·.nm) := by rw [List.take_add_one, hx]; simp
    obtain ⟨H2, v2, hS2, hk2, hap⟩ := hS.app hr0 (by omega) u9 t9 (bytes := 16) [x.nm] (v9 (by simp; omega) (by omega)) (X := [.c false [.s x.nm.1 x.nm.2]]) (by simp only [List.all_cons, List.all_nil, ac4, on_cl, clL, V.cl, Bool.and_self])
    rw [hnx] at hS2
    have hb2 := hk2 _ _ hb
    have hbm := fun ks => j2 (m := ks) hb
    have hap' : ∀ rb k, rb + k = H.length + 1 → ag9 rb (H ++ [.c false [.s x.nm.1 x.nm.2], .no]) k v (some [.s x.nm.1 x.nm.2]) (some 1) 1 16 = some (v2, H2) := fun rb k e => by
     have := hap rb k (by rw [e]; simp)
     simp only [List.append_assoc, List.cons_append, List.nil_append, as1] at this
     exact this
    clear hS hap hk2
    repeat' (first
     | ((with_reducible refine b8 (fun h => ?_) (fun h => ?_)) <;> simp only [h, ae2, ae1, hb, hbm, hxr, hd, hw, hap', On.row, List.length_map, Nat.add_assoc, i6, i4, l6, j6, m4, m9, l9, m7, u5, l8, j7, j0, SXR, simprocAttr])
     | (simp only [c6, ae2, ae1, hb, hbm, hxr, hd, hw, hap', On.row, List.length_map, Nat.add_assoc, i6, i4, l6, j6, m4, m9, l9, m7, u5, l8, j7, j0, SXR, simprocAttr]))
    exact IH (i + 1) _ _ (by exact ⟨H2, v2, rfl, rfl, hS2, hb2⟩) hil (by omega)
   ·clear IH
    have hie : i = q.ck.length := by omega
    subst hie
    have hd := ltn hil
    rw [List.take_length, hL1, hL0e] at hS
    have hr := hS.nr hr0
    repeat' (first
     | ((with_reducible refine b8 (fun h => ?_) (fun h => ?_)) <;> simp only [h, ae2, ae1, hb, hd, List.length_map, i6, i4, l6, j6, m4, m9, l9, m7, u5, l8, j7, j0, SXR, simprocAttr])
     | (simp only [c6, ae2, ae1, hb, hd, List.length_map, i6, i4, l6, j6, m4, m9, l9, m7, u5, l8, j7, j0, SXR, simprocAttr]))
    exact hr.se u9
structure MV {α : Type} (kt : KT) (kf : α → V) (es : List (V × V × Nat)) (f : α → Option V) : Prop where
 h : ∀ s, (f s = none ∧ ap6 kt (kf s) es 0 = some none) ∨ ∃ n v c, f s = some v ∧ ap6 kt (kf s) es 0 = some (some n) ∧ es[n]? = some (kf s, v, c)
theorem MV.nil {α : Type} {kt : KT} {kf : α → V} : MV kt kf [] (fun _ => none) := ⟨fun s => .inl ⟨rfl, rfl⟩⟩
theorem MV.put {α : Type} [DecidableEq α] {kt : KT} {kf : α → V} {es : List (V × V × Nat)} {f : α → Option V} (h : MV kt kf es f) (hk : ∀ s, kt.is (kf s) = true) (hq : ∀ s t, ap8 (kf s) (kf t) = true ↔ s = t)
  {hs : List O} {a ck : Nat} (ha : hpL hs a = .m es ck) (k : α) (v : V) :
  ∃ es' ck', mstB hs kt (kf k) v (.m a) = u6 hs a (.m es' ck') ∧ MV kt kf es' (fun s => if s = k then some v else f s) := by
 have hinj : ∀ {s t : α}, kf s = kf t → s = t := fun {s t} e => (hq s t).1 (by rw [e]; exact (hq t t).2 rfl)
 rcases h.h k with ⟨h1, h2⟩ | ⟨n, t0, c, h1, h2, h3⟩
 ·refine ⟨es ++ [(kf k, v, ck)], ck + 1, ?_, ⟨fun s => ?_⟩⟩
  ·simp only [mstB, ha, hk, if_true, h2]
  ·obtain ⟨g1, g2⟩ := midx_app (kt := kt) (k := kf s) (es := es) (x := (kf k, v, ck)) (j := 0) (hk k)
   by_cases hsk : s = k
   ·subst hsk
    refine .inr ⟨es.length, v, ck, by rw [if_pos rfl], ?_, by simp⟩
    rw [g1 h2, if_pos ((hq s s).2 rfl), Nat.zero_add]
   ·rw [if_neg hsk]
    rcases h.h s with ⟨q1, q2⟩ | ⟨n, t1, c, q1, q2, q3⟩
    ·refine .inl ⟨q1, ?_⟩
     rw [g1 q2, if_neg (fun e => hsk ((hq s k).1 e))]
    ·exact .inr ⟨n, t1, c, q1, g2 n q2, by rw [List.getElem?_append_left (List.getElem?_eq_some_iff.1 q3).1]; exact q3⟩
 ·have hn := (List.getElem?_eq_some_iff.1 h3).1
  have hmap : (es.set n (kf k, v, c)).map (·.1) = es.map (·.1) := by
   apply List.ext_getElem?
   intro i
   rw [List.getElem?_map, List.getElem?_map, List.getElem?_set]
   split
   ·rename_i e
    subst e
    simp [hn, h3]
    have := (List.getElem?_eq_some_iff.1 h3).2
    rw [this]
   ·rfl
  refine ⟨es.set n (kf k, v, c), ck, ?_, ⟨fun s => ?_⟩⟩
  ·simp only [mstB, ha, hk, if_true, h2, h3]
  ·rw [midx_fst hmap]
   by_cases hsk : s = k
   ·subst hsk
    exact .inr ⟨n, v, c, by rw [if_pos rfl], h2, by simp [hn]⟩
   ·rw [if_neg hsk]
    rcases h.h s with ⟨q1, q2⟩ | ⟨m, t1, c1, q1, q2, q3⟩
    ·exact .inl ⟨q1, q2⟩
    ·refine .inr ⟨m, t1, c1, q1, q2, ?_⟩
     rw [List.getElem?_set]
     split
     ·rename_i e
      subst e
      rw [h3] at q3
      simp only [Option.some.injEq, Prod.mk.injEq] at q3
      exact (hsk (hinj q3.1).symm).elim
     ·exact q3
theorem MV.get {α : Type} {kt : KT} {kf : α → V} {es : List (V × V × Nat)} {f : α → Option V} (h : MV kt kf es f) (hk : ∀ s, kt.is (kf s) = true) {hp : Hp} {a ck : Nat} (ha : hp a = .m es ck) (s : α) {zero : List V} {z : V} (hz : pack false zero = some z) :
  lkpE hp kt false zero false (.m a) (kf s) = some ((f s).getD z) := by
 rcases h.h s with ⟨h1, h2⟩ | ⟨n, t, c, h1, h2, h3⟩
 ·simp only [lkpE, hz, lkpV, hk, if_true, ha, h2, h1]; rfl
 ·simp only [lkpE, hz, lkpV, hk, if_true, ha, h2, h1, h3]; rfl
theorem NR.app1 {α : Type} {f : α → List V} {wd : Nat} {H : List O} {v : V} {l : List α} (hr : NR f wd H v l) (hw : wd ≠ 0) (hf : ∀ x, (f x).length = wd) (x : α) {bytes : Nat} (hroom : room (l.length + 1) bytes = true) (X : List O) :
  ∀ rb k, rb + k = H.length + X.length → ag9 rb (H ++ (X ++ [.no])) k v (some (f x)) (some 1) wd bytes = some (.sl (H.length + X.length) 0 wd (l.length + 1) none, ak8 H v ++ (X ++ [.c true (fl f (l ++ [x]))])) := by
 intro rb k e
 have hwb : Nat.beq wd 0 = false := by cases wd with | zero => exact (hw rfl).elim | succ n => rfl
 have hm0 : Nat.beq 1 0 = false := rfl
 rcases hr with ⟨rfl, rfl⟩ | ⟨B, rfl, hB⟩
 ·rw [ap_ns hm0 (by simpa using hroom), e, show H ++ (X ++ [O.no]) = (H ++ X) ++ [.no] by simp, aj7 (by simp)]
  simp [ak8, fl]
 ·have hBl := t8 hB
  rw [ap_sl hm0, j2 hB, aq3 hm0 hwb (by rw [aq0 hf]; exact Nat.beq_refl _) hroom]
  have hs : u6 (H ++ (X ++ [O.no])) B O.gone = some (H.set B .gone ++ (X ++ [.no])) := aj6 hBl
  rw [hs, Option.bind_some]
  rw [show H.set B O.gone ++ (X ++ [O.no]) = (H.set B .gone ++ X) ++ [.no] by simp, aj7 (by simp [e])]
  rw [fl_app, as1, e]
  simp [ak8]
theorem al9 {H W : List O} {v : V} {a : Nat} (ha : a < H.length) (hv : ∀ B o w n c, v = .sl B o w n c → a ≠ B) : hpL (ak8 H v ++ W) a = hpL H a := by
 rw [o0 (by rw [p7]; exact ha)]
 cases v <;> first | rfl | skip
 rename_i B o w n c
 exact i8 (hv _ _ _ _ _ rfl)
theorem an0 {H X : List O} {v : V} {o : O} : hpL (ak8 H v ++ (X ++ [o])) (H.length + X.length) = o := by
 have := hp_mid (us := ak8 H v) (W := X) (I0 := []) (K := []) (o := o)
 simpa only [p7, List.append_nil, List.nil_append, List.length_nil, Nat.add_zero] using this
theorem z9 {H : List O} {a : Nat} {o : O} (h : a < H.length) : u6 H a o = some (H.set a o) := by simpa using aj6 (zs := []) (o := o) h
theorem hpm_lt {H : List O} {a ck : Nat} {es : List (V × V × Nat)} (h : hpL H a = .m es ck) : a < H.length := by
 rcases Nat.lt_or_ge a H.length with q | q
 ·exact q
 ·rw [hpL_ge q] at h; cases h
def irw (i : Nat) : List V := [z7 i]
theorem irw_w (i : Nat) : (irw i).length = 1 := rfl
theorem kti (i : Nat) : KT.is (.k (.i .i64)) (z7 i) = true := rfl
theorem kts (s : Str) : KT.is (.k .s) (skey s) = true := rfl
structure OM (K m : Nat) (P H : List O) (L : Str → List Nat) : Prop where
 len : P.length ≤ H.length
 K0 : m < K ∧ K ≤ P.length
 low : ∀ a, a < K → a ≠ m → hpL H a = hpL P a
 by_ : ∃ (f : Str → Option V) (es : List (V × V × Nat)) (ck : Nat), hpL H m = .m es ck ∧ MV (.k .s) skey es f ∧
  (∀ s, (f s = none ∧ L s = []) ∨ ∃ B, K ≤ B ∧ f s = some (.sl B 0 1 (L s).length none) ∧ hpL H B = .c true (fl irw (L s))) ∧
  ∀ s t B n n', f s = some (.sl B 0 1 n none) → f t = some (.sl B 0 1 n' none) → s = t
theorem OM.more {K m : Nat} {P H : List O} {L : Str → List Nat} (h : OM K m P H L) (X : List O) : OM K m P (H ++ X) L := by
 have hl := h.len
 have hk := h.K0
 obtain ⟨f, es, ck, h1, h2, h3, h4⟩ := h.by_
 refine ⟨by simp; omega, hk, fun a ha hm => ?_, f, es, ck, ar5 h1, h2, fun s => ?_, h4⟩
 ·rw [o0 (by omega)]; exact h.low a ha hm
 ·rcases h3 s with h | ⟨B, q1, q2, q3⟩
  ·exact .inl h
  ·exact .inr ⟨B, q1, q2, j2 q3⟩
theorem OM.look {K m : Nat} {P H : List O} {L : Str → List Nat} (h : OM K m P H L) (s : Str) : ∃ v, (∀ ks, lkpE (hpL (H ++ ks)) (.k .s) false [.ns] false (.m m) (.s s.1 s.2) = some v) ∧ NR irw 1 H v (L s) ∧ ∀ B o w n c, v = .sl B o w n c → K ≤ B := by
 obtain ⟨f, es, ck, h1, h2, h3, h4⟩ := h.by_
 refine ⟨(f s).getD .ns, fun ks => h2.get kts (ar5 h1) s rfl, ?_, ?_⟩
 ·rcases h3 s with ⟨e, e2⟩ | ⟨B, q1, q2, q3⟩
  ·rw [e, e2]; exact .inl ⟨rfl, rfl⟩
  ·rw [q2]; exact .inr ⟨B, rfl, q3⟩
 ·intro B o w n c e
  rcases h3 s with ⟨e1, e2⟩ | ⟨B', q1, q2, q3⟩
  ·rw [e1] at e; cases e
  ·rw [q2] at e; cases e; exact q1
theorem OM.step {K m : Nat} {P H : List O} {L : Str → List Nat} (h : OM K m P H L) (s : Str) (i : Nat) (hroom : room ((L s).length + 1) 8 = true) :
  ∃ (v v' : V) (H1 H2 : List O), (∀ ks, lkpE (hpL (H ++ ks)) (.k .s) false [.ns] false (.m m) (.s s.1 s.2) = some v) ∧
   (∀ rb k, rb + k = H.length + 1 → ag9 rb (H ++ [.c false [.i .i64 (i : Int)], .no]) k v (some [.i .i64 (i : Int)]) (some 1) 1 8 = some (v', H1)) ∧
   mstB H1 (.k .s) (.s s.1 s.2) v' (.m m) = some H2 ∧ OM K m P H2 (fun t => if t = s then L t ++ [i] else L t) := by
 have hl := h.len
 have hk := h.K0
 obtain ⟨v, hv, hn, hvK⟩ := h.look s
 obtain ⟨f, es, ck, h1, h2, h3, h4⟩ := h.by_
 have hvf : v = (f s).getD .ns := by
  have e := hv []
  rw [List.append_nil] at e
  have e2 := h2.get kts h1 s (zero := [.ns]) (z := .ns) rfl
  rw [show skey s = V.s s.1 s.2 from rfl] at e2
  rw [e2] at e
  exact (Option.some.inj e).symm
 have hap := hn.app1 (by omega) irw_w i hroom [.c false [.i .i64 (i : Int)]]
 have hml := hpm_lt h1
 have hm1 : hpL (ak8 H v ++ ([O.c false [.i .i64 (i : Int)]] ++ [O.c true (fl irw (L s ++ [i]))])) m = .m es ck := by
  rw [al9 hml (fun B o w n c e => by have := hvK B o w n c e; omega)]; exact h1
 obtain ⟨es', ck', g1, g2⟩ := h2.put kts keyEq_s hm1 s (.sl (H.length + 1) 0 1 ((L s).length + 1) none)
 have hset1 : u6 (ak8 H v ++ ([O.c false [.i .i64 (i : Int)]] ++ [O.c true (fl irw (L s ++ [i]))])) m (.m es' ck') = some ((ak8 H v ++ ([O.c false [.i .i64 (i : Int)]] ++ [O.c true (fl irw (L s ++ [i]))])).set m (.m es' ck')) := z9 (by simp [p7]; omega)
 refine ⟨v, _, _, _, hv, fun rb k e => ?_, by rw [hset1] at g1; exact g1, ?_⟩
 ·exact hap rb k (by simpa using e)
 ·have hother : ∀ a, a < H.length → a ≠ m → (∀ B o w n c, v = .sl B o w n c → a ≠ B) → hpL ((ak8 H v ++ ([O.c false [.i .i64 (i : Int)]] ++ [O.c true (fl irw (L s ++ [i]))])).set m (.m es' ck')) a = hpL H a := fun a ha hm hB => by
   rw [i8 hm, al9 ha hB]
  refine ⟨by simp [p7]; omega, hk, fun a ha hm => ?_, _, es', ck', m8 (by simp [p7]; omega), g2, fun t => ?_, ?_⟩
  ·rw [hother a (by omega) hm (fun B o w n c e => by have := hvK B o w n c e; omega)]
   exact h.low a ha hm
  ·by_cases hts : t = s
   ·subst hts
    refine .inr ⟨H.length + 1, by omega, by simp, ?_⟩
    rw [i8 (by omega), if_pos rfl]
    exact an0 (X := [O.c false [V.i IntKind.i64 (i : Int)]])
   ·simp only [if_neg hts]
    rcases h3 t with q | ⟨B, q1, q2, q3⟩
    ·exact .inl q
    ·refine .inr ⟨B, q1, q2, ?_⟩
     rw [hother B (t8 q3) (by omega) (fun B' o w n c e => ?_)]
     ·exact q3
     ·rintro rfl
      rcases h3 s with ⟨e1, e2⟩ | ⟨B2, p1, p2, p3⟩
      ·rw [e1] at hvf; rw [hvf] at e; cases e
      ·rw [p2] at hvf; rw [hvf] at e; cases e
       exact hts (h4 t s _ _ _ q2 p2)
  ·intro a b B n n' ea eb
   by_cases has : a = s
   ·by_cases hbs : b = s
    ·rw [has, hbs]
    ·rw [if_pos has] at ea; rw [if_neg hbs] at eb
     cases ea
     rcases h3 b with ⟨e1, e2⟩ | ⟨B2, p1, p2, p3⟩
     ·rw [e1] at eb; cases eb
     ·rw [p2] at eb; cases eb
      have := t8 p3; omega
   ·by_cases hbs : b = s
    ·rw [if_neg has] at ea; rw [if_pos hbs] at eb
     cases eb
     rcases h3 a with ⟨e1, e2⟩ | ⟨B2, p1, p2, p3⟩
     ·rw [e1] at ea; cases ea
     ·rw [p2] at ea; cases ea
      have := t8 p3; omega
    ·rw [if_neg has] at ea; rw [if_neg hbs] at eb
     exact h4 a b B n n' ea eb
def byQ (s : Str) (i : Nat) (q : NEqn) : List Nat := if q.kind == 2 then [] else (q.left.filter (ad0 s)).map fun _ => i
def byK (eqs : List NEqn) : Nat → Str → List Nat
 | 0, _ => []
 | k + 1, s => byK eqs k s ++ (match eqs[k]? with | some q => byQ s k q | none => [])
theorem byQ_len (s : Str) (i : Nat) (q : NEqn) : (byQ s i q).length ≤ q.left.length := by
 unfold byQ
 split
 ·simp
 ·rw [List.length_map]; exact List.length_filter_le _ _
theorem byK_len {eqs : List NEqn} {M : Nat} (h : ∀ q, q ∈ eqs → q.left.length ≤ M) (s : Str) : ∀ k, (byK eqs k s).length ≤ k * M
 | 0 => by simp [byK]
 | k + 1 => by
   have ih := byK_len h s k
   simp only [byK, List.length_append, Nat.add_mul, Nat.one_mul]
   cases he : eqs[k]? with
   | none => simp; omega
   | some q =>
     have h1 := byQ_len s k q
     have h2 := h q (List.mem_of_getElem? he)
     simp only
     omega
theorem byK_lt {eqs : List NEqn} (s : Str) : ∀ k i, i ∈ byK eqs k s → i < k ∧ i < eqs.length
 | 0, i, h => by simp [byK] at h
 | k + 1, i, h => by
   simp only [byK, List.mem_append] at h
   rcases h with h | h
   ·have := byK_lt s k i h; omega
   ·cases he : eqs[k]? with
    | none => rw [he] at h; simp at h
    | some q =>
      rw [he] at h
      have hk := (List.getElem?_eq_some_iff.1 he).1
      simp only [byQ] at h
      split at h
      ·simp at h
      ·simp only [List.mem_map] at h
       obtain ⟨_, _, rfl⟩ := h
       omega
def be2 (S : List Nat) (i : Nat) : List Nat := if i ∈ S then S else S ++ [i]
def be1 (L : Str → List Nat) (S : List Nat) (names : List Str) : List Nat := names.foldl (fun S s => (L s).foldl be2 S) S
theorem addN_nodup {S : List Nat} {i : Nat} (h : S.Nodup) : (be2 S i).Nodup := by
 unfold be2
 split
 ·exact h
 ·rename_i hi
  rw [List.nodup_append]
  refine ⟨h, by simp, fun a ha b hb => ?_⟩
  simp at hb
  rintro rfl
  exact hi (hb ▸ ha)
theorem addN_mem {S : List Nat} {i j : Nat} : j ∈ be2 S i ↔ j ∈ S ∨ j = i := by
 unfold be2
 split
 ·rename_i hi
  constructor
  ·exact .inl
  ·rintro (h | rfl)
   ·exact h
   ·exact hi
 ·simp
theorem bd9 : ∀ {l S : List Nat} {j : Nat}, j ∈ l.foldl be2 S ↔ j ∈ S ∨ j ∈ l
 | [], S, j => by simp
 | i :: l, S, j => by
   rw [List.foldl_cons, bd9, addN_mem, List.mem_cons]
   constructor
   ·rintro ((h | h) | h)
    ·exact .inl h
    ·exact .inr (.inl h)
    ·exact .inr (.inr h)
   ·rintro (h | h | h)
    ·exact .inl (.inl h)
    ·exact .inl (.inr h)
    ·exact .inr h
theorem aq4 : ∀ {l S : List Nat}, S.Nodup → (l.foldl be2 S).Nodup
 | [], S, h => h
 | i :: l, S, h => by rw [List.foldl_cons]; exact aq4 (addN_nodup h)
theorem ax8 {L : Str → List Nat} : ∀ {names : List Str} {S : List Nat} {j : Nat}, j ∈ be1 L S names ↔ j ∈ S ∨ ∃ s, s ∈ names ∧ j ∈ L s
 | [], S, j => by simp [be1]
 | s :: l, S, j => by
   have : be1 L S (s :: l) = be1 L ((L s).foldl be2 S) l := rfl
   rw [this, ax8, bd9]
   constructor
   ·rintro ((h | h) | ⟨t, h1, h2⟩)
    ·exact .inl h
    ·exact .inr ⟨s, by simp, h⟩
    ·exact .inr ⟨t, by simp [h1], h2⟩
   ·rintro (h | ⟨t, h1, h2⟩)
    ·exact .inl (.inl h)
    ·rcases List.mem_cons.1 h1 with rfl | h1
     ·exact .inl (.inr h2)
     ·exact .inr ⟨t, h1, h2⟩
theorem au9 {L : Str → List Nat} : ∀ {names : List Str} {S : List Nat}, S.Nodup → (be1 L S names).Nodup
 | [], S, h => h
 | s :: l, S, h => by
   have : be1 L S (s :: l) = be1 L ((L s).foldl be2 S) l := rfl
   rw [this]; exact au9 (aq4 h)
theorem deps_snoc (L : Str → List Nat) (S : List Nat) (a : List Str) (s : Str) : be1 L S (a ++ [s]) = (L s).foldl be2 (be1 L S a) := by simp [be1]
theorem ad5 : ∀ {n : Nat} {l : List Nat}, l.Nodup → (∀ i, i ∈ l → i < n) → l.length ≤ n
 | 0, l, h, hl => by
   cases l with
   | nil => simp
   | cons a l => have := hl a (by simp); omega
 | n + 1, l, h, hl => by
   have h1 := ad5 (n := n) (l := l.filter (fun x => !(x == n))) (h.filter _) (fun i hi => by
    simp only [List.mem_filter, Bool.not_eq_true', beq_eq_false_iff_ne] at hi
    have := hl i hi.1; omega)
   have h2 : l.length ≤ (l.filter (fun x => !(x == n))).length + 1 := by
    have hc : l.countP (fun x => x == n) ≤ 1 := by
     have := List.nodup_iff_count.1 h n
     simpa [List.count] using this
    have := List.length_eq_countP_add_countP (fun x => x == n) (l := l)
    rw [List.countP_eq_length_filter (p := fun a => decide ¬(a == n) = true)] at this
    have he : l.filter (fun a => decide ¬(a == n) = true) = l.filter (fun x => !(x == n)) := by
     congr 1; funext x; by_cases hx : x == n <;> simp [hx]
    rw [he] at this
    omega
   omega
def ag2 (e : Nat × Nat) : List V := [.i .i64 (e.1 : Int), .i .i64 (e.2 : Int)]
theorem bc1 (e : Nat × Nat) : (ag2 e).length = 2 := rfl
def m6 (N : Nat) (g : Nat → Nat) : List V := (List.range N).map fun k => z7 (g k)
theorem fc_len (N : Nat) (g : Nat → Nat) : (m6 N g).length = N := by simp [m6]
theorem fc_get {N : Nat} {g : Nat → Nat} {j : Nat} (h : j < N) : (m6 N g)[j]? = some (z7 (g j)) := by simp [m6, h]
theorem fc_set (N : Nat) (g : Nat → Nat) (j x : Nat) : (m6 N g).set j (z7 x) = m6 N (fun k => if k = j then x else g k) := by
 apply List.ext_getElem?
 intro i
 rw [List.getElem?_set]
 simp only [m6, List.getElem?_map, List.length_map, List.length_range]
 by_cases hij : j = i
 ·subst hij
  by_cases hj : j < N
  ·simp [hj]
  ·simp [hj]
 ·rw [if_neg hij]
  by_cases hi : i < N
  ·simp [hi, Ne.symm hij]
  ·simp [hi]
theorem fc_cl (N : Nat) (g : Nat → Nat) : clL (m6 N g) = true := by
 unfold m6
 induction List.range N with
 | nil => rfl
 | cons a l ih => simp only [List.map_cons, clL, ih, Bool.and_true]; rfl
theorem ld1 {gr : Bool} {cs : List V} {j : Nat} {x : V} (h : cs[j]? = some x) : ldE.ldO 1 false j (.c gr cs) = some x := by
 have hj := (List.getElem?_eq_some_iff.1 h).1
 have e : cs = cs.take j ++ ([x] ++ cs.drop (j + 1)) := by
  conv => lhs; rw [← List.take_append_drop j cs, t6 h]
  rfl
 exact bb2 (c := 0) (off := j) e (by rw [List.length_take]; omega) rfl
theorem putAt_1 : ∀ (cs : List V) (j : Nat) (x : V), j < cs.length → putAt cs j [x] = cs.set j x := by
 intro cs j x hj
 have e : cs = cs.take j ++ ([cs[j]] ++ cs.drop (j + 1)) := by
  conv => lhs; rw [← List.take_append_drop j cs, t6 (List.getElem?_eq_getElem hj)]
  rfl
 have hl : (cs.take j).length = j := by rw [List.length_take]; omega
 have := putAt_cut [x] [cs[j]] (cs.take j) (cs.drop (j + 1)) rfl
 rw [← e, hl] at this
 rw [this, List.set_eq_take_append_cons_drop, if_pos hj]
 rfl
theorem stp1 {hs : List O} {b j : Nat} {gr : Bool} {cs : List V} {x : V} (h : j < cs.length) : stpO hs b 1 j [x] (.c gr cs) = u6 hs b (.c gr (cs.set j x)) := by
 rw [stp_c rfl (by rw [Nat.ble_eq]; omega), putAt_1 _ _ _ h]
def scc (b : Nat) (row : List V) (N : Nat) (ev : V) : List V := row ++ [ev, .sl (b + 1) 0 1 N none, .sl (b + 2) 0 1 N none]
structure BG (js : List O) (row : List V) (N K : Nat) (L : Str → List Nat) (H : List O) (ev : V) (E : List (Nat × Nat)) (g : Nat → Nat) : Prop where
 K0 : js.length + 5 ≤ K ∧ K ≤ H.length
 pre : ∀ a, a < js.length → hpL H a = hpL js a
 lf : hpL H (js.length + 1) = .c false (m6 N g)
 dn : hpL H (js.length + 2) = .c false (List.replicate N (.b false))
 sc : hpL H (js.length + 3) = .c false (scc js.length row N ev)
 by_ : ∃ (f : Str → Option V) (es : List (V × V × Nat)) (ck : Nat), hpL H (js.length + 4) = .m es ck ∧ MV (.k .s) skey es f ∧
  ∀ s, (f s = none ∧ L s = []) ∨ ∃ B, js.length + 5 ≤ B ∧ B < K ∧ f s = some (.sl B 0 1 (L s).length none) ∧ hpL H B = .c true (fl irw (L s))
 ed : NR ag2 2 H ev E
 eK : ∀ B o w n c, ev = .sl B o w n c → K ≤ B
 eN : E = [] → ev = .ns
def SE (sa : Nat) (H : List O) (S : List Nat) : Prop := ∃ (es : List (V × V × Nat)) (ck : Nat), hpL H sa = .m es ck ∧ MV (.k (.i .i64)) z7 es (fun i => if i ∈ S then some (.b true) else none)
section
variable {js H : List O} {row : List V} {N K sa : Nat} {L : Str → List Nat} {ev : V} {E : List (Nat × Nat)} {g : Nat → Nat} {S : List Nat}
theorem BG.upd (h : BG js row N K L H ev E g) {H' : List O} {ev' : V} {E' : List (Nat × Nat)} {g' : Nat → Nat} (hl : H.length ≤ H'.length)
  (hf : ∀ a, a < K → a ≠ js.length + 1 → a ≠ js.length + 3 → hpL H' a = hpL H a) (hlf : hpL H' (js.length + 1) = .c false (m6 N g')) (hsc : hpL H' (js.length + 3) = .c false (scc js.length row N ev'))
  (hed : NR ag2 2 H' ev' E') (heK : ∀ B o w n c, ev' = .sl B o w n c → K ≤ B) (heN : E' = [] → ev' = .ns) : BG js row N K L H' ev' E' g' := by
 obtain ⟨k1, k2⟩ := h.K0
 obtain ⟨f, es, ck, h1, h2, h3⟩ := h.by_
 refine ⟨⟨k1, by omega⟩, fun a ha => ?_, hlf, ?_, hsc, ⟨f, es, ck, ?_, h2, fun s => ?_⟩, hed, heK, heN⟩
 ·rw [hf a (by omega) (by omega) (by omega)]; exact h.pre a ha
 ·rw [hf _ (by omega) (by omega) (by omega)]; exact h.dn
 ·rw [hf _ (by omega) (by omega) (by omega)]; exact h1
 ·rcases h3 s with q | ⟨B, q0, q1, q2, q3⟩
  ·exact .inl q
  ·refine .inr ⟨B, q0, q1, q2, ?_⟩
   rw [hf B q1 (by omega) (by omega)]; exact q3
theorem BG.more (h : BG js row N K L H ev E g) (X : List O) : BG js row N K L (H ++ X) ev E g := by
 obtain ⟨k1, k2⟩ := h.K0
 exact h.upd (by simp) (fun a ha _ _ => o0 (by omega)) (j2 h.lf) (j2 h.sc) (h.ed.more X) h.eK h.eN
theorem SE.more (h : SE sa H S) (X : List O) : SE sa (H ++ X) S := by
 obtain ⟨es, ck, h1, h2⟩ := h
 exact ⟨es, ck, ar5 h1, h2⟩
theorem SE.new (X : List O) : SE H.length (H ++ .m [] 0 :: X) [] := by
 refine ⟨[], 0, ab9, ?_⟩
 simp only [List.not_mem_nil, if_false]
 exact MV.nil
theorem SE.look (h : SE sa H S) (i : Nat) (ks : List O) : lkpE (hpL (H ++ ks)) (.k (.i .i64)) false [.b false] false (.m sa) (.i .i64 (i : Int)) = some (.b (decide (i ∈ S))) := by
 obtain ⟨es, ck, h1, h2⟩ := h
 have := h2.get kti (ar5 (ks := ks) h1) i (zero := [.b false]) (z := .b false) rfl
 rw [show (V.i .i64 (i : Int)) = z7 i from rfl, this]
 by_cases hi : i ∈ S <;> simp [hi]
theorem BG.look (h : BG js row N K L H ev E g) (s : Str) : ∃ v, (∀ ks, lkpE (hpL (H ++ ks)) (.k .s) false [.ns] false (.m (js.length + 4)) (.s s.1 s.2) = some v) ∧
  ∀ (H' : List O), (∀ a, a < K → js.length + 5 ≤ a → hpL H' a = hpL H a) → RC z7 H' v (L s) := by
 obtain ⟨f, es, ck, h1, h2, h3⟩ := h.by_
 refine ⟨(f s).getD .ns, fun ks => h2.get kts (ar5 h1) s rfl, fun H' hH => ?_⟩
 rcases h3 s with ⟨e, e2⟩ | ⟨B, q0, q1, q2, q3⟩
 ·rw [e, e2]; exact RC.ns _
 ·rw [q2]
  refine RC.sl (z := []) (gr := true) ?_
  rw [List.append_nil, hH B q1 q0, q3]
  exact congrArg _ (fl_cell z7 (L s))
theorem BG.step (h : BG js row N K L H ev E g) (hs : SE sa H S) (hsK : K ≤ sa) {i j : Nat} (hi : i ∉ S) (hj : j < N) (hrow : row.length = 5) (hroom : room (E.length + 1) 16 = true) :
  ∃ (H1 H2 H3 H4 : List O) (v2 : V), mstB H (.k (.i .i64)) (.i .i64 (i : Int)) (.b true) (.m sa) = some H1 ∧ (∀ ks, hpL (H1 ++ ks) (js.length + 3) = .c false (scc js.length row N ev)) ∧
   (∀ rb k, rb + k = H1.length + 1 → ag9 rb (H1 ++ [.c false [.i .i64 (i : Int), .i .i64 (j : Int)], .no]) k ev (some [.i .i64 (i : Int), .i .i64 (j : Int)]) (some 1) 2 16 = some (v2, H2)) ∧
   hpL H2 (js.length + 3) = .c false (scc js.length row N ev) ∧ u6 H2 (js.length + 3) (.c false (scc js.length row N v2)) = some H3 ∧
   hpL H3 (js.length + 3) = .c false (scc js.length row N v2) ∧ hpL H3 (js.length + 1) = .c false (m6 N g) ∧
   stpO H3 (js.length + 1) 1 j [.i .i64 ((g j + 1 : Nat) : Int)] (.c false (m6 N g)) = some H4 ∧
   BG js row N K L H4 v2 (E ++ [(i, j)]) (fun k => if k = j then g j + 1 else g k) ∧ SE sa H4 (S ++ [i]) ∧ (∀ a, a < K → a ≠ js.length + 1 → a ≠ js.length + 3 → hpL H4 a = hpL H a) ∧ B.stored v2 = some [v2] := by
 obtain ⟨k1, k2⟩ := h.K0
 obtain ⟨es, ck, s1, s2⟩ := hs
 have hsl := hpm_lt s1
 obtain ⟨es', ck', m1, m2⟩ := s2.put kti keyEq_i s1 i (.b true)
 rw [z9 hsl] at m1
 obtain ⟨H1, hH1⟩ : ∃ H1, H1 = H.set sa (.m es' ck') := ⟨_, rfl⟩
 rw [← hH1] at m1
 have l1 : H1.length = H.length := by rw [hH1]; simp
 have f1 : ∀ a, a ≠ sa → hpL H1 a = hpL H a := fun a ha => by rw [hH1]; exact i8 ha
 have g1 : hpL H1 sa = .m es' ck' := by rw [hH1]; exact m8 hsl
 have ed1 : NR ag2 2 H1 ev E := by
  rcases h.ed with q | ⟨B, q1, q2⟩
  ·exact .inl q
  ·refine .inr ⟨B, q1, ?_⟩
   rw [f1 B (fun e => by rw [e, s1] at q2; cases q2)]; exact q2
 have hev : ∀ B o w n c, ev = .sl B o w n c → ∀ a, (a < K ∨ a = sa) → a ≠ B := fun B o w n c e a ha => by
  rcases ha with ha | rfl
  ·have := h.eK B o w n c e; omega
  ·rintro rfl
   rcases h.ed with ⟨q, _⟩ | ⟨B', q1, q2⟩
   ·rw [e] at q; cases q
   ·rw [e] at q1; cases q1; rw [s1] at q2; cases q2
 have hap := ed1.app1 (by omega) bc1 (i, j) hroom [.c false (ag2 (i, j))]
 obtain ⟨H2, hH2⟩ : ∃ H2, H2 = ak8 H1 ev ++ ([O.c false (ag2 (i, j))] ++ [O.c true (fl ag2 (E ++ [(i, j)]))]) := ⟨_, rfl⟩
 rw [← hH2] at hap
 have l2 : H2.length = H1.length + 2 := by rw [hH2]; simp [p7]
 have f2 : ∀ a, (a < K ∨ a = sa) → hpL H2 a = hpL H1 a := fun a ha => by
  rw [hH2, al9 (by rcases ha with ha | rfl <;> omega) (fun B o w n c e => hev B o w n c e a ha)]
 have g2 : hpL H2 (H1.length + 1) = .c true (fl ag2 (E ++ [(i, j)])) := by rw [hH2]; exact an0 (X := [O.c false (ag2 (i, j))])
 obtain ⟨v2, hv2⟩ : ∃ v2, v2 = V.sl (H1.length + 1) 0 2 (E.length + 1) none := ⟨_, rfl⟩
 have hset3 := z9 (H := H2) (a := js.length + 3) (o := .c false (scc js.length row N v2)) (by omega)
 obtain ⟨H3, hH3⟩ : ∃ H3, H3 = H2.set (js.length + 3) (.c false (scc js.length row N v2)) := ⟨_, rfl⟩
 rw [← hH3] at hset3
 have l3 : H3.length = H2.length := by rw [hH3]; simp
 have f3 : ∀ a, a ≠ js.length + 3 → hpL H3 a = hpL H2 a := fun a ha => by rw [hH3]; exact i8 ha
 have hlf3 : hpL H3 (js.length + 1) = .c false (m6 N g) := by rw [f3 _ (by omega), f2 _ (.inl (by omega)), f1 _ (by omega)]; exact h.lf
 have hst := stp1 (hs := H3) (b := js.length + 1) (gr := false) (cs := m6 N g) (j := j) (x := z7 (g j + 1)) (by rw [fc_len]; exact hj)
 rw [fc_set, z9 (by omega)] at hst
 have hsc2 : hpL H2 (js.length + 3) = .c false (scc js.length row N ev) := by rw [f2 _ (.inl (by omega)), f1 _ (by omega)]; exact h.sc
 refine ⟨H1, H2, H3, _, v2, m1, fun ks => ?_, fun rb k e => ?_, hsc2, hset3, by rw [hH3]; exact m8 (by omega), hlf3, hst, ?_, ?_, ?_, by rw [hv2]; rfl⟩
 ·refine j2 ?_; rw [f1 _ (by omega)]; exact h.sc
 ·rw [hv2]; exact hap rb k (by simpa using e)
 ·refine h.upd (by simp; omega) (fun a ha h1 h3 => ?_) (m8 (by omega)) ?_ ?_ ?_ (by simp)
  ·rw [i8 h1, f3 a h3, f2 a (.inl ha), f1 a (by omega)]
  ·rw [i8 (by omega), hH3]; exact m8 (by omega)
  ·refine .inr ⟨H1.length + 1, by rw [hv2]; simp, ?_⟩
   rw [i8 (by omega), f3 _ (by omega)]; exact g2
  ·intro B o w n c e
   rw [hv2] at e; cases e; omega
 ·refine ⟨es', ck', ?_, ?_⟩
  ·rw [i8 (by omega), f3 _ (by omega), f2 _ (.inr rfl), g1]
  ·have : (fun s => if s = i then some (V.b true) else if s ∈ S then some (.b true) else none) = fun s => if s ∈ S ++ [i] then some (V.b true) else none := by
    funext s
    by_cases h1 : s = i <;> by_cases h2 : s ∈ S <;> simp [h1, h2]
   rw [← this]; exact m2
 ·intro a ha h1 h3
  rw [i8 h1, f3 a h3, f2 a (.inl ha), f1 a (by omega)]
end
end Go.Proofs.YtagogibgoknncaaGreatDoor
