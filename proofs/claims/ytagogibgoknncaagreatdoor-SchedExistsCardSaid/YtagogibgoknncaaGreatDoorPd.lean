/-
  sched.begin.
  A list that ascends is left as it is by slices.Sort and slices.Compact.
  graph.valid; arrays whose elements are lists of one's own; graph.neighbours.
  Arrays whose elements are lists of one's own; graph.neighbours.
-/
import Derived.Test.YtagogibgoknncaaGreatDoorPc
set_option linter.unusedSimpArgs false
set_option linter.unusedVariables false
namespace Go.Proofs.YtagogibgoknncaaGreatDoor
open Go Go.B
def ao4 (eqs : List NEqn) (j : Nat) : List Nat := match eqs[j]? with
 | some q => be1 (byK eqs eqs.length) [] (o9 q)
 | none => []
def as5 (eqs : List NEqn) : Nat → List (Nat × Nat)
 | 0 => []
 | j + 1 => as5 eqs j ++ (ao4 eqs j).map fun i => (i, j)
def gS (eqs : List NEqn) (j m : Nat) : Nat → Nat := fun k => if k < j then (ao4 eqs k).length else if k = j then m else 0
theorem gS_0 (eqs : List NEqn) : gS eqs 0 0 = fun _ => 0 := by funext k; simp [gS]
theorem gS_step (eqs : List NEqn) (j m : Nat) : (fun k => if k = j then gS eqs j m j + 1 else gS eqs j m k) = gS eqs j (m + 1) := by
 funext k
 by_cases h : k = j
 ·subst h; simp [gS]
 ·simp [gS, h]
theorem gS_at (eqs : List NEqn) (j m : Nat) : gS eqs j m j = m := by simp [gS]
theorem gS_next (eqs : List NEqn) (j : Nat) : gS eqs j (ao4 eqs j).length = gS eqs (j + 1) 0 := by
 funext k
 by_cases h : k < j
 ·simp [gS, h, show k < j + 1 by omega]
 ·by_cases h2 : k = j
  ·subst h2; simp [gS]
  ·simp [gS, h, h2, show ¬ k < j + 1 by omega]
structure NB (eqs : List NEqn) : Prop where
 n : eqs.length ≤ 200
 l : ∀ q, q ∈ eqs → q.left.length ≤ 5000
 r : ∀ q, q ∈ eqs → rsz q < 1000000
theorem av0 (eqs : List NEqn) (j : Nat) : (ao4 eqs j).Nodup := by
 unfold ao4
 split
 ·exact au9 List.nodup_nil
 ·exact List.nodup_nil
theorem bc6 {eqs : List NEqn} {j i : Nat} (h : i ∈ ao4 eqs j) : i < eqs.length := by
 unfold ao4 at h
 split at h
 ·rw [ax8] at h
  rcases h with h | ⟨s, _, h⟩
  ·simp at h
  ·exact (byK_lt s _ i h).2
 ·simp at h
theorem depF_len (eqs : List NEqn) (j : Nat) : (ao4 eqs j).length ≤ eqs.length := ad5 (av0 eqs j) fun i h => bc6 h
theorem edgF_len (eqs : List NEqn) : ∀ j, (as5 eqs j).length ≤ j * eqs.length
 | 0 => by simp [as5]
 | j + 1 => by
   have := edgF_len eqs j
   have := depF_len eqs j
   simp only [as5, List.length_append, List.length_map, Nat.add_mul, Nat.one_mul]
   omega
def edgV (b : Nat) (E : List (Nat × Nat)) : V := if E.length = 0 then .ns else .sl (b + 3) 0 2 E.length none
def begO (b : Nat) (n : NNode) : List O :=
 [.c false (scc b n.row n.eqs.length (edgV b (as5 n.eqs n.eqs.length))), .c false (m6 n.eqs.length fun k => (ao4 n.eqs k).length), .c false (List.replicate n.eqs.length (.b false))] ++
 (if (as5 n.eqs n.eqs.length).length = 0 then [] else [.c true (fl ag2 (as5 n.eqs n.eqs.length))])
theorem ncell0 (N : Nat) : (List.replicate N [V.i .i64 0]).flatten = m6 N fun _ => 0 := by
 apply List.ext_getElem?
 intro i
 have : (List.replicate N [V.i .i64 0]).flatten = List.replicate N (.i .i64 0) := by
  induction N with
  | zero => rfl
  | succ n ih => rw [List.replicate_succ, List.flatten_cons, ih]; rfl
 rw [this]
 simp only [m6, List.getElem?_map, List.getElem?_replicate]
 by_cases h : i < N
 ·simp [h, z7]
 ·simp [h]
theorem bcell0 (N : Nat) : (List.replicate N [V.b false]).flatten = List.replicate N (.b false) := by
 induction N with
 | zero => rfl
 | succ n ih => rw [List.replicate_succ, List.flatten_cons, ih]; rfl
theorem v8 (q : NEqn) : (q.row.drop 0).take 1 = [.i .i64 q.kind] := rfl
theorem OM.bg {js H : List O} {row : List V} {N : Nat} {L : Str → List Nat} {o1 : O}
  (h : OM (js.length + 5) (js.length + 4) (js ++ [o1, .c false (m6 N fun _ => 0), .c false (List.replicate N (.b false)), .c false (scc js.length row N .ns), .m [] 0]) H L) : BG js row N H.length L H .ns [] (fun _ => 0) := by
 have hl := h.len
 simp only [List.length_append, List.length_cons, List.length_nil] at hl
 obtain ⟨f, es, ck, h1, h2, h3, h4⟩ := h.by_
 refine ⟨⟨by omega, Nat.le_refl _⟩, fun a ha => ?_, ?_, ?_, ?_, ⟨f, es, ck, h1, h2, fun s => ?_⟩, .inl ⟨rfl, rfl⟩, fun B o w n c e => (by cases e), fun _ => rfl⟩
 ·rw [h.low a (by omega) (by omega), o0 ha]
 ·rw [h.low _ (by omega) (by omega)]; exact ai2
 ·rw [h.low _ (by omega) (by omega)]; exact ai2
 ·rw [h.low _ (by omega) (by omega)]; exact ai2
 ·rcases h3 s with q | ⟨B, q0, q1, q2⟩
  ·exact .inl q
  ·exact .inr ⟨B, q0, t8 q2, q1, q2⟩
theorem m0 (l : List NEqn) : (l.map NEqn.row).length = l.length := List.length_map _
theorem OM.fun_eq {K m : Nat} {P H : List O} {L L' : Str → List Nat} (h : OM K m P H L) (e : ∀ s, L s = L' s) : OM K m P H L' := by
 rw [show L' = L from funext fun s => (e s).symm]; exact h
theorem fc_congr {N : Nat} {g g' : Nat → Nat} (h : ∀ k, k < N → g k = g' k) : m6 N g = m6 N g' := by
 apply List.map_congr_left
 intro k hk
 rw [h k (List.mem_range.1 hk)]
theorem ag7 {js H : List O} (hl : js.length ≤ H.length) (h : ∀ a, a < js.length → hpL H a = hpL js a) : H = js ++ H.drop js.length := by
 have : H.take js.length = js := by
  apply List.ext_getElem?
  intro i
  rw [List.getElem?_take]
  split
  ·rename_i hi
   have := h i hi
   simp only [hpL, List.getD_eq_getElem?_getD, List.getElem?_eq_getElem hi, List.getElem?_eq_getElem (show i < H.length by omega), Option.getD_some] at this ⊢
   rw [this]
  ·rename_i hi
   rw [List.getElem?_eq_none (by omega)]
 conv => lhs; rw [← List.take_append_drop js.length H, this]
theorem ba4 {h : Hp} {D : Nat → Prop} {R : Nat → Nat → Prop} {gr : Bool} {cs : List V} (hc : clL cs = true) : B.Os h D R (.c gr cs) (.c gr cs) :=
 .c gr cs cs rfl fun j x y e1 e2 => by rw [e1] at e2; cases e2; exact .same _ (af9 hc e1)
theorem sr_row {h : Hp} {D : Nat → Prop} {R : Nat → Nat → Prop} {row : List V} (hc : clL row = true) {xs ys : List V} (hl : xs.length = ys.length) (hx : ∀ (j : Nat) (x y : V), xs[j]? = some x → ys[j]? = some y → Sr h D R x y) :
  ∀ (j : Nat) (x y : V), (row ++ xs)[j]? = some x → (row ++ ys)[j]? = some y → Sr h D R x y := by
 intro j x y e1 e2
 rcases Nat.lt_or_ge j row.length with q | q
 ·rw [List.getElem?_append_left q] at e1 e2
  rw [e1] at e2; cases e2
  exact .same _ (af9 hc e1)
 ·rw [List.getElem?_append_right q] at e1 e2
  exact hx _ x y e1 e2
theorem sr3 {h : Hp} {D : Nat → Prop} {R : Nat → Nat → Prop} {a b c a' b' c' : V} (h1 : Sr h D R a a') (h2 : Sr h D R b b') (h3 : Sr h D R c c') : ∀ (j : Nat) (x y : V), [a, b, c][j]? = some x → [a', b', c'][j]? = some y → Sr h D R x y := by
 intro j x y e1 e2
 match j with
 | 0 => simp at e1 e2; subst e1 e2; exact h1
 | 1 => simp at e1 e2; subst e1 e2; exact h2
 | 2 => simp at e1 e2; subst e1 e2; exact h3
 | j + 3 => simp at e1
theorem bd5 (N : Nat) : clL (List.replicate N (V.b false)) = true := by
 induction N with
 | zero => rfl
 | succ n ih => rw [List.replicate_succ]; simp only [clL, ih, V.cl, Bool.and_self]
theorem bc2 (e : Nat × Nat) : clL (ag2 e) = true := rfl
theorem BG.pack {js H : List O} {n : NNode} {K : Nat} {L : Str → List Nat} {ev : V} {g : Nat → Nat} (h : BG js n.row n.eqs.length K L H ev (as5 n.eqs n.eqs.length) g) (hg : ∀ k, k < n.eqs.length → g k = (ao4 n.eqs k).length) :
  ∃ (Z : List O) (D : Nat → Prop) (ss : List Nat), H = js ++ Z ∧ Pack js.length (hpL H) D ss (begO js.length n) ∧ Sr (hpL H) D (Rs js.length ss) (.p (js.length + 3) 0) (.p js.length 0) := by
 obtain ⟨k1, k2⟩ := h.K0
 have hlf := h.lf
 rw [fc_congr hg] at hlf
 have hrc := aj4 n
 rcases h.ed with ⟨e1, e2⟩ | ⟨B, e1, e2⟩
 ·refine ⟨_, fun _ => False, [js.length + 3, js.length + 1, js.length + 2], ag7 (by omega) h.pre, ⟨fun _ h => h.elim, ?_, ?_, ?_, ?_⟩, .p _ _ _ (.inr ⟨0, rfl, rfl⟩)⟩
  ·intro k a e
   match k with
   | 0 | 1 | 2 => simp at e; exact ⟨by omega, id⟩
   | k + 3 => simp at e
  ·intro j k a ej ek
   match j, k with
   | 0, 0 | 1, 1 | 2, 2 => rfl
   | 0, 1 | 0, 2 | 1, 0 | 1, 2 | 2, 0 | 2, 1 => simp at ej ek; omega
   | j + 3, _ => simp at ej
   | _, k + 3 => simp at ek
  ·simp [begO, e2]
  ·intro k a o ea eo
   simp only [begO, e2, edgV, List.length_nil, if_true, List.append_nil] at eo
   match k with
   | 0 =>
     simp at ea eo; subst ea eo
     rw [h.sc, e1]
     exact .c false _ _ rfl (sr_row hrc rfl (sr3 (.same _ rfl) (.sa _ _ _ _ _ _ (.inr ⟨1, rfl, rfl⟩)) (.sa _ _ _ _ _ _ (.inr ⟨2, rfl, rfl⟩))))
   | 1 => simp at ea eo; subst ea eo; rw [hlf]; exact ba4 (fc_cl _ _)
   | 2 => simp at ea eo; subst ea eo; rw [h.dn]; exact ba4 (bd5 _)
   | k + 3 => simp at ea
 ·have hBK := h.eK _ _ _ _ _ e1
  have hne : (as5 n.eqs n.eqs.length).length ≠ 0 := fun e => by
   have := h.eN (List.length_eq_zero_iff.1 e)
   rw [e1] at this; cases this
  refine ⟨_, fun _ => False, [js.length + 3, js.length + 1, js.length + 2, B], ag7 (by omega) h.pre, ⟨fun _ h => h.elim, ?_, ?_, ?_, ?_⟩, .p _ _ _ (.inr ⟨0, rfl, rfl⟩)⟩
  ·intro k a e
   match k with
   | 0 | 1 | 2 | 3 => simp at e; exact ⟨by omega, id⟩
   | k + 4 => simp at e
  ·intro j k a ej ek
   match j, k with
   | 0, 0 | 1, 1 | 2, 2 | 3, 3 => rfl
   | 0, 1 | 0, 2 | 1, 0 | 1, 2 | 2, 0 | 2, 1 => simp at ej ek; omega
   | 0, 3 | 1, 3 | 2, 3 | 3, 0 | 3, 1 | 3, 2 => simp at ej ek; omega
   | j + 4, _ => simp at ej
   | _, k + 4 => simp at ek
  ·simp [begO, hne]
  ·intro k a o ea eo
   simp only [begO, edgV, if_neg hne] at eo
   match k with
   | 0 =>
     simp at ea eo; subst ea eo
     rw [h.sc, e1]
     exact .c false _ _ rfl (sr_row hrc rfl (sr3 (.sa _ _ _ _ _ _ (.inr ⟨3, rfl, rfl⟩)) (.sa _ _ _ _ _ _ (.inr ⟨1, rfl, rfl⟩)) (.sa _ _ _ _ _ _ (.inr ⟨2, rfl, rfl⟩))))
   | 1 => simp at ea eo; subst ea eo; rw [hlf]; exact ba4 (fc_cl _ _)
   | 2 => simp at ea eo; subst ea eo; rw [h.dn]; exact ba4 (bd5 _)
   | 3 => simp at ea eo; subst ea eo; rw [e2]; exact ba4 (fl_cl bc2 _)
   | k + 4 => simp at ea
set_option maxRecDepth 20000 in
set_option maxHeartbeats 8000000 in
theorem sbegin_ac {js : List O} (n : NNode) (hk : n.ok) (hb : NB n.eqs) (hlt : ltO js.length js = true) :
  ACalls Tryz.prog 19 [.ag n.row] (hpL js) js.length (.p js.length 0) (hpL (js ++ begO js.length n)) (js ++ begO js.length n).length := by
 have hN := hb.n
 have hmk1 : ∀ hs a, mksB hs a 1 8 [.i .i64 0] (.i .i64 (n.eqs.length : Int)) (.i .i64 (n.eqs.length : Int)) = (u6 hs a (.c false (m6 n.eqs.length fun _ => 0))).map fun h => (n.eqs.length, h) := by
  intro hs a
  have hq : decide (n.eqs.length ≤ 1073741824 ∧ 8 * n.eqs.length ≤ 281474976710656 ∧ [V.i .i64 0].length = 1) = true := decide_eq_true ⟨by omega, by omega, rfl⟩
  rw [mks_n hq, ncell0]
 have hmk2 : ∀ hs a, mksB hs a 1 1 [.b false] (.i .i64 (n.eqs.length : Int)) (.i .i64 (n.eqs.length : Int)) = (u6 hs a (.c false (List.replicate n.eqs.length (.b false)))).map fun h => (n.eqs.length, h) := by
  intro hs a
  have hq : decide (n.eqs.length ≤ 1073741824 ∧ 1 * n.eqs.length ≤ 281474976710656 ∧ [V.b false].length = 1) = true := decide_eq_true ⟨by omega, by omega, rfl⟩
  rw [mks_n hq, bcell0]
 refine be0 Tryz.func19 k19 rfl rfl hlt ?_
 repeat' (first
  | ((with_reducible refine b8 (fun h => ?_) (fun h => ?_)) <;> simp only [h, ah3, ah2, NNode.row, hmk1, hmk2, List.length_map, Nat.add_assoc, SXR, simprocAttr])
  | (simp only [c19, ah3, ah2, NNode.row, hmk1, hmk2, List.length_map, Nat.add_assoc, SXR, simprocAttr]))
 obtain ⟨P, hP⟩ : ∃ P, P = js ++ [O.c false n.row, .c false (m6 n.eqs.length fun _ => 0), .c false (List.replicate n.eqs.length (.b false)), .c false (scc js.length n.row n.eqs.length .ns), .m [] 0] := ⟨_, rfl⟩
 have hOM0 : OM (js.length + 5) (js.length + 4) P P (byK n.eqs 0) := by
  refine ⟨Nat.le_refl _, ⟨by omega, by rw [hP]; simp⟩, fun a _ _ => rfl, fun _ => none, [], 0, ?_, MV.nil, fun s => .inl ⟨rfl, rfl⟩, fun s t B n n' e => by cases e⟩
  rw [hP]; exact ai2
 refine m5 (X := Nat) (fun i ll hs => ∃ (H : List O), Hd (fun j => [j 0, j 1, j 2, .p (js.length + 3) 0, .m (js.length + 4), j 5, j 6, j 7, j 8, j 9, j 10, j 11, j 12, j 13, j 14, j 15, j 16, j 17, j 18, j 19, j 20, j 21, j 22, j 23, j 24, j 25, j 26, j 27, j 28, j 29, j 30, j 31, .ts (n.eqs.map NEqn.row), .i .i64 (n.eqs.length : Int), .i .i64 (i : Int), j 35, j 36, j 37, j 38, j 39, j 40, j 41, j 42, j 43, j 44, j 45, j 46, j 47, j 48, j 49, j 50, j 51, j 52, j 53, j 54, j 55, j 56, j 57, j 58, j 59, j 60, j 61, j 62, j 63, j 64, j 65, j 66, j 67, j 68, j 69, j 70, j 71, j 72, j 73, j 74, j 75, j 76, j 77, j 78, j 79, j 80, j 81, j 82, j 83, j 84, j 85, j 86, j 87, j 88, j 89, j 90, j 91, j 92, j 93, j 94, j 95, j 96, j 97, j 98, j 99, j 100, j 101, j 102, j 103, j 104, j 105, j 106, j 107, j 108, j 109, j 110, j 111, j 112, j 113, j 114, j 115, j 116]) ll ∧ hs = H ∧ OM (js.length + 5) (js.length + 4) P H (byK n.eqs i))
  (fun i => i ≤ n.eqs.length) (fun i => n.eqs.length - i) ?_ 0 _ _ (by refine ⟨_, rfl, ?_, hOM0⟩; rw [hP]; rfl) (Nat.zero_le _)
 clear hOM0
 rintro i _ H ⟨_, e, rfl, hOM⟩ hi IH
 obtain ⟨j, rfl⟩ := e.open
 clear e
 by_cases hil : i < n.eqs.length
 ·obtain ⟨q, hq, hqm⟩ := ats hil
  have hqr := mg (f := NEqn.row) hq
  have hd := ltd hil
  have hw := j1 (n := i) (by omega)
  have hql := hb.l q hqm
  have hbyl := fun s => byK_len hb.l s i
  have hle : i * 5000 ≤ 1000000 := by omega
  have hnx : ∀ s, byK n.eqs (i + 1) s = byK n.eqs i s ++ byQ s i q := fun s => by simp only [byK, hq]
  have hq13 := hOM.more [.c false q.row]
  have hbox : hpL (H ++ [O.c false q.row]) H.length = .c false q.row := ab9
  cases hkd : (q.kind == 2) with
  | true =>
    have hkd' : (q.kind != 2) = false := by simp only [bne, hkd, Bool.not_true]
    repeat' (first
     | ((with_reducible refine b8 (fun h => ?_) (fun h => ?_)) <;> simp only [h, ah3, ah2, m0, hqr, hd, hw, ak6, i6, i4, v8, ab1, hkd', SXR, simprocAttr])
     | (simp only [c19, ah3, ah2, m0, hqr, hd, hw, ak6, i6, i4, v8, ab1, hkd', SXR, simprocAttr]))
    refine IH (i + 1) _ _ (by exact ⟨_, rfl, rfl, (hq13.fun_eq fun s => by rw [hnx, byQ, if_pos hkd, List.append_nil])⟩) hil (by omega)
  | false =>
    have hkd' : (q.kind != 2) = true := by simp only [bne, hkd, Bool.not_false]
    repeat' (first
     | ((with_reducible refine b8 (fun h => ?_) (fun h => ?_)) <;> simp only [h, ah3, ah2, m0, hqr, hd, hw, ak6, i6, i4, v8, ab1, ac6, hkd', List.length_map, SXR, simprocAttr])
     | (simp only [c19, ah3, ah2, m0, hqr, hd, hw, ak6, i6, i4, v8, ab1, ac6, hkd', List.length_map, SXR, simprocAttr]))
    refine m5 (X := Nat) (fun c ll hs => ∃ (H : List O), Hd (fun j => [j 0, j 1, j 2, .p (js.length + 3) 0, .m (js.length + 4), .i .i64 (i : Int), j 6, j 7, j 8, j 9, j 10, j 11, j 12, j 13, j 14, j 15, j 16, j 17, j 18, j 19, j 20, j 21, j 22, j 23, j 24, j 25, j 26, j 27, j 28, j 29, j 30, j 31, .ts (n.eqs.map NEqn.row), .i .i64 (n.eqs.length : Int), .i .i64 (i : Int), j 35, j 36, j 37, j 38, j 39, j 40, j 41, j 42, .ts (q.left.map v6), .i .i64 (q.left.length : Int), .i .i64 (c : Int), j 46, j 47, j 48, j 49, j 50, j 51, j 52, j 53, j 54, j 55, j 56, j 57, j 58, j 59, j 60, j 61, j 62, j 63, j 64, j 65, j 66, j 67, j 68, j 69, j 70, j 71, j 72, j 73, j 74, j 75, j 76, j 77, j 78, j 79, j 80, j 81, j 82, j 83, j 84, j 85, j 86, j 87, j 88, j 89, j 90, j 91, j 92, j 93, j 94, j 95, j 96, j 97, j 98, j 99, j 100, j 101, j 102, j 103, j 104, j 105, j 106, j 107, j 108, j 109, j 110, j 111, j 112, j 113, j 114, j 115, j 116]) ll ∧ hs = H ∧ OM (js.length + 5) (js.length + 4) P H (fun s => byK n.eqs i s ++ ((q.left.take c).filter (ad0 s)).map fun _ => i))
     (fun c => c ≤ q.left.length) (fun c => q.left.length - c) ?_ 0 _ _ (by refine ⟨_, rfl, rfl, hq13.fun_eq fun s => by simp⟩) (Nat.zero_le _)
    clear hOM hq13 hbox
    rintro c _ H ⟨_, e, rfl, hOM⟩ hc IK
    obtain ⟨j, rfl⟩ := e.open
    clear e
    by_cases hcl : c < q.left.length
    ·clear IH
     obtain ⟨s, hs, hsm⟩ := ats hcl
     have hsr : (q.left.map v6)[c]? = some [.s s.1 s.2] := mg hs
     have hdc := ltd hcl
     have hwc := j1 (n := c) (by omega)
     have hroom : room (((fun t => byK n.eqs i t ++ ((q.left.take c).filter (ad0 t)).map fun _ => i) s).length + 1) 8 = true := by
      refine v9 ?_ (by omega)
      have h1 := hbyl s
      have h2 := List.length_filter_le (ad0 s) (q.left.take c)
      simp only [List.length_append, List.length_map, List.length_take] at h2 ⊢
      omega
     obtain ⟨v, v', H1, H2, g1, g2, g3, g4⟩ := hOM.step s i hroom
     have g5 := g4.fun_eq (L' := fun t => byK n.eqs i t ++ ((q.left.take (c + 1)).filter (ad0 t)).map fun _ => i) fun t => by
      rw [List.take_add_one, hs]
      by_cases hts : t = s
      ·subst hts
       simp [ad0]
      ·have : ad0 t s = false := by
        rw [Bool.eq_false_iff]; intro h
        simp only [ad0, Bool.and_eq_true, beq_iff_eq] at h
        exact hts (Prod.ext h.1 h.2)
       simp [hts, this]
     repeat' (first
      | ((with_reducible refine b8 (fun h => ?_) (fun h => ?_)) <;> simp only [h, ah3, ah2, hsr, hdc, hwc, g1, g2, g3, List.length_map, SXR, simprocAttr])
      | (simp only [c19, ah3, ah2, hsr, hdc, hwc, g1, g2, g3, List.length_map, SXR, simprocAttr]))
     exact IK (c + 1) _ _ (by exact ⟨_, rfl, rfl, g5⟩) hcl (by omega)
    ·clear IK
     have hce : c = q.left.length := by omega
     subst hce
     have hdc := ltn hcl
     rw [List.take_length] at hOM
     repeat' (first
      | ((with_reducible refine b8 (fun h => ?_) (fun h => ?_)) <;> simp only [h, ah3, ah2, hdc, hw, List.length_map, SXR, simprocAttr])
      | (simp only [c19, ah3, ah2, hdc, hw, List.length_map, SXR, simprocAttr]))
     refine IH (i + 1) _ _ (by exact ⟨_, rfl, rfl, (hOM.fun_eq fun s => by rw [hnx, byQ, if_neg (by simp [hkd])])⟩) hil (by omega)
 ·clear IH
  have hie : i = n.eqs.length := by omega
  subst hie
  have hd := ltn hil
  subst hP
  have hBG := hOM.bg
  have hK0 : js.length + 5 ≤ H.length := hBG.K0.1
  generalize hKe : H.length = K at hBG hK0
  clear hKe hOM
  have hsc : hpL H (js.length + 3) = (.c false [.s n.nm.1 n.nm.2, .ts (n.ins.map Decl.row), .ts (n.outs.map Decl.row), .ts (n.locals.map Decl.row), .ts (n.eqs.map NEqn.row), .ns, .sl (js.length + 1) 0 1 n.eqs.length none, .sl (js.length + 2) 0 1 n.eqs.length none]) := hBG.sc
  repeat' (first
   | ((with_reducible refine b8 (fun h => ?_) (fun h => ?_)) <;> simp only [h, ah3, ah2, hd, hsc, m0, SXR, simprocAttr])
   | (simp only [c19, ah3, ah2, hd, hsc, m0, SXR, simprocAttr]))
  clear hd hsc hmk1 hmk2
  refine m5 (X := Nat) (fun i ll hs => ∃ (H : List O) (ev : V), Hd (fun j => [j 0, j 1, j 2, .p (js.length + 3) 0, .m (js.length + 4), j 5, j 6, j 7, j 8, j 9, j 10, j 11, j 12, j 13, j 14, j 15, j 16, j 17, j 18, j 19, j 20, j 21, j 22, j 23, j 24, j 25, j 26, j 27, j 28, j 29, j 30, j 31, j 32, j 33, j 34, j 35, j 36, j 37, j 38, j 39, j 40, j 41, j 42, j 43, j 44, j 45, j 46, j 47, j 48, j 49, j 50, j 51, j 52, j 53, j 54, j 55, j 56, j 57, j 58, j 59, j 60, j 61, j 62, .ts (n.eqs.map NEqn.row), .i .i64 (n.eqs.length : Int), .i .i64 (i : Int), j 66, j 67, j 68, j 69, j 70, j 71, j 72, j 73, j 74, j 75, j 76, j 77, j 78, j 79, j 80, j 81, j 82, j 83, j 84, j 85, j 86, j 87, j 88, j 89, j 90, j 91, j 92, j 93, j 94, j 95, j 96, j 97, j 98, j 99, j 100, j 101, j 102, j 103, j 104, j 105, j 106, j 107, j 108, j 109, j 110, j 111, j 112, j 113, j 114, j 115, j 116]) ll ∧ hs = H ∧ BG js n.row n.eqs.length K (byK n.eqs n.eqs.length) H ev (as5 n.eqs i) (gS n.eqs i 0))
   (fun i => i ≤ n.eqs.length) (fun i => n.eqs.length - i) ?_ 0 _ _ (by refine ⟨_, .ns, rfl, rfl, ?_⟩; rw [gS_0]; exact hBG) (Nat.zero_le _)
  clear hBG
  rintro i _ H ⟨_, ev, e, rfl, hBG⟩ hi IH
  obtain ⟨j, rfl⟩ := e.open
  clear e
  by_cases hil : i < n.eqs.length
  ·obtain ⟨q, hq, hqm⟩ := ats hil
   have hqr := mg (f := NEqn.row) hq
   have hd := ltd hil
   have hw := j1 (n := i) (by omega)
   have hnok := hk.2.2.2.2 q hqm
   have hrs := hb.r q hqm
   have hrl := bg0 q
   have hpc := sreads_pc q hnok hrs
   have hqcl := au2 q
   have hrcl := am6 (o9 q)
   have hdep : ao4 n.eqs i = be1 (byK n.eqs n.eqs.length) [] (o9 q) := by simp only [ao4, hq]
   have hBx := hBG.more [.c false q.row, .m [] 0]
   have hSx : SE (H.length + 1) (H ++ [.c false q.row, .m [] 0]) [] := by
    have := SE.new (H := H ++ [.c false q.row]) []
    simpa using this
   have hKH := hBG.K0.2
   have hlr : ((o9 q).map v6).length = (o9 q).length := List.length_map ..
   repeat' (first
    | ((with_reducible refine b8 (fun h => ?_) (fun h => ?_)) <;> simp only [h, ah3, ah2, m0, hqr, hd, hw, ak6, i6, i4, hqcl, hrcl, Nat.add_assoc, hlr, SXR, simprocAttr])
    | (with_reducible refine j9 (hpc) (by simp only [SXR, hqcl, hrcl]) (by simp only [SXR, hqcl, hrcl]) ?_)
    | (simp only [c19, ah3, ah2, m0, hqr, hd, hw, ak6, i6, i4, hqcl, hrcl, Nat.add_assoc, hlr, SXR, simprocAttr]))
   have hsaK : K ≤ H.length + 1 := by omega
   generalize H.length + 1 = sa at hSx hsaK
   refine m5 (X := Nat) (fun c ll hs => ∃ (H : List O) (ev : V), Hd (fun j => [j 0, j 1, j 2, .p (js.length + 3) 0, .m (js.length + 4), j 5, j 6, j 7, j 8, .i .i64 (i : Int), j 10, .m sa, j 12, j 13, j 14, j 15, j 16, j 17, j 18, j 19, j 20, j 21, j 22, j 23, j 24, j 25, j 26, j 27, j 28, j 29, j 30, j 31, j 32, j 33, j 34, j 35, j 36, j 37, j 38, j 39, j 40, j 41, j 42, j 43, j 44, j 45, j 46, j 47, j 48, j 49, j 50, j 51, j 52, j 53, j 54, j 55, j 56, j 57, j 58, j 59, j 60, j 61, j 62, .ts (n.eqs.map NEqn.row), .i .i64 (n.eqs.length : Int), .i .i64 (i : Int), j 66, j 67, j 68, j 69, j 70, j 71, .ts ((o9 q).map v6), .i .i64 ((o9 q).length : Int), .i .i64 (c : Int), j 75, j 76, j 77, j 78, j 79, j 80, j 81, j 82, j 83, j 84, j 85, j 86, j 87, j 88, j 89, j 90, j 91, j 92, j 93, j 94, j 95, j 96, j 97, j 98, j 99, j 100, j 101, j 102, j 103, j 104, j 105, j 106, j 107, j 108, j 109, j 110, j 111, j 112, j 113, j 114, j 115, j 116]) ll ∧ hs = H ∧
     BG js n.row n.eqs.length K (byK n.eqs n.eqs.length) H ev (as5 n.eqs i ++ (be1 (byK n.eqs n.eqs.length) [] ((o9 q).take c)).map fun k => (k, i)) (gS n.eqs i (be1 (byK n.eqs n.eqs.length) [] ((o9 q).take c)).length) ∧ SE sa H (be1 (byK n.eqs n.eqs.length) [] ((o9 q).take c)))
    (fun c => c ≤ (o9 q).length) (fun c => (o9 q).length - c) ?_ 0 _ _ (by
      refine ⟨_, ev, rfl, rfl, ?_, ?_⟩
      ·simp only [List.take_zero, be1, List.foldl_nil, List.map_nil, List.append_nil, List.length_nil]; exact hBx
      ·simp only [List.take_zero, be1, List.foldl_nil]; exact hSx) (Nat.zero_le _)
   clear hBx hSx hBG hKH
   rintro c _ H ⟨_, ev, e, rfl, hBG, hSE⟩ hc IK
   obtain ⟨j, rfl⟩ := e.open
   clear e
   by_cases hcl : c < (o9 q).length
   ·clear IH
    obtain ⟨s, hs, hsm⟩ := ats hcl
    have hsr : ((o9 q).map v6)[c]? = some [.s s.1 s.2] := mg hs
    have hdc := ltd hcl
    have hwc := j1 (n := c) (by omega)
    have hnx : be1 (byK n.eqs n.eqs.length) [] ((o9 q).take (c + 1)) = (byK n.eqs n.eqs.length s).foldl be2 (be1 (byK n.eqs n.eqs.length) [] ((o9 q).take c)) := by
     rw [List.take_add_one, hs]; exact deps_snoc _ _ _ _
    have hnd : (be1 (byK n.eqs n.eqs.length) [] ((o9 q).take c)).Nodup := au9 List.nodup_nil
    have hlt0 : ∀ k, k ∈ be1 (byK n.eqs n.eqs.length) [] ((o9 q).take c) → k < n.eqs.length := fun k hk => by
     rw [ax8] at hk
     rcases hk with hk | ⟨t, _, hk⟩
     ·simp at hk
     ·exact (byK_lt t _ k hk).2
    generalize be1 (byK n.eqs n.eqs.length) [] ((o9 q).take c) = S0 at hBG hSE hnx hnd hlt0
    obtain ⟨v, hv, hrc⟩ := hBG.look s
    have hv0 := hv []
    rw [List.append_nil] at hv0
    have hbl := byK_len hb.l s n.eqs.length
    have hblt := fun k => byK_lt (eqs := n.eqs) s n.eqs.length k
    have hlen := (hrc H (fun _ _ _ => rfl)).len
    repeat' (first
     | ((with_reducible refine b8 (fun h => ?_) (fun h => ?_)) <;> simp only [h, ah3, ah2, hsr, hdc, hv0, hlen, SXR, simprocAttr])
     | (simp only [c19, ah3, ah2, hsr, hdc, hv0, hlen, SXR, simprocAttr]))
    obtain ⟨H6, hH6⟩ : ∃ H6, H6 = H := ⟨_, rfl⟩
    refine m5 (X := Nat) (fun d ll hs => ∃ (H : List O) (ev : V), Hd (fun j => [j 0, j 1, j 2, .p (js.length + 3) 0, .m (js.length + 4), j 5, j 6, j 7, j 8, .i .i64 (i : Int), j 10, .m sa, j 12, j 13, j 14, j 15, j 16, j 17, j 18, j 19, j 20, j 21, j 22, j 23, j 24, j 25, j 26, j 27, j 28, j 29, j 30, j 31, j 32, j 33, j 34, j 35, j 36, j 37, j 38, j 39, j 40, j 41, j 42, j 43, j 44, j 45, j 46, j 47, j 48, j 49, j 50, j 51, j 52, j 53, j 54, j 55, j 56, j 57, j 58, j 59, j 60, j 61, j 62, .ts (n.eqs.map NEqn.row), .i .i64 (n.eqs.length : Int), .i .i64 (i : Int), j 66, j 67, j 68, j 69, j 70, j 71, .ts ((o9 q).map v6), .i .i64 ((o9 q).length : Int), .i .i64 (c : Int), j 75, j 76, j 77, j 78, j 79, v, .i .i64 ((byK n.eqs n.eqs.length s).length : Int), .i .i64 (d : Int), j 83, j 84, j 85, j 86, j 87, j 88, j 89, j 90, j 91, j 92, j 93, j 94, j 95, j 96, j 97, j 98, j 99, j 100, j 101, j 102, j 103, j 104, j 105, j 106, j 107, j 108, j 109, j 110, j 111, j 112, j 113, j 114, j 115, j 116]) ll ∧ hs = H ∧
      BG js n.row n.eqs.length K (byK n.eqs n.eqs.length) H ev (as5 n.eqs i ++ (((byK n.eqs n.eqs.length s).take d).foldl be2 S0).map fun k => (k, i)) (gS n.eqs i (((byK n.eqs n.eqs.length s).take d).foldl be2 S0).length) ∧ SE sa H (((byK n.eqs n.eqs.length s).take d).foldl be2 S0) ∧ (∀ a, a < K → js.length + 5 ≤ a → hpL H a = hpL H6 a))
     (fun d => d ≤ (byK n.eqs n.eqs.length s).length) (fun d => (byK n.eqs n.eqs.length s).length - d) ?_ 0 _ _ (by
       refine ⟨_, ev, rfl, rfl, ?_⟩
       simp only [List.take_zero, List.foldl_nil]
       exact ⟨hBG, hSE, fun a _ _ => by rw [hH6]⟩) (Nat.zero_le _)
    rw [← hH6] at hrc
    clear hBG hSE hv hv0 hH6
    rintro d _ H ⟨_, ev, e, rfl, hBG, hSE, hfr⟩ hdl IM
    obtain ⟨j, rfl⟩ := e.open
    clear e
    by_cases hdlt : d < (byK n.eqs n.eqs.length s).length
    ·clear IK
     obtain ⟨m, hm, hmm⟩ := ats hdlt
     obtain ⟨ad, ha1, ha2⟩ := (hrc H hfr).get0 hm
     have hdd := ltd hdlt
     have hwd := j1 (n := d) (by omega)
     have hlk := hSE.look m []
     rw [List.append_nil] at hlk
     have hnx2 : ((byK n.eqs n.eqs.length s).take (d + 1)).foldl be2 S0 = be2 (((byK n.eqs n.eqs.length s).take d).foldl be2 S0) m := by
      rw [List.take_add_one, hm]; simp
     have hnd2 : (((byK n.eqs n.eqs.length s).take d).foldl be2 S0).Nodup := aq4 hnd
     have hlt2 : ∀ k, k ∈ ((byK n.eqs n.eqs.length s).take d).foldl be2 S0 → k < n.eqs.length := fun k hk => by
      rcases bd9.1 hk with h | h
      ·exact hlt0 k h
      ·exact (hblt k (List.mem_of_mem_take h)).2
     have hSl := ad5 hnd2 hlt2
     generalize ((byK n.eqs n.eqs.length s).take d).foldl be2 S0 = S at hBG hSE hlk hnx2 hnd2 hlt2 hSl
     unfold z7 at ha2
     by_cases hmS : m ∈ S
     ·have hdm := decide_eq_true hmS
      rw [be2, if_pos hmS] at hnx2
      repeat' (first
       | ((with_reducible refine b8 (fun h => ?_) (fun h => ?_)) <;> simp only [h, ah3, ah2, hdd, hwd, ha1, ha2, hlk, hdm, SXR, simprocAttr])
       | (simp only [c19, ah3, ah2, hdd, hwd, ha1, ha2, hlk, hdm, SXR, simprocAttr]))
      exact IM (d + 1) _ _ (by refine ⟨_, ev, rfl, rfl, ?_⟩; rw [hnx2]; exact ⟨hBG, hSE, hfr⟩) hdlt (by omega)
     ·have hdm := decide_eq_false hmS
      rw [be2, if_neg hmS] at hnx2
      have hEl : (as5 n.eqs i ++ S.map fun k => (k, i)).length + 1 ≤ 1000000 := by
       have h1 := edgF_len n.eqs i
       have h2 : i * n.eqs.length ≤ 200 * 200 := Nat.mul_le_mul (by omega) (by omega)
       simp only [List.length_append, List.length_map]
       omega
      obtain ⟨H1, H2, H3, H4, v2, g1, g2, g3, g4, g5, g6, g7, g8, g9, g10, g11, g12⟩ := hBG.step hSE hsaK hmS hil (i9 n) (v9 (by omega) (by omega))
      have g2' : ∀ ks, hpL (H1 ++ ks) (js.length + 3) = (.c false [.s n.nm.1 n.nm.2, .ts (n.ins.map Decl.row), .ts (n.outs.map Decl.row), .ts (n.locals.map Decl.row), .ts (n.eqs.map NEqn.row), ev, .sl (js.length + 1) 0 1 n.eqs.length none, .sl (js.length + 2) 0 1 n.eqs.length none]) := g2
      have g4' : hpL H2 (js.length + 3) = (.c false [.s n.nm.1 n.nm.2, .ts (n.ins.map Decl.row), .ts (n.outs.map Decl.row), .ts (n.locals.map Decl.row), .ts (n.eqs.map NEqn.row), ev, .sl (js.length + 1) 0 1 n.eqs.length none, .sl (js.length + 2) 0 1 n.eqs.length none]) := g4
      have g5' : u6 H2 (js.length + 3) (.c false [.s n.nm.1 n.nm.2, .ts (n.ins.map Decl.row), .ts (n.outs.map Decl.row), .ts (n.locals.map Decl.row), .ts (n.eqs.map NEqn.row), v2, .sl (js.length + 1) 0 1 n.eqs.length none, .sl (js.length + 2) 0 1 n.eqs.length none]) = some H3 := g5
      have g6' : hpL H3 (js.length + 3) = (.c false [.s n.nm.1 n.nm.2, .ts (n.ins.map Decl.row), .ts (n.outs.map Decl.row), .ts (n.locals.map Decl.row), .ts (n.eqs.map NEqn.row), v2, .sl (js.length + 1) 0 1 n.eqs.length none, .sl (js.length + 2) 0 1 n.eqs.length none]) := g6
      have hia : iadE 1 (.sl (js.length + 1) 0 1 n.eqs.length none) (.i .i64 (i : Int)) = some (.p (js.length + 1) i) := by
       have := ae0 (a := js.length + 1) (w := 1) (wd := 1) (c := none) hil
       rw [Nat.mul_one] at this; exact this
      have hgS := gS_at n.eqs i S.length
      have hld : ldE.ldO 1 false i (.c false (m6 n.eqs.length (gS n.eqs i S.length))) = some (.i .i64 (S.length : Int)) := by
       have := ld1 (gr := false) (fc_get (g := gS n.eqs i S.length) hil)
       rw [hgS] at this; exact this
      have hwS := j1 (n := S.length) (by omega)
      rw [hgS] at g8
      have hb4 : BG js n.row n.eqs.length K (byK n.eqs n.eqs.length) H4 v2 (as5 n.eqs i ++ (S ++ [m]).map fun k => (k, i)) (gS n.eqs i (S ++ [m]).length) := by
       rw [gS_step] at g9
       simp only [List.map_append, List.map_cons, List.map_nil, List.length_append, List.length_cons, List.length_nil, ← List.append_assoc, Nat.zero_add]
       exact g9
      have hfr4 : ∀ a, a < K → js.length + 5 ≤ a → hpL H4 a = hpL H6 a := fun a h1 h2 => by
       rw [g11 a h1 (by omega) (by omega)]; exact hfr a h1 h2
      clear g2 g4 g5 g6 g9 g11 hBG hSE
      repeat' (first
       | ((with_reducible refine b8 (fun h => ?_) (fun h => ?_)) <;> simp only [h, ah3, ah2, hdd, hwd, ha1, ha2, hlk, hdm, g1, g2', g3, g4', g5', g6', g7, g8, g12, hia, hld, hwS, SXR, simprocAttr])
       | (simp only [c19, ah3, ah2, hdd, hwd, ha1, ha2, hlk, hdm, g1, g2', g3, g4', g5', g6', g7, g8, g12, hia, hld, hwS, SXR, simprocAttr]))
      exact IM (d + 1) _ _ (by refine ⟨_, v2, rfl, rfl, ?_⟩; rw [hnx2]; exact ⟨hb4, g10, hfr4⟩) hdlt (by omega)
    ·clear IM
     have hde : d = (byK n.eqs n.eqs.length s).length := by omega
     subst hde
     have hdd := ltn hdlt
     rw [List.take_length, ← hnx] at hBG hSE
     repeat' (first
      | ((with_reducible refine b8 (fun h => ?_) (fun h => ?_)) <;> simp only [h, ah3, ah2, hdd, hwc, SXR, simprocAttr])
      | (simp only [c19, ah3, ah2, hdd, hwc, SXR, simprocAttr]))
     exact IK (c + 1) _ _ (by exact ⟨_, _, rfl, rfl, hBG, hSE⟩) hcl (by omega)
   ·clear IK
    have hce : c = (o9 q).length := by omega
    subst hce
    have hdc := ltn hcl
    rw [List.take_length, ← hdep] at hBG
    rw [gS_next] at hBG
    repeat' (first
     | ((with_reducible refine b8 (fun h => ?_) (fun h => ?_)) <;> simp only [h, ah3, ah2, hdc, hw, SXR, simprocAttr])
     | (simp only [c19, ah3, ah2, hdc, hw, SXR, simprocAttr]))
    exact IH (i + 1) _ _ (by exact ⟨_, _, rfl, rfl, hBG⟩) hil (by omega)
  ·clear IH
   have hie : i = n.eqs.length := by omega
   subst hie
   have hd := ltn hil
   repeat' (first
    | ((with_reducible refine b8 (fun h => ?_) (fun h => ?_)) <;> simp only [h, ah3, ah2, hd, SXR, simprocAttr])
    | (simp only [c19, ah3, ah2, hd, SXR, simprocAttr]))
   exact hBG.pack fun k hk => by simp [gS, hk]
theorem isnan_pc (i : Int) : PC Tryz.prog 105 [.i .i64 i] (.b false) := by
 refine aq9 Tryz.func105 k105 rfl ?_
 repeat' (first
  | (simp only [c105, bne_i, SXR, simprocAttr]))
theorem av1 (a b : Int) : PC Tryz.prog 81 [.i .i64 a, .i .i64 b] (.b (decide (a < b))) := by
 have h1 := isnan_pc a
 have h2 := isnan_pc b
 refine aq9 Tryz.func81 k81 rfl ?_
 repeat' (first
  | (with_reducible refine j9 (h1) (by simp only [SXR]) (by simp only [SXR]) ?_)
  | (with_reducible refine j9 (h2) (by simp only [SXR]) (by simp only [SXR]) ?_)
  | (simp only [c81, SXR, simprocAttr]))
def Asc (l : List Nat) : Prop := ∀ i x y, l[i]? = some x → l[i + 1]? = some y → x < y
theorem Asc.less {l : List Nat} (h : Asc l) {i x y : Nat} (hx : l[i]? = some x) (hy : l[i + 1]? = some y) : decide ((y : Int) < (x : Int)) = false := by
 have := h i x y hx hy
 exact decide_eq_false (by omega)
theorem Asc.lt {l : List Nat} (h : Asc l) : ∀ {d i x y : Nat}, l[i]? = some x → l[i + (d + 1)]? = some y → x < y
 | 0, i, x, y, hx, hy => h i x y hx hy
 | d + 1, i, x, y, hx, hy => by
   have hl := (List.getElem?_eq_some_iff.1 hy).1
   obtain ⟨z, hz, _⟩ := ats (l := l) (i := i + (d + 1)) (by omega)
   have h1 := Asc.lt h hx hz
   have h2 := h (i + (d + 1)) z y hz hy
   omega
theorem ac1 {n : Nat} (h : n < 1000000000000000000) : IntKind.i64.wrap (n : Int) = (n : Int) := by
 have h1 : (n : Int) % 2 ^ 64 = (n : Int) := Int.emod_eq_of_lt (by omega) (by omega)
 simp only [IntKind.wrap, IntKind.bits, IntKind.signed, h1]
 rw [if_neg]
 simp
 omega
theorem ab0 {n : Nat} (h : n + 1 < 1000000000000000000) : IntKind.i64.wrap (((n + 1 : Nat) : Int) - 1) = (n : Int) := by
 rw [show ((n + 1 : Nat) : Int) - 1 = (n : Int) by omega]
 exact ac1 (by omega)
theorem insort_ac {js : List O} {lv : V} {l : List Nat} (hr : RC z7 js lv l) (ha : Asc l) (hn : l.length < 1000000) (hv : lv.lt js.length = true) (hlt : ltO js.length js = true) :
  ACalls Tryz.prog 75 [lv, .i .i64 0, .i .i64 (l.length : Int)] (hpL js) js.length (.tu []) (hpL js) js.length := by
 refine ab4 Tryz.func75 k75 rfl rfl (by simp only [V.lt, ltL]) hlt ?_
 repeat' (first
  | (simp only [c75, aa9, aa8, SXR, simprocAttr]))
 refine m5 (X := Nat) (fun i ll hs => Hd (fun j => [lv, .i .i64 0, .i .i64 (l.length : Int), j 3, j 4, j 5, .i .i64 ((i + 1 : Nat) : Int), j 7, j 8, j 9, j 10, j 11, j 12, j 13, j 14, j 15, j 16, j 17, j 18, j 19, j 20, j 21, j 22, j 23, j 24, j 25, j 26, j 27, j 28, j 29, j 30, j 31, j 32, j 33, j 34, j 35, j 36, j 37, j 38, j 39, j 40, j 41, j 42, j 43, j 44, j 45, j 46, j 47, j 48]) ll ∧ hs = js)
  (fun i => i < l.length + 1) (fun i => l.length - i) ?_ 0 _ _ (by exact ⟨rfl, rfl⟩) (Nat.succ_pos _)
 rintro i _ _ ⟨e, rfl⟩ hi IH
 obtain ⟨j, rfl⟩ := e.open
 clear e
 by_cases hil : i + 1 < l.length
 ·obtain ⟨x, hx, _⟩ := ats (l := l) (i := i) (by omega)
  obtain ⟨y, hy, _⟩ := ats (l := l) (i := i + 1) hil
  obtain ⟨ad, h1, h2⟩ := hr.get0 hx
  obtain ⟨ae, h3, h4⟩ := hr.get0 hy
  unfold z7 at h2 h4
  have hd := ltd hil
  have hw := j1 (n := i + 1) (by omega)
  have hw1 := ab0 (n := i) (by omega)
  have hg : decide ((((i + 1 : Nat) : Int)) > 0) = true := by simp
  have hc := av1 (y : Int) (x : Int)
  have hle := ha.less hx hy
  repeat' (first
   | (simp only [c75, aa9, aa8, hd, SXR, simprocAttr]))
  refine av4 ?_
  repeat' (first
   | (with_reducible refine j9 (hc) (by simp only [SXR]) (by simp only [SXR]) ?_)
   | (simp only [c75, aa9, aa8, h1, h2, h3, h4, hd, hw, hw1, hg, hle, SXR, simprocAttr]))
  exact IH (i + 1) _ _ (by exact ⟨rfl, rfl⟩) (by omega) (by omega)
 ·clear IH
  have hd := ltn hil
  repeat' (first
   | (simp only [c75, aa9, aa8, hd, SXR, simprocAttr]))
  exact ⟨rfl, [], by simp⟩
theorem order2_ac {js : List O} {lv : V} {l : List Nat} {a b c : Nat} (hr : RC z7 js lv l) (ha : Asc l) (hab : a < b) (hb : b < l.length) (hlt : ltO js.length js = true) :
  ACalls Tryz.prog 112 [lv, .i .i64 (a : Int), .i .i64 (b : Int), .p c 0] (hpL js) js.length (.tu [.i .i64 (a : Int), .i .i64 (b : Int)]) (hpL js) js.length := by
 obtain ⟨x, hx, _⟩ := ats (l := l) (i := a) (by omega)
 obtain ⟨y, hy, _⟩ := ats (l := l) (i := b) hb
 obtain ⟨ad, h1, h2⟩ := hr.get0 hx
 obtain ⟨ae, h3, h4⟩ := hr.get0 hy
 unfold z7 at h2 h4
 have hc := av1 (y : Int) (x : Int)
 have hle : decide ((y : Int) < (x : Int)) = false := by
  have := Asc.lt ha (d := b - a - 1) hx (by rw [show a + (b - a - 1 + 1) = b by omega]; exact hy)
  exact decide_eq_false (by omega)
 refine ab4 Tryz.func112 k112 rfl rfl (by simp only [V.lt, ltL, Bool.and_self]) hlt ?_
 repeat' (first
  | (with_reducible refine j9 (hc) (by simp only [SXR]) (by simp only [SXR]) ?_)
  | (simp only [c112, aa9, aa8, h1, h2, h3, h4, hle, SXR, simprocAttr]))
 exact ⟨[], by simp⟩
theorem median_ac {js : List O} {lv : V} {l : List Nat} {a b c d : Nat} (hr : RC z7 js lv l) (ha : Asc l) (hab : a < b) (hbc : b < c) (hc : c < l.length) (hlt : ltO js.length js = true) :
  ACalls Tryz.prog 104 [lv, .i .i64 (a : Int), .i .i64 (b : Int), .i .i64 (c : Int), .p d 0] (hpL js) js.length (.i .i64 (b : Int)) (hpL js) js.length := by
 have h1 := order2_ac (c := d) hr ha hab (by omega) hlt
 have h2 := order2_ac (c := d) hr ha hbc hc hlt
 refine ab4 Tryz.func104 k104 rfl rfl (by simp only [V.lt]) hlt ?_
 repeat' (first
  | (with_reducible refine e8 (h1) ?_)
  | (with_reducible refine e8 (h2) ?_)
  | (simp only [c104, aa9, aa8, SXR, simprocAttr]))
 exact ⟨[], by simp⟩
theorem ba9 {js : List O} {lv : V} {l : List Nat} {a d : Nat} (hr : RC z7 js lv l) (ha : Asc l) (hc : a + 2 < l.length) (hn : l.length < 1000000) (hlt : ltO js.length js = true) :
  ACalls Tryz.prog 103 [lv, .i .i64 ((a + 1 : Nat) : Int), .p d 0] (hpL js) js.length (.i .i64 ((a + 1 : Nat) : Int)) (hpL js) js.length := by
 have h1 := median_ac (a := a) (b := a + 1) (c := a + 1 + 1) (d := d) hr ha (by omega) (by omega) (by omega) hlt
 have hw := j1 (n := a + 1) (by omega)
 have hw1 := ab0 (n := a) (by omega)
 refine ab4 Tryz.func103 k103 rfl rfl (by simp only [V.lt]) hlt ?_
 repeat' (first
  | (with_reducible refine e8 (h1) ?_)
  | (simp only [c103, aa9, aa8, hw, hw1, SXR, simprocAttr]))
 exact ⟨[], by simp⟩
theorem wrap_quo {n : Nat} (h : n < 1000000) : IntKind.i64.wrap ((n : Int).tdiv 4) = ((n / 4 : Nat) : Int) := by
 rw [Int.tdiv_eq_ediv_of_nonneg (by omega), show (n : Int) / 4 = ((n / 4 : Nat) : Int) by omega]
 exact ac1 (by omega)
theorem wrap_mul {n k : Nat} (h : n < 1000000) (hk : k < 10) : IntKind.i64.wrap ((n : Int) * (k : Int)) = ((n * k : Nat) : Int) := by
 rw [show (n : Int) * (k : Int) = ((n * k : Nat) : Int) by simp]
 exact ac1 (by have : n * k ≤ n * 10 := Nat.mul_le_mul_left _ (by omega); omega)
theorem ao0 {a b : Int} : aq5 .mul (.i .i64 a) (.i .i64 b) = some (.i .i64 (IntKind.i64.wrap (a * b))) := by simp [aq5]
theorem choosep_ac {js : List O} {lv : V} {l : List Nat} (hr : RC z7 js lv l) (ha : Asc l) (h12 : 12 < l.length) (hn : l.length < 1000000) (hlt : ltO js.length js = true) :
  ACalls Tryz.prog 78 [lv, .i .i64 0, .i .i64 (l.length : Int)] (hpL js) js.length (.tu [.i .i64 ((l.length / 4 * 2 : Nat) : Int), .i .i64 1]) (hpL js) js.length := by
 have hq := wrap_quo hn
 have w0 := ac1 (n := l.length) (by omega)
 have w1 : IntKind.i64.wrap (((l.length / 4 : Nat) : Int) * 1) = ((l.length / 4 * 1 : Nat) : Int) := wrap_mul (n := l.length / 4) (k := 1) (by omega) (by omega)
 have w2 : IntKind.i64.wrap (((l.length / 4 : Nat) : Int) * 2) = ((l.length / 4 * 2 : Nat) : Int) := wrap_mul (n := l.length / 4) (k := 2) (by omega) (by omega)
 have w3 : IntKind.i64.wrap (((l.length / 4 : Nat) : Int) * 3) = ((l.length / 4 * 3 : Nat) : Int) := wrap_mul (n := l.length / 4) (k := 3) (by omega) (by omega)
 have v1 := ac1 (n := l.length / 4 * 1) (by omega)
 have v2 := ac1 (n := l.length / 4 * 2) (by omega)
 have v3 := ac1 (n := l.length / 4 * 3) (by omega)
 have hr' := hr.more [.c false [.i .i64 0]]
 have hl' : ltO (js ++ [O.c false [.i .i64 0]]).length (js ++ [O.c false [.i .i64 0]]) = true := aa7 (by simp) hlt rfl
 have m1 := ba9 (a := l.length / 4 * 1 - 1) (d := js.length) hr' ha (by omega) hn hl'
 have m2 := ba9 (a := l.length / 4 * 2 - 1) (d := js.length) hr' ha (by omega) hn hl'
 have m3 := ba9 (a := l.length / 4 * 3 - 1) (d := js.length) hr' ha (by omega) hn hl'
 rw [show l.length / 4 * 1 - 1 + 1 = l.length / 4 * 1 by omega] at m1
 rw [show l.length / 4 * 2 - 1 + 1 = l.length / 4 * 2 by omega] at m2
 rw [show l.length / 4 * 3 - 1 + 1 = l.length / 4 * 3 by omega] at m3
 have md := median_ac (a := l.length / 4 * 1) (b := l.length / 4 * 2) (c := l.length / 4 * 3) (d := js.length) hr' ha (by omega) (by omega) (by omega) hl'
 have h8 : decide ((l.length : Int) ≥ 8) = true := by simp; omega
 refine ab4 Tryz.func78 k78 rfl rfl (by simp only [V.lt, ltL, Bool.and_self]) hlt ?_
 repeat' (first
  | ((with_reducible refine b8 (fun h => ?_) (fun h => ?_)) <;> simp only [h, aa9, aa8, hq, w0, w1, w2, w3, v1, v2, v3, h8, ao0, Int.sub_zero, Int.zero_add, SXR, simprocAttr])
  | (with_reducible refine e8 (m1) ?_)
  | (with_reducible refine e8 (m2) ?_)
  | (with_reducible refine e8 (m3) ?_)
  | (with_reducible refine e8 (md) ?_)
  | (simp only [c78, aa9, aa8, hq, w0, w1, w2, w3, v1, v2, v3, h8, ao0, Int.sub_zero, Int.zero_add, SXR, simprocAttr]))
 all_goals exact ⟨_, rfl⟩
def sixE (l a : Nat) : V → Option V
 | .i _ n => if 0 ≤ n ∧ n < l then some (.i .u8 ((a / 256 ^ (l - 1 - n.toNat)) % 256 : Nat)) else none
 | _ => none
theorem x_six {sl : Nat → V} {h : Hp} {l a : Nat} {i : AO} : evX sl h (.six (.k (.s l a)) i) = sixE l a (evO sl i) := by
 simp only [evX, sixE]
 cases evO sl i <;> rfl
def cnvE (k : IntKind) : V → Option V
 | .i _ n => some (.i k (k.wrap n))
 | _ => none
theorem x_cnv {sl : Nat → V} {h : Hp} {k : IntKind} {x : AO} : evX sl h (.cnv k x) = cnvE k (evO sl x) := by
 simp only [evX, cnvE]
 cases evO sl x <;> rfl
theorem cnv_i {k k' : IntKind} {n : Int} : cnvE k (.i k' n) = some (.i k (k.wrap n)) := rfl
def lenTab : Nat := 496986003408712215933005303621146343841837811690876167382323004466384420695090407243345123874780946046625255262057845613767806773758184921447759720770971536008171983842311960805720366577116933250839345203839274948261284255908394484732272583221484877694546905335834403051067785895034095251181560891789708940188598129052595634438001880866652824740680664595948164050600812232986714152902334120417949232733424961741260388658846598210939813666227264727603044226856020347194099943897342244906131705541414413428559898943151040826816076322978570758226444464494629814583418847495712557856038296917933182380796641777551368
def bl (n : Nat) : Nat := (lenTab / 256 ^ (255 - n)) % 256
theorem bl_lt (n : Nat) : bl n < 256 := Nat.mod_lt _ (by omega)
theorem bl_all : (List.range 255).all (fun n => bl (n + 1) != 0) = true := by decide +kernel
theorem bl_ne {n : Nat} (h0 : 0 < n) (h : n < 256) : bl n ≠ 0 := by
 have := List.all_eq_true.1 bl_all (n - 1) (List.mem_range.2 (by omega))
 rw [show n - 1 + 1 = n by omega] at this
 simpa using this
theorem wrap_u64 {n : Nat} (h : n < 256) : IntKind.u64.wrap (n : Int) = (n : Int) := by
 simp only [IntKind.wrap, IntKind.bits, IntKind.signed, Bool.false_and]
 rw [if_neg (by simp)]
 omega
theorem wrap_u8 {n : Nat} (h : n < 256) : IntKind.u8.wrap (n : Int) = (n : Int) := by
 simp only [IntKind.wrap, IntKind.bits, IntKind.signed, Bool.false_and]
 rw [if_neg (by simp)]
 omega
theorem bitslen_pc {n : Nat} (h : n < 256) : PC Tryz.prog 58 [.i .u64 (n : Int)] (.i .i64 (bl n : Int)) := by
 have h64 : PC Tryz.prog 85 [.i .u64 (n : Int)] (.i .i64 (bl n : Int)) := by
  have h1 : decide ((n : Int) ≥ 4294967296) = false := by simp; omega
  have h2 : decide ((n : Int) ≥ 65536) = false := by simp; omega
  have h3 : decide ((n : Int) ≥ 256) = false := by simp; omega
  have h4 := wrap_u8 h
  have h5 : sixE 256 496986003408712215933005303621146343841837811690876167382323004466384420695090407243345123874780946046625255262057845613767806773758184921447759720770971536008171983842311960805720366577116933250839345203839274948261284255908394484732272583221484877694546905335834403051067785895034095251181560891789708940188598129052595634438001880866652824740680664595948164050600812232986714152902334120417949232733424961741260388658846598210939813666227264727603044226856020347194099943897342244906131705541414413428559898943151040826816076322978570758226444464494629814583418847495712557856038296917933182380796641777551368 (.i .u8 (n : Int)) = some (.i .u8 (bl n : Int)) := by
   simp only [sixE]
   rw [if_pos (by omega)]
   rfl
  have h6 := ac1 (n := bl n) (by have := bl_lt n; omega)
  refine aq9 Tryz.func85 k85 rfl ?_
  repeat' (first
   | (simp only [c85, h1, h2, h3, h4, h5, h6, x_six, x_cnv, cnv_i, Int.zero_add, SXR, simprocAttr]))
 refine aq9 Tryz.func58 k58 rfl ?_
 repeat' (first
  | ((with_reducible refine b8 (fun h => ?_) (fun h => ?_)) <;> simp only [h, SXR, simprocAttr])
  | (with_reducible refine j9 (h64) (by simp only [SXR]) (by simp only [SXR]) ?_)
  | (simp only [c58, SXR, simprocAttr]))
theorem partins_ac {js : List O} {lv : V} {l : List Nat} (hr : RC z7 js lv l) (ha : Asc l) (h0 : 0 < l.length) (hn : l.length < 1000000) (hlt : ltO js.length js = true) :
  ACalls Tryz.prog 80 [lv, .i .i64 0, .i .i64 (l.length : Int)] (hpL js) js.length (.b true) (hpL js) js.length := by
 refine ab4 Tryz.func80 k80 rfl rfl (by simp only [V.lt]) hlt ?_
 repeat' (first
  | (simp only [c80, aa9, aa8, SXR, simprocAttr]))
 refine av4 ?_
 repeat' (first
  | (simp only [c80, aa9, aa8, SXR, simprocAttr]))
 refine m5 (X := Nat) (fun i ll hs => Hd (fun j => [lv, .i .i64 0, .i .i64 (l.length : Int), j 3, j 4, j 5, j 6, .i .i64 ((i + 1 : Nat) : Int), j 8, j 9, j 10, j 11, j 12, j 13, j 14, j 15, j 16, j 17, j 18, j 19, j 20, j 21, j 22, j 23, j 24, j 25, j 26, j 27, j 28, j 29, j 30, j 31, j 32, j 33, j 34, j 35, j 36, j 37, j 38, j 39, j 40, j 41, j 42, j 43, j 44, j 45, j 46, j 47, j 48, j 49, j 50, j 51, j 52, j 53, j 54, j 55, j 56, j 57, j 58, j 59, j 60, j 61, j 62, j 63, j 64, j 65, j 66, j 67, j 68, j 69, j 70, j 71, j 72, j 73, j 74, j 75, j 76, j 77, j 78, j 79, j 80, j 81, j 82, j 83, j 84, j 85, j 86, j 87, j 88, j 89, j 90, j 91, j 92, j 93, j 94, j 95, j 96, j 97, j 98, j 99, j 100, j 101, j 102, j 103, j 104, j 105, j 106, j 107, j 108, j 109, j 110, j 111, j 112, j 113, j 114, j 115, j 116, j 117, j 118, j 119, j 120, j 121, j 122, j 123, j 124, j 125, j 126, j 127, j 128, j 129, j 130, j 131, j 132]) ll ∧ hs = js)
  (fun i => i + 1 ≤ l.length) (fun i => l.length - i) ?_ 0 _ _ (by exact ⟨rfl, rfl⟩) h0
 rintro i _ _ ⟨e, rfl⟩ hi IH
 obtain ⟨j, rfl⟩ := e.open
 clear e
 by_cases hil : i + 1 < l.length
 ·obtain ⟨x, hx, _⟩ := ats (l := l) (i := i) (by omega)
  obtain ⟨y, hy, _⟩ := ats (l := l) (i := i + 1) hil
  obtain ⟨ad, h1, h2⟩ := hr.get0 hx
  obtain ⟨ae, h3, h4⟩ := hr.get0 hy
  unfold z7 at h2 h4
  have hd := ltd hil
  have hw := j1 (n := i + 1) (by omega)
  have hw1 := ab0 (n := i) (by omega)
  have hc := av1 (y : Int) (x : Int)
  have hle := ha.less hx hy
  repeat' (first
   | (with_reducible refine j9 (hc) (by simp only [SXR]) (by simp only [SXR]) ?_)
   | (simp only [c80, aa9, aa8, h1, h2, h3, h4, hd, hw, hw1, hle, SXR, simprocAttr]))
  exact IH (i + 1) _ _ (by exact ⟨rfl, rfl⟩) (by omega) (by omega)
 ·clear IH
  have hie : i + 1 = l.length := by omega
  have hd := ltn hil
  have hb : (((i + 1 : Nat) : Int) == (l.length : Int)) = true := by simp; omega
  repeat' (first
   | (simp only [c80, aa9, aa8, hd, hb, SXR, simprocAttr]))
  exact ⟨[], by simp⟩
theorem pdq_ac {js : List O} {lv : V} {l : List Nat} (hr : RC z7 js lv l) (ha : Asc l) (hn : l.length < 256) (hv : lv.lt js.length = true) (hlt : ltO js.length js = true) :
  ACalls Tryz.prog 57 [lv, .i .i64 0, .i .i64 (l.length : Int), .i .i64 (bl l.length : Int)] (hpL js) js.length (.tu []) (hpL js) js.length := by
 have hw := ac1 (n := l.length) (by omega)
 have hins := insort_ac hr ha (by omega) hv hlt
 by_cases h12 : l.length ≤ 12
 ·have hd : decide ((l.length : Int) ≤ 12) = true := by simp; omega
  refine ab4 Tryz.func57 k57 rfl rfl (by simp only [V.lt, ltL]) hlt ?_
  repeat' (first
   | ((with_reducible refine b8 (fun h => ?_) (fun h => ?_)) <;> simp only [h, aa9, aa8, SXR, simprocAttr])
   | (simp only [c57, aa9, aa8, SXR, simprocAttr]))
  refine av4 ?_
  repeat' (first
   | ((with_reducible refine b8 (fun h => ?_) (fun h => ?_)) <;> simp only [h, aa9, aa8, hd, hw, Int.sub_zero, SXR, simprocAttr])
   | (with_reducible refine e8 (hins) ?_)
   | (simp only [c57, aa9, aa8, hd, hw, Int.sub_zero, SXR, simprocAttr]))
  exact ⟨rfl, [], by simp⟩
 ·have hd : decide ((l.length : Int) ≤ 12) = false := by simp; omega
  have hne : (((bl l.length : Nat) : Int) == 0) = false := by
   have := bl_ne (n := l.length) (by omega) hn
   simp; omega
  have hcp := choosep_ac hr ha (by omega) (by omega) hlt
  have hpi := partins_ac hr ha (by omega) (by omega) hlt
  refine ab4 Tryz.func57 k57 rfl rfl (by simp only [V.lt, ltL]) hlt ?_
  repeat' (first
   | ((with_reducible refine b8 (fun h => ?_) (fun h => ?_)) <;> simp only [h, aa9, aa8, SXR, simprocAttr])
   | (simp only [c57, aa9, aa8, SXR, simprocAttr]))
  refine av4 ?_
  repeat' (first
   | ((with_reducible refine b8 (fun h => ?_) (fun h => ?_)) <;> simp only [h, aa9, aa8, hd, hw, hne, Int.sub_zero, SXR, simprocAttr])
   | (with_reducible refine e8 (hcp) ?_)
   | (with_reducible refine e8 (hpi) ?_)
   | (simp only [c57, aa9, aa8, hd, hw, hne, Int.sub_zero, SXR, simprocAttr]))
  exact ⟨rfl, [], by simp⟩
theorem sortint_ac {js : List O} {lv : V} {l : List Nat} (hr : RC z7 js lv l) (ha : Asc l) (hn : l.length < 256) (hv : lv.lt js.length = true) (hlt : ltO js.length js = true) :
  ACalls Tryz.prog 39 [lv] (hpL js) js.length (.tu []) (hpL js) js.length := by
 have hll := hr.len
 have hw := wrap_u64 hn
 have hbl := bitslen_pc hn
 have hpd := pdq_ac hr ha hn hv hlt
 refine ab4 Tryz.func39 k39 rfl rfl (by simp only [V.lt, ltL]) hlt ?_
 repeat' (first
  | ((with_reducible refine b8 (fun h => ?_) (fun h => ?_)) <;> simp only [h, aa9, aa8, hll, hw, x_cnv, cnv_i, SXR, simprocAttr])
  | (with_reducible refine e8 (hpd) ?_)
  | (with_reducible refine j9 (hbl) (by simp only [SXR]) (by simp only [SXR]) ?_)
  | (simp only [c39, aa9, aa8, hll, hw, x_cnv, cnv_i, SXR, simprocAttr]))
 exact ⟨rfl, [], by simp⟩
theorem compact_ac {js : List O} {lv : V} {l : List Nat} (hr : RC z7 js lv l) (ha : Asc l) (hn : l.length < 1000000) (hv : lv.lt js.length = true) (hlt : ltO js.length js = true) :
  ACalls Tryz.prog 40 [lv] (hpL js) js.length lv (hpL js) js.length := by
 have hll := hr.len
 refine ab4 Tryz.func40 k40 rfl rfl hv hlt ?_
 by_cases h2 : l.length < 2
 ·have hd2 : decide ((l.length : Int) < 2) = true := by simp; omega
  repeat' (first
   | ((with_reducible refine b8 (fun h => ?_) (fun h => ?_)) <;> simp only [h, aa9, aa8, hll, hd2, SXR, simprocAttr])
   | (simp only [c40, aa9, aa8, hll, hd2, SXR, simprocAttr]))
  exact ⟨[], by simp⟩
 ·have hd2 : decide ((l.length : Int) < 2) = false := by simp; omega
  repeat' (first
   | ((with_reducible refine b8 (fun h => ?_) (fun h => ?_)) <;> simp only [h, aa9, aa8, hll, hd2, SXR, simprocAttr])
   | (simp only [c40, aa9, aa8, hll, hd2, SXR, simprocAttr]))
  refine m5 (X := Nat) (fun i ll hs => Hd (fun j => [lv, j 1, j 2, .i .i64 ((i + 1 : Nat) : Int), j 4, j 5, j 6, j 7, j 8, j 9, j 10, j 11, j 12, j 13, j 14, j 15, j 16, j 17, j 18, j 19, j 20, j 21, j 22, j 23, j 24, j 25, j 26, j 27, j 28, j 29, j 30, j 31, j 32, j 33, j 34, j 35, j 36, j 37, j 38, j 39, j 40, j 41, j 42, j 43, j 44, j 45, j 46, j 47, j 48, j 49, j 50, j 51, j 52, j 53, j 54, j 55, j 56, j 57, j 58, j 59, j 60]) ll ∧ hs = js)
   (fun i => i + 1 ≤ l.length) (fun i => l.length - i) ?_ 0 _ _ (by exact ⟨rfl, rfl⟩) (by show 0 + 1 ≤ l.length; omega)
  rintro i _ _ ⟨e, rfl⟩ hi IH
  obtain ⟨j, rfl⟩ := e.open
  clear e
  by_cases hil : i + 1 < l.length
  ·obtain ⟨x, hx, _⟩ := ats (l := l) (i := i) (by omega)
   obtain ⟨y, hy, _⟩ := ats (l := l) (i := i + 1) hil
   obtain ⟨ad, h1, h2⟩ := hr.get0 hx
   obtain ⟨ae, h3, h4⟩ := hr.get0 hy
   unfold z7 at h2 h4
   have hd := ltd hil
   have hw := j1 (n := i + 1) (by omega)
   have hw1 := ab0 (n := i) (by omega)
   have hne : ((y : Int) == (x : Int)) = false := by
    have := ha i x y hx hy
    simp; omega
   repeat' (first
    | ((with_reducible refine b8 (fun h => ?_) (fun h => ?_)) <;> simp only [h, aa9, aa8, hll, h1, h2, h3, h4, hd, hw, hw1, hne, SXR, simprocAttr])
    | (simp only [c40, aa9, aa8, hll, h1, h2, h3, h4, hd, hw, hw1, hne, SXR, simprocAttr]))
   exact IH (i + 1) _ _ (by exact ⟨rfl, rfl⟩) (by omega) (by omega)
  ·clear IH
   have hd := ltn hil
   repeat' (first
    | ((with_reducible refine b8 (fun h => ?_) (fun h => ?_)) <;> simp only [h, aa9, aa8, hll, hd, SXR, simprocAttr])
    | (simp only [c40, aa9, aa8, hll, hd, SXR, simprocAttr]))
   exact ⟨[], by simp⟩
structure RW {α : Type} (f : α → List V) (wd : Nat) (js : List O) (lv : V) (l : List α) : Prop where
 len : lenE false lv = some (.i .i64 (l.length : Int))
 get : ∀ (i : Nat) (x : α), l[i]? = some x → ∃ ad : V, iadE wd lv (.i .i64 (i : Int)) = some ad ∧ ∀ ks, ldE (hpL (js ++ ks)) wd true ad = some (.ag (f x))
theorem NR.rw {α : Type} {f : α → List V} {wd : Nat} {js : List O} {v : V} {l : List α} (h : NR f wd js v l) (hf : ∀ x, (f x).length = wd) : RW f wd js v l := by
 rcases h with ⟨rfl, rfl⟩ | ⟨B, rfl, hB⟩
 ·exact ⟨rfl, fun i x hx => by simp at hx⟩
 ·refine ⟨af5, fun i x hx => ⟨.p B (i * wd), ae0 (List.getElem?_eq_some_iff.1 hx).1, fun ks => ?_⟩⟩
  rw [ld_p, j2 hB]
  refine ld_row (p := fl f (l.take i)) (s := fl f (l.drop (i + 1))) ?_ ?_ (hf x)
  ·conv => lhs; rw [← List.take_append_drop i l, t6 hx]
   simp [fl]
  ·rw [aq0 hf, List.length_take, Nat.min_eq_left (Nat.le_of_lt (List.getElem?_eq_some_iff.1 hx).1)]
theorem RW.more {α : Type} {f : α → List V} {wd : Nat} {js : List O} {v : V} {l : List α} (h : RW f wd js v l) (zs : List O) : RW f wd (js ++ zs) v l := ⟨h.len, fun i x hx => by
 obtain ⟨ad, h1, h2⟩ := h.get i x hx
 exact ⟨ad, h1, fun ks => by rw [List.append_assoc]; exact h2 _⟩⟩
theorem valid1_ac {js : List O} {b n v : Nat} (hb : hpL js b = .c false [.i .i64 (n : Int)]) (h : v < n) : ACalls Tryz.prog 36 [.i .i64 (v : Int), .p b 0] (hpL js) js.length (.b true) (hpL js) js.length := by
 have h0 : decide ((v : Int) ≥ 0) = true := by simp
 have h1 := ltd h
 refine ao2 Tryz.func36 k36 rfl ?_
 repeat' (first
  | ((with_reducible refine b8 (fun h => ?_) (fun h => ?_)) <;> simp only [h, hb, h0, h1, SXR, simprocAttr])
  | (simp only [c36, hb, h0, h1, SXR, simprocAttr]))
theorem contint_ac {js : List O} {v : V} : ACalls Tryz.prog 37 [.ns, v] (hpL js) js.length (.b false) (hpL js) js.length := by
 have hi : ACalls Tryz.prog 42 [.ns, v] (hpL js) js.length (.i .i64 (-1)) (hpL js) js.length := by
  refine ao2 Tryz.func42 k42 rfl ?_
  repeat' (first
   | ((with_reducible refine b8 (fun h => ?_) (fun h => ?_)) <;> simp only [h, SXR, simprocAttr])
   | (simp only [c42, SXR, simprocAttr]))
  refine av4 ?_
  repeat' (first
   | ((with_reducible refine b8 (fun h => ?_) (fun h => ?_)) <;> simp only [h, SXR, simprocAttr])
   | (simp only [c42, SXR, simprocAttr]))
 refine ao2 Tryz.func37 k37 rfl ?_
 repeat' (first
  | ((with_reducible refine b8 (fun h => ?_) (fun h => ?_)) <;> simp only [h, SXR, simprocAttr])
  | (with_reducible refine e8 (hi) ?_)
  | (simp only [c37, SXR, simprocAttr]))
theorem gvalid_ac {js : List O} {ev : V} {E : List (Nat × Nat)} {n : Nat} (hE : RW ag2 2 js ev E) (hn : n ≤ 200) (hl : E.length < 1000000) (hb : ∀ e, e ∈ E → e.1 < n ∧ e.2 < n) (hlt : ltO js.length js = true) :
  ACalls Tryz.prog 22 [.i .i64 (n : Int), ev, .ns] (hpL js) js.length (.b true) (hpL js) js.length := by
 have h0 : decide ((n : Int) < 0) = false := by simp
 have h1 : decide ((n : Int) > 4096) = false := by simp; omega
 have hlen := hE.len
 refine ab4 Tryz.func22 k22 rfl rfl (by simp only [V.lt]) hlt ?_
 repeat' (first
  | ((with_reducible refine b8 (fun h => ?_) (fun h => ?_)) <;> simp only [h, aa9, aa8, h0, h1, hlen, SXR, simprocAttr])
  | (simp only [c22, aa9, aa8, h0, h1, hlen, SXR, simprocAttr]))
 refine m5 (X := Nat) (fun i ll hs => ∃ zs : List O, Hd (fun j => [j 0, j 1, .ns, j 3, j 4, j 5, j 6, .p (js.length + 1) 0, j 8, j 9, j 10, j 11, j 12, j 13, j 14, j 15, j 16, ev, .i .i64 (E.length : Int), .i .i64 (i : Int), j 20, j 21, j 22, j 23, j 24, j 25, j 26, j 27, j 28, j 29, j 30, j 31, j 32, j 33, j 34, j 35, j 36, j 37, j 38, j 39]) ll ∧ hs = js ++ .c false [.i .i64 (n : Int)] :: .c false [.fn 36 [] [.p js.length 0]] :: zs)
  (fun i => i ≤ E.length) (fun i => E.length - i) ?_ 0 _ _ (by exact ⟨[], rfl, rfl⟩) (Nat.zero_le _)
 rintro i _ _ ⟨zs, e, rfl⟩ hi IH
 obtain ⟨j, rfl⟩ := e.open
 clear e
 by_cases hil : i < E.length
 ·obtain ⟨x, hx, hxm⟩ := ats hil
  obtain ⟨ad, g1, g2⟩ := hE.get i x hx
  obtain ⟨b1, b2⟩ := hb x hxm
  have hd := ltd hil
  have hw := j1 (n := i) (by omega)
  have hbx : hpL (js ++ O.c false [.i .i64 (n : Int)] :: .c false [.fn 36 [] [.p js.length 0]] :: (zs ++ [.c false (ag2 x)])) js.length = .c false [.i .i64 (n : Int)] := ab9
  have c1 := valid1_ac hbx b1
  have c2 := valid1_ac hbx b2
  simp only [ag2] at g2 hbx c1 c2
  repeat' (first
   | ((with_reducible refine b8 (fun h => ?_) (fun h => ?_)) <;> simp only [h, aa9, aa8, hd, hw, g1, g2, Nat.add_assoc, SXR, simprocAttr])
   | (with_reducible refine e8 (c1) ?_)
   | (with_reducible refine e8 (c2) ?_)
   | (simp only [c22, aa9, aa8, hd, hw, g1, g2, Nat.add_assoc, SXR, simprocAttr]))
  exact IH (i + 1) _ _ (by exact ⟨zs ++ [.c false (ag2 x)], rfl, rfl⟩) hil (by omega)
 ·clear IH
  have hd := ltn hil
  repeat' (first
   | ((with_reducible refine b8 (fun h => ?_) (fun h => ?_)) <;> simp only [h, aa9, aa8, hd, SXR, simprocAttr])
   | (with_reducible refine e8 (contint_ac) ?_)
   | (simp only [c22, aa9, aa8, hd, SXR, simprocAttr]))
  exact ⟨_, rfl⟩
theorem irw_c (i : Nat) : clL (irw i) = true := rfl
theorem ltL_set {n : Nat} : ∀ {cs : List V} {i : Nat} {x : V}, ltL n cs = true → x.lt n = true → ltL n (cs.set i x) = true
 | [], i, x, h, _ => rfl
 | a :: cs, 0, x, h, ho => by simp only [ltL, Bool.and_eq_true] at h; simp only [List.set_cons_zero, ltL, h.2, ho, Bool.and_self]
 | a :: cs, i + 1, x, h, ho => by simp only [ltL, Bool.and_eq_true] at h; simp only [List.set_cons_succ, ltL, h.1, ltL_set h.2 ho, Bool.and_self]
theorem ltO_hp {n a : Nat} {js : List O} {o : O} (h : ltO n js = true) (ha : hpL js a = o) : o.lt n = true := by
 subst ha
 rcases Nat.lt_or_ge a js.length with q | q
 ·exact bb1 h (j := a) (by simp [hpL, q])
 ·rw [hpL_ge q]; rfl
theorem hset_same {H : List O} {a : Nat} {gr : Bool} {cs : List V} (h : hpL H a = .c gr cs) : u6 H a (.c gr cs) = some H := by
 have hl := t8 h
 rw [z9 hl]
 congr 1
 have : H[a] = O.c gr cs := by simpa [hpL, hl] using h
 rw [← this, List.set_getElem_self]
structure OA (K A N : Nat) (P H : List O) (L : Nat → List Nat) : Prop where
 len : P.length ≤ H.length
 K0 : A < K ∧ K ≤ P.length
 low : ∀ a, a < K → a ≠ A → hpL H a = hpL P a
 arr : ∃ vs : List V, vs.length = N ∧ hpL H A = .c false vs ∧
  (∀ i v, vs[i]? = some v → (v = .ns ∧ L i = []) ∨ ∃ B, K ≤ B ∧ v = .sl B 0 1 (L i).length none ∧ hpL H B = .c true (fl irw (L i))) ∧
  ∀ (i j B n n' : Nat), vs[i]? = some (V.sl B 0 1 n none) → vs[j]? = some (V.sl B 0 1 n' none) → i = j
theorem OA.more {K A N : Nat} {P H : List O} {L : Nat → List Nat} (h : OA K A N P H L) (X : List O) : OA K A N P (H ++ X) L := by
 have hl := h.len
 have hk := h.K0
 obtain ⟨vs, h1, h2, h3, h4⟩ := h.arr
 refine ⟨by simp; omega, hk, fun a ha hm => ?_, vs, h1, j2 h2, fun i v hv => ?_, h4⟩
 ·rw [o0 (by omega)]; exact h.low a ha hm
 ·rcases h3 i v hv with q | ⟨B, q1, q2, q3⟩
  ·exact .inl q
  ·exact .inr ⟨B, q1, q2, j2 q3⟩
theorem OA.look {K A N : Nat} {P H : List O} {L : Nat → List Nat} (h : OA K A N P H L) {i : Nat} (hi : i < N) :
  ∃ vs v, vs.length = N ∧ vs[i]? = some v ∧ (∀ ks, hpL (H ++ ks) A = .c false vs) ∧ NR irw 1 H v (L i) ∧ (∀ B o w n c, v = .sl B o w n c → K ≤ B) ∧ B.stored v = some [v] := by
 obtain ⟨vs, h1, h2, h3, h4⟩ := h.arr
 obtain ⟨v, hv, _⟩ := ats (l := vs) (i := i) (by omega)
 refine ⟨vs, v, h1, hv, fun ks => j2 h2, ?_, ?_, ?_⟩
 ·rcases h3 i v hv with ⟨e, e2⟩ | ⟨B, q1, q2, q3⟩
  ·exact .inl ⟨e, e2⟩
  ·exact .inr ⟨B, q2, q3⟩
 ·intro B o w n c e
  rcases h3 i v hv with ⟨e1, e2⟩ | ⟨B', q1, q2, q3⟩
  ·rw [e1] at e; cases e
  ·rw [q2] at e; cases e; exact q1
 ·rcases h3 i v hv with ⟨e1, e2⟩ | ⟨B', q1, q2, q3⟩
  ·rw [e1]; rfl
  ·rw [q2]; rfl
theorem OA.fun_eq {K A N : Nat} {P H : List O} {L L' : Nat → List Nat} (h : OA K A N P H L) (e : ∀ s, L s = L' s) : OA K A N P H L' := by
 rw [show L' = L from funext fun s => (e s).symm]; exact h
theorem OA.step {K A N : Nat} {P H : List O} {L : Nat → List Nat} (h : OA K A N P H L) {i : Nat} (hi : i < N) (m : Nat) (hroom : room ((L i).length + 1) 8 = true) :
  ∃ (vs : List V) (v v' : V) (H1 H2 : List O), (∀ ks, hpL (H ++ ks) A = .c false vs) ∧ ldE.ldO 1 false i (.c false vs) = some v ∧
   (∀ rb k, rb + k = H.length + 1 → ag9 rb (H ++ [.c false [.i .i64 (m : Int)], .no]) k v (some [.i .i64 (m : Int)]) (some 1) 1 8 = some (v', H1)) ∧
   hpL H1 A = .c false vs ∧ B.stored v' = some [v'] ∧ stpO H1 A 1 i [v'] (.c false vs) = some H2 ∧ OA K A N P H2 (fun t => if t = i then L t ++ [m] else L t) ∧ (ltO H.length H = true → ltO H2.length H2 = true) ∧ ∀ a cs, hpL H a = .c false cs → hpL H1 a = .c false cs := by
 have hl := h.len
 have hk := h.K0
 obtain ⟨vs, v, a1, a2, a3, hn, hvK, _⟩ := h.look hi
 obtain ⟨vs', h1, h2, h3, h4⟩ := h.arr
 have hvv : vs' = vs := by
  have := a3 []
  rw [List.append_nil, h2] at this
  injection this
 subst hvv
 have hap := hn.app1 (by omega) irw_w m hroom [.c false [.i .i64 (m : Int)]]
 have hml := t8 h2
 have hm1 : hpL (ak8 H v ++ ([O.c false [.i .i64 (m : Int)]] ++ [O.c true (fl irw (L i ++ [m]))])) A = .c false vs' := by
  rw [al9 hml (fun B o w n c e => by have := hvK B o w n c e; omega)]; exact h2
 have hst := stp1 (hs := ak8 H v ++ ([O.c false [.i .i64 (m : Int)]] ++ [O.c true (fl irw (L i ++ [m]))])) (b := A) (gr := false) (cs := vs') (j := i) (x := .sl (H.length + 1) 0 1 ((L i).length + 1) none) (by omega)
 rw [z9 (by simp [p7]; omega)] at hst
 refine ⟨vs', v, _, _, _, a3, ld1 a2, fun rb k e => hap rb k (by simpa using e), hm1, rfl, hst, ?_, fun hlt => ?_, fun a cs ha => ?_⟩
 rotate_left
 rotate_left
 ·exact j2 (bb4 hn ha)
 rotate_left
 ·have e : ((ak8 H v ++ ([O.c false [V.i .i64 (m : Int)]] ++ [O.c true (fl irw (L i ++ [m]))])).set A (.c false (vs'.set i (.sl (H.length + 1) 0 1 ((L i).length + 1) none)))).length = H.length + 2 := by simp [p7]
  rw [e]
  refine ltO_set ?_ (aa7 (n := H.length) (m := H.length + 2) (by omega) (bb3 hlt) ?_)
  ·simp only [O.lt]
   refine ltL_set ?_ (by simp only [V.lt]; simp)
   have := ltO_hp (ltO_up hlt (show H.length ≤ H.length + 2 by omega)) h2
   simpa only [O.lt] using this
  ·simp only [List.cons_append, List.nil_append, List.all_cons, List.all_nil, ac4, fl_cl irw_c, clL, V.cl, Bool.and_self]
 have hother : ∀ a, a < H.length → a ≠ A → (∀ B o w n c, v = .sl B o w n c → a ≠ B) → hpL ((ak8 H v ++ ([O.c false [.i .i64 (m : Int)]] ++ [O.c true (fl irw (L i ++ [m]))])).set A (.c false (vs'.set i (.sl (H.length + 1) 0 1 ((L i).length + 1) none)))) a = hpL H a := fun a ha hm hB => by
  rw [i8 hm, al9 ha hB]
 refine ⟨by simp [p7]; omega, hk, fun a ha hm => ?_, _, ?_, m8 (by simp [p7]; omega), fun t u hu => ?_, ?_⟩
 ·rw [hother a (by omega) hm (fun B o w n c e => by have := hvK B o w n c e; omega)]
  exact h.low a ha hm
 ·simpa using h1
 ·rw [List.getElem?_set] at hu
  by_cases hti : i = t
  ·subst hti
   rw [if_pos rfl, if_pos (by omega)] at hu
   cases hu
   refine .inr ⟨H.length + 1, by omega, by simp, ?_⟩
   rw [i8 (by omega), if_pos rfl]
   exact an0 (X := [O.c false [V.i IntKind.i64 (m : Int)]])
  ·rw [if_neg hti] at hu
   simp only [if_neg (Ne.symm hti)]
   rcases h3 t u hu with q | ⟨B, q1, q2, q3⟩
   ·exact .inl q
   ·refine .inr ⟨B, q1, q2, ?_⟩
    rw [hother B (t8 q3) (by omega) (fun B' o w n c e => ?_)]
    ·exact q3
    ·rintro rfl
     rcases h3 i v a2 with ⟨e1, e2⟩ | ⟨B2, p1, p2, p3⟩
     ·rw [e1] at e; cases e
     ·rw [p2] at e; cases e
      rw [q2] at hu; rw [p2] at a2
      exact hti (h4 i t _ _ _ a2 hu)
 ·intro a b B n n' ea eb
  rw [List.getElem?_set] at ea eb
  by_cases has : i = a
  ·by_cases hbs : i = b
   ·rw [← has, ← hbs]
   ·rw [if_pos has, if_pos (by omega)] at ea; rw [if_neg hbs] at eb
    cases ea
    rcases h3 b _ eb with ⟨e1, e2⟩ | ⟨B2, p1, p2, p3⟩
    ·cases e1
    ·cases p2
     have := t8 p3; omega
  ·by_cases hbs : i = b
   ·rw [if_neg has] at ea; rw [if_pos hbs, if_pos (by omega)] at eb
    cases eb
    rcases h3 a _ ea with ⟨e1, e2⟩ | ⟨B2, p1, p2, p3⟩
    ·cases e1
    ·cases p2
     have := t8 p3; omega
   ·rw [if_neg has] at ea; rw [if_neg hbs] at eb
    exact h4 a b B n n' ea eb
theorem nscells (N : Nat) : (List.replicate N [V.ns]).flatten = List.replicate N .ns := by
 induction N with
 | zero => rfl
 | succ n ih => rw [List.replicate_succ, List.flatten_cons, ih]; rfl
theorem OA.new {K A N : Nat} {P : List O} (h : hpL P A = .c false (List.replicate N .ns)) (hK : A < K ∧ K ≤ P.length) : OA K A N P P (fun _ => []) := by
 refine ⟨Nat.le_refl _, hK, fun _ _ _ => rfl, _, List.length_replicate, h, fun i v hv => .inl ?_, fun i j B n n' e => ?_⟩
 ·rw [List.getElem?_replicate] at hv
  split at hv
  ·cases hv; exact ⟨rfl, rfl⟩
  ·cases hv
 ·rw [List.getElem?_replicate] at e
  split at e <;> cases e
def nxF (E : List (Nat × Nat)) (k : Nat) (i : Nat) : List Nat := ((E.take k).filter (fun e => e.1 == i)).map (·.2)
theorem nxF_succ {E : List (Nat × Nat)} {k : Nat} {e : Nat × Nat} (h : E[k]? = some e) (i : Nat) : nxF E (k + 1) i = if i = e.1 then nxF E k i ++ [e.2] else nxF E k i := by
 simp only [nxF]
 rw [List.take_add_one, h]
 by_cases hi : i = e.1
 ·subst hi; simp
 ·have : (e.1 == i) = false := by simp; exact fun h => hi h.symm
  simp [this, hi]
theorem nxF_len (E : List (Nat × Nat)) (k i : Nat) : (nxF E k i).length ≤ k := by
 simp only [nxF, List.length_map]
 have := List.length_filter_le (fun e : Nat × Nat => e.1 == i) (E.take k)
 rw [List.length_take] at this
 omega
def nxt (E : List (Nat × Nat)) (i : Nat) : List Nat := nxF E E.length i
def ac5 (n : Nat) (L : Nat → List Nat) : List (List V) := (List.range n).map fun i => irow (L i)
theorem nrows_cl (n : Nat) (L : Nat → List Nat) : clR (ac5 n L) = true := by
 unfold ac5
 induction List.range n with
 | nil => rfl
 | cons a l ih => simp only [List.map_cons, clR, ih, irw_cl, Bool.and_self]
theorem fl_ir (g : List Nat) : fl irw g = (p6 g).flatten := by
 induction g with
 | nil => rfl
 | cons a l ih => simp only [fl, p6, List.map_cons, List.flatten_cons] at ih ⊢; rw [ih]; rfl
theorem OA.se {K A N : Nat} {P H : List O} {L : Nat → List Nat} {D : Nat → Prop} (h : OA K A N P H L) (hD : D A) (hD2 : ∀ a, K ≤ a → D a) : Se (hpL H) D (.sl A 0 1 N none) (.ts (ac5 N L)) := by
 obtain ⟨vs, h1, h2, h3, h4⟩ := h.arr
 have hN : N = (vs.map fun v => [v]).length := by simp [h1]
 rw [hN]
 have hvs : vs = (vs.map fun v => [v]).flatten := by
  clear h1 h2 h3 h4 hN
  induction vs with
  | nil => rfl
  | cons a l ih => rw [List.map_cons, List.flatten_cons, ← ih]; rfl
 rw [← hN]
 conv in V.sl A 0 1 N none => rw [hN]
 refine Se.rows (gr := false) (rs := vs.map fun v => [v]) (by rw [h2, ← hvs]) hD (by simp [ac5, h1]) (by simp) (fun r hr => ?_) (fun i j r r' x y e1 e2 e3 e4 => ?_)
 ·simp only [ac5, List.mem_map] at hr
  obtain ⟨_, _, rfl⟩ := hr
  rfl
 ·rw [List.getElem?_map] at e1
  simp only [ac5, List.getElem?_map] at e2
  obtain ⟨v, hv, rfl⟩ := Option.map_eq_some_iff.1 e1
  obtain ⟨i', hi', rfl⟩ := Option.map_eq_some_iff.1 e2
  obtain ⟨hiN, hii⟩ := List.getElem?_eq_some_iff.1 hi'
  simp at hii
  subst hii
  cases j with
  | zero =>
    simp only [irow, List.getElem?_cons_zero, Option.some.injEq] at e3 e4
    subst e3 e4
    rcases h3 i v hv with ⟨q1, q2⟩ | ⟨B, q1, q2, q3⟩
    ·rw [q1, q2]; exact .nil
    ·rw [q2]
     exact Se.flat' q3 (fl_ir _) (ah0 _) (hD2 B q1) ai1
  | succ j => simp at e3
set_option maxHeartbeats 2000000 in
theorem ba8 {js : List O} {ev : V} {E : List (Nat × Nat)} {n : Nat} (hE : RW ag2 2 js ev E) (hn : n ≤ 200) (hl : E.length < 1000000) (hb : ∀ e, e ∈ E → e.1 < n ∧ e.2 < n) (hasc : ∀ i, Asc (nxt E i)) (hnl : ∀ i, (nxt E i).length < 256) (hlt : ltO js.length js = true) :
  ACalls Tryz.prog 23 [.i .i64 (n : Int), ev] (hpL js) js.length (.ts (ac5 n (nxt E))) (hpL js) js.length := by
 have hmk : ∀ hs a, mksB hs a 1 24 [.ns] (.i .i64 (n : Int)) (.i .i64 (n : Int)) = (u6 hs a (.c false (List.replicate n .ns))).map fun h => (n, h) := by
  intro hs a
  have hq : decide (n ≤ 1073741824 ∧ 24 * n ≤ 281474976710656 ∧ [V.ns].length = 1) = true := decide_eq_true ⟨by omega, by omega, rfl⟩
  rw [mks_n hq, nscells]
 have hlen := hE.len
 obtain ⟨P, hP⟩ : ∃ P, P = js ++ [O.c false (List.replicate n .ns)] := ⟨_, rfl⟩
 have hOA0 : OA (js.length + 1) js.length n P P (nxF E 0) := (OA.new (P := P) (N := n) (by rw [hP]; exact ab9) ⟨Nat.lt_succ_self _, by rw [hP]; simp⟩).fun_eq fun s => by simp [nxF]
 have hlt0 : ltO P.length P = true := by
  rw [hP]
  refine aa7 (by simp) hlt ?_
  have : clL (List.replicate n V.ns) = true := by
   clear hmk hP hn hb hOA0
   induction n with
   | zero => rfl
   | succ n ih => rw [List.replicate_succ]; simp only [clL, ih, V.cl, Bool.and_self]
  simp only [List.all_cons, List.all_nil, ac4, this, Bool.and_self]
 have hPl : ∀ a, a < js.length → hpL P a = hpL js a := fun a ha => by rw [hP]; exact o0 ha
 refine at1 Tryz.func23 k23 rfl rfl (by simp only [V.cl]; exact nrows_cl _ _) hlt ?_
 repeat' (first
  | ((with_reducible refine b8 (fun h => ?_) (fun h => ?_)) <;> simp only [h, r9, r8, hmk, hlen, SXR, simprocAttr])
  | ((with_reducible refine aa6 ?rdq ?_); (case rdq => refine aa5 rfl ?_ ?_ <;> simp only [Option.isSome_some, r9, r8, hmk, hlen, SXR, simprocAttr]))
  | (simp only [c23, r9, r8, hmk, hlen, SXR, simprocAttr]))
 refine m5 (X := Nat) (fun k ll hs => ∃ H : List O, Hd (fun j => [j 0, j 1, j 2, j 3, j 4, .sl js.length 0 1 n none, j 6, j 7, j 8, j 9, j 10, ev, .i .i64 (E.length : Int), .i .i64 (k : Int), j 14, j 15, j 16, j 17, j 18, j 19, j 20, j 21, j 22, j 23, j 24, j 25, j 26, j 27, j 28, j 29, j 30, j 31, j 32, j 33, j 34, j 35, j 36, j 37, j 38, j 39, j 40, j 41, j 42, j 43, j 44, j 45, j 46, j 47, j 48, j 49, j 50]) ll ∧ hs = H ∧ OA (js.length + 1) js.length n P H (nxF E k) ∧ ltO H.length H = true)
  (fun k => k ≤ E.length) (fun k => E.length - k) ?_ 0 _ _ (by exact ⟨P, rfl, hP ▸ rfl, hOA0, hlt0⟩) (Nat.zero_le _)
 clear hOA0 hlt0
 rintro k _ H ⟨_, e, rfl, hOA, hlH⟩ hk IH
 obtain ⟨j, rfl⟩ := e.open
 clear e
 by_cases hkl : k < E.length
 ·obtain ⟨x, hx, hxm⟩ := ats hkl
  obtain ⟨b1, b2⟩ := hb x hxm
  obtain ⟨ad, g1, g2⟩ := hE.get k x hx
  have hHs := ag7 (js := js) (H := H) (by have := hOA.len; have := hOA.K0; omega) (fun a ha => by rw [hOA.low a (by omega) (by omega)]; exact hPl a ha)
  have g2' : ∀ ks, ldE (hpL (H ++ ks)) 2 true ad = some (.ag [.i .i64 (x.1 : Int), .i .i64 (x.2 : Int)]) := fun ks => by rw [hHs, List.append_assoc]; exact g2 _
  clear hHs
  have hd := ltd hkl
  have hw := j1 (n := k) (by omega)
  have hbox : hpL (H ++ [O.c false (ag2 x)]) H.length = .c false [.i .i64 (x.1 : Int), .i .i64 (x.2 : Int)] := ab9
  have hl1 : ltO (H ++ [O.c false (ag2 x)]).length (H ++ [O.c false (ag2 x)]) = true := aa7 (by simp) hlH rfl
  obtain ⟨vs, v, v', H1, H2, s1, s2, s3, s4, s5, s6, s7, s8, s9⟩ := (hOA.more [.c false (ag2 x)]).step b1 x.2 (v9 (by have := nxF_len E k x.1; omega) (by omega))
  have hia : iadE 1 (.sl js.length 0 1 n none) (.i .i64 (x.1 : Int)) = some (.p js.length x.1) := by
   have := ae0 (a := js.length) (w := 1) (wd := 1) (c := none) b1
   rw [Nat.mul_one] at this; exact this
  have s1' : ∀ ks, hpL (H ++ .c false [.i .i64 (x.1 : Int), .i .i64 (x.2 : Int)] :: ks) js.length = .c false vs := fun ks => by
   have := s1 ks
   rw [List.append_assoc] at this; exact this
  have s3' : ∀ rb k, rb + k = H.length + 2 → ag9 rb (H ++ [.c false [.i .i64 (x.1 : Int), .i .i64 (x.2 : Int)], .c false [.i .i64 (x.2 : Int)], .no]) k v (some [.i .i64 (x.2 : Int)]) (some 1) 1 8 = some (v', H1) := fun rb k e => by
   have := s3 rb k (by rw [e]; simp)
   rw [List.append_assoc] at this; exact this
  have s7' := s7.fun_eq (L' := nxF E (k + 1)) fun t => (nxF_succ hx t).symm
  have s8' := s8 hl1
  have s9' := s9 _ _ hbox
  repeat' (first
   | ((with_reducible refine b8 (fun h => ?_) (fun h => ?_)) <;> simp only [h, r9, r8, hd, hw, g1, g2', hia, s1', s2, s3', s4, s5, s6, s9', Nat.add_assoc, SXR, simprocAttr])
   | ((with_reducible refine aa6 ?rdq ?_); (case rdq => refine aa5 rfl ?_ ?_ <;> simp only [Option.isSome_some, r9, r8, hd, hw, g1, g2', hia, s1', s2, s3', s4, s5, s6, s9', Nat.add_assoc, SXR, simprocAttr]))
   | (simp only [c23, r9, r8, hd, hw, g1, g2', hia, s1', s2, s3', s4, s5, s6, s9', Nat.add_assoc, SXR, simprocAttr]))
  exact IH (k + 1) _ _ (by exact ⟨H2, rfl, rfl, s7', s8'⟩) hkl (by omega)
 ·clear IH
  have hke : k = E.length := by omega
  subst hke
  have hd := ltn hkl
  repeat' (first
   | ((with_reducible refine b8 (fun h => ?_) (fun h => ?_)) <;> simp only [h, r9, r8, hd, af5, SXR, simprocAttr])
   | ((with_reducible refine aa6 ?rdq ?_); (case rdq => refine aa5 rfl ?_ ?_ <;> simp only [Option.isSome_some, r9, r8, hd, af5, SXR, simprocAttr]))
   | (simp only [c23, r9, r8, hd, af5, SXR, simprocAttr]))
  refine m5 (X := Nat) (fun i ll hs => Hd (fun j => [j 0, j 1, j 2, j 3, j 4, .sl js.length 0 1 n none, j 6, j 7, j 8, j 9, j 10, j 11, j 12, j 13, j 14, j 15, j 16, j 17, j 18, j 19, j 20, j 21, j 22, j 23, j 24, j 25, j 26, j 27, j 28, j 29, j 30, .sl js.length 0 1 n none, .i .i64 (n : Int), .i .i64 (i : Int), j 34, j 35, j 36, j 37, j 38, j 39, j 40, j 41, j 42, j 43, j 44, j 45, j 46, j 47, j 48, j 49, j 50]) ll ∧ hs = H)
   (fun i => i ≤ n) (fun i => n - i) ?_ 0 _ _ (by exact ⟨rfl, rfl⟩) (Nat.zero_le _)
  rintro i _ H' ⟨e, hh⟩ hi IK
  rw [hh]
  obtain ⟨j, rfl⟩ := e.open
  clear e
  by_cases hil : i < n
  ·obtain ⟨vs, v, a1, a2, a3, a4, a5, a6⟩ := hOA.look hil
   have a30 := a3 []
   rw [List.append_nil] at a30
   have hd := ltd hil
   have hw := j1 (n := i) (by omega)
   have hia : iadE 1 (.sl js.length 0 1 n none) (.i .i64 (i : Int)) = some (.p js.length i) := by
    have := ae0 (a := js.length) (w := 1) (wd := 1) (c := none) hil
    rw [Nat.mul_one] at this; exact this
   have hld := ld1 (gr := false) a2
   have hrc : RC z7 H v (nxt E i) := a4.rc (g := z7)
   have hso := sortint_ac hrc (hasc i) (hnl i) (a4.lt (Nat.le_refl _)) hlH
   have hco := compact_ac hrc (hasc i) (by have := hnl i; omega) (a4.lt (Nat.le_refl _)) hlH
   have hst : stpO H js.length 1 i [v] (.c false vs) = some H := by
    rw [stp1 (by omega)]
    have : vs.set i v = vs := by
     obtain ⟨h1, h2⟩ := List.getElem?_eq_some_iff.1 a2
     rw [← h2, List.set_getElem_self]
    rw [this]; exact hset_same a30
   repeat' (first
    | ((with_reducible refine b8 (fun h => ?_) (fun h => ?_)) <;> simp only [h, r9, r8, hd, hw, hia, a30, hld, a6, hst, SXR, simprocAttr])
    | ((with_reducible refine aa6 ?rdq ?_); (case rdq => refine aa5 rfl ?_ ?_ <;> simp only [Option.isSome_some, r9, r8, hd, hw, hia, a30, hld, a6, hst, SXR, simprocAttr]))
    | (with_reducible refine e8 (hso) ?_)
    | (with_reducible refine e8 (hco) ?_)
    | (simp only [c23, r9, r8, hd, hw, hia, a30, hld, a6, hst, SXR, simprocAttr]))
   exact IK (i + 1) _ _ (by exact ⟨rfl, rfl⟩) hil (by omega)
  ·clear IK
   have hd := ltn hil
   repeat' (first
    | ((with_reducible refine b8 (fun h => ?_) (fun h => ?_)) <;> simp only [h, r9, r8, hd, SXR, simprocAttr])
    | ((with_reducible refine aa6 ?rdq ?_); (case rdq => refine aa5 rfl ?_ ?_ <;> simp only [Option.isSome_some, r9, r8, hd, SXR, simprocAttr]))
    | (simp only [c23, r9, r8, hd, SXR, simprocAttr]))
   exact ⟨hOA.se (Nat.le_refl _) (fun a ha => by omega), _, ag7 (by have := hOA.len; have := hOA.K0; omega) (fun a ha => by rw [hOA.low a (by omega) (by omega)]; exact hPl a ha)⟩
end Go.Proofs.YtagogibgoknncaaGreatDoor
