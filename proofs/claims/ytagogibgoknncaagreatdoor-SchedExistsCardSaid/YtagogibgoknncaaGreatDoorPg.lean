/-
  Whether a node is small.
  A small node has few equations, short lists and small expressions.
  The order in plain Lean: what is waited for comes first.
-/
import Derived.Test.YtagogibgoknncaaGreatDoorPf
set_option linter.unusedSimpArgs false
set_option linter.unusedVariables false
namespace Go.Proofs.YtagogibgoknncaaGreatDoor
open Go Go.B
def at5 : List Ex → Int → Int
 | [], m => m
 | a :: r, m => if 0 < m then at5 r (IntKind.i64.wrap (m - w6 a m)) else m
def sOne (q : NEqn) (m : Int) : Int := IntKind.i64.wrap (IntKind.i64.wrap (IntKind.i64.wrap (m - w6 q.right m) - (q.ck.length : Int)) - (q.left.length : Int))
def sEqs : List NEqn → Int → Int
 | [], m => m
 | q :: r, m => if 0 < m then sEqs r (at5 q.args (sOne q m)) else m
def ao3 (eqs : List NEqn) : Bool := if 200 < eqs.length then false else decide (sEqs eqs 4000 > 0)
set_option maxRecDepth 10000 in
set_option maxHeartbeats 4000000 in
theorem small_pc (n : NNode) (hk : n.okw) : PC Tryz.prog 4 [.ag n.row] (.b (ao3 n.eqs)) := by
 obtain ⟨_, _, _, o4, o5⟩ := hk
 unfold Lst.ok at o4
 by_cases h2 : 200 < n.eqs.length
 ·have hd : decide ((n.eqs.length : Int) > 200) = true := decide_eq_true (by omega)
  have : ao3 n.eqs = false := by simp only [ao3, if_pos h2]
  rw [this]
  refine aq9 Tryz.func4 k4 rfl ?_
  repeat' (first
   | ((with_reducible refine b8 (fun h => ?_) (fun h => ?_)) <;> simp only [h, nn4, i9, i5, List.length_map, hd, SXR, simprocAttr])
   | ((with_reducible refine aa6 ?rdq ?_); (case rdq => refine aa5 rfl ?_ ?_ <;> simp only [Option.isSome_some, nn4, i9, i5, List.length_map, hd, SXR, simprocAttr]))
   | (simp only [c4, nn4, i9, i5, List.length_map, hd, SXR, simprocAttr]))
 ·have hd0 : decide ((n.eqs.length : Int) > 200) = false := decide_eq_false (by omega)
  have hsm : ao3 n.eqs = decide (sEqs n.eqs 4000 > 0) := by simp only [ao3, if_neg h2]
  rw [hsm]
  refine aq9 Tryz.func4 k4 rfl ?_
  repeat' (first
   | ((with_reducible refine b8 (fun h => ?_) (fun h => ?_)) <;> simp only [h, nn4, i9, i5, List.length_map, hd0, SXR, simprocAttr])
   | ((with_reducible refine aa6 ?rdq ?_); (case rdq => refine aa5 rfl ?_ ?_ <;> simp only [Option.isSome_some, nn4, i9, i5, List.length_map, hd0, SXR, simprocAttr]))
   | (simp only [c4, nn4, i9, i5, List.length_map, hd0, SXR, simprocAttr]))
  refine m5 (X := Nat × Int) (fun x ll hs => ∃ y : Unit, Hd (fun j => [j 0, .p 0 0, j 2, .i .i64 x.2, .i .i64 (x.1 : Int), j 5, j 6, j 7, j 8, j 9, j 10, j 11, j 12, j 13, j 14, j 15, j 16, j 17, j 18, j 19, j 20, j 21, j 22, j 23, j 24, j 25, j 26, j 27, j 28, j 29, j 30, j 31, j 32, j 33, j 34, j 35, j 36, j 37, j 38, j 39, j 40, j 41, j 42, j 43, j 44, j 45, j 46, j 47, j 48, j 49, j 50, j 51, j 52, j 53, j 54, j 55, j 56, j 57, j 58, j 59, j 60, j 61, j 62, j 63, j 64, j 65, j 66, j 67, j 68, j 69, j 70, j 71, j 72, j 73, j 74, j 75, j 76]) ll ∧ hs = [.c false n.row])
   (fun x => x.1 ≤ n.eqs.length ∧ sEqs (n.eqs.drop x.1) x.2 = sEqs n.eqs 4000) (fun x => n.eqs.length - x.1) ?_ (0, 4000) _ _ (by exact ⟨(), rfl, rfl⟩) ⟨Nat.zero_le _, rfl⟩
  rintro ⟨i, m⟩ _ _ ⟨_, e, rfl⟩ ⟨hi, hfin⟩ IH
  obtain ⟨j, rfl⟩ := e.open
  clear e
  simp only at hi hfin IH ⊢
  by_cases hil : i < n.eqs.length
  ·obtain ⟨q, hq, hqm⟩ := ats hil
   have hqr := mg (f := NEqn.row) hq
   have hd := ltd hil
   have hw := j1 (n := i) (by omega)
   rw [t6 hq] at hfin
   simp only [sEqs] at hfin
   by_cases hm : 0 < m
   ·have hg : decide (m > 0) = true := decide_eq_true hm
    rw [if_pos hm] at hfin
    obtain ⟨h1, h2, h3, h4, h5⟩ := o5 q hqm
    unfold Lst.ok at h3
    have hw6 := ay1 q.right.sz q.right m (Nat.le_refl _) h2
    unfold xg at hw6
    have hrc := m7 q.right
    repeat' (first
     | ((with_reducible refine b8 (fun h => ?_) (fun h => ?_)) <;> simp only [h, nn4, i9, i5, List.length_map, hqr, hd, hg, i6, i4, l6, ac6, m9, j6, hrc, j0, SXR, simprocAttr])
     | ((with_reducible refine aa6 ?rdq ?_); (case rdq => refine aa5 rfl ?_ ?_ <;> simp only [Option.isSome_some, nn4, i9, i5, List.length_map, hqr, hd, hg, i6, i4, l6, ac6, m9, j6, hrc, j0, SXR, simprocAttr]))
     | (with_reducible refine j9 (hw6) (by simp only [SXR, hrc]) (by simp only [SXR, hrc]) ?_)
     | (simp only [c4, nn4, i9, i5, List.length_map, hqr, hd, hg, i6, i4, l6, ac6, m9, j6, hrc, j0, SXR, simprocAttr]))
    rw [show IntKind.i64.wrap (IntKind.i64.wrap (IntKind.i64.wrap (m - w6 q.right m) - (q.ck.length : Int)) - (q.left.length : Int)) = sOne q m from rfl]
    generalize sOne q m = m1 at hfin
    refine m5 (X := Nat × Int) (fun x ll hs => ∃ y : Unit, Hd (fun j => [j 0, .p 0 0, j 2, .i .i64 x.2, .i .i64 (i : Int), .i .i64 (x.1 : Int), j 6, j 7, j 8, j 9, j 10, j 11, j 12, j 13, j 14, j 15, j 16, j 17, j 18, j 19, j 20, j 21, j 22, j 23, j 24, j 25, j 26, j 27, j 28, j 29, j 30, j 31, j 32, j 33, j 34, j 35, j 36, j 37, j 38, j 39, j 40, j 41, j 42, j 43, j 44, j 45, j 46, j 47, j 48, j 49, j 50, j 51, j 52, j 53, j 54, j 55, j 56, j 57, j 58, j 59, j 60, j 61, j 62, j 63, j 64, j 65, j 66, j 67, j 68, j 69, j 70, j 71, j 72, j 73, j 74, j 75, j 76]) ll ∧ hs = [.c false n.row])
     (fun x => x.1 ≤ q.args.length ∧ at5 (q.args.drop x.1) x.2 = at5 q.args m1) (fun x => q.args.length - x.1) ?_ (0, m1) _ _ (by exact ⟨(), rfl, rfl⟩) ⟨Nat.zero_le _, rfl⟩
    rintro ⟨c, m2⟩ _ _ ⟨_, e, rfl⟩ ⟨hc, hfin2⟩ IK
    obtain ⟨j, rfl⟩ := e.open
    clear e
    simp only at hc hfin2 IK ⊢
    by_cases hcl : c < q.args.length
    ·obtain ⟨x, hx, hxm⟩ := bd8 hcl
     have hxr : (Ex.rows q.args)[c]? = some x.row := by rw [am7, hx]; rfl
     have hdc := ltd hcl
     have hwc := j1 (n := c) (by omega)
     rw [t6 hx] at hfin2
     simp only [at5] at hfin2
     by_cases hm2 : 0 < m2
     ·clear IH
      have hg2 : decide (m2 > 0) = true := decide_eq_true hm2
      rw [if_pos hm2] at hfin2
      have hwx := ay1 x.sz x m2 (Nat.le_refl _) (ap2 h4 hxm)
      unfold xg at hwx
      have hxc := m7 x
      repeat' (first
       | ((with_reducible refine b8 (fun h => ?_) (fun h => ?_)) <;> simp only [h, nn4, i9, i5, List.length_map, hqr, hdc, hwc, hg2, i6, i4, j6, hxr, l8, j7, hxc, j0, SXR, simprocAttr])
       | ((with_reducible refine aa6 ?rdq ?_); (case rdq => refine aa5 rfl ?_ ?_ <;> simp only [Option.isSome_some, nn4, i9, i5, List.length_map, hqr, hdc, hwc, hg2, i6, i4, j6, hxr, l8, j7, hxc, j0, SXR, simprocAttr]))
       | (with_reducible refine j9 (hwx) (by simp only [SXR, hxc]) (by simp only [SXR, hxc]) ?_)
       | (simp only [c4, nn4, i9, i5, List.length_map, hqr, hdc, hwc, hg2, i6, i4, j6, hxr, l8, j7, hxc, j0, SXR, simprocAttr]))
      exact IK (c + 1, _) _ _ (by exact ⟨(), rfl, rfl⟩) ⟨hcl, hfin2⟩ (by simp only; omega)
     ·clear IK
      have hg2 : decide (m2 > 0) = false := decide_eq_false hm2
      rw [if_neg hm2] at hfin2
      rw [← hfin2] at hfin
      repeat' (first
       | ((with_reducible refine b8 (fun h => ?_) (fun h => ?_)) <;> simp only [h, nn4, i9, i5, List.length_map, hqr, hdc, hw, hg2, i6, i4, j6, j0, SXR, simprocAttr])
       | ((with_reducible refine aa6 ?rdq ?_); (case rdq => refine aa5 rfl ?_ ?_ <;> simp only [Option.isSome_some, nn4, i9, i5, List.length_map, hqr, hdc, hw, hg2, i6, i4, j6, j0, SXR, simprocAttr]))
       | (simp only [c4, nn4, i9, i5, List.length_map, hqr, hdc, hw, hg2, i6, i4, j6, j0, SXR, simprocAttr]))
      exact IH (i + 1, m2) _ _ (by exact ⟨(), rfl, rfl⟩) ⟨hil, hfin⟩ (by simp only; omega)
    ·clear IK
     have hce : c = q.args.length := by omega
     subst hce
     have hdc := ltn hcl
     rw [List.drop_eq_nil_of_le (Nat.le_refl _)] at hfin2
     simp only [at5] at hfin2
     rw [← hfin2] at hfin
     repeat' (first
      | ((with_reducible refine b8 (fun h => ?_) (fun h => ?_)) <;> simp only [h, nn4, i9, i5, List.length_map, hqr, hdc, hw, i6, i4, j6, j0, SXR, simprocAttr])
      | ((with_reducible refine aa6 ?rdq ?_); (case rdq => refine aa5 rfl ?_ ?_ <;> simp only [Option.isSome_some, nn4, i9, i5, List.length_map, hqr, hdc, hw, i6, i4, j6, j0, SXR, simprocAttr]))
      | (simp only [c4, nn4, i9, i5, List.length_map, hqr, hdc, hw, i6, i4, j6, j0, SXR, simprocAttr]))
     exact IH (i + 1, m2) _ _ (by exact ⟨(), rfl, rfl⟩) ⟨hil, hfin⟩ (by simp only; omega)
   ·clear IH
    have hg : decide (m > 0) = false := decide_eq_false hm
    rw [if_neg hm] at hfin
    rw [← hfin, hg]
    repeat' (first
     | ((with_reducible refine b8 (fun h => ?_) (fun h => ?_)) <;> simp only [h, nn4, i9, i5, List.length_map, hd, hg, SXR, simprocAttr])
     | ((with_reducible refine aa6 ?rdq ?_); (case rdq => refine aa5 rfl ?_ ?_ <;> simp only [Option.isSome_some, nn4, i9, i5, List.length_map, hd, hg, SXR, simprocAttr]))
     | (simp only [c4, nn4, i9, i5, List.length_map, hd, hg, SXR, simprocAttr]))
  ·clear IH
   have hie : i = n.eqs.length := by omega
   subst hie
   have hd := ltn hil
   rw [List.drop_eq_nil_of_le (Nat.le_refl _)] at hfin
   simp only [sEqs] at hfin
   rw [← hfin]
   repeat' (first
    | ((with_reducible refine b8 (fun h => ?_) (fun h => ?_)) <;> simp only [h, nn4, i9, i5, List.length_map, hd, SXR, simprocAttr])
    | ((with_reducible refine aa6 ?rdq ?_); (case rdq => refine aa5 rfl ?_ ?_ <;> simp only [Option.isSome_some, nn4, i9, i5, List.length_map, hd, SXR, simprocAttr]))
    | (simp only [c4, nn4, i9, i5, List.length_map, hd, SXR, simprocAttr]))
theorem ao6 {i : Int} (h1 : -1000000000000000000 < i) (h2 : i < 1000000000000000000) : IntKind.i64.wrap i = i := by
 rw [IntKind.wrap_i64]; omega
mutual
theorem w6_spec : ∀ (e : Ex) (m : Int), 0 < m → m ≤ 4000 → 1 ≤ w6 e m ∧ w6 e m ≤ m ∧ (w6 e m < m → w6 e m = (e.sz : Int))
 | .mk _ _ _ _ _ _ args, m, h0, hm => by
   obtain ⟨q1, q2, q3⟩ := w6s_spec args m 1 (by omega) h0 hm
   simp only [w6, Ex.sz]
   have := q2 (by omega)
   rw [if_neg (by omega)]
   exact ⟨q1, this, fun h => by rw [q3 h]; omega⟩
theorem w6s_spec : ∀ (l : List Ex) (m n : Int), 1 ≤ n → 0 < m → m ≤ 4000 → n ≤ w6s l m n ∧ (n ≤ m → w6s l m n ≤ m) ∧ (w6s l m n < m → w6s l m n = n + (Ex.szs l : Int))
 | [], m, n, h1, h0, hm => by simp only [w6s, Ex.szs]; exact ⟨Int.le_refl _, fun h => h, fun h => by omega⟩
 | e :: l, m, n, h1, h0, hm => by
   simp only [w6s, Ex.szs]
   by_cases hn : n < m
   ·rw [if_pos hn]
    have e1 : IntKind.i64.wrap (m - n) = m - n := ao6 (by omega) (by omega)
    rw [e1]
    obtain ⟨u1, u2, u3⟩ := w6_spec e (m - n) (by omega) (by omega)
    rw [ao6 (by omega) (by omega)]
    obtain ⟨q1, q2, q3⟩ := w6s_spec l m (n + w6 e (m - n)) (by omega) h0 hm
    refine ⟨by omega, fun _ => q2 (by omega), fun h => ?_⟩
    rw [q3 h, u3 (by omega)]; omega
   ·rw [if_neg hn]
    exact ⟨Int.le_refl _, fun h => h, fun h => by omega⟩
end
theorem bf7 : ∀ (l : List Ex) (m : Int), m ≤ 4000 → -1000000000000000 < m → at5 l m ≤ m ∧ -1000000000000000 < at5 l m ∧ (0 < at5 l m → at5 l m + (Ex.szs l : Int) ≤ m)
 | [], m, h1, h2 => by simp only [at5, Ex.szs]; exact ⟨Int.le_refl _, h2, fun h => by omega⟩
 | a :: l, m, h1, h2 => by
   simp only [at5, Ex.szs]
   by_cases hm : 0 < m
   ·rw [if_pos hm]
    obtain ⟨u1, u2, u3⟩ := w6_spec a m hm h1
    rw [ao6 (by omega) (by omega)]
    obtain ⟨q1, q2, q3⟩ := bf7 l (m - w6 a m) (by omega) (by omega)
    refine ⟨by omega, q2, fun h => ?_⟩
    have := q3 h
    have := u3 (by omega)
    omega
   ·rw [if_neg hm]
    exact ⟨Int.le_refl _, h2, fun h => by omega⟩
theorem sOne_spec (q : NEqn) (hq : q.okw) (m : Int) (h0 : 0 < m) (hm : m ≤ 4000) : sOne q m ≤ m ∧ -1000000000000000 < sOne q m ∧ (0 < sOne q m → sOne q m + (q.right.sz : Int) + (q.ck.length : Int) + (q.left.length : Int) ≤ m) := by
 obtain ⟨h1, _, _, _, h5⟩ := hq
 unfold Lst.ok at h1 h5
 obtain ⟨u1, u2, u3⟩ := w6_spec q.right m h0 hm
 unfold sOne
 rw [ao6 (i := m - w6 q.right m) (by omega) (by omega), ao6 (i := m - w6 q.right m - (q.ck.length : Int)) (by omega) (by omega), ao6 (by omega) (by omega)]
 refine ⟨by omega, by omega, fun h => ?_⟩
 have := u3 (by omega)
 omega
theorem az6 : ∀ (l : List NEqn) (m : Int), (∀ q, q ∈ l → q.okw) → m ≤ 4000 → sEqs l m ≤ m ∧ (0 < sEqs l m → ∀ q, q ∈ l → q.left.length + q.ck.length ≤ 4000 ∧ rsz q ≤ 8000)
 | [], m, _, h1 => by simp only [sEqs]; exact ⟨Int.le_refl _, fun _ q hq => by simp at hq⟩
 | x :: l, m, hok, h1 => by
   simp only [sEqs]
   by_cases hm : 0 < m
   ·rw [if_pos hm]
    obtain ⟨a1, a2, a3⟩ := sOne_spec x (hok x (by simp)) m hm h1
    obtain ⟨b1, b2, b3⟩ := bf7 x.args (sOne x m) (by omega) a2
    obtain ⟨c1, c2⟩ := az6 l (at5 x.args (sOne x m)) (fun q hq => hok q (by simp [hq])) (by omega)
    refine ⟨by omega, fun h q hq => ?_⟩
    rcases List.mem_cons.1 hq with rfl | hq
    ·have := b3 (by omega)
     have := a3 (by omega)
     unfold rsz
     omega
    ·exact c2 h q hq
   ·rw [if_neg hm]
    exact ⟨Int.le_refl _, fun h => by omega⟩
theorem small_nb {n : NNode} (hk : n.okw) (h : ao3 n.eqs = true) : NB n.eqs := by
 simp only [ao3] at h
 split at h
 ·cases h
 ·rename_i h2
  have h3 : 0 < sEqs n.eqs 4000 := by simpa using h
  obtain ⟨_, q⟩ := az6 n.eqs 4000 hk.2.2.2.2 (Int.le_refl _)
  exact ⟨by omega, fun x hx => by have := (q h3 x hx).1; omega, fun x hx => by have := (q h3 x hx).2; omega⟩
theorem small_ok {n : NNode} (hk : n.okw) (h : ao3 n.eqs = true) : n.ok := by
 obtain ⟨o1, o2, o3, o4, o5⟩ := hk
 refine ⟨o1, o2, o3, o4, fun q hq => ?_⟩
 obtain ⟨h1, h2, h3, h4, h5⟩ := o5 q hq
 have hr := (small_nb ⟨o1, o2, o3, o4, o5⟩ h).r q hq
 refine ⟨h1, h2, h3, h4, h5, ?_⟩
 simp only [ao3] at h
 split at h
 ·cases h
 ·have h3 : 0 < sEqs n.eqs 4000 := by simpa using h
  obtain ⟨_, q2⟩ := az6 n.eqs 4000 o5 (Int.le_refl _)
  have := (q2 h3 q hq).1
  have := szs_len q.args
  unfold rsz at hr
  omega
def Waits (q q' : NEqn) : Prop := (q'.kind == 2) = false ∧ ∃ s, s ∈ o9 q ∧ ∃ t, t ∈ q'.left ∧ ad0 s t = true
theorem byQ_mem {s : Str} {i j : Nat} {q : NEqn} : j ∈ byQ s i q ↔ j = i ∧ (q.kind == 2) = false ∧ ∃ t, t ∈ q.left ∧ ad0 s t = true := by
 unfold byQ
 cases hk : (q.kind == 2) with
 | true => simp
 | false =>
   rw [if_neg (by simp)]
   simp only [List.mem_map, List.mem_filter]
   constructor
   ·rintro ⟨t, ⟨h1, h2⟩, rfl⟩; exact ⟨rfl, trivial, t, h1, h2⟩
   ·rintro ⟨rfl, _, t, h1, h2⟩; exact ⟨t, ⟨h1, h2⟩, rfl⟩
theorem byK_mem {eqs : List NEqn} {s : Str} : ∀ {k j : Nat}, j ∈ byK eqs k s ↔ j < k ∧ ∃ q, eqs[j]? = some q ∧ (q.kind == 2) = false ∧ ∃ t, t ∈ q.left ∧ ad0 s t = true
 | 0, j => by simp [byK]
 | k + 1, j => by
   simp only [byK, List.mem_append]
   rw [byK_mem (k := k)]
   constructor
   ·rintro (⟨h1, h2⟩ | h)
    ·exact ⟨by omega, h2⟩
    ·cases he : eqs[k]? with
     | none => rw [he] at h; simp at h
     | some q =>
       rw [he] at h
       simp only [byQ_mem] at h
       obtain ⟨rfl, h1, h2⟩ := h
       exact ⟨by omega, q, he, h1, h2⟩
   ·rintro ⟨h1, q, hq, h2, h3⟩
    by_cases hj : j = k
    ·subst hj
     refine .inr ?_
     rw [hq]
     simp only [byQ_mem]
     exact ⟨trivial, h2, h3⟩
    ·exact .inl ⟨by omega, q, hq, h2, h3⟩
theorem depF_mem {eqs : List NEqn} {i j : Nat} : i ∈ ao4 eqs j ↔ ∃ q q', eqs[j]? = some q ∧ eqs[i]? = some q' ∧ Waits q q' := by
 unfold ao4
 cases hj : eqs[j]? with
 | none => simp
 | some q =>
   simp only [ax8]
   constructor
   ·rintro (h | ⟨s, h1, h2⟩)
    ·simp at h
    ·obtain ⟨_, q', h3, h4, h5⟩ := byK_mem.1 h2
     exact ⟨q, q', rfl, h3, h4, s, h1, h5⟩
   ·rintro ⟨q1, q', e, h3, h4, s, h1, h5⟩
    cases e
    exact .inr ⟨s, h1, byK_mem.2 ⟨(List.getElem?_eq_some_iff.1 h3).1, q', h3, h4, h5⟩⟩
end Go.Proofs.YtagogibgoknncaaGreatDoor
