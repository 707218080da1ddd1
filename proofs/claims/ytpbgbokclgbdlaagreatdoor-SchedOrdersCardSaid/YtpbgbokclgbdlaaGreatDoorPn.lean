/-
  The reference: who waits for whom; Right.
  The reference: its table; ready.
  The reference's Order in plain Lean.
  The reference: Order.
  The reference: Node. Lists of numbers that are the same.
  SchedOrders.
-/
import Derived.Test.YtpbgbokclgbdlaaGreatDoorPg
set_option linter.unusedSimpArgs false
set_option linter.unusedVariables false
namespace Go.Proofs.YtpbgbokclgbdlaaGreatDoor
open Go Go.B
def am1 (l : List Str) (o : NEqn) : Bool := if (o.kind == 2) = true then false else o.left.any fun t => hasS t l
theorem bj1 {q o : NEqn} : am1 (p5 q) o = true ↔ Waits q o := by
 unfold am1 Waits hasS
 cases hk : (o.kind == 2) with
 | true => simp
 | false =>
   rw [if_neg (by simp)]
   simp only [List.any_eq_true, true_and]
   constructor
   ·rintro ⟨t, h1, s, h2, h3⟩; exact ⟨s, h2, t, h1, h3⟩
   ·rintro ⟨s, h2, t, h1, h3⟩; exact ⟨t, h1, s, h2, h3⟩
theorem rwaits_pc (l : List Str) (o : NEqn) (ho : o.ok) (hl : l.length < 30000000) : PC Tryz.prog 32 [.ts (l.map z8), .ag o.row] (.b (am1 l o)) := by
 have hol := ho.1
 unfold Lst.ok at hol
 have hz : ltO 1 [O.c false o.row] = true := be9 (by rw [ab8]; exact ac5 o)
 have hlen : ((o.left.map z8).length : Int) = (o.left.length : Int) := by rw [List.length_map]
 cases hk : (o.kind == 2) with
 | true =>
   rw [show am1 l o = false by unfold am1; rw [if_pos hk]]
   refine u4 Tryz.func32 k32 rfl ?_
   repeat' (first
    | (simp only [c32, i7, i8, an9, t6, hk, SXR, simprocAttr]))
 | false =>
   rw [show am1 l o = o.left.any fun t => hasS t l by unfold am1; rw [if_neg (by simp [hk])]]
   refine u4 Tryz.func32 k32 rfl ?_
   repeat' (first
    | (simp only [c32, i7, i8, an9, t6, hk, SXR, simprocAttr]))
   refine m4 (X := Nat) (fun i ll hs => ∃ y : Unit, Hd (fun j => [.ts (l.map z8), j 1, j 2, .p 0 0, j 4, .i .i64 (i : Int), j 6, j 7, j 8, j 9, j 10, j 11, j 12, j 13, j 14, j 15, j 16, j 17, j 18, j 19, j 20, j 21, j 22]) ll ∧ hs = [.c false o.row])
    (fun i => i ≤ o.left.length ∧ (o.left.any fun t => hasS t l) = ((o.left.drop i).any fun t => hasS t l)) (fun i => o.left.length - i) ?_ 0 _ _ (by exact ⟨(), rfl, rfl⟩) ⟨Nat.zero_le _, rfl⟩
   rintro i _ _ ⟨_, e, rfl⟩ ⟨hi, hinv⟩ IH
   obtain ⟨j, rfl⟩ := e.open
   clear e
   by_cases hil : i < o.left.length
   ·obtain ⟨t, ht, htm⟩ := ats hil
    have htr : (o.left.map z8)[i]? = some [.s t.1 t.2] := mg (f := z8) ht
    have hd := ltd hil
    have hw := j0 (n := i) (by omega)
    have hc : ACalls Tryz.prog 47 [.ts (l.map z8), .s t.1 t.2] (hpL [O.c false o.row]) [O.c false o.row].length (.b (hasS t l)) (hpL [O.c false o.row]) [O.c false o.row].length := r6has_ac (RC.ts _ l) hl hz
    rw [v6 ht, List.any_cons] at hinv
    cases hb : hasS t l with
    | true =>
      rw [hb] at hc
      rw [hb, Bool.true_or] at hinv
      rw [hinv]
      repeat' (first
       | (with_reducible refine e8 (hc) ?_)
       | (simp only [c32, i7, i8, p9, List.length_map, htr, hd, SXR, simprocAttr]))
    | false =>
      rw [hb] at hc
      rw [hb, Bool.false_or] at hinv
      repeat' (first
       | (with_reducible refine e8 (hc) ?_)
       | (simp only [c32, i7, i8, p9, List.length_map, htr, hd, hw, SXR, simprocAttr]))
      exact IH (i + 1) _ _ (by exact ⟨(), rfl, rfl⟩) ⟨hil, hinv⟩ (by omega)
   ·clear IH
    have hd := ltn hil
    rw [List.drop_eq_nil_of_le (by omega), List.any_nil] at hinv
    rw [hinv]
    repeat' (first
     | (simp only [c32, i7, i8, p9, List.length_map, hd, SXR, simprocAttr]))
def wt (eqs : List NEqn) (j i : Nat) : Bool := match eqs[j]?, eqs[i]? with
 | some q, some o => am1 (p5 q) o
 | _, _ => false
theorem wt_at {eqs : List NEqn} {i j : Nat} {q o : NEqn} (hj : eqs[j]? = some q) (hi : eqs[i]? = some o) : wt eqs j i = am1 (p5 q) o := by
 unfold wt; rw [hj, hi]
theorem wt_iff {eqs : List NEqn} {i j : Nat} : wt eqs j i = true ↔ i ∈ al7 eqs j := by
 rw [ba4]
 unfold wt
 constructor
 ·intro h
  split at h
  ·rename_i q o h1 h2; exact ⟨q, o, h1, h2, bj1.1 h⟩
  ·cases h
 ·rintro ⟨q, o, h1, h2, h3⟩
  rw [h1, h2]; exact bj1.2 h3
theorem edgF_mem {eqs : List NEqn} {e : Nat × Nat} : ∀ {k : Nat}, e ∈ al6 eqs k ↔ e.2 < k ∧ e.1 ∈ al7 eqs e.2
 | 0 => by simp [al6]
 | k + 1 => by
   simp only [al6, List.mem_append, List.mem_map]
   rw [edgF_mem (k := k)]
   constructor
   ·rintro (⟨h1, h2⟩ | ⟨i, h1, rfl⟩)
    ·exact ⟨by omega, h2⟩
    ·exact ⟨by simp only; omega, h1⟩
   ·rintro ⟨h1, h2⟩
    by_cases he : e.2 = k
    ·refine .inr ⟨e.1, by rw [← he]; exact h2, by rw [← he]⟩
    ·exact .inl ⟨by omega, h2⟩
theorem ba5 {eqs : List NEqn} {i j : Nat} (h : i ∈ al7 eqs j) : i < eqs.length ∧ j < eqs.length := by
 obtain ⟨q, o, h1, h2, _⟩ := ba4.1 h
 exact ⟨(List.getElem?_eq_some_iff.1 h2).1, (List.getElem?_eq_some_iff.1 h1).1⟩
theorem bk1 {eqs : List NEqn} : al3 eqs = true ↔ ∀ i j, wt eqs j i = true → i < j := by
 simp only [al3, Bool.not_eq_true', List.any_eq_false, edgF_mem, bad, decide_eq_true_eq, wt_iff]
 constructor
 ·intro h i j hij
  have := h (i, j) ⟨(ba5 hij).2, hij⟩
  omega
 ·intro h e he
  have := h e.1 e.2 he.2
  omega
theorem wt_dom {eqs : List NEqn} {i j : Nat} (h : wt eqs j i = true) : i < eqs.length ∧ j < eqs.length := ba5 (wt_iff.1 h)
theorem hc2 {js : List O} {f : FuncId} {xs : List V} {r : V} (h : PC Tryz.prog f xs r) (hx : clL xs = true) (hr : r.cl = true) : ACalls Tryz.prog f xs (hpL js) js.length r (hpL js) js.length := h.at hx hr _ _
set_option maxRecDepth 10000 in
set_option maxHeartbeats 4000000 in
theorem rright_pc (n : NNode) (hk : n.ok) (hb : NB n.eqs) : PC Tryz.prog 15 [.ag n.row] (.b (al3 n.eqs)) := by
 have hN := hb.n
 refine u4 Tryz.func15 k15 rfl ?_
 repeat' (first
  | (simp only [c15, nn4, i6, f0, SXR, simprocAttr]))
 refine m4 (X := Nat) (fun u ll hs => ∃ y : Unit, Hd (fun j => [j 0, .p 0 0, j 2, .i .i64 (u : Int), j 4, j 5, j 6, j 7, j 8, j 9, j 10, j 11, j 12, j 13, j 14, j 15, j 16, j 17, j 18, j 19, j 20, j 21, j 22, j 23, j 24, j 25, j 26, j 27, j 28, j 29, j 30, j 31, j 32, j 33]) ll ∧ hs = [.c false n.row])
  (fun u => u ≤ n.eqs.length ∧ ∀ i k, k < u → wt n.eqs k i = true → i < k) (fun u => n.eqs.length - u) ?_ 0 _ _ (by exact ⟨(), rfl, rfl⟩) ⟨Nat.zero_le _, fun i k h => by omega⟩
 rintro u _ _ ⟨_, e, rfl⟩ ⟨hj, hinv⟩ IH
 obtain ⟨w, rfl⟩ := e.open
 clear e
 by_cases hjl : u < n.eqs.length
 ·obtain ⟨q, hq, hqm⟩ := ats hjl
  have hqr := mg (f := NEqn.row) hq
  have hd := ltd hjl
  have hw := j0 (n := u) (by omega)
  have hqo := hk.2.2.2.2 q hqm
  have hrl := hb.r q hqm
  have hrd := rreads_pc q hqo (by omega)
  have hqc := ac5 q
  have hrc := j6 (p5 q)
  have hrl2 : (p5 q).length < 30000000 := by have := av1 q; omega
  repeat' (first
   | (with_reducible refine b8 (hrd) (by simp only [SXR, hqc, hrc]) (by simp only [SXR, hqc, hrc]) ?_)
   | (simp only [c15, nn4, i6, f0, List.length_map, hqr, hd, i7, i8, hqc, hrc, SXR, simprocAttr]))
  refine m4 (X := Nat) (fun i ll hs => ∃ y : Unit, Hd (fun j => [j 0, .p 0 0, j 2, .i .i64 (u : Int), .ts ((p5 q).map z8), .i .i64 (i : Int), j 6, j 7, j 8, j 9, j 10, j 11, j 12, j 13, j 14, j 15, j 16, j 17, j 18, j 19, j 20, j 21, j 22, j 23, j 24, j 25, j 26, j 27, j 28, j 29, j 30, j 31, j 32, j 33]) ll ∧ hs = [.c false n.row])
   (fun i => (u ≤ i ∧ i ≤ n.eqs.length) ∧ ∀ i', wt n.eqs u i' = true → i' < i → i' < u) (fun i => n.eqs.length - i) ?_ u _ _ (by exact ⟨(), rfl, rfl⟩) ⟨⟨Nat.le_refl _, hj⟩, fun i' _ h => h⟩
  rintro i _ _ ⟨_, e, rfl⟩ ⟨⟨hji, hi⟩, hinv2⟩ IK
  obtain ⟨w, rfl⟩ := e.open
  clear e
  by_cases hil : i < n.eqs.length
  ·clear IH
   obtain ⟨o, ho, hom⟩ := ats hil
   have hor := mg (f := NEqn.row) ho
   have hdi := ltd hil
   have hwi := j0 (n := i) (by omega)
   have hoc := ac5 o
   have hwt := rwaits_pc (p5 q) o (hk.2.2.2.2 o hom) hrl2
   have hwe := wt_at hq ho
   cases hb2 : am1 (p5 q) o with
   | true =>
     rw [hb2] at hwt hwe
     have hrf : al3 n.eqs = false := by
      cases hr : al3 n.eqs with
      | false => rfl
      | true => have := bk1.1 hr i u hwe; omega
     rw [hrf]
     repeat' (first
      | (with_reducible refine b8 (hwt) (by simp only [SXR, hoc, hrc]) (by simp only [SXR, hoc, hrc]) ?_)
      | (simp only [c15, nn4, i6, f0, List.length_map, hor, hdi, i7, i8, hoc, hrc, SXR, simprocAttr]))
   | false =>
     rw [hb2] at hwt hwe
     repeat' (first
      | (with_reducible refine b8 (hwt) (by simp only [SXR, hoc, hrc]) (by simp only [SXR, hoc, hrc]) ?_)
      | (simp only [c15, nn4, i6, f0, List.length_map, hor, hdi, hwi, i7, i8, hoc, hrc, SXR, simprocAttr]))
     refine IK (i + 1) _ _ (by exact ⟨(), rfl, rfl⟩) ⟨⟨by omega, hil⟩, fun i' h1 h2 => ?_⟩ (by omega)
     by_cases hie : i' = i
     ·subst hie; rw [hwe] at h1; cases h1
     ·exact hinv2 i' h1 (by omega)
  ·clear IK
   have hdi := ltn hil
   repeat' (first
    | (simp only [c15, nn4, i6, f0, List.length_map, hdi, hw, SXR, simprocAttr]))
   refine IH (u + 1) _ _ (by exact ⟨(), rfl, rfl⟩) ⟨hjl, fun i' k hk h => ?_⟩ (by omega)
   by_cases hkj : k = u
   ·subst hkj; exact hinv2 i' h (by have := (wt_dom h).1; omega)
   ·exact hinv i' k (by omega) h
 ·clear IH
  have hd := ltn hjl
  have hrf : al3 n.eqs = true := bk1.2 fun i k h => hinv i k (by have := (wt_dom h).2; omega) h
  rw [hrf]
  repeat' (first
   | (simp only [c15, nn4, i6, f0, List.length_map, hd, SXR, simprocAttr]))
def tbF (eqs : List NEqn) (k : Nat) (j : Nat) : List Nat := (List.range k).filter fun i => wt eqs j i
theorem tbF_succ (eqs : List NEqn) (k j : Nat) : tbF eqs (k + 1) j = if wt eqs j k = true then tbF eqs k j ++ [k] else tbF eqs k j := by
 unfold tbF
 rw [List.range_succ, List.filter_append]
 by_cases h : wt eqs j k = true
 ·rw [if_pos h, List.filter_cons, if_pos h]; rfl
 ·rw [if_neg h, List.filter_cons, if_neg h]; simp
theorem tbF_len (eqs : List NEqn) (k j : Nat) : (tbF eqs k j).length ≤ k := by
 unfold tbF
 have := List.length_filter_le (fun i => wt eqs j i) (List.range k)
 rw [List.length_range] at this; exact this
theorem tbF_mem {eqs : List NEqn} {i j : Nat} : i ∈ tbF eqs eqs.length j ↔ i ∈ al7 eqs j := by
 unfold tbF
 rw [List.mem_filter, List.mem_range]
 constructor
 ·rintro ⟨_, h⟩; exact wt_iff.1 h
 ·intro h; exact ⟨(ba5 h).1, wt_iff.2 h⟩
set_option maxRecDepth 10000 in
set_option maxHeartbeats 4000000 in
theorem rtable_pc (n : NNode) (hk : n.ok) (hb : NB n.eqs) : PC Tryz.prog 24 [.ag n.row] (.ts (ad5 n.eqs.length (tbF n.eqs n.eqs.length))) := by
 have hN := hb.n
 have hmk : ∀ hs a, mksB hs a 1 24 [.ns] (.i .i64 (n.eqs.length : Int)) (.i .i64 (n.eqs.length : Int)) = (aa3 hs a (.c false (List.replicate n.eqs.length .ns))).map fun h => (n.eqs.length, h) := by
  intro hs a
  have hq : decide (n.eqs.length ≤ 1073741824 ∧ 24 * n.eqs.length ≤ 281474976710656 ∧ [V.ns].length = 1) = true := decide_eq_true ⟨by omega, by omega, rfl⟩
  rw [mks_n hq, nscells]
 have hOA0 : OA 2 1 n.eqs.length [.c false n.row, .c false (List.replicate n.eqs.length .ns)] [.c false n.row, .c false (List.replicate n.eqs.length .ns)] (fun t => if t < 0 then tbF n.eqs n.eqs.length t else []) := (OA.new rfl ⟨by omega, by simp⟩).fun_eq fun s => by simp
 have hlt0 : ltO ([O.c false n.row, O.c false (List.replicate n.eqs.length V.ns)]).length [.c false n.row, .c false (List.replicate n.eqs.length .ns)] = true := by
  have h1 : ∀ m, clL (List.replicate m V.ns) = true := fun m => by
   induction m with
   | zero => rfl
   | succ n ih => rw [List.replicate_succ]; simp only [clL, ih, V.cl, Bool.and_self]
  have h2 : ocl (O.c false n.row) = true := by rw [ab8]; exact t7 n
  have h3 : ocl (O.c false (List.replicate n.eqs.length V.ns)) = true := by rw [ab8]; exact h1 _
  simp only [ltO, u5 h2, u5 h3, Bool.and_self]
 obtain ⟨P, hP⟩ : ∃ P, P = [O.c false n.row, O.c false (List.replicate n.eqs.length V.ns)] := ⟨_, rfl⟩
 have hP0 : hpL P 0 = .c false n.row := by rw [hP]; rfl
 have hPl : 2 ≤ P.length := by rw [hP]; simp
 refine ag3 Tryz.func24 k24 rfl ?_
 repeat' (first
  | (simp only [c24, aa0, z9, nn4, i6, f0, List.length_map, hmk, SXR, simprocAttr]))
 rw [← hP] at hOA0 hlt0
 refine m4 (X := Nat) (fun u ll hs => ∃ H : List O, Hd (fun j => [j 0, .p 0 0, j 2, .sl 1 0 1 n.eqs.length none, .i .i64 (u : Int), j 5, j 6, j 7, j 8, j 9, j 10, j 11, j 12, j 13, j 14, j 15, j 16, j 17, j 18, j 19, j 20, j 21, j 22, j 23, j 24, j 25, j 26, j 27, j 28, j 29, j 30, j 31, j 32, j 33, j 34, j 35, j 36, j 37, j 38, j 39, j 40, j 41, j 42, j 43, j 44, j 45, j 46, j 47, j 48]) ll ∧ hs = H ∧ OA 2 1 n.eqs.length P H (fun t => if t < u then tbF n.eqs n.eqs.length t else []) ∧ ltO H.length H = true)
  (fun u => u ≤ n.eqs.length) (fun u => n.eqs.length - u) ?_ 0 _ _ (by rw [← hP]; exact ⟨_, rfl, rfl, hOA0, hlt0⟩) (Nat.zero_le _)
 clear hOA0 hlt0 hP hmk
 rintro u _ H ⟨_, e, rfl, hOA, hlH⟩ hj IH
 obtain ⟨w, rfl⟩ := e.open
 clear e
 have hH0 : ∀ H', OA 2 1 n.eqs.length P H' (fun t => if t < u then tbF n.eqs n.eqs.length t else []) → hpL H' 0 = .c false n.row := fun H' h => by rw [h.low 0 (by omega) (by omega)]; exact hP0
 have hn0 := hH0 H hOA
 by_cases hjl : u < n.eqs.length
 ·obtain ⟨q, hq, hqm⟩ := ats hjl
  have hqr := mg (f := NEqn.row) hq
  have hd := ltd hjl
  have hw := j0 (n := u) (by omega)
  have hqo := hk.2.2.2.2 q hqm
  have hrl := hb.r q hqm
  have hrd := rreads_pc q hqo (by omega)
  have hqc := ac5 q
  have hrc := j6 (p5 q)
  have hrl2 : (p5 q).length < 30000000 := by have := av1 q; omega
  have hOA1 : OA 2 1 n.eqs.length P H (fun t => if t < u then tbF n.eqs n.eqs.length t else if t = u then tbF n.eqs 0 t else []) := hOA.fun_eq fun s => by
   by_cases h1 : s < u
   ·rw [if_pos h1, if_pos h1]
   ·rw [if_neg h1, if_neg h1]
    by_cases h2 : s = u
    ·rw [if_pos h2]; rfl
    ·rw [if_neg h2]
  repeat' (first
   | (with_reducible refine b8 (hrd) (by simp only [SXR, hqc, hrc]) (by simp only [SXR, hqc, hrc]) ?_)
   | (simp only [c24, aa0, z9, nn4, i6, f0, List.length_map, hn0, hqr, hd, i7, i8, hqc, hrc, SXR, simprocAttr]))
  clear hOA hn0
  refine m4 (X := Nat) (fun i ll hs => ∃ H : List O, Hd (fun j => [j 0, .p 0 0, j 2, .sl 1 0 1 n.eqs.length none, .i .i64 (u : Int), .ts ((p5 q).map z8), .i .i64 (i : Int), j 7, j 8, j 9, j 10, j 11, j 12, j 13, j 14, j 15, j 16, j 17, j 18, j 19, j 20, j 21, j 22, j 23, j 24, j 25, j 26, j 27, j 28, j 29, j 30, j 31, j 32, j 33, j 34, j 35, j 36, j 37, j 38, j 39, j 40, j 41, j 42, j 43, j 44, j 45, j 46, j 47, j 48]) ll ∧ hs = H ∧ OA 2 1 n.eqs.length P H (fun t => if t < u then tbF n.eqs n.eqs.length t else if t = u then tbF n.eqs i t else []) ∧ ltO H.length H = true)
   (fun i => i ≤ n.eqs.length) (fun i => n.eqs.length - i) ?_ 0 _ _ (by exact ⟨H, rfl, rfl, hOA1, hlH⟩) (Nat.zero_le _)
  clear hOA1 hlH
  rintro i _ H ⟨_, e, rfl, hOA, hlH⟩ hi IK
  obtain ⟨w, rfl⟩ := e.open
  clear e
  have hn0 : hpL H 0 = .c false n.row := by rw [hOA.low 0 (by omega) (by omega)]; exact hP0
  by_cases hil : i < n.eqs.length
  ·clear IH
   obtain ⟨o, ho, hom⟩ := ats hil
   have hor := mg (f := NEqn.row) ho
   have hdi := ltd hil
   have hwi := j0 (n := i) (by omega)
   have hoc := ac5 o
   have hwt := rwaits_pc (p5 q) o (hk.2.2.2.2 o hom) hrl2
   have hwe := wt_at hq ho
   cases hb2 : am1 (p5 q) o with
   | true =>
     rw [hb2] at hwt hwe
     have hL : (if u < u then tbF n.eqs n.eqs.length u else if u = u then tbF n.eqs i u else []).length = (tbF n.eqs i u).length := by simp
     have htl := tbF_len n.eqs i u
     obtain ⟨vs, v, v', H1, H2, s1, s2, s3, s4, s5, s6, s7, s8, s9⟩ := hOA.step hjl i (u9 (by rw [hL]; omega) (by omega))
     have hia : iadE 1 (.sl 1 0 1 n.eqs.length none) (.i .i64 (u : Int)) = some (.p 1 u) := by
      have := ac0 (a := 1) (w := 1) (wd := 1) (c := none) hjl
      rw [Nat.mul_one] at this; exact this
     have s8' := s8 hlH
     have s7' : OA 2 1 n.eqs.length P H2 (fun t => if t < u then tbF n.eqs n.eqs.length t else if t = u then tbF n.eqs (i + 1) t else []) := s7.fun_eq fun t => by
      by_cases h2 : t = u
      ·subst h2
       rw [if_pos rfl, if_neg (by omega), if_pos rfl, if_neg (by omega), if_pos rfl, tbF_succ, if_pos hwe]
      ·rw [if_neg h2, if_neg h2, if_neg h2]
     repeat' (first
      | (with_reducible refine b8 (hwt) (by simp only [SXR, hoc, hrc]) (by simp only [SXR, hoc, hrc]) ?_)
      | (simp only [c24, aa0, z9, nn4, i6, f0, List.length_map, hn0, hor, hdi, hwi, i7, i8, hoc, hrc, hia, s1, s2, s3, s4, s5, s6, Nat.add_assoc, SXR, simprocAttr]))
     exact IK (i + 1) _ _ (by exact ⟨H2, rfl, rfl, s7', s8'⟩) hil (by omega)
   | false =>
     rw [hb2] at hwt hwe
     have hOA2 : OA 2 1 n.eqs.length P H (fun t => if t < u then tbF n.eqs n.eqs.length t else if t = u then tbF n.eqs (i + 1) t else []) := hOA.fun_eq fun t => by
      by_cases h2 : t = u
      ·subst h2
       rw [if_neg (by omega), if_pos rfl, if_neg (by omega), if_pos rfl, tbF_succ, if_neg (by rw [hwe]; simp)]
      ·rw [if_neg h2, if_neg h2]
     repeat' (first
      | (with_reducible refine b8 (hwt) (by simp only [SXR, hoc, hrc]) (by simp only [SXR, hoc, hrc]) ?_)
      | (simp only [c24, aa0, z9, nn4, i6, f0, List.length_map, hn0, hor, hdi, hwi, i7, i8, hoc, hrc, SXR, simprocAttr]))
     exact IK (i + 1) _ _ (by exact ⟨H, rfl, rfl, hOA2, hlH⟩) hil (by omega)
  ·clear IK
   have hie : i = n.eqs.length := by omega
   subst hie
   have hdi := ltn hil
   have hOA2 : OA 2 1 n.eqs.length P H (fun t => if t < u + 1 then tbF n.eqs n.eqs.length t else []) := hOA.fun_eq fun t => by
    by_cases h2 : t = u
    ·subst h2
     rw [if_neg (by omega), if_pos rfl, if_pos (by omega)]
    ·rw [if_neg h2]
     by_cases h3 : t < u
     ·rw [if_pos h3, if_pos (by omega)]
     ·rw [if_neg h3, if_neg (by omega)]
   repeat' (first
    | (simp only [c24, aa0, z9, nn4, i6, f0, List.length_map, hn0, hdi, hw, SXR, simprocAttr]))
   exact IH (u + 1) _ _ (by exact ⟨H, rfl, rfl, hOA2, hlH⟩) hjl (by omega)
 ·clear IH
  have hje : u = n.eqs.length := by omega
  subst hje
  have hd := ltn hjl
  repeat' (first
   | (simp only [c24, aa0, z9, nn4, i6, f0, List.length_map, hn0, hd, SXR, simprocAttr]))
  have hse := hOA.se (D := fun _ => True) trivial (fun _ _ => trivial)
  have : ad5 n.eqs.length (fun t => if t < n.eqs.length then tbF n.eqs n.eqs.length t else []) = ad5 n.eqs.length (tbF n.eqs n.eqs.length) := by
   unfold ad5
   apply List.map_congr_left
   intro i hi
   show irow (if i < n.eqs.length then tbF n.eqs n.eqs.length i else []) = _
   rw [if_pos (List.mem_range.1 hi)]
  rw [this] at hse
  exact hse
theorem irows_at {n : Nat} {L : Nat → List Nat} {i : Nat} (h : i < n) : (ad5 n L)[i]? = some (irow (L i)) := by simp [ad5, h]
theorem rready_ac {js : List O} (L : List Nat) {a N : Nat} {d : Nat → Bool} (hd : hpL js a = .c false (z7 N d)) (hL : ∀ i, i ∈ L → i < N) (hl : L.length < 1000000) (hlt : ltO js.length js = true) :
  ACalls Tryz.prog 25 [.ts (p6 L), .sl a 0 1 N none] (hpL js) js.length (.b (L.all d)) (hpL js) js.length := by
 have haj := u6 hd
 have hlen := ag6 L
 refine aa9 Tryz.func25 k25 rfl rfl (by simp only [V.lt]) hlt ?_
 repeat' (first
  | (simp only [c25, af0, ae9, SXR, simprocAttr]))
 refine m4 (X := Nat) (fun i ll hs => Hd (fun j => [.ts (p6 L), .sl a 0 1 N none, j 2, j 3, j 4, .i .i64 (i : Int), j 6, j 7, j 8, j 9, j 10, j 11, j 12, j 13, j 14, j 15, j 16, j 17, j 18, j 19]) ll ∧ hs = js)
  (fun i => i ≤ L.length ∧ L.all d = (L.drop i).all d) (fun i => L.length - i) ?_ 0 _ _ (by exact ⟨rfl, rfl⟩) ⟨Nat.zero_le _, rfl⟩
 rintro i _ _ ⟨e, rfl⟩ ⟨hi, hinv⟩ IH
 obtain ⟨j, rfl⟩ := e.open
 clear e
 by_cases hil : i < L.length
 ·obtain ⟨m, hm, hmm⟩ := ats hil
  have hmN := hL m hmm
  have hg := ak2 hm
  have hdd := ltd hil
  have hw := j0 (n := i) (by omega)
  have hia : ∀ a, iadE 1 (.sl a 0 1 N none) (.i .i64 (m : Int)) = some (.p a m) := fun a => by
   have := ac0 (a := a) (w := 1) (wd := 1) (c := none) hmN
   rw [Nat.mul_one] at this; exact this
  have hld : ldE.ldO 1 false m (.c false (z7 N d)) = some (.b (d m)) := ld1 (bc_get hmN)
  rw [v6 hm, List.all_cons] at hinv
  cases hdm : d m with
  | false =>
    rw [hdm, Bool.false_and] at hinv
    rw [hdm] at hld
    rw [hinv]
    repeat' (first
     | (simp only [c25, af0, ae9, hlen, hg, hdd, hia, hd, hld, SXR, simprocAttr]))
    exact ⟨[], by simp⟩
  | true =>
    rw [hdm, Bool.true_and] at hinv
    rw [hdm] at hld
    repeat' (first
     | (simp only [c25, af0, ae9, hlen, hg, hdd, hw, hia, hd, hld, SXR, simprocAttr]))
    exact IH (i + 1) _ _ (by exact ⟨rfl, rfl⟩) ⟨hil, hinv⟩ (by omega)
 ·clear IH
  have hdd := ltn hil
  rw [List.drop_eq_nil_of_le (by omega), List.all_nil] at hinv
  rw [hinv]
  repeat' (first
   | (simp only [c25, af0, ae9, hlen, hdd, SXR, simprocAttr]))
  exact ⟨[], by simp⟩
theorem ao5 {α : Type} {p q : α → Bool} : ∀ {l : List α}, (∀ x, x ∈ l → p x = q x) → l.find? p = l.find? q
 | [], _ => rfl
 | a :: l, h => by
   rw [List.find?_cons, List.find?_cons, h a (by simp), ao5 (l := l) fun x hx => h x (by simp [hx])]
theorem sub_len : ∀ {l m : List Nat}, l.Nodup → (∀ k, k ∈ l → k ∈ m) → l.length ≤ m.length
 | [], m, _, _ => Nat.zero_le _
 | a :: l, m, h, hs => by
   rw [List.nodup_cons] at h
   have ha := hs a (by simp)
   have := sub_len (l := l) (m := m.erase a) h.2 fun k hk => (List.mem_erase_of_ne (fun e => h.1 (by rw [← e]; exact hk))).2 (hs k (by simp [hk]))
   rw [List.length_erase_of_mem ha] at this
   have := List.length_pos_of_mem ha
   rw [List.length_cons]; omega
def bi5 (rd nr : Nat → Bool) : Nat → Option Nat → Bool → Option Nat
 | 0, b, _ => b
 | i + 1, b, s => if rd i = true then (if nr i = true ∨ s = false then bi5 rd nr i (some i) (nr i) else bi5 rd nr i b s) else bi5 rd nr i b s
theorem scanF_eq (rd nr : Nat → Bool) : ∀ (k : Nat) (b : Option Nat) (s : Bool), bi5 rd nr k b s = ((List.range k).find? fun i => rd i && nr i).or (if s = true then b else ((List.range k).find? rd).or b)
 | 0, b, s => by cases s <;> simp [bi5]
 | k + 1, b, s => by
   simp only [bi5, List.range_succ, List.find?_append, List.find?_cons, List.find?_nil]
   cases hr : rd k <;> cases hn : nr k <;> cases s <;> simp [scanF_eq rd nr k, Option.or_assoc]
theorem nextR_eq {eqs : List NEqn} {g : Nat → Nat} {d : Nat → Bool} {last : Option Nat} : ∀ (r k : Nat) (first : Option Nat), ar8 eqs g d last r k first = ((List.range' k r).find? fun i => (!d i && g i == 0) && bi7 eqs last i).or (first.or ((List.range' k r).find? fun i => !d i && g i == 0))
 | 0, k, first => by simp [ar8]
 | r + 1, k, first => by
   simp only [ar8, List.range'_succ, List.find?_cons]
   have e : (d k = true ∨ 0 < g k) ↔ (!d k && g k == 0) = false := by
    cases d k <;> simp <;> omega
   by_cases hc : d k = true ∨ 0 < g k
   ·rw [if_pos hc, e.1 hc, nextR_eq r]
    simp
   ·rw [if_neg hc]
    have h1 : (!d k && g k == 0) = true := by
     cases h : (!d k && g k == 0) with
     | true => rfl
     | false => exact (hc (e.2 h)).elim
    rw [h1]
    cases hn : bi7 eqs last k with
    | true => simp
    | false => simp [nextR_eq r, Option.or_assoc]
def rnear (eqs : List NEqn) (last : Option Nat) (i : Nat) : Bool := match last with
 | none => false
 | some m => eqB az9 (ckF eqs i) (ckF eqs m)
def rrd (eqs : List NEqn) (out : List Nat) (i : Nat) : Bool := !out.contains i && (tbF eqs eqs.length i).all fun k => out.contains k
def rnextF (eqs : List NEqn) (out : List Nat) : Option Nat := bi5 (rrd eqs out) (rnear eqs out.getLast?) eqs.length none false
theorem rrd_eq {eqs : List NEqn} {out : List Nat} {i : Nat} (hi : i < eqs.length) : (!out.contains i && gX (ac3 (nxE eqs) eqs.length out) i == 0) = rrd eqs out i := by
 unfold rrd
 congr 1
 show ((ac3 (nxE eqs) eqs.length out).count i == 0) = _
 rw [at9 eqs out hi, Bool.eq_iff_iff, beq_iff_eq, List.length_eq_zero_iff, List.filter_eq_nil_iff, List.all_eq_true]
 constructor
 ·intro h k hk
  have := h k (tbF_mem.1 hk)
  simpa using this
 ·intro h k hk
  have := h k (tbF_mem.2 hk)
  simpa using this
theorem rnextF_eq (eqs : List NEqn) (out : List Nat) : rnextF eqs out = nextF eqs (gX (ac3 (nxE eqs) eqs.length out)) (fun k => out.contains k) out.getLast? := by
 unfold rnextF nextF
 rw [scanF_eq, nextR_eq, if_neg (by simp), ← List.range_eq_range']
 have e1 : (List.range eqs.length).find? (rrd eqs out) = (List.range eqs.length).find? fun i => !out.contains i && gX (ac3 (nxE eqs) eqs.length out) i == 0 :=
  ao5 fun i hi => (rrd_eq (List.mem_range.1 hi)).symm
 rw [e1, Option.or_none, Option.none_or]
 cases hl : out.getLast? with
 | none =>
   have h1 : (List.range eqs.length).find? (fun i => rrd eqs out i && rnear eqs none i) = none := by
    rw [List.find?_eq_none]; intro x _; simp [rnear]
   have h2 : (List.range eqs.length).find? (fun i => (!out.contains i && gX (ac3 (nxE eqs) eqs.length out) i == 0) && bi7 eqs none i) = (List.range eqs.length).find? fun i => !out.contains i && gX (ac3 (nxE eqs) eqs.length out) i == 0 :=
    ao5 fun i _ => by simp [bi7]
   rw [h1, h2, Option.none_or]
   cases (List.range eqs.length).find? fun i => !out.contains i && gX (ac3 (nxE eqs) eqs.length out) i == 0 <;> rfl
 | some m =>
   congr 1
   exact ao5 fun i hi => by rw [← rrd_eq (List.mem_range.1 hi)]; rfl
def rordF (eqs : List NEqn) : Nat → List Nat → Option (List Nat)
 | 0, out => some out
 | f + 1, out => if eqs.length ≤ out.length then some out else match rnextF eqs out with
   | none => none
   | some v => rordF eqs f (out ++ [v])
theorem rordF_eq (eqs : List NEqn) : ∀ (f : Nat) (out : List Nat), rordF eqs f out = ordF eqs f out
 | 0, out => rfl
 | f + 1, out => by
   simp only [rordF, ordF, rnextF_eq]
   split
   ·rfl
   ·split
    ·rename_i h; rw [h]
    ·rename_i v h; rw [h]; exact rordF_eq eqs f _
theorem ordF_stuck {eqs : List NEqn} (h : (av5 (nxE eqs) eqs.length).length < eqs.length) : ordF eqs (eqs.length + 1) [] = none := by
 cases hl : ordF eqs (eqs.length + 1) [] with
 | none => rfl
 | some l =>
   exfalso
   obtain ⟨l1, l2, l3⟩ := be1 _ _ _ List.nodup_nil (by simp) (by simp) hl
   have htop := be0 _ _ _ (by simp) hl
   have hb : ∀ v w, v < eqs.length → w ∈ nxE eqs v → w < eqs.length := fun v w _ hw => (aq3.1 hw).1
   have key : ∀ (N j v : Nat), j < N → l[j]? = some v → v ∈ av5 (nxE eqs) eqs.length := by
    intro N
    induction N with
    | zero => intro j v hj; omega
    | succ N ih =>
      intro j v hj hv
      by_cases ho : v ∈ av5 (nxE eqs) eqs.length
      ·exact ho
      ·obtain ⟨u, h1, h2, h3⟩ := bk4 hb (l2 v (List.mem_of_getElem? hv)) ho
       have hu := htop j v hv u (aq3.1 h3).2
       obtain ⟨i, hi, e⟩ := List.getElem_of_mem hu
       rw [List.length_take] at hi
       rw [List.getElem_take] at e
       exact (h2 (ih i u (by omega) (by rw [← e]; exact List.getElem?_eq_getElem (by omega)))).elim
   have hall : ∀ k, k ∈ l → k ∈ av5 (nxE eqs) eqs.length := fun k hk => by
    obtain ⟨j, hj, e⟩ := List.getElem_of_mem hk
    exact key (j + 1) j k (Nat.lt_succ_self _) (by rw [← e]; exact List.getElem?_eq_getElem hj)
   have hle : l.length ≤ (av5 (nxE eqs) eqs.length).length := by
    exact sub_len l1 hall
   omega
theorem rordF_res (eqs : List NEqn) : rordF eqs (eqs.length + 1) [] = ab0 eqs := by
 rw [rordF_eq]
 unfold ab0
 split
 ·rename_i h; exact ordF_stuck h
 ·rfl
structure RO (r : List V) (N : Nat) (H : List O) (ov : V) (out : List Nat) (d : Nat → Bool) : Prop where
 nr : hpL H 0 = .c false r
 dn : hpL H 1 = .c false (z7 N d)
 ou : NR irw 1 H ov out
 oK : ∀ B o w m c, ov = .sl B o w m c → 2 ≤ B
 lt : ltO H.length H = true
section
variable {r : List V} {N : Nat} {H : List O} {ov : V} {out : List Nat} {d : Nat → Bool}
theorem RO.done (h : RO r N H ov out d) {v : Nat} (hv : v < N) : ∃ H', stpO H 1 1 v [.b true] (.c false (z7 N d)) = some H' ∧ RO r N H' ov out (fun k => if k = v then true else d k) := by
 have hl := u6 h.dn
 have hst := stp1 (hs := H) (b := 1) (gr := false) (cs := z7 N d) (j := v) (x := .b true) (by rw [bc_len]; exact hv)
 rw [bc_set, ab3 hl] at hst
 refine ⟨_, hst, ?_, p4 hl, ?_, h.oK, ?_⟩
 ·rw [j2 (by omega)]; exact h.nr
 ·rcases h.ou with q | ⟨B, q1, q2⟩
  ·exact .inl q
  ·refine .inr ⟨B, q1, ?_⟩
   have := h.oK _ _ _ _ _ q1
   rw [j2 (by omega)]; exact q2
 ·rw [List.length_set]; exact bf0 (u5 (by rw [ab8]; exact bc_cl _ _)) h.lt
theorem RO.app (h : RO r N H ov out d) (v : Nat) (hn : out.length < 1000000) :
  ∃ (ov' : V) (H' : List O), (∀ rb k, rb + k = H.length + 1 → ah2 rb (H ++ [.c false [.i .i64 (v : Int)], .no]) k ov (some [.i .i64 (v : Int)]) (some 1) 1 8 = some (ov', H')) ∧ RO r N H' ov' (out ++ [v]) d := by
 have hl0 := u6 h.nr
 have hl1 := u6 h.dn
 have hap := h.ou.app1 (by omega) irw_w v (bytes := 8) (u9 (by omega) (by omega)) [.c false [.i .i64 (v : Int)]]
 have hother : ∀ a, a < 2 → hpL (al9 H ov ++ ([O.c false [V.i .i64 (v : Int)]] ++ [O.c true (fl irw (out ++ [v]))])) a = hpL H a := fun a ha => am8 (by omega) (fun B o w n c e => by have := h.oK _ _ _ _ _ e; omega)
 refine ⟨_, _, fun rb k e => hap rb k (by simpa using e), ?_, ?_, ?_, fun B o w m c e => ?_, ?_⟩
 ·rw [hother 0 (by omega)]; exact h.nr
 ·rw [hother 1 (by omega)]; exact h.dn
 ·exact .inr ⟨H.length + 1, by simp, ao1 (X := [O.c false [V.i IntKind.i64 (v : Int)]])⟩
 ·cases e; simp; omega
 ·refine ad6 (n := H.length) (by simp [r8]) (bf4 h.lt) ?_
  simp only [List.cons_append, List.nil_append, List.all_cons, List.all_nil, ab8, fl_cl irw_c, clL, V.cl, Bool.and_self]
end
def pr (k : Nat) : Int := (k : Int) - 1
theorem pr_succ (k : Nat) : pr (k + 1) = (k : Int) := by unfold pr; omega
set_option maxRecDepth 20000 in
set_option maxHeartbeats 8000000 in
theorem rorder_pc (n : NNode) (hk : n.ok) (hb : NB n.eqs) : PC Tryz.prog 9 [.ag n.row] (ordV (ab0 n.eqs)) := by
 have hN := hb.n
 have htb := rtable_pc n hk hb
 have hncl := t7 n
 have hnr := nrows_cl n.eqs.length (tbF n.eqs n.eqs.length)
 have hnrl : ((ad5 n.eqs.length (tbF n.eqs n.eqs.length)).length : Int) = (n.eqs.length : Int) := by simp [ad5]
 have hmk : ∀ hs a, mksB hs a 1 1 [.b false] (.i .i64 (n.eqs.length : Int)) (.i .i64 (n.eqs.length : Int)) = (aa3 hs a (.c false (z7 n.eqs.length fun _ => false))).map fun h => (n.eqs.length, h) := by
  intro hs a
  have hq : decide (n.eqs.length ≤ 1073741824 ∧ 1 * n.eqs.length ≤ 281474976710656 ∧ [V.b false].length = 1) = true := decide_eq_true ⟨by omega, by omega, rfl⟩
  rw [mks_n hq, ← bc_false, show ∀ m, (List.replicate m [V.b false]).flatten = List.replicate m (V.b false) from fun m => by
   induction m with
   | zero => rfl
   | succ m ih => rw [List.replicate_succ, List.flatten_cons, ih, List.replicate_succ]; rfl]
 have h4096 : decide ((n.eqs.length : Int) > 4096) = false := decide_eq_false (by omega)
 have hRO0 : RO n.row n.eqs.length [.c false n.row, .c false (z7 n.eqs.length fun _ => false)] .ns [] (fun k => ([] : List Nat).contains k) := by
  refine ⟨rfl, rfl, .inl ⟨rfl, rfl⟩, fun B o w m c e => (by cases e), ?_⟩
  have h2 : ocl (O.c false n.row) = true := by rw [ab8]; exact t7 n
  have h3 : ocl (O.c false (z7 n.eqs.length fun _ => false)) = true := by rw [ab8]; exact bc_cl _ _
  simp only [ltO, u5 h2, u5 h3, Bool.and_self]
 generalize hR : ab0 n.eqs = R
 have hR' : rordF n.eqs (n.eqs.length + 1) [] = R := by rw [rordF_res]; exact hR
 clear hR
 refine ag3 Tryz.func9 k9 rfl ?_
 repeat' (first
  | (with_reducible refine b8 (htb) (by simp only [SXR, hncl, hnr]) (by simp only [SXR, hncl, hnr]) ?_)
  | (simp only [c9, aa0, z9, nn4, i6, f0, List.length_map, h4096, hmk, hncl, hnr, SXR, simprocAttr]))
 refine m4 (X := List Nat) (fun out ll hs => ∃ (H : List O) (ov : V), Hd (fun j => [j 0, .p 0 0, j 2, j 3, .ts (ad5 n.eqs.length (tbF n.eqs n.eqs.length)), .sl 1 0 1 n.eqs.length none, ov, j 7, j 8, j 9, j 10, j 11, j 12, j 13, j 14, j 15, j 16, j 17, j 18, j 19, j 20, j 21, j 22, j 23, j 24, j 25, j 26, j 27, j 28, j 29, j 30, j 31, j 32, j 33, j 34, j 35, j 36, j 37, j 38, j 39, j 40, j 41, j 42, j 43, j 44, j 45, j 46, j 47, j 48, j 49, j 50, j 51, j 52, j 53, j 54, j 55, j 56, j 57, j 58, j 59, j 60, j 61, j 62, j 63, j 64, j 65, j 66, j 67, j 68, j 69, j 70, j 71, j 72, j 73, j 74, j 75, j 76, j 77, j 78, j 79, j 80, j 81, j 82, j 83, j 84, j 85, j 86, j 87]) ll ∧ hs = H ∧ RO n.row n.eqs.length H ov out (fun k => out.contains k))
  (fun out => (∀ v, v ∈ out → v < n.eqs.length) ∧ out.length ≤ n.eqs.length ∧ rordF n.eqs (n.eqs.length + 1 - out.length) out = R) (fun out => n.eqs.length - out.length) ?_ [] _ _ (by exact ⟨_, _, rfl, rfl, hRO0⟩) ⟨fun v hv => by simp at hv, Nat.zero_le _, hR'⟩
 clear hRO0 hR' hmk htb
 rintro out _ H ⟨_, ov, e, rfl, hRO⟩ ⟨hol, hole, hfin⟩ IH
 obtain ⟨j, rfl⟩ := e.open
 clear e
 have hn0 := hRO.nr
 have hoL := (hRO.ou.rc (g := ab1)).len
 rw [show n.eqs.length + 1 - out.length = (n.eqs.length - out.length) + 1 by omega] at hfin
 simp only [rordF] at hfin
 by_cases hlt2 : out.length < n.eqs.length
 ·have hd := ltd hlt2
  have hw0 : IntKind.i64.wrap ((n.eqs.length : Int) - 1) = pr n.eqs.length := aj5 (by omega) (by omega)
  rw [if_neg (by omega)] at hfin
  repeat' (first
   | (simp only [c9, aa0, z9, hd, hn0, hoL, nn4, i6, f0, List.length_map, hw0, SXR, simprocAttr]))
  refine m4 (X := Nat × Option Nat × Bool) (fun x ll hs => ∃ y : Unit, Hd (fun j => [j 0, .p 0 0, j 2, j 3, .ts (ad5 n.eqs.length (tbF n.eqs n.eqs.length)), .sl 1 0 1 n.eqs.length none, ov, .i .i64 (ai9 x.2.1), .b x.2.2, .i .i64 (pr x.1), j 10, j 11, j 12, j 13, j 14, j 15, j 16, j 17, j 18, j 19, j 20, j 21, j 22, j 23, j 24, j 25, j 26, j 27, j 28, j 29, j 30, j 31, j 32, j 33, j 34, j 35, j 36, j 37, j 38, j 39, j 40, j 41, j 42, j 43, j 44, j 45, j 46, j 47, j 48, j 49, j 50, j 51, j 52, j 53, j 54, j 55, j 56, j 57, j 58, j 59, j 60, j 61, j 62, j 63, j 64, j 65, j 66, j 67, j 68, j 69, j 70, j 71, j 72, j 73, j 74, j 75, j 76, j 77, j 78, j 79, j 80, j 81, j 82, j 83, j 84, j 85, j 86, j 87]) ll ∧ hs = H)
   (fun x => x.1 ≤ n.eqs.length ∧ bi5 (rrd n.eqs out) (rnear n.eqs out.getLast?) x.1 x.2.1 x.2.2 = rnextF n.eqs out) (fun x => x.1) ?_ (n.eqs.length, none, false) _ _ (by exact ⟨(), rfl, rfl⟩) ⟨Nat.le_refl _, rfl⟩
  rintro ⟨k, bst, sm⟩ _ _ ⟨_, e, rfl⟩ ⟨hkn, hsc⟩ IK
  obtain ⟨j, rfl⟩ := e.open
  clear e
  simp only at hkn hsc IK ⊢
  cases k with
  | succ i =>
    clear IH
    obtain ⟨q, hq, hqm⟩ := ats (show i < n.eqs.length by omega)
    have hqr := mg (f := NEqn.row) hq
    have hps := pr_succ i
    have hge : decide ((i : Int) ≥ 0) = true := decide_eq_true (by omega)
    have hwi : IntKind.i64.wrap ((i : Int) - 1) = pr i := aj5 (by omega) (by omega)
    have hia : iadE 1 (.sl 1 0 1 n.eqs.length none) (.i .i64 (i : Int)) = some (.p 1 i) := by
     have := ac0 (a := 1) (w := 1) (wd := 1) (c := none) (show i < n.eqs.length by omega)
     rw [Nat.mul_one] at this; exact this
    have hdn := hRO.dn
    have hld : ldE.ldO 1 false i (.c false (z7 n.eqs.length fun k => out.contains k)) = some (.b (out.contains i)) := ld1 (bc_get (by omega))
    simp only [bi5] at hsc
    have hrr : rrd n.eqs out i = (!out.contains i && (tbF n.eqs n.eqs.length i).all fun k => out.contains k) := rfl
    cases hdi : out.contains i with
    | true =>
      rw [hdi] at hld hrr
      rw [hrr, Bool.not_true, Bool.false_and, if_neg (by simp)] at hsc
      repeat' (first
       | (simp only [c9, aa0, z9, hps, hge, hwi, hia, hdn, hld, SXR, simprocAttr]))
      exact IK (i, bst, sm) _ _ (by exact ⟨(), rfl, rfl⟩) ⟨by simp only; omega, hsc⟩ (by simp only; omega)
    | false =>
      rw [hdi] at hld hrr
      have htr : (ad5 n.eqs.length (tbF n.eqs n.eqs.length))[i]? = some [.ts (p6 (tbF n.eqs n.eqs.length i))] := irows_at (by omega)
      have htl := tbF_len n.eqs n.eqs.length i
      have hrdy := rready_ac (tbF n.eqs n.eqs.length i) hdn (fun x hx => (ba5 (tbF_mem.1 hx)).1) (by omega) hRO.lt
      cases hal : (tbF n.eqs n.eqs.length i).all fun k => out.contains k with
      | false =>
        rw [hal] at hrdy hrr
        rw [hrr, Bool.and_false, if_neg (by simp)] at hsc
        repeat' (first
         | (with_reducible refine e8 (hrdy) ?_)
         | (simp only [c9, aa0, z9, hps, hge, hwi, hia, hdn, hld, htr, SXR, simprocAttr]))
        exact IK (i, bst, sm) _ _ (by exact ⟨(), rfl, rfl⟩) ⟨by simp only; omega, hsc⟩ (by simp only; omega)
      | true =>
        rw [hal] at hrdy hrr
        rw [hrr, Bool.not_false, Bool.true_and, if_pos rfl] at hsc
        have hck : ckF n.eqs i = q.ck := by simp only [ckF, hq]
        have hli : ai9 (some i) = (i : Int) := rfl
        by_cases ho0 : out = []
        ·subst ho0
         have hz : decide (((([] : List Nat).length : Nat) : Int) > 0) = false := by decide
         have hnr0 : rnear n.eqs ([] : List Nat).getLast? i = false := rfl
         rw [hnr0] at hsc
         cases sm with
         | true =>
           rw [if_neg (by simp)] at hsc
           repeat' (first
            | (with_reducible refine e8 (hrdy) ?_)
            | (simp only [c9, aa0, z9, hps, hge, hwi, hia, hdn, hld, htr, hoL, hz, SXR, simprocAttr]))
           exact IK (i, bst, true) _ _ (by exact ⟨(), rfl, rfl⟩) ⟨by simp only; omega, hsc⟩ (by simp only; omega)
         | false =>
           rw [if_pos (.inr rfl)] at hsc
           repeat' (first
            | (with_reducible refine e8 (hrdy) ?_)
            | (simp only [c9, aa0, z9, hps, hge, hwi, hia, hdn, hld, htr, hoL, hz, SXR, simprocAttr]))
           exact IK (i, some i, false) _ _ (by exact ⟨(), rfl, rfl⟩) ⟨by simp only; omega, hsc⟩ (by simp only; omega)
        ·have hop : 0 < out.length := List.length_pos_iff.2 ho0
         have hz : decide ((out.length : Int) > 0) = true := decide_eq_true (by omega)
         obtain ⟨m, hm, hmm⟩ := ats (l := out) (i := out.length - 1) (by omega)
         have hlast : out.getLast? = some m := by rw [List.getLast?_eq_getElem?]; exact hm
         have hmn := hol m hmm
         obtain ⟨q2, hq2, hq2m⟩ := ats hmn
         have hqr2 := mg (f := NEqn.row) hq2
         have hck2 : ckF n.eqs m = q2.ck := by simp only [ckF, hq2]
         have hwl : IntKind.i64.wrap ((out.length : Int) - 1) = ((out.length - 1 : Nat) : Int) := by rw [aj5 (by omega) (by omega)]; omega
         obtain ⟨ad, g1, g2⟩ := (hRO.ou.rc (g := ab1)).get0 hm
         unfold ab1 at g2
         have hcc := bg9 q.ck q2.ck (hk.2.2.2.2 q hqm).2.2.2.2.1
         have hoc := m0 q.ck
         have hoc2 := m0 q2.ck
         have hnr0 : rnear n.eqs out.getLast? i = eqB az9 q.ck q2.ck := by rw [hlast]; simp only [rnear, hck, hck2]
         rw [hnr0] at hsc
         cases hne : eqB az9 q.ck q2.ck with
         | true =>
           rw [hne] at hcc hsc
           rw [if_pos (.inl rfl)] at hsc
           repeat' (first
            | (with_reducible refine e8 (hrdy) ?_)
            | (with_reducible refine b8 (hcc) (by simp only [SXR, hoc, hoc2]) (by simp only [SXR, hoc, hoc2]) ?_)
            | (simp only [c9, aa0, z9, hps, hge, hwi, hia, hdn, hld, htr, hoL, hz, hn0, nn4, i6, f0, hqr, hqr2, hwl, g1, g2, i7, i8, m8, hoc, hoc2, SXR, simprocAttr]))
           exact IK (i, some i, true) _ _ (by exact ⟨(), rfl, rfl⟩) ⟨by simp only; omega, hsc⟩ (by simp only; omega)
         | false =>
           rw [hne] at hcc hsc
           cases sm with
           | true =>
             rw [if_neg (by simp)] at hsc
             repeat' (first
              | (with_reducible refine e8 (hrdy) ?_)
              | (with_reducible refine b8 (hcc) (by simp only [SXR, hoc, hoc2]) (by simp only [SXR, hoc, hoc2]) ?_)
              | (simp only [c9, aa0, z9, hps, hge, hwi, hia, hdn, hld, htr, hoL, hz, hn0, nn4, i6, f0, hqr, hqr2, hwl, g1, g2, i7, i8, m8, hoc, hoc2, SXR, simprocAttr]))
             exact IK (i, bst, true) _ _ (by exact ⟨(), rfl, rfl⟩) ⟨by simp only; omega, hsc⟩ (by simp only; omega)
           | false =>
             rw [if_pos (.inr rfl)] at hsc
             repeat' (first
              | (with_reducible refine e8 (hrdy) ?_)
              | (with_reducible refine b8 (hcc) (by simp only [SXR, hoc, hoc2]) (by simp only [SXR, hoc, hoc2]) ?_)
              | (simp only [c9, aa0, z9, hps, hge, hwi, hia, hdn, hld, htr, hoL, hz, hn0, nn4, i6, f0, hqr, hqr2, hwl, g1, g2, i7, i8, m8, hoc, hoc2, SXR, simprocAttr]))
             exact IK (i, some i, false) _ _ (by exact ⟨(), rfl, rfl⟩) ⟨by simp only; omega, hsc⟩ (by simp only; omega)
  | zero =>
    clear IK
    simp only [bi5] at hsc
    have hge : decide (pr 0 ≥ 0) = false := by decide
    cases bst with
    | none =>
      rw [← hsc] at hfin
      simp only at hfin
      have hl0 : decide (ai9 none < 0) = true := rfl
      rw [← hfin]
      repeat' (first
       | (simp only [c9, aa0, z9, hge, hl0, SXR, simprocAttr]))
      exact .same _
    | some v =>
      rw [← hsc] at hfin
      simp only at hfin
      have hvx := an8 (by rw [← rnextF_eq, ← hsc])
      obtain ⟨hvn, hvd, hvg⟩ := hvx
      have hl0 : decide (ai9 (some v) < 0) = false := decide_eq_false (by simp only [ai9]; omega)
      have hlv : ai9 (some v) = (v : Int) := rfl
      have hl0' : decide ((v : Int) < 0) = false := hl0
      have hia : iadE 1 (.sl 1 0 1 n.eqs.length none) (.i .i64 (v : Int)) = some (.p 1 v) := by
       have := ac0 (a := 1) (w := 1) (wd := 1) (c := none) hvn
       rw [Nat.mul_one] at this; exact this
      obtain ⟨ov2, H2, hap, hRO2⟩ := hRO.app v (by omega)
      have hdn2 := hRO2.dn
      obtain ⟨H3, hst, hRO3⟩ := hRO2.done hvn
      rw [show n.eqs.length - out.length = n.eqs.length + 1 - (out ++ [v]).length by simp] at hfin
      have hRO4 : RO n.row n.eqs.length H3 ov2 (out ++ [v]) (fun k => (out ++ [v]).contains k) := by
       have : (fun k => (out ++ [v]).contains k) = fun k => if k = v then true else out.contains k := by
        funext k
        by_cases hkv : k = v
        ·simp [hkv]
        ·simp [hkv]
       rw [this]; exact hRO3
      repeat' (first
       | (simp only [c9, aa0, z9, hge, hlv, hl0', hap, hia, hdn2, hst, SXR, simprocAttr]))
      refine IH (out ++ [v]) _ _ (by exact ⟨_, _, rfl, rfl, hRO4⟩) ⟨fun x hx => ?_, by simp; omega, hfin⟩ (by simp; omega)
      rcases List.mem_append.1 hx with h | h
      ·exact hol x h
      ·simp at h; omega
 ·clear IH
  have hd := ltn hlt2
  rw [if_pos (by omega)] at hfin
  rw [← hfin]
  repeat' (first
   | (simp only [c9, aa0, z9, hd, hn0, hoL, nn4, i6, f0, List.length_map, SXR, simprocAttr]))
  refine bb9 ?_
  rcases hRO.ou with ⟨q1, q2⟩ | ⟨Bo, q1, q2⟩
  ·rw [q1, q2]; exact .nil
  ·rw [q1]
   exact Se.flat' q2 (fl_ir _) (ag6 _) trivial as5
set_option maxRecDepth 10000 in
set_option maxHeartbeats 4000000 in
theorem rnode_pc (n : NNode) (hk : n.ok) (hb : NB n.eqs) : PC Tryz.prog 11 [.ag n.row] (nodV (ay5 n)) := by
 have hN := hb.n
 have hso := rorder_pc n hk hb
 have hcl := ordV_cl (ab0 n.eqs)
 have hncl := t7 n
 have cd1 := m5 n.ins
 have cd2 := m5 n.outs
 have cd3 := m5 n.locals
 have cd4 := ar9 n.eqs
 cases hr : ab0 n.eqs with
 | none =>
   rw [hr] at hso hcl
   simp only [ordV] at hso hcl
   simp only [ay5, hr, Option.map_none, nodV]
   refine u4 Tryz.func11 k11 rfl ?_
   repeat' (first
    | (with_reducible refine b8 (hso) (by simp only [SXR, hcl, hncl]) (by simp only [SXR, hcl, hncl]) ?_)
    | (simp only [c11, hcl, hncl, i6, f0, SXR, simprocAttr]))
 | some l =>
   obtain ⟨l1, l2, l3⟩ := aa5 hr
   rw [hr] at hso hcl
   simp only [ordV] at hso hcl
   simp only [ay5, hr, Option.map_some, nodV]
   have hlen := ag6 l
   simp only [NNode.row] at hso hncl ⊢
   refine ag3 Tryz.func11 k11 rfl ?_
   repeat' (first
    | (with_reducible refine b8 (hso) (by simp only [SXR, hcl, hncl, cd1, cd2, cd3, cd4]) (by simp only [SXR, hcl, hncl, cd1, cd2, cd3, cd4]) ?_)
    | (simp only [c11, hcl, hncl, cd1, cd2, cd3, cd4, aa0, z9, ap5, hlen, SXR, simprocAttr]))
   refine m4 (X := Nat) (fun i ll hs => ∃ (v : V) (T0 T J : List O), Hd (fun j => [j 0, .p 0 0, .p 1 0, j 3, .ts (p6 l), j 5, v, .i .i64 (i : Int), j 8, j 9, j 10, j 11, j 12, j 13, j 14, j 15, j 16, j 17, j 18, j 19, j 20, j 21, j 22, j 23, j 24, j 25, j 26, j 27, j 28, j 29, j 30, j 31, j 32, j 33, j 34, j 35, j 36]) ll ∧ hs = .c false [.s n.nm.1 n.nm.2, .ts (n.ins.map Decl.row), .ts (n.outs.map Decl.row), .ts (n.locals.map Decl.row), .ts (n.eqs.map NEqn.row)] :: .c false [.s 0 0, .ns, .ns, .ns, .ns] :: (T ++ J) ∧ GT 2 13 i v T0 T (cells NEqn.row (l.map (ar7 n.eqs)) i))
    (fun i => i ≤ l.length) (fun i => l.length - i) ?_ 0 _ _ (by exact ⟨.ns, [], [], [], rfl, rfl, .inl ⟨rfl, rfl, rfl, rfl⟩⟩) (Nat.zero_le _)
   rintro i _ _ ⟨v, T0, T, J, e, rfl, hGT⟩ hi IH
   obtain ⟨j, rfl⟩ := e.open
   clear e
   have hvs := hGT.st
   by_cases hil : i < l.length
   ·obtain ⟨W, hW⟩ : ∃ W, W = T ++ J := ⟨_, rfl⟩
    rw [← hW]
    obtain ⟨m, hm, hmm⟩ := ats hil
    obtain ⟨q, hq, hqm⟩ := ats (l2 m hmm)
    have hqr := mg (f := NEqn.row) hq
    have hgm := ak2 hm
    have hd := ltd hil
    have hw := j0 (n := i) (by omega)
    have hqc := ac5 q
    have hcx : (l.map (ar7 n.eqs))[i]? = some q := by rw [List.getElem?_map, hm, Option.map_some, ah8 hq]
    obtain ⟨v', T0', T', J', hgt, hap, _⟩ := gt_app (P := [.c false [.s n.nm.1 n.nm.2, .ts (n.ins.map Decl.row), .ts (n.outs.map Decl.row), .ts (n.locals.map Decl.row), .ts (n.eqs.map NEqn.row)], .c false [.s 0 0, .ns, .ns, .ns, .ns]]) (bytes := 192) rfl hGT hW (by omega) (i7 q) (u9 (by omega) (by omega)) [.c false q.row]
    rw [ao9 hcx] at hgt
    have hap' : ∀ (rb k' : Nat), rb + k' = W.length + 3 → ah2 rb (.c false [.s n.nm.1 n.nm.2, .ts (n.ins.map Decl.row), .ts (n.outs.map Decl.row), .ts (n.locals.map Decl.row), .ts (n.eqs.map NEqn.row)] :: .c false [.s 0 0, .ns, .ns, .ns, .ns] :: (W ++ [.c false q.row, .no])) k' v (some q.row) (some 1) 13 192 = some (v', .c false [.s n.nm.1 n.nm.2, .ts (n.ins.map Decl.row), .ts (n.outs.map Decl.row), .ts (n.locals.map Decl.row), .ts (n.eqs.map NEqn.row)] :: .c false [.s 0 0, .ns, .ns, .ns, .ns] :: (T' ++ J')) := fun rb k' e => hap rb k' (by simp; omega)
    clear hap hGT hW
    repeat' (first
     | (simp only [c11, aa0, z9, hgm, hqr, hd, hw, i7, i8, hap', hqc, hlen, Nat.add_assoc, hp_sh, hs_sh, hg_sh, SXR, simprocAttr]))
    exact IH (i + 1) _ _ (by exact ⟨v', T0', T', J', rfl, rfl, hgt⟩) hil (by omega)
   ·clear IH
    have hie : i = l.length := by omega
    subst hie
    have hd := ltn hil
    repeat' (first
     | (simp only [c11, aa0, z9, hd, hvs, hlen, SXR, simprocAttr]))
    refine bb9 (Sl.ag ⟨.same _, .same _, .same _, .same _, gt_se (P := [_, _]) (J := J) rfl hGT ?_ (by simp) (mem_map i7 _) (fun _ _ => trivial), trivial⟩)
    have := au0 (f := NEqn.row) (l := l.map (ar7 n.eqs))
    rw [List.length_map] at this
    exact this
theorem r4same_pc (l : List Nat) (hl : l.length < 1000000) : PC Tryz.prog 12 [.ts (p6 l), .ts (p6 l)] (.b true) := by
 have hlen := ag6 l
 refine u4 Tryz.func12 k12 rfl ?_
 repeat' (first
  | (simp only [c12, hlen, bne_self_eq_false, SXR, simprocAttr]))
 refine m4 (X := Nat) (fun i ll hs => ∃ y : Unit, Hd (fun j => [.ts (p6 l), .ts (p6 l), j 2, j 3, j 4, .i .i64 (i : Int), j 6, j 7, j 8, j 9, j 10, j 11, j 12, j 13, j 14, j 15, j 16, j 17, j 18, j 19, j 20, j 21, j 22, j 23, j 24, j 25]) ll ∧ hs = [])
  (fun i => i ≤ l.length) (fun i => l.length - i) ?_ 0 _ _ (by exact ⟨(), rfl, rfl⟩) (Nat.zero_le _)
 rintro i _ _ ⟨_, e, rfl⟩ hi IH
 obtain ⟨j, rfl⟩ := e.open
 clear e
 by_cases hil : i < l.length
 ·obtain ⟨m, hm, _⟩ := ats hil
  have hg := ak2 hm
  have hd := ltd hil
  have hw := j0 (n := i) (by omega)
  repeat' (first
   | (simp only [c12, hlen, hg, hd, hw, bne_self_eq_false, SXR, simprocAttr]))
  exact IH (i + 1) _ _ (by exact ⟨(), rfl, rfl⟩) hil (by omega)
 ·clear IH
  have hd := ltn hil
  repeat' (first
   | (simp only [c12, hlen, hd, SXR, simprocAttr]))
theorem nodR_ok2 {n m : NNode} (hk : n.ok) (h : ay5 n = some m) : m.ok := by
 simp only [ay5] at h
 obtain ⟨l, hl, e⟩ := Option.map_eq_some_iff.1 h
 obtain ⟨h1, h2, h3⟩ := aa5 hl
 subst e
 obtain ⟨o1, o2, o3, o4, o5⟩ := hk
 refine ⟨o1, o2, o3, by unfold Lst.ok at o4 ⊢; simp [h3]; omega, fun q hq => ?_⟩
 obtain ⟨v, hv, rfl⟩ := List.mem_map.1 hq
 obtain ⟨x, hx, hxm⟩ := ats (h2 v hv)
 rw [ah8 hx]; exact o5 x hxm
set_option maxRecDepth 10000 in
set_option maxHeartbeats 4000000 in
theorem orders_pc (n : NNode) (hw : n.okw) (haw : PC Tryz.prog 7 [] (.b true)) : PC Tryz.prog 3 [.ag n.row] (.b true) := by
 have hsm := small_pc n hw
 have hncl := t7 n
 cases hs : al2 n.eqs with
 | false =>
   rw [hs] at hsm
   refine u4 Tryz.func3 k3 rfl ?_
   repeat' (first
    | ((with_reducible refine o0 ?rdq ?_); (case rdq => refine m9 rfl ?_ ?_ <;> simp only [Option.isSome_some, beq_self_eq_true, hncl, i6, f0, SXR, simprocAttr]))
    | (with_reducible refine b8 (hsm) (by simp only [SXR, hncl]) (by simp only [SXR, hncl]) ?_)
    | (with_reducible refine b8 (haw) (by simp only [SXR, hncl]) (by simp only [SXR, hncl]) ?_)
    | (simp only [c3, beq_self_eq_true, hncl, i6, f0, SXR, simprocAttr]))
 | true =>
   rw [hs] at hsm
   have hk := small_ok hw hs
   have hb := ay9 hw hs
   have hN := hb.n
   have hso := bb4 n hk hb
   have hro := rorder_pc n hk hb
   have hnd := ay8 n hk hb
   have hrn := rnode_pc n hk hb
   have hsr := sright_pc n hk hb
   have hrr := rright_pc n hk hb
   cases hr : ab0 n.eqs with
   | none =>
     have hn0 : ay5 n = none := by simp only [ay5, hr, Option.map_none]
     rw [hr] at hso hro
     rw [hn0] at hnd hrn
     simp only [ordV] at hso hro
     simp only [nodV] at hnd hrn
     have h4 : PC Tryz.prog 12 [.ts [], .ts []] (.b true) := r4same_pc [] (by simp)
     have hsame : PC Tryz.prog 13 [.ag [.s 0 0, .ts [], .ts [], .ts [], .ts []], .ag [.s 0 0, .ts [], .ts [], .ts [], .ts []]] (.b true) := ao0 ⟨(0, 0), [], [], [], []⟩ ⟨⟨by simp, by simp⟩, ⟨by simp, by simp⟩, ⟨by simp, by simp⟩, by unfold Lst.ok; simp, by simp⟩
     cases hrf : al3 n.eqs <;> rw [hrf] at hsr hrr
     all_goals
      refine u4 Tryz.func3 k3 rfl ?_
      repeat' (first
       | ((with_reducible refine o0 ?rdq ?_); (case rdq => refine m9 rfl ?_ ?_ <;> simp only [Option.isSome_some, beq_self_eq_true, hncl, i6, f0, SXR, simprocAttr]))
       | (with_reducible refine b8 (hsm) (by simp only [SXR, hncl]) (by simp only [SXR, hncl]) ?_)
       | (with_reducible refine b8 (hso) (by simp only [SXR, hncl]) (by simp only [SXR, hncl]) ?_)
       | (with_reducible refine b8 (hro) (by simp only [SXR, hncl]) (by simp only [SXR, hncl]) ?_)
       | (with_reducible refine b8 (hnd) (by simp only [SXR, hncl]) (by simp only [SXR, hncl]) ?_)
       | (with_reducible refine b8 (hrn) (by simp only [SXR, hncl]) (by simp only [SXR, hncl]) ?_)
       | (with_reducible refine b8 (hsr) (by simp only [SXR, hncl]) (by simp only [SXR, hncl]) ?_)
       | (with_reducible refine b8 (hrr) (by simp only [SXR, hncl]) (by simp only [SXR, hncl]) ?_)
       | (with_reducible refine b8 (haw) (by simp only [SXR, hncl]) (by simp only [SXR, hncl]) ?_)
       | (simp only [c3, beq_self_eq_true, hncl, i6, f0, SXR, simprocAttr]))
      refine ae8 h4 [] rfl rfl (sl2 .nil .nil) rfl rfl ?_
      repeat' (first
       | ((with_reducible refine o0 ?rdq ?_); (case rdq => refine m9 rfl ?_ ?_ <;> simp only [Option.isSome_some, beq_self_eq_true, hncl, i6, f0, SXR, simprocAttr]))
       | (with_reducible refine b8 (hsm) (by simp only [SXR, hncl]) (by simp only [SXR, hncl]) ?_)
       | (with_reducible refine b8 (hso) (by simp only [SXR, hncl]) (by simp only [SXR, hncl]) ?_)
       | (with_reducible refine b8 (hro) (by simp only [SXR, hncl]) (by simp only [SXR, hncl]) ?_)
       | (with_reducible refine b8 (hnd) (by simp only [SXR, hncl]) (by simp only [SXR, hncl]) ?_)
       | (with_reducible refine b8 (hrn) (by simp only [SXR, hncl]) (by simp only [SXR, hncl]) ?_)
       | (with_reducible refine b8 (hsr) (by simp only [SXR, hncl]) (by simp only [SXR, hncl]) ?_)
       | (with_reducible refine b8 (hrr) (by simp only [SXR, hncl]) (by simp only [SXR, hncl]) ?_)
       | (with_reducible refine b8 (haw) (by simp only [SXR, hncl]) (by simp only [SXR, hncl]) ?_)
       | (simp only [c3, beq_self_eq_true, hncl, i6, f0, SXR, simprocAttr]))
      refine ae8 hsame [] rfl rfl (sl2 (Sl.ag ⟨.same _, .nil, .nil, .nil, .nil, trivial⟩) (Sl.ag ⟨.same _, .nil, .nil, .nil, .nil, trivial⟩)) rfl rfl ?_
      repeat' (first
       | ((with_reducible refine o0 ?rdq ?_); (case rdq => refine m9 rfl ?_ ?_ <;> simp only [Option.isSome_some, beq_self_eq_true, hncl, i6, f0, SXR, simprocAttr]))
       | (with_reducible refine b8 (hsm) (by simp only [SXR, hncl]) (by simp only [SXR, hncl]) ?_)
       | (with_reducible refine b8 (hso) (by simp only [SXR, hncl]) (by simp only [SXR, hncl]) ?_)
       | (with_reducible refine b8 (hro) (by simp only [SXR, hncl]) (by simp only [SXR, hncl]) ?_)
       | (with_reducible refine b8 (hnd) (by simp only [SXR, hncl]) (by simp only [SXR, hncl]) ?_)
       | (with_reducible refine b8 (hrn) (by simp only [SXR, hncl]) (by simp only [SXR, hncl]) ?_)
       | (with_reducible refine b8 (hsr) (by simp only [SXR, hncl]) (by simp only [SXR, hncl]) ?_)
       | (with_reducible refine b8 (hrr) (by simp only [SXR, hncl]) (by simp only [SXR, hncl]) ?_)
       | (with_reducible refine b8 (haw) (by simp only [SXR, hncl]) (by simp only [SXR, hncl]) ?_)
       | (simp only [c3, beq_self_eq_true, hncl, i6, f0, SXR, simprocAttr]))
   | some l =>
     obtain ⟨l1, l2, l3⟩ := aa5 hr
     have hn1 : ay5 n = some { n with eqs := l.map (ar7 n.eqs) } := by simp only [ay5, hr, Option.map_some]
     have hmok := nodR_ok2 hk hn1
     rw [hr] at hso hro
     rw [hn1] at hnd hrn
     simp only [ordV] at hso hro
     simp only [nodV] at hnd hrn
     have h4 := r4same_pc l (by omega)
     have hsame := ao0 _ hmok
     have hmcl := t7 { n with eqs := l.map (ar7 n.eqs) }
     have hml := i6 { n with eqs := l.map (ar7 n.eqs) }
     have hmt := f0 { n with eqs := l.map (ar7 n.eqs) }
     have hmp : ∀ a b c d e : V, putAt [a, b, c, d, e] 0 ({ n with eqs := l.map (ar7 n.eqs) } : NNode).row = ({ n with eqs := l.map (ar7 n.eqs) } : NNode).row := fun a b c d e => rfl
     have hic : clR (p6 l) = true := by
      have := irw_cl l
      simpa only [irow, clL, V.cl, Bool.and_true] using this
     generalize ({ n with eqs := l.map (ar7 n.eqs) } : NNode).row = r at *
     cases hrf : al3 n.eqs <;> rw [hrf] at hsr hrr
     all_goals
      refine u4 Tryz.func3 k3 rfl ?_
      repeat' (first
       | ((with_reducible refine o0 ?rdq ?_); (case rdq => refine m9 rfl ?_ ?_ <;> simp only [Option.isSome_some, beq_self_eq_true, hncl, i6, f0, hmcl, hml, hmt, hmp, hic, SXR, simprocAttr]))
       | (with_reducible refine b8 (hsm) (by simp only [SXR, hncl, hmcl, hic]) (by simp only [SXR, hncl, hmcl, hic]) ?_)
       | (with_reducible refine b8 (hso) (by simp only [SXR, hncl, hmcl, hic]) (by simp only [SXR, hncl, hmcl, hic]) ?_)
       | (with_reducible refine b8 (hro) (by simp only [SXR, hncl, hmcl, hic]) (by simp only [SXR, hncl, hmcl, hic]) ?_)
       | (with_reducible refine b8 (hnd) (by simp only [SXR, hncl, hmcl, hic]) (by simp only [SXR, hncl, hmcl, hic]) ?_)
       | (with_reducible refine b8 (hrn) (by simp only [SXR, hncl, hmcl, hic]) (by simp only [SXR, hncl, hmcl, hic]) ?_)
       | (with_reducible refine b8 (hsr) (by simp only [SXR, hncl, hmcl, hic]) (by simp only [SXR, hncl, hmcl, hic]) ?_)
       | (with_reducible refine b8 (hrr) (by simp only [SXR, hncl, hmcl, hic]) (by simp only [SXR, hncl, hmcl, hic]) ?_)
       | (with_reducible refine b8 (h4) (by simp only [SXR, hncl, hmcl, hic]) (by simp only [SXR, hncl, hmcl, hic]) ?_)
       | (with_reducible refine b8 (hsame) (by simp only [SXR, hncl, hmcl, hic]) (by simp only [SXR, hncl, hmcl, hic]) ?_)
       | (with_reducible refine b8 (haw) (by simp only [SXR, hncl, hmcl, hic]) (by simp only [SXR, hncl, hmcl, hic]) ?_)
       | (simp only [c3, beq_self_eq_true, hncl, i6, f0, hmcl, hml, hmt, hmp, hic, SXR, simprocAttr]))
end Go.Proofs.YtpbgbokclgbdlaaGreatDoor
