/-
  The parts of a node, in plain words: each delay once, in order, with equal initial values and clocks.
  The law on the parts of a node: each delay once, with equal initial values and clocks; up to its closed run.
-/
import Derived.Test.YthleepdlddlieaaGreatDoorMf
set_option linter.unusedSimpArgs false
set_option linter.unusedVariables false
namespace Go.Proofs.YthleepdlddlieaaGreatDoor
open Go Go.B
theorem eqB_eq {α : Type} {f : α → α → Bool} (hf : ∀ x y, f x y = true → x = y) : ∀ {a b : List α}, eqB f a b = true → a = b
  | [], [], _ => rfl
  | [], _ :: _, h => by simp [eqB] at h
  | _ :: _, [], h => by simp [eqB] at h
  | x :: a, y :: b, h => by
    simp only [eqB, Bool.and_eq_true] at h
    rw [hf x y h.1, eqB_eq hf h.2]
theorem eqStr_eq {s t : Str} (h : eqStr s t = true) : s = t := by
  simp only [eqStr, Bool.and_eq_true, beq_iff_eq] at h
  exact Prod.ext h.1 h.2
theorem eqOn_eq (o p : On) (h : eqOn o p = true) : o = p := by
  obtain ⟨a, b, c⟩ := o
  obtain ⟨a', b', c'⟩ := p
  simp only [eqOn, Bool.and_eq_true, beq_iff_eq] at h
  obtain ⟨⟨h1, h2⟩, h3⟩ := h
  rw [eqStr_eq h1, h2, h3]
theorem eqOn_refl' (o : On) : eqOn o o = true := by simp [eqOn, eqStr]
theorem cks_refl (l : List On) : eqB eqOn l l = true := eqB_refl l (fun o _ => eqOn_refl' o)
theorem cmpB_eq {dl : List Dl} {p : List Nat} {x y : Dl} (h : cmpB dl p x y = true) : x.q.init = y.q.init ∧ x.q.ck = y.q.ck := by
  simp only [cmpB, Bool.and_eq_true, beq_iff_eq] at h
  exact ⟨h.1.1.1, eqB_eq eqOn_eq h.1.2⟩
/-- a part as a list that is sieved -/
def pz (dl : List Dl) (p : List Nat) (i : Nat) : List (Dl × Nat) := (dl.zip p).filter fun z => z.2 == i
theorem grpN_zip {dl : List Dl} {p : List Nat} {i : Nat} (hl : p.length = dl.length) : ∀ k, k ≤ dl.length → grpN dl p i k = (((dl.zip p).take k).filter fun z => z.2 == i).map fun z => z.1.ix
  | 0, _ => by simp [grpN]
  | k + 1, h => by
    have hx : dl[k]? = some dl[k] := by simp
    have hm : p[k]? = some (p[k]'(by omega)) := by simp
    have hz : (dl.zip p)[k]? = some (dl[k], p[k]'(by omega)) := by rw [List.getElem?_zip_eq_some]; exact ⟨hx, hm⟩
    rw [grpN_succ hx hm, grpN_zip hl k (by omega), List.take_add_one, hz, List.filter_append, List.map_append]
    congr 1
    by_cases e : (p[k]'(by omega)) = i
    · rw [if_pos e]; simp [e]
    · rw [if_neg e]; simp [e]
theorem grp_zip {dl : List Dl} {p : List Nat} {i : Nat} (hl : p.length = dl.length) : grp dl p i = (pz dl p i).map fun z => z.1.ix := by
  have h := grpN_zip (i := i) hl dl.length (Nat.le_refl _)
  rw [show grp dl p i = grpN dl p i dl.length from rfl, h, List.take_of_length_le (by simp [hl])]
  rfl
theorem pz_mem {dl : List Dl} {p : List Nat} {i : Nat} {z : Dl × Nat} (h : z ∈ pz dl p i) : z.2 = i ∧ ∃ k : Nat, dl[k]? = some z.1 ∧ p[k]? = some z.2 := by
  simp only [pz, List.mem_filter, beq_iff_eq] at h
  obtain ⟨k, hk⟩ := List.getElem?_of_mem h.1
  rw [List.getElem?_zip_eq_some] at hk
  exact ⟨h.2, k, hk⟩
theorem dlL_asc {n : NNode} : ∀ (l : List NEqn) (i : Nat), (dlL n i l).Pairwise (fun a b => a.ix < b.ix) ∧ ∀ d, d ∈ dlL n i l → i ≤ d.ix
  | [], i => ⟨List.Pairwise.nil, fun d h => by cases h⟩
  | q :: l, i => by
    obtain ⟨h1, h2⟩ := dlL_asc (n := n) l (i + 1)
    simp only [dlL]
    split
    · refine ⟨List.pairwise_cons.2 ⟨fun d hd => ?_, h1⟩, fun d hd => ?_⟩
      · have := h2 d hd
        show i < d.ix
        omega
      · rcases List.mem_cons.1 hd with rfl | hd
        · exact Nat.le_refl i
        · have := h2 d hd; omega
    · exact ⟨h1, fun d hd => by have := h2 d hd; omega⟩
theorem grp_asc {n : NNode} {p : List Nat} {i : Nat} (hl : p.length = (dlOf n).length) : (grp (dlOf n) p i).Pairwise (· < ·) := by
  rw [grp_zip hl, List.pairwise_map]
  refine List.Pairwise.filter _ ?_
  have h1 : ((dlOf n).zip p).map Prod.fst = dlOf n := List.map_fst_zip (by omega)
  have h2 := (dlL_asc (n := n) n.eqs 0).1
  rw [show dlL n 0 n.eqs = dlOf n from rfl, ← h1, List.pairwise_map] at h2
  exact h2
/-- all of a part are like its first -/
theorem part_like {dl : List Dl} {p : List Nat} (hl : p.length = dl.length) (hfix : nextP dl p = p) : ∀ (k i : Nat) (x : Dl), dl[k]? = some x → p[k]? = some i → ∃ y, dl[i]? = some y ∧ x.q.init = y.q.init ∧ x.q.ck = y.q.ck := by
  intro k
  induction k using Nat.strongRecOn with
  | ind k ih =>
    intro i x hx hp
    have hk := (List.getElem?_eq_some_iff.1 hx).1
    rcases nextP_get hl hk with ⟨h1, _⟩ | ⟨m, j, hm, ho, h2, h3⟩
    · rw [hfix, hp] at h1
      cases h1
      exact ⟨x, hx, rfl, rfl⟩
    · rw [hfix] at h2 h3
      rw [hp] at h3
      cases h3
      obtain ⟨x', y', a, q1, q2, _, _, q5⟩ := okK_part ho
      rw [hx] at q1
      cases q1
      obtain ⟨y, r1, r2, r3⟩ := ih m hm _ y' q2 h2
      obtain ⟨s1, s2⟩ := cmpB_eq q5
      exact ⟨y, r1, s1.trans r2, s2.trans r3⟩
theorem outs_mem {dl : List Dl} {p : List Nat} {g : List Nat} : ∀ {i : Nat}, g ∈ outsN dl p i → g ≠ [] ∧ ∃ j, g = grp dl p j
  | 0, h => by cases h
  | i + 1, h => by
    simp only [outsN] at h
    rcases List.mem_append.1 h with h | h
    · exact outs_mem h
    · split at h
      · cases h
      · rename_i hne
        rw [List.mem_singleton] at h
        exact ⟨by rw [h]; exact hne, i, h⟩
/-- what is known of a part -/
theorem part_spec {n : NNode} {g : List Nat} (h : g ∈ partsOf n) : g ≠ [] ∧ g.Pairwise (· < ·) ∧ ∃ (c : Int) (ck : List On), ∀ m, m ∈ g → ∃ q, n.eqs[m]? = some q ∧ q.init = c ∧ q.ck = ck := by
  obtain ⟨hfix, hl, _⟩ := fin_fix (zer_len n) (zer_vld n)
  obtain ⟨hne, j, rfl⟩ := outs_mem h
  refine ⟨hne, grp_asc hl, ?_⟩
  have key : ∀ m, m ∈ grp (dlOf n) (fin (dlOf n) (zer n)) j → ∃ x y : Dl, n.eqs[m]? = some x.q ∧ (dlOf n)[j]? = some y ∧ x.q.init = y.q.init ∧ x.q.ck = y.q.ck := by
    intro m hm
    rw [grp_zip hl] at hm
    obtain ⟨z, hz, rfl⟩ := List.mem_map.1 hm
    obtain ⟨h1, k, h2, h3⟩ := pz_mem hz
    rw [h1] at h3
    obtain ⟨y, r1, r2, r3⟩ := part_like hl hfix k j z.1 h2 h3
    obtain ⟨k', e1, e2, _, _⟩ := dlL_mem (List.mem_of_getElem? h2)
    have e : z.1.ix = k' := by omega
    exact ⟨z.1, y, by rw [e]; exact e2, r1, r2, r3⟩
  obtain ⟨m0, hm0⟩ := List.exists_mem_of_ne_nil _ hne
  obtain ⟨_, y, _, hy, _⟩ := key m0 hm0
  refine ⟨y.q.init, y.q.ck, fun m hm => ?_⟩
  obtain ⟨x, y', h1, h2, h3, h4⟩ := key m hm
  rw [hy] at h2
  cases h2
  exact ⟨x.q, h1, h3, h4⟩
/- each delay once -/
theorem countP_split {α : Type} (P Q R : α → Bool) (h : ∀ x, P x = (Q x || R x)) (hd : ∀ x, (Q x && R x) = false) : ∀ l : List α, l.countP P = l.countP Q + l.countP R
  | [] => rfl
  | x :: l => by
    rw [List.countP_cons, List.countP_cons, List.countP_cons, countP_split P Q R h hd l]
    have h1 := h x
    have h2 := hd x
    cases hq : Q x <;> cases hr : R x <;> simp_all <;> omega
theorem outs_count {dl : List Dl} {p : List Nat} (hl : p.length = dl.length) (m : Nat) : ∀ i, ((outsN dl p i).flatten).count m = (dl.zip p).countP fun z => decide (z.2 < i) && z.1.ix == m
  | 0 => by simp [outsN]
  | i + 1 => by
    simp only [outsN, List.flatten_append, List.count_append, outs_count hl m i]
    have e : ((if grp dl p i = [] then [] else [grp dl p i]).flatten).count m = (dl.zip p).countP fun z => z.2 == i && z.1.ix == m := by
      have e1 : (if grp dl p i = [] then [] else [grp dl p i]).flatten = grp dl p i := by split <;> simp_all
      rw [e1, grp_zip hl, List.count_eq_countP, List.countP_map, pz, List.countP_filter]
      congr 1
      funext z
      simp only [Function.comp_apply, Bool.and_comm]
    rw [e]
    refine (countP_split _ _ _ (fun z => ?_) (fun z => ?_) _).symm
    · by_cases h1 : z.2 < i
      · have : z.2 < i + 1 := by omega
        have h2 : (z.2 == i) = false := by simp; omega
        simp [h1, this, h2]
      · by_cases h2 : z.2 = i
        · simp [h2]
        · have : ¬ z.2 < i + 1 := by omega
          simp [h1, h2, this]
    · by_cases h1 : z.2 < i
      · have h2 : (z.2 == i) = false := by simp; omega
        simp [h2]
      · simp [h1]
theorem dlL_count {n : NNode} (m : Nat) : ∀ (l : List NEqn) (i : Nat), ((dlL n i l).map fun d => d.ix).count m = if i ≤ m then (match l[m - i]? with | some q => if isD q = true then 1 else 0 | none => 0) else 0
  | [], i => by simp [dlL]
  | q :: l, i => by
    simp only [dlL]
    have ih := dlL_count (n := n) m l (i + 1)
    by_cases hm : i = m
    · subst hm
      have hno : ¬ i + 1 ≤ i := by omega
      rw [if_neg hno] at ih
      rw [if_pos (Nat.le_refl _), Nat.sub_self, List.getElem?_cons_zero]
      simp only
      split
      · rw [List.map_cons, List.count_cons, ih]; simp [mkDl]
      · exact ih
    · have hc : ∀ l' : List Nat, (i :: l').count m = l'.count m := fun l' => by rw [List.count_cons]; simp [hm]
      have e : (if i ≤ m then (match (q :: l)[m - i]? with | some q => if isD q = true then 1 else 0 | none => 0) else 0) = (if i + 1 ≤ m then (match l[m - (i + 1)]? with | some q => if isD q = true then 1 else 0 | none => 0) else 0) := by
        by_cases h1 : i + 1 ≤ m
        · have e2 : m - i = m - (i + 1) + 1 := by omega
          rw [if_pos h1, if_pos (by omega), e2, List.getElem?_cons_succ]
        · rw [if_neg h1, if_neg (by omega)]
      rw [e, ← ih]
      split
      · rw [List.map_cons]; exact hc _
      · rfl
theorem parts_count (n : NNode) (m : Nat) : ((partsOf n).flatten).count m = match n.eqs[m]? with | some q => if isD q = true then 1 else 0 | none => 0 := by
  obtain ⟨_, hl, hv⟩ := fin_fix (zer_len n) (zer_vld n)
  unfold partsOf
  rw [outs_count hl]
  have h1 : ((dlOf n).zip (fin (dlOf n) (zer n))).map Prod.fst = dlOf n := List.map_fst_zip (by omega)
  have h2 := dlL_count (n := n) m n.eqs 0
  rw [if_pos (Nat.zero_le _), Nat.sub_zero] at h2
  rw [← h2, show dlL n 0 n.eqs = dlOf n from rfl]
  conv => rhs; rw [← h1]
  rw [List.map_map, List.count_eq_countP, List.countP_map]
  refine List.countP_congr (fun z hz => ?_)
  obtain ⟨k, hk⟩ := List.getElem?_of_mem hz
  rw [List.getElem?_zip_eq_some] at hk
  have := hv k z.2 hk.2
  have hkl := (List.getElem?_eq_some_iff.1 hk.1).1
  have hlt : z.2 < (dlOf n).length := by omega
  simp [hlt]
/-- how often each number occurs -/
def cntL (len : Nat) (F : List Nat) : List Nat := (List.range len).map fun i => F.count i
theorem cntL_len (len : Nat) (F : List Nat) : (cntL len F).length = len := by simp [cntL]
theorem cntL_nil (len : Nat) : cntL len [] = List.replicate len 0 := by
  apply List.ext_getElem?
  intro i
  simp only [cntL, List.count_nil, List.getElem?_map, List.getElem?_replicate]
  by_cases h : i < len <;> simp [h]
theorem cntL_get {len i : Nat} {F : List Nat} (h : i < len) : (cntL len F)[i]? = some (F.count i) := by simp [cntL, h]
theorem cntL_snoc {len m : Nat} {F : List Nat} (h : m < len) : (cntL len F).set m (F.count m + 1) = cntL len (F ++ [m]) := by
  apply List.ext_getElem?
  intro i
  by_cases hi : i < len
  · rw [cntL_get hi, List.getElem?_set]
    by_cases e : m = i
    · subst e
      rw [if_pos rfl, if_pos (by rw [cntL_len]; exact h)]
      simp [List.count_append]
    · rw [if_neg e, cntL_get hi, List.count_append]
      simp [e]
  · rw [List.getElem?_eq_none (by rw [List.length_set, cntL_len]; omega), List.getElem?_eq_none (by rw [cntL_len]; omega)]
theorem part_len {n : NNode} {g : List Nat} (h : g ∈ partsOf n) : g.length ≤ n.eqs.length := by
  obtain ⟨_, j, rfl⟩ := outs_mem h
  have := grpN_len (dl := dlOf n) (p := fin (dlOf n) (zer n)) (i := j) (dlOf n).length
  have h2 := dlL_len (n := n) n.eqs 0
  have : (grp (dlOf n) (fin (dlOf n) (zer n)) j).length ≤ (dlOf n).length := this
  have : (dlOf n).length ≤ n.eqs.length := h2
  omega
theorem parts_len (n : NNode) : (partsOf n).length ≤ n.eqs.length := by
  have := outsN_len (dl := dlOf n) (p := fin (dlOf n) (zer n)) (dlOf n).length
  have h2 := dlL_len (n := n) n.eqs 0
  have : (partsOf n).length ≤ (dlOf n).length := this
  have : (dlOf n).length ≤ n.eqs.length := h2
  omega
theorem parts_one (n : NNode) (m : Nat) : ((partsOf n).flatten).count m ≤ 1 := by
  rw [parts_count]
  split
  · split <;> omega
  · omega
theorem intRows_get {g : List Nat} {k m : Nat} (h : g[k]? = some m) : (intRows g)[k]? = some [.i .i64 (m : Int)] := by simp [intRows, h]
theorem intRows_len (g : List Nat) : (intRows g).length = g.length := by simp [intRows]
theorem irow_cl (g : List Nat) : clL (irow g) = true := by
  have : ∀ g : List Nat, clR (intRows g) = true := by
    intro g
    induction g with
    | nil => simp only [intRows, List.map_nil, clR]
    | cons m g ih => simp only [intRows, List.map_cons, clR, clL, V.cl, Bool.true_and] at ih ⊢; exact ih
  simp only [irow, clL, V.cl, this, Bool.and_self]
theorem irows_cl (l : List (List Nat)) : clR (l.map irow) = true := clR_map irow_cl l
set_option maxRecDepth 10000 in
set_option maxHeartbeats 2000000 in
theorem groups_pc (n : NNode) (hok : n.ok) (haw : PC Tryz.prog 6 [] (.b true)) : PC Tryz.prog 4 [.ag n.row] (.b true) := by
  have hlg := large_pc n hok
  cases hlb : largeB n with
  | true =>
    rw [hlb] at hlg
    refine pc_of Tryz.func4 k4 rfl ?_
    repeat' (first
      | ((with_reducible refine k_cons ?rdq ?_); (case rdq => refine rck_mk rfl ?_ ?_ <;> simp only [Option.isSome_some, nnode_len, nnode_take, nnode_cl, SXR, noA, isAl, kA, udf, AOp.dst, Nat.beq, putAt, bldE, evIo, isNil, Nat.ble, Int.reduceAdd, Int.reduceSub, Int.reduceNeg, Int.reduceBNe, Nat.reduceEqDiff, Nat.reduceSub, Nat.reduceAdd, Nat.reduceLeDiff, Nat.reduceBEq, Nat.reduceLT, Nat.reduceMul, Int.reduceBEq, Int.reduceLT, Int.reduceLE, reduceIte, reduceCtorEq]))
      | (with_reducible refine pcl_intro (hlg) (by simp only [SXR, nnode_len, nnode_take, nnode_cl]) (by simp only [SXR, nnode_len, nnode_take, nnode_cl]) ?_)
      | (with_reducible refine pcl_intro (haw) (by simp only [SXR, nnode_len, nnode_take, nnode_cl]) (by simp only [SXR, nnode_len, nnode_take, nnode_cl]) ?_)
      | (simp only [c4, nnode_len, nnode_take, nnode_cl, SXR, noA, isAl, kA, udf, AOp.dst, Nat.beq, putAt, bldE, evIo, isNil, Nat.ble, Int.reduceAdd, Int.reduceSub, Int.reduceNeg, Int.reduceBNe, Nat.reduceEqDiff, Nat.reduceSub, Nat.reduceAdd, Nat.reduceLeDiff, Nat.reduceBEq, Nat.reduceLT, Nat.reduceMul, Int.reduceBEq, Int.reduceLT, Int.reduceLE, reduceIte, reduceCtorEq]))
  | false =>
  rw [hlb] at hlg
  have hsp := sparts_pc n hok
  obtain ⟨_, _, _, o4, o5⟩ := hok
  have hne := o4
  unfold Lst.ok at hne
  have hpl := parts_len n
  have hpc := parts_count n
  have hp1 := parts_one n
  have hsp2 := fun g (h : g ∈ partsOf n) => part_spec h
  have hgl := fun g (h : g ∈ partsOf n) => part_len h
  generalize partsOf n = ps at hsp hpl hpc hp1 hsp2 hgl
  have hmk : ∀ hs a, mksB hs a 1 8 [.i .i64 0] (.i .i64 (n.eqs.length : Int)) (.i .i64 (n.eqs.length : Int)) = (hset hs a (.c false (ncs (cntL n.eqs.length [])))).map fun h => (n.eqs.length, h) := by
    intro hs a
    have hq : decide (n.eqs.length ≤ 1073741824 ∧ 8 * n.eqs.length ≤ 281474976710656 ∧ [V.i .i64 0].length = 1) = true := decide_eq_true ⟨by omega, by omega, rfl⟩
    rw [mks_n hq, ncs_zero, cntL_nil]
  refine pc_of Tryz.func4 k4 rfl ?_
  repeat' (first
    | ((with_reducible refine k_cons ?rdq ?_); (case rdq => refine rck_mk rfl ?_ ?_ <;> simp only [Option.isSome_some, nnode_len, nnode_take, nn4, nnode_cl, irows_cl, List.length_map, hmk, SXR, noA, isAl, kA, udf, AOp.dst, Nat.beq, putAt, bldE, evIo, isNil, Nat.ble, Int.reduceAdd, Int.reduceSub, Int.reduceNeg, Int.reduceBNe, Nat.reduceEqDiff, Nat.reduceSub, Nat.reduceAdd, Nat.reduceLeDiff, Nat.reduceBEq, Nat.reduceLT, Nat.reduceMul, Int.reduceBEq, Int.reduceLT, Int.reduceLE, reduceIte, reduceCtorEq]))
    | (with_reducible refine pcl_intro (hlg) (by simp only [SXR, nnode_len, nnode_take, nn4, nnode_cl, irows_cl, List.length_map, hmk]) (by simp only [SXR, nnode_len, nnode_take, nn4, nnode_cl, irows_cl, List.length_map, hmk]) ?_)
    | (with_reducible refine pcl_intro (hsp) (by simp only [SXR, nnode_len, nnode_take, nn4, nnode_cl, irows_cl, List.length_map, hmk]) (by simp only [SXR, nnode_len, nnode_take, nn4, nnode_cl, irows_cl, List.length_map, hmk]) ?_)
    | (simp only [c4, nnode_len, nnode_take, nn4, nnode_cl, irows_cl, List.length_map, hmk, SXR, noA, isAl, kA, udf, AOp.dst, Nat.beq, putAt, bldE, evIo, isNil, Nat.ble, Int.reduceAdd, Int.reduceSub, Int.reduceNeg, Int.reduceBNe, Nat.reduceEqDiff, Nat.reduceSub, Nat.reduceAdd, Nat.reduceLeDiff, Nat.reduceBEq, Nat.reduceLT, Nat.reduceMul, Int.reduceBEq, Int.reduceLT, Int.reduceLE, reduceIte, reduceCtorEq]))
  refine Lp_ind (X := Nat) (fun i ll hs => ∃ js : List O, Hd (fun j => [j 0, .p 0 0, .b false, .ts (ps.map irow), .sl 1 0 1 n.eqs.length none, .i .i64 (i : Int), j 6, j 7, j 8, j 9, j 10, j 11, j 12, j 13, j 14, j 15, j 16, j 17, j 18, j 19, j 20, j 21, j 22, j 23, j 24, j 25, j 26, j 27, j 28, j 29, j 30, j 31, j 32, j 33, j 34, j 35, j 36, j 37, j 38, j 39, j 40, j 41, j 42, j 43, j 44, j 45, j 46, j 47, j 48, j 49, j 50, j 51, j 52, j 53, j 54, j 55, j 56, j 57, j 58, j 59, j 60, j 61, j 62, j 63, j 64, j 65, j 66, j 67, j 68, j 69, j 70, j 71, j 72, j 73, j 74, j 75, j 76, j 77, j 78, j 79, j 80, j 81, j 82, j 83, j 84, j 85, j 86, j 87, j 88, j 89, j 90, j 91, j 92, j 93, j 94, j 95, j 96, j 97, j 98, j 99, j 100, j 101, j 102, j 103, j 104, j 105, j 106, j 107, j 108, j 109, j 110, j 111, j 112, j 113, j 114, j 115, j 116, j 117, j 118, j 119, j 120, j 121, j 122, j 123, j 124, j 125, j 126, j 127, j 128, j 129, j 130, j 131, j 132]) ll ∧ hs = .c false n.row :: .c false (ncs (cntL n.eqs.length (ps.take i).flatten)) :: js)
    (fun i => i ≤ ps.length) (fun i => ps.length - i) ?_ 0 _ _ (by exact ⟨[], rfl, rfl⟩) (Nat.zero_le _)
  rintro i _ _ ⟨js, e, rfl⟩ hi IH
  obtain ⟨j, rfl⟩ := e.open
  clear e
  by_cases hlt : i < ps.length
  · obtain ⟨g, hg, hgm⟩ := ats hlt
    have hgr := mg (f := irow) hg
    have hd := ltd hlt
    have hw := wrap_big (n := i) (by omega)
    obtain ⟨hgn, hasc, c, ck, hmem⟩ := hsp2 g hgm
    have hglen := hgl g hgm
    have hflat : (ps.take (i + 1)).flatten = (ps.take i).flatten ++ g := by rw [List.take_add_one, hg]; simp
    have hrest : ps.flatten = (ps.take i).flatten ++ (g ++ (ps.drop (i + 1)).flatten) := by
      conv => lhs; rw [← List.take_append_drop i ps, drop_at hg]
      simp
    repeat' (first
      | ((with_reducible refine k_cons ?rdq ?_); (case rdq => refine rck_mk rfl ?_ ?_ <;> simp only [Option.isSome_some, List.length_map, hd, SXR, noA, isAl, kA, udf, AOp.dst, Nat.beq, putAt, bldE, evIo, isNil, Nat.ble, Int.reduceAdd, Int.reduceSub, Int.reduceNeg, Int.reduceBNe, Nat.reduceEqDiff, Nat.reduceSub, Nat.reduceAdd, Nat.reduceLeDiff, Nat.reduceBEq, Nat.reduceLT, Nat.reduceMul, Int.reduceBEq, Int.reduceLT, Int.reduceLE, reduceIte, reduceCtorEq]))
      | (simp only [c4, List.length_map, hd, SXR, noA, isAl, kA, udf, AOp.dst, Nat.beq, putAt, bldE, evIo, isNil, Nat.ble, Int.reduceAdd, Int.reduceSub, Int.reduceNeg, Int.reduceBNe, Nat.reduceEqDiff, Nat.reduceSub, Nat.reduceAdd, Nat.reduceLeDiff, Nat.reduceBEq, Nat.reduceLT, Nat.reduceMul, Int.reduceBEq, Int.reduceLT, Int.reduceLE, reduceIte, reduceCtorEq]))
    refine Lp_ind (X := Nat) (fun k ll hs => ∃ js : List O, Hd (fun j => [j 0, .p 0 0, .b false, .ts (ps.map irow), .sl 1 0 1 n.eqs.length none, .i .i64 (i : Int), .i .i64 (k : Int), j 7, j 8, j 9, j 10, j 11, j 12, j 13, j 14, j 15, j 16, j 17, j 18, j 19, j 20, j 21, j 22, j 23, j 24, j 25, j 26, j 27, j 28, j 29, j 30, j 31, j 32, j 33, j 34, j 35, j 36, j 37, j 38, j 39, j 40, j 41, j 42, j 43, j 44, j 45, j 46, j 47, j 48, j 49, j 50, j 51, j 52, j 53, j 54, j 55, j 56, j 57, j 58, j 59, j 60, j 61, j 62, j 63, j 64, j 65, j 66, j 67, j 68, j 69, j 70, j 71, j 72, j 73, j 74, j 75, j 76, j 77, j 78, j 79, j 80, j 81, j 82, j 83, j 84, j 85, j 86, j 87, j 88, j 89, j 90, j 91, j 92, j 93, j 94, j 95, j 96, j 97, j 98, j 99, j 100, j 101, j 102, j 103, j 104, j 105, j 106, j 107, j 108, j 109, j 110, j 111, j 112, j 113, j 114, j 115, j 116, j 117, j 118, j 119, j 120, j 121, j 122, j 123, j 124, j 125, j 126, j 127, j 128, j 129, j 130, j 131, j 132]) ll ∧ hs = .c false n.row :: .c false (ncs (cntL n.eqs.length ((ps.take i).flatten ++ g.take k))) :: js)
      (fun k => k ≤ g.length) (fun k => g.length - k) ?_ 0 _ _ (by exact ⟨js, rfl, by rw [List.take_zero, List.append_nil]⟩) (Nat.zero_le _)
    rintro k _ _ ⟨js, e, rfl⟩ hk IK
    obtain ⟨j, rfl⟩ := e.open
    clear e
    by_cases hkl : k < g.length
    · clear IH
      obtain ⟨m, hm, hmg⟩ := ats hkl
      obtain ⟨m0, hm0, hm0g⟩ := ats (show 0 < g.length by omega)
      obtain ⟨q, hq, hqi, hqc⟩ := hmem m hmg
      obtain ⟨q0, hq0, hqi0, hqc0⟩ := hmem m0 hm0g
      have hqr := mg (f := NEqn.row) hq
      have hqr0 := mg (f := NEqn.row) hq0
      have hml := (List.getElem?_eq_some_iff.1 hq).1
      have hmr := intRows_get hm
      have hmr0 := intRows_get hm0
      have hdk := ltd hkl
      have hwk := wrap_big (n := k) (by omega)
      have hneg : decide ((m : Int) < 0) = false := by simp
      have hge : decide ((m : Int) ≥ (n.eqs.length : Int)) = false := by simp; omega
      have hia : ∀ a w wd c, iadE wd (.sl a 0 w n.eqs.length c) (.i .i64 (m : Int)) = some (.p a (m * wd)) := fun a w wd c => iad_sn hml
      have hF1 : ((ps.take i).flatten ++ g.take k).count m ≤ 1 := by
        have := hp1 m
        rw [hrest, ← List.append_assoc, ← List.take_append_drop k g] at this
        simp only [List.count_append, List.append_assoc] at this ⊢
        omega
      have hld : ldE.ldO 1 false m (.c false (ncs (cntL n.eqs.length ((ps.take i).flatten ++ g.take k)))) = some (.i .i64 ((((ps.take i).flatten ++ g.take k).count m : Nat) : Int)) := ncs_ld (cntL_get hml)
      have hwc := wrap_big (n := ((ps.take i).flatten ++ g.take k).count m) (by omega)
      have hst : ∀ hs b, stpO hs b 1 m [.i .i64 ((((ps.take i).flatten ++ g.take k).count m + 1 : Nat) : Int)] (.c false (ncs (cntL n.eqs.length ((ps.take i).flatten ++ g.take k)))) = hset hs b (.c false (ncs (cntL n.eqs.length ((ps.take i).flatten ++ g.take (k + 1))))) := by
        intro hs b
        have e1 : (ps.take i).flatten ++ g.take (k + 1) = ((ps.take i).flatten ++ g.take k) ++ [m] := by rw [List.take_add_one, hm]; simp
        rw [ncs_stp (by rw [cntL_len]; exact hml), cntL_snoc hml, e1]
      generalize ((ps.take i).flatten ++ g.take k) = F at hld hwc hst hF1
      generalize hF' : ((ps.take i).flatten ++ g.take (k + 1)) = F' at hst
      have hini : (q0.init == q.init) = true := by rw [hqi, hqi0]; simp
      have hck := clocks_pc q0.ck q.ck (o5 q0 (List.mem_of_getElem? hq0)).2.2.2.2.1
      rw [hqc, hqc0, cks_refl] at hck
      have hck0 := neqn_ck q0
      have hck1 := neqn_ck q
      rw [hqc0] at hck0
      rw [hqc] at hck1
      cases k with
      | zero =>
        have hk0 : decide (((0 : Nat) : Int) > 0) = false := by decide
        have hk0' : decide ((0 : Int) > 0) = false := by decide
        have hdk0 : decide ((0 : Int) < (g.length : Int)) = true := hdk
        repeat' (first
          | ((with_reducible refine k_cons ?rdq ?_); (case rdq => refine rck_mk rfl ?_ ?_ <;> simp only [Option.isSome_some, List.length_map, hgr, irow, intRows_len, hdk, hwk, hmr, hmr0, hneg, hge, hk0, hk0', hdk0, wrap_1, beq_self_eq_true, hia, hld, hwc, hst, hqr, hqr0, hini, hck0, hck1, bne, nnode_len, nn4, neqn_len, neqn_take, neqn_init', put13, ons_cl, Nat.mul_one, Nat.add_assoc, SXR, noA, isAl, kA, udf, AOp.dst, Nat.beq, putAt, bldE, evIo, isNil, Nat.ble, Int.reduceAdd, Int.reduceSub, Int.reduceNeg, Int.reduceBNe, Nat.reduceEqDiff, Nat.reduceSub, Nat.reduceAdd, Nat.reduceLeDiff, Nat.reduceBEq, Nat.reduceLT, Nat.reduceMul, Int.reduceBEq, Int.reduceLT, Int.reduceLE, reduceIte, reduceCtorEq]))
          | (with_reducible refine pcl_intro (hck) (by simp only [SXR, List.length_map, hgr, irow, intRows_len, hdk, hwk, hmr, hmr0, hneg, hge, hk0, hk0', hdk0, wrap_1, beq_self_eq_true, hia, hld, hwc, hst, hqr, hqr0, hini, hck0, hck1, bne, nnode_len, nn4, neqn_len, neqn_take, neqn_init', put13, ons_cl, Nat.mul_one, Nat.add_assoc]) (by simp only [SXR, List.length_map, hgr, irow, intRows_len, hdk, hwk, hmr, hmr0, hneg, hge, hk0, hk0', hdk0, wrap_1, beq_self_eq_true, hia, hld, hwc, hst, hqr, hqr0, hini, hck0, hck1, bne, nnode_len, nn4, neqn_len, neqn_take, neqn_init', put13, ons_cl, Nat.mul_one, Nat.add_assoc]) ?_)
          | (simp only [c4, List.length_map, hgr, irow, intRows_len, hdk, hwk, hmr, hmr0, hneg, hge, hk0, hk0', hdk0, wrap_1, beq_self_eq_true, hia, hld, hwc, hst, hqr, hqr0, hini, hck0, hck1, bne, nnode_len, nn4, neqn_len, neqn_take, neqn_init', put13, ons_cl, Nat.mul_one, Nat.add_assoc, SXR, noA, isAl, kA, udf, AOp.dst, Nat.beq, putAt, bldE, evIo, isNil, Nat.ble, Int.reduceAdd, Int.reduceSub, Int.reduceNeg, Int.reduceBNe, Nat.reduceEqDiff, Nat.reduceSub, Nat.reduceAdd, Nat.reduceLeDiff, Nat.reduceBEq, Nat.reduceLT, Nat.reduceMul, Int.reduceBEq, Int.reduceLT, Int.reduceLE, reduceIte, reduceCtorEq]))
        rw [← hF']
        exact IK (0 + 1) _ _ (by exact ⟨_, rfl, rfl⟩) hkl (by omega)
      | succ k =>
        have hk0 : decide (((k + 1 : Nat) : Int) > 0) = true := by simp
        obtain ⟨m', hm', _⟩ := ats (show k < g.length by omega)
        have hmr' := intRows_get hm'
        have hw1 : IntKind.i64.wrap (((k + 1 : Nat) : Int) - 1) = (k : Int) := by rw [IntKind.wrap_i64]; omega
        have hle : decide ((m : Int) ≤ (m' : Int)) = false := by
          have h1 := (List.getElem?_eq_some_iff.1 hm').2
          have h2 := (List.getElem?_eq_some_iff.1 hm).2
          have := List.pairwise_iff_getElem.1 hasc k (k + 1) (by omega) hkl (by omega)
          rw [h1, h2] at this
          simp; omega
        repeat' (first
          | ((with_reducible refine k_cons ?rdq ?_); (case rdq => refine rck_mk rfl ?_ ?_ <;> simp only [Option.isSome_some, List.length_map, hgr, irow, intRows_len, hdk, hwk, hmr, hmr0, hmr', hw1, hle, hneg, hge, hk0, hia, hld, hwc, hst, hqr, hqr0, hini, hck0, hck1, bne, nnode_len, nn4, neqn_len, neqn_take, neqn_init', put13, ons_cl, Nat.mul_one, Nat.add_assoc, SXR, noA, isAl, kA, udf, AOp.dst, Nat.beq, putAt, bldE, evIo, isNil, Nat.ble, Int.reduceAdd, Int.reduceSub, Int.reduceNeg, Int.reduceBNe, Nat.reduceEqDiff, Nat.reduceSub, Nat.reduceAdd, Nat.reduceLeDiff, Nat.reduceBEq, Nat.reduceLT, Nat.reduceMul, Int.reduceBEq, Int.reduceLT, Int.reduceLE, reduceIte, reduceCtorEq]))
          | (with_reducible refine pcl_intro (hck) (by simp only [SXR, List.length_map, hgr, irow, intRows_len, hdk, hwk, hmr, hmr0, hmr', hw1, hle, hneg, hge, hk0, hia, hld, hwc, hst, hqr, hqr0, hini, hck0, hck1, bne, nnode_len, nn4, neqn_len, neqn_take, neqn_init', put13, ons_cl, Nat.mul_one, Nat.add_assoc]) (by simp only [SXR, List.length_map, hgr, irow, intRows_len, hdk, hwk, hmr, hmr0, hmr', hw1, hle, hneg, hge, hk0, hia, hld, hwc, hst, hqr, hqr0, hini, hck0, hck1, bne, nnode_len, nn4, neqn_len, neqn_take, neqn_init', put13, ons_cl, Nat.mul_one, Nat.add_assoc]) ?_)
          | (simp only [c4, List.length_map, hgr, irow, intRows_len, hdk, hwk, hmr, hmr0, hmr', hw1, hle, hneg, hge, hk0, hia, hld, hwc, hst, hqr, hqr0, hini, hck0, hck1, bne, nnode_len, nn4, neqn_len, neqn_take, neqn_init', put13, ons_cl, Nat.mul_one, Nat.add_assoc, SXR, noA, isAl, kA, udf, AOp.dst, Nat.beq, putAt, bldE, evIo, isNil, Nat.ble, Int.reduceAdd, Int.reduceSub, Int.reduceNeg, Int.reduceBNe, Nat.reduceEqDiff, Nat.reduceSub, Nat.reduceAdd, Nat.reduceLeDiff, Nat.reduceBEq, Nat.reduceLT, Nat.reduceMul, Int.reduceBEq, Int.reduceLT, Int.reduceLE, reduceIte, reduceCtorEq]))
        rw [← hF']
        exact IK (k + 1 + 1) _ _ (by exact ⟨_, rfl, rfl⟩) hkl (by omega)
    · clear IK
      have hdk := ltn hkl
      have hgt : g.take k = g := List.take_of_length_le (by omega)
      rw [hgt, ← hflat]
      repeat' (first
        | ((with_reducible refine k_cons ?rdq ?_); (case rdq => refine rck_mk rfl ?_ ?_ <;> simp only [Option.isSome_some, List.length_map, hgr, irow, intRows_len, hdk, hw, SXR, noA, isAl, kA, udf, AOp.dst, Nat.beq, putAt, bldE, evIo, isNil, Nat.ble, Int.reduceAdd, Int.reduceSub, Int.reduceNeg, Int.reduceBNe, Nat.reduceEqDiff, Nat.reduceSub, Nat.reduceAdd, Nat.reduceLeDiff, Nat.reduceBEq, Nat.reduceLT, Nat.reduceMul, Int.reduceBEq, Int.reduceLT, Int.reduceLE, reduceIte, reduceCtorEq]))
        | (simp only [c4, List.length_map, hgr, irow, intRows_len, hdk, hw, SXR, noA, isAl, kA, udf, AOp.dst, Nat.beq, putAt, bldE, evIo, isNil, Nat.ble, Int.reduceAdd, Int.reduceSub, Int.reduceNeg, Int.reduceBNe, Nat.reduceEqDiff, Nat.reduceSub, Nat.reduceAdd, Nat.reduceLeDiff, Nat.reduceBEq, Nat.reduceLT, Nat.reduceMul, Int.reduceBEq, Int.reduceLT, Int.reduceLE, reduceIte, reduceCtorEq]))
      exact IH (i + 1) _ _ (by exact ⟨js, rfl, rfl⟩) hlt (by omega)
  · clear IH
    have hd := ltn hlt
    have hpt : ps.take i = ps := List.take_of_length_le (by omega)
    rw [hpt]
    repeat' (first
      | ((with_reducible refine k_cons ?rdq ?_); (case rdq => refine rck_mk rfl ?_ ?_ <;> simp only [Option.isSome_some, List.length_map, hd, SXR, noA, isAl, kA, udf, AOp.dst, Nat.beq, putAt, bldE, evIo, isNil, Nat.ble, Int.reduceAdd, Int.reduceSub, Int.reduceNeg, Int.reduceBNe, Nat.reduceEqDiff, Nat.reduceSub, Nat.reduceAdd, Nat.reduceLeDiff, Nat.reduceBEq, Nat.reduceLT, Nat.reduceMul, Int.reduceBEq, Int.reduceLT, Int.reduceLE, reduceIte, reduceCtorEq]))
      | (simp only [c4, List.length_map, hd, SXR, noA, isAl, kA, udf, AOp.dst, Nat.beq, putAt, bldE, evIo, isNil, Nat.ble, Int.reduceAdd, Int.reduceSub, Int.reduceNeg, Int.reduceBNe, Nat.reduceEqDiff, Nat.reduceSub, Nat.reduceAdd, Nat.reduceLeDiff, Nat.reduceBEq, Nat.reduceLT, Nat.reduceMul, Int.reduceBEq, Int.reduceLT, Int.reduceLE, reduceIte, reduceCtorEq]))
    refine Lp_ind (X := Nat) (fun i ll hs => ∃ js : List O, Hd (fun j => [j 0, .p 0 0, .b false, j 3, .sl 1 0 1 n.eqs.length none, j 5, j 6, j 7, j 8, j 9, .i .i64 (i : Int), j 11, j 12, j 13, j 14, j 15, j 16, j 17, j 18, j 19, j 20, j 21, j 22, j 23, j 24, j 25, j 26, j 27, j 28, j 29, j 30, j 31, j 32, j 33, j 34, j 35, j 36, j 37, j 38, j 39, j 40, j 41, j 42, j 43, j 44, j 45, j 46, j 47, j 48, j 49, j 50, j 51, j 52, j 53, j 54, j 55, j 56, j 57, j 58, j 59, j 60, j 61, j 62, j 63, j 64, j 65, j 66, j 67, j 68, j 69, j 70, j 71, j 72, j 73, j 74, j 75, j 76, j 77, j 78, j 79, j 80, j 81, j 82, j 83, j 84, j 85, j 86, j 87, j 88, j 89, j 90, j 91, j 92, j 93, j 94, j 95, j 96, j 97, j 98, j 99, j 100, j 101, j 102, j 103, j 104, j 105, j 106, j 107, j 108, j 109, j 110, j 111, j 112, j 113, j 114, j 115, j 116, j 117, j 118, j 119, j 120, j 121, j 122, j 123, j 124, j 125, j 126, j 127, j 128, j 129, j 130, j 131, j 132]) ll ∧ hs = .c false n.row :: .c false (ncs (cntL n.eqs.length ps.flatten)) :: js)
      (fun i => i ≤ n.eqs.length) (fun i => n.eqs.length - i) ?_ 0 _ _ (by exact ⟨js, rfl, rfl⟩) (Nat.zero_le _)
    rintro i _ _ ⟨js, e, rfl⟩ hi IH
    obtain ⟨j, rfl⟩ := e.open
    clear e
    by_cases hlt : i < n.eqs.length
    · obtain ⟨q, hq, hqm⟩ := ats hlt
      have hqr := mg (f := NEqn.row) hq
      have hd := ltd hlt
      have hw := wrap_big (n := i) (by omega)
      have hia : ∀ a w wd c, iadE wd (.sl a 0 w n.eqs.length c) (.i .i64 (i : Int)) = some (.p a (i * wd)) := fun a w wd c => iad_sn hlt
      have hcnt := hpc i
      rw [hq] at hcnt
      simp only at hcnt
      have hld : ldE.ldO 1 false i (.c false (ncs (cntL n.eqs.length ps.flatten))) = some (.i .i64 ((ps.flatten.count i : Nat) : Int)) := ncs_ld (cntL_get hlt)
      have hkd : isD q = (q.kind == 2 && q.left.length == 1) := rfl
      cases hk : (q.kind == 2) with
      | false =>
        rw [hkd, hk, Bool.false_and] at hcnt
        simp only [Bool.false_eq_true, if_false] at hcnt
        rw [hcnt] at hld
        have h00 : (((0 : Nat) : Int) == 0) = true := rfl
        repeat' (first
          | ((with_reducible refine k_cons ?rdq ?_); (case rdq => refine rck_mk rfl ?_ ?_ <;> simp only [Option.isSome_some, List.length_map, nnode_len, nn4, hqr, hd, hw, hia, hk, hld, h00, bne, neqn_len, neqn_kind', beq_self_eq_true, Int.natCast_zero, Nat.mul_one, SXR, noA, isAl, kA, udf, AOp.dst, Nat.beq, putAt, bldE, evIo, isNil, Nat.ble, Int.reduceAdd, Int.reduceSub, Int.reduceNeg, Int.reduceBNe, Nat.reduceEqDiff, Nat.reduceSub, Nat.reduceAdd, Nat.reduceLeDiff, Nat.reduceBEq, Nat.reduceLT, Nat.reduceMul, Int.reduceBEq, Int.reduceLT, Int.reduceLE, reduceIte, reduceCtorEq]))
          | (simp only [c4, List.length_map, nnode_len, nn4, hqr, hd, hw, hia, hk, hld, h00, bne, neqn_len, neqn_kind', beq_self_eq_true, Int.natCast_zero, Nat.mul_one, SXR, noA, isAl, kA, udf, AOp.dst, Nat.beq, putAt, bldE, evIo, isNil, Nat.ble, Int.reduceAdd, Int.reduceSub, Int.reduceNeg, Int.reduceBNe, Nat.reduceEqDiff, Nat.reduceSub, Nat.reduceAdd, Nat.reduceLeDiff, Nat.reduceBEq, Nat.reduceLT, Nat.reduceMul, Int.reduceBEq, Int.reduceLT, Int.reduceLE, reduceIte, reduceCtorEq]))
        exact IH (i + 1) _ _ (by exact ⟨js, rfl, rfl⟩) hlt (by omega)
      | true =>
        rw [hkd, hk, Bool.true_and] at hcnt
        cases hl : (q.left.length == 1) with
        | false =>
          rw [hl] at hcnt
          simp only [Bool.false_eq_true, if_false] at hcnt
          rw [hcnt] at hld
          have hli : ((q.left.length : Int) == 1) = false := by simp only [beq_eq_false_iff_ne, ne_eq] at hl ⊢; omega
          have h00 : (((0 : Nat) : Int) == 0) = true := rfl
          repeat' (first
            | ((with_reducible refine k_cons ?rdq ?_); (case rdq => refine rck_mk rfl ?_ ?_ <;> simp only [Option.isSome_some, List.length_map, nnode_len, nn4, hqr, hd, hw, hia, hk, hli, hld, h00, bne, neqn_len, neqn_kind', neqn_left, beq_self_eq_true, Int.natCast_zero, Nat.mul_one, SXR, noA, isAl, kA, udf, AOp.dst, Nat.beq, putAt, bldE, evIo, isNil, Nat.ble, Int.reduceAdd, Int.reduceSub, Int.reduceNeg, Int.reduceBNe, Nat.reduceEqDiff, Nat.reduceSub, Nat.reduceAdd, Nat.reduceLeDiff, Nat.reduceBEq, Nat.reduceLT, Nat.reduceMul, Int.reduceBEq, Int.reduceLT, Int.reduceLE, reduceIte, reduceCtorEq]))
            | (simp only [c4, List.length_map, nnode_len, nn4, hqr, hd, hw, hia, hk, hli, hld, h00, bne, neqn_len, neqn_kind', neqn_left, beq_self_eq_true, Int.natCast_zero, Nat.mul_one, SXR, noA, isAl, kA, udf, AOp.dst, Nat.beq, putAt, bldE, evIo, isNil, Nat.ble, Int.reduceAdd, Int.reduceSub, Int.reduceNeg, Int.reduceBNe, Nat.reduceEqDiff, Nat.reduceSub, Nat.reduceAdd, Nat.reduceLeDiff, Nat.reduceBEq, Nat.reduceLT, Nat.reduceMul, Int.reduceBEq, Int.reduceLT, Int.reduceLE, reduceIte, reduceCtorEq]))
          exact IH (i + 1) _ _ (by exact ⟨js, rfl, rfl⟩) hlt (by omega)
        | true =>
          rw [hl] at hcnt
          simp only [if_true] at hcnt
          rw [hcnt] at hld
          have hli : ((q.left.length : Int) == 1) = true := by simp only [beq_iff_eq] at hl ⊢; omega
          have h11 : (((1 : Nat) : Int) == 1) = true := rfl
          repeat' (first
            | ((with_reducible refine k_cons ?rdq ?_); (case rdq => refine rck_mk rfl ?_ ?_ <;> simp only [Option.isSome_some, List.length_map, nnode_len, nn4, hqr, hd, hw, hia, hk, hli, hld, h11, bne, neqn_len, neqn_kind', neqn_left, beq_self_eq_true, Nat.mul_one, SXR, noA, isAl, kA, udf, AOp.dst, Nat.beq, putAt, bldE, evIo, isNil, Nat.ble, Int.reduceAdd, Int.reduceSub, Int.reduceNeg, Int.reduceBNe, Nat.reduceEqDiff, Nat.reduceSub, Nat.reduceAdd, Nat.reduceLeDiff, Nat.reduceBEq, Nat.reduceLT, Nat.reduceMul, Int.reduceBEq, Int.reduceLT, Int.reduceLE, reduceIte, reduceCtorEq]))
            | (simp only [c4, List.length_map, nnode_len, nn4, hqr, hd, hw, hia, hk, hli, hld, h11, bne, neqn_len, neqn_kind', neqn_left, beq_self_eq_true, Nat.mul_one, SXR, noA, isAl, kA, udf, AOp.dst, Nat.beq, putAt, bldE, evIo, isNil, Nat.ble, Int.reduceAdd, Int.reduceSub, Int.reduceNeg, Int.reduceBNe, Nat.reduceEqDiff, Nat.reduceSub, Nat.reduceAdd, Nat.reduceLeDiff, Nat.reduceBEq, Nat.reduceLT, Nat.reduceMul, Int.reduceBEq, Int.reduceLT, Int.reduceLE, reduceIte, reduceCtorEq]))
          exact IH (i + 1) _ _ (by exact ⟨js, rfl, rfl⟩) hlt (by omega)
    · clear IH
      have hd := ltn hlt
      repeat' (first
        | ((with_reducible refine k_cons ?rdq ?_); (case rdq => refine rck_mk rfl ?_ ?_ <;> simp only [Option.isSome_some, List.length_map, nnode_len, nn4, hd, SXR, noA, isAl, kA, udf, AOp.dst, Nat.beq, putAt, bldE, evIo, isNil, Nat.ble, Int.reduceAdd, Int.reduceSub, Int.reduceNeg, Int.reduceBNe, Nat.reduceEqDiff, Nat.reduceSub, Nat.reduceAdd, Nat.reduceLeDiff, Nat.reduceBEq, Nat.reduceLT, Nat.reduceMul, Int.reduceBEq, Int.reduceLT, Int.reduceLE, reduceIte, reduceCtorEq]))
        | (with_reducible refine pcl_intro (haw) (by simp only [SXR, List.length_map, nnode_len, nn4, hd]) (by simp only [SXR, List.length_map, nnode_len, nn4, hd]) ?_)
        | (simp only [c4, List.length_map, nnode_len, nn4, hd, SXR, noA, isAl, kA, udf, AOp.dst, Nat.beq, putAt, bldE, evIo, isNil, Nat.ble, Int.reduceAdd, Int.reduceSub, Int.reduceNeg, Int.reduceBNe, Nat.reduceEqDiff, Nat.reduceSub, Nat.reduceAdd, Nat.reduceLeDiff, Nat.reduceBEq, Nat.reduceLT, Nat.reduceMul, Int.reduceBEq, Int.reduceLT, Int.reduceLE, reduceIte, reduceCtorEq]))
end Go.Proofs.YthleepdlddlieaaGreatDoor
