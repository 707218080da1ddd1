/-
  The parts of a node, in plain words: each delay once, in order, with equal initial values and clocks.
-/
import Derived.Test.YthleepdlddlieaaGreatDoorMf
set_option linter.unusedSimpArgs false
set_option linter.unusedVariables false
namespace Go.Proofs.YthleepdlddlieaaGreatDoor
open Go Go.B
theorem eqB_eq {α : Type} {f : α → α → Bool} (hf : ∀ x y, f x y = true → x = y) : ∀ {a b : List α}, eqB f a b = true → a = b
  | [], [], _ => rfl
  | [], _ :: _, h => by simp [eqB] at h
  | _ :: _, [], h => by simp [eqB] at h
  | x :: a, y :: b, h => by
    simp only [eqB, Bool.and_eq_true] at h
    rw [hf x y h.1, eqB_eq hf h.2]
theorem eqStr_eq {s t : Str} (h : eqStr s t = true) : s = t := by
  simp only [eqStr, Bool.and_eq_true, beq_iff_eq] at h
  exact Prod.ext h.1 h.2
theorem eqOn_eq (o p : On) (h : eqOn o p = true) : o = p := by
  obtain ⟨a, b, c⟩ := o
  obtain ⟨a', b', c'⟩ := p
  simp only [eqOn, Bool.and_eq_true, beq_iff_eq] at h
  obtain ⟨⟨h1, h2⟩, h3⟩ := h
  rw [eqStr_eq h1, h2, h3]
theorem eqOn_refl' (o : On) : eqOn o o = true := by simp [eqOn, eqStr]
theorem cks_refl (l : List On) : eqB eqOn l l = true := eqB_refl l (fun o _ => eqOn_refl' o)
theorem cmpB_eq {dl : List Dl} {p : List Nat} {x y : Dl} (h : cmpB dl p x y = true) : x.q.init = y.q.init ∧ x.q.ck = y.q.ck := by
  simp only [cmpB, Bool.and_eq_true, beq_iff_eq] at h
  exact ⟨h.1.1.1, eqB_eq eqOn_eq h.1.2⟩
/-- a part as a list that is sieved -/
def pz (dl : List Dl) (p : List Nat) (i : Nat) : List (Dl × Nat) := (dl.zip p).filter fun z => z.2 == i
theorem grpN_zip {dl : List Dl} {p : List Nat} {i : Nat} (hl : p.length = dl.length) : ∀ k, k ≤ dl.length → grpN dl p i k = (((dl.zip p).take k).filter fun z => z.2 == i).map fun z => z.1.ix
  | 0, _ => by simp [grpN]
  | k + 1, h => by
    have hx : dl[k]? = some dl[k] := by simp
    have hm : p[k]? = some (p[k]'(by omega)) := by simp
    have hz : (dl.zip p)[k]? = some (dl[k], p[k]'(by omega)) := by rw [List.getElem?_zip_eq_some]; exact ⟨hx, hm⟩
    rw [grpN_succ hx hm, grpN_zip hl k (by omega), List.take_add_one, hz, List.filter_append, List.map_append]
    congr 1
    by_cases e : (p[k]'(by omega)) = i
    · rw [if_pos e]; simp [e]
    · rw [if_neg e]; simp [e]
theorem grp_zip {dl : List Dl} {p : List Nat} {i : Nat} (hl : p.length = dl.length) : grp dl p i = (pz dl p i).map fun z => z.1.ix := by
  have h := grpN_zip (i := i) hl dl.length (Nat.le_refl _)
  rw [show grp dl p i = grpN dl p i dl.length from rfl, h, List.take_of_length_le (by simp [hl])]
  rfl
theorem pz_mem {dl : List Dl} {p : List Nat} {i : Nat} {z : Dl × Nat} (h : z ∈ pz dl p i) : z.2 = i ∧ ∃ k : Nat, dl[k]? = some z.1 ∧ p[k]? = some z.2 := by
  simp only [pz, List.mem_filter, beq_iff_eq] at h
  obtain ⟨k, hk⟩ := List.getElem?_of_mem h.1
  rw [List.getElem?_zip_eq_some] at hk
  exact ⟨h.2, k, hk⟩
theorem dlL_asc {n : NNode} : ∀ (l : List NEqn) (i : Nat), (dlL n i l).Pairwise (fun a b => a.ix < b.ix) ∧ ∀ d, d ∈ dlL n i l → i ≤ d.ix
  | [], i => ⟨List.Pairwise.nil, fun d h => by cases h⟩
  | q :: l, i => by
    obtain ⟨h1, h2⟩ := dlL_asc (n := n) l (i + 1)
    simp only [dlL]
    split
    · refine ⟨List.pairwise_cons.2 ⟨fun d hd => ?_, h1⟩, fun d hd => ?_⟩
      · have := h2 d hd
        show i < d.ix
        omega
      · rcases List.mem_cons.1 hd with rfl | hd
        · exact Nat.le_refl i
        · have := h2 d hd; omega
    · exact ⟨h1, fun d hd => by have := h2 d hd; omega⟩
theorem grp_asc {n : NNode} {p : List Nat} {i : Nat} (hl : p.length = (dlOf n).length) : (grp (dlOf n) p i).Pairwise (· < ·) := by
  rw [grp_zip hl, List.pairwise_map]
  refine List.Pairwise.filter _ ?_
  have h1 : ((dlOf n).zip p).map Prod.fst = dlOf n := List.map_fst_zip (by omega)
  have h2 := (dlL_asc (n := n) n.eqs 0).1
  rw [show dlL n 0 n.eqs = dlOf n from rfl, ← h1, List.pairwise_map] at h2
  exact h2
/-- all of a part are like its first -/
theorem part_like {dl : List Dl} {p : List Nat} (hl : p.length = dl.length) (hfix : nextP dl p = p) : ∀ (k i : Nat) (x : Dl), dl[k]? = some x → p[k]? = some i → ∃ y, dl[i]? = some y ∧ x.q.init = y.q.init ∧ x.q.ck = y.q.ck := by
  intro k
  induction k using Nat.strongRecOn with
  | ind k ih =>
    intro i x hx hp
    have hk := (List.getElem?_eq_some_iff.1 hx).1
    rcases nextP_get hl hk with ⟨h1, _⟩ | ⟨m, j, hm, ho, h2, h3⟩
    · rw [hfix, hp] at h1
      cases h1
      exact ⟨x, hx, rfl, rfl⟩
    · rw [hfix] at h2 h3
      rw [hp] at h3
      cases h3
      obtain ⟨x', y', a, q1, q2, _, _, q5⟩ := okK_part ho
      rw [hx] at q1
      cases q1
      obtain ⟨y, r1, r2, r3⟩ := ih m hm _ y' q2 h2
      obtain ⟨s1, s2⟩ := cmpB_eq q5
      exact ⟨y, r1, s1.trans r2, s2.trans r3⟩
theorem outs_mem {dl : List Dl} {p : List Nat} {g : List Nat} : ∀ {i : Nat}, g ∈ outsN dl p i → g ≠ [] ∧ ∃ j, g = grp dl p j
  | 0, h => by cases h
  | i + 1, h => by
    simp only [outsN] at h
    rcases List.mem_append.1 h with h | h
    · exact outs_mem h
    · split at h
      · cases h
      · rename_i hne
        rw [List.mem_singleton] at h
        exact ⟨by rw [h]; exact hne, i, h⟩
/-- what is known of a part -/
theorem part_spec {n : NNode} {g : List Nat} (h : g ∈ partsOf n) : g ≠ [] ∧ g.Pairwise (· < ·) ∧ ∃ (c : Int) (ck : List On), ∀ m, m ∈ g → ∃ q, n.eqs[m]? = some q ∧ q.init = c ∧ q.ck = ck := by
  obtain ⟨hfix, hl, _⟩ := fin_fix (zer_len n) (zer_vld n)
  obtain ⟨hne, j, rfl⟩ := outs_mem h
  refine ⟨hne, grp_asc hl, ?_⟩
  have key : ∀ m, m ∈ grp (dlOf n) (fin (dlOf n) (zer n)) j → ∃ x y : Dl, n.eqs[m]? = some x.q ∧ (dlOf n)[j]? = some y ∧ x.q.init = y.q.init ∧ x.q.ck = y.q.ck := by
    intro m hm
    rw [grp_zip hl] at hm
    obtain ⟨z, hz, rfl⟩ := List.mem_map.1 hm
    obtain ⟨h1, k, h2, h3⟩ := pz_mem hz
    rw [h1] at h3
    obtain ⟨y, r1, r2, r3⟩ := part_like hl hfix k j z.1 h2 h3
    obtain ⟨k', e1, e2, _, _⟩ := dlL_mem (List.mem_of_getElem? h2)
    have e : z.1.ix = k' := by omega
    exact ⟨z.1, y, by rw [e]; exact e2, r1, r2, r3⟩
  obtain ⟨m0, hm0⟩ := List.exists_mem_of_ne_nil _ hne
  obtain ⟨_, y, _, hy, _⟩ := key m0 hm0
  refine ⟨y.q.init, y.q.ck, fun m hm => ?_⟩
  obtain ⟨x, y', h1, h2, h3, h4⟩ := key m hm
  rw [hy] at h2
  cases h2
  exact ⟨x.q, h1, h3, h4⟩
/- each delay once -/
theorem countP_split {α : Type} (P Q R : α → Bool) (h : ∀ x, P x = (Q x || R x)) (hd : ∀ x, (Q x && R x) = false) : ∀ l : List α, l.countP P = l.countP Q + l.countP R
  | [] => rfl
  | x :: l => by
    rw [List.countP_cons, List.countP_cons, List.countP_cons, countP_split P Q R h hd l]
    have h1 := h x
    have h2 := hd x
    cases hq : Q x <;> cases hr : R x <;> simp_all <;> omega
theorem outs_count {dl : List Dl} {p : List Nat} (hl : p.length = dl.length) (m : Nat) : ∀ i, ((outsN dl p i).flatten).count m = (dl.zip p).countP fun z => decide (z.2 < i) && z.1.ix == m
  | 0 => by simp [outsN]
  | i + 1 => by
    simp only [outsN, List.flatten_append, List.count_append, outs_count hl m i]
    have e : ((if grp dl p i = [] then [] else [grp dl p i]).flatten).count m = (dl.zip p).countP fun z => z.2 == i && z.1.ix == m := by
      have e1 : (if grp dl p i = [] then [] else [grp dl p i]).flatten = grp dl p i := by split <;> simp_all
      rw [e1, grp_zip hl, List.count_eq_countP, List.countP_map, pz, List.countP_filter]
      congr 1
      funext z
      simp only [Function.comp_apply, Bool.and_comm]
    rw [e]
    refine (countP_split _ _ _ (fun z => ?_) (fun z => ?_) _).symm
    · by_cases h1 : z.2 < i
      · have : z.2 < i + 1 := by omega
        have h2 : (z.2 == i) = false := by simp; omega
        simp [h1, this, h2]
      · by_cases h2 : z.2 = i
        · simp [h2]
        · have : ¬ z.2 < i + 1 := by omega
          simp [h1, h2, this]
    · by_cases h1 : z.2 < i
      · have h2 : (z.2 == i) = false := by simp; omega
        simp [h2]
      · simp [h1]
theorem dlL_count {n : NNode} (m : Nat) : ∀ (l : List NEqn) (i : Nat), ((dlL n i l).map fun d => d.ix).count m = if i ≤ m then (match l[m - i]? with | some q => if isD q = true then 1 else 0 | none => 0) else 0
  | [], i => by simp [dlL]
  | q :: l, i => by
    simp only [dlL]
    have ih := dlL_count (n := n) m l (i + 1)
    by_cases hm : i = m
    · subst hm
      have hno : ¬ i + 1 ≤ i := by omega
      rw [if_neg hno] at ih
      rw [if_pos (Nat.le_refl _), Nat.sub_self, List.getElem?_cons_zero]
      simp only
      split
      · rw [List.map_cons, List.count_cons, ih]; simp [mkDl]
      · exact ih
    · have hc : ∀ l' : List Nat, (i :: l').count m = l'.count m := fun l' => by rw [List.count_cons]; simp [hm]
      have e : (if i ≤ m then (match (q :: l)[m - i]? with | some q => if isD q = true then 1 else 0 | none => 0) else 0) = (if i + 1 ≤ m then (match l[m - (i + 1)]? with | some q => if isD q = true then 1 else 0 | none => 0) else 0) := by
        by_cases h1 : i + 1 ≤ m
        · have e2 : m - i = m - (i + 1) + 1 := by omega
          rw [if_pos h1, if_pos (by omega), e2, List.getElem?_cons_succ]
        · rw [if_neg h1, if_neg (by omega)]
      rw [e, ← ih]
      split
      · rw [List.map_cons]; exact hc _
      · rfl
theorem parts_count (n : NNode) (m : Nat) : ((partsOf n).flatten).count m = match n.eqs[m]? with | some q => if isD q = true then 1 else 0 | none => 0 := by
  obtain ⟨_, hl, hv⟩ := fin_fix (zer_len n) (zer_vld n)
  unfold partsOf
  rw [outs_count hl]
  have h1 : ((dlOf n).zip (fin (dlOf n) (zer n))).map Prod.fst = dlOf n := List.map_fst_zip (by omega)
  have h2 := dlL_count (n := n) m n.eqs 0
  rw [if_pos (Nat.zero_le _), Nat.sub_zero] at h2
  rw [← h2, show dlL n 0 n.eqs = dlOf n from rfl]
  conv => rhs; rw [← h1]
  rw [List.map_map, List.count_eq_countP, List.countP_map]
  refine List.countP_congr (fun z hz => ?_)
  obtain ⟨k, hk⟩ := List.getElem?_of_mem hz
  rw [List.getElem?_zip_eq_some] at hk
  have := hv k z.2 hk.2
  have hkl := (List.getElem?_eq_some_iff.1 hk.1).1
  have hlt : z.2 < (dlOf n).length := by omega
  simp [hlt]
end Go.Proofs.YthleepdlddlieaaGreatDoor
