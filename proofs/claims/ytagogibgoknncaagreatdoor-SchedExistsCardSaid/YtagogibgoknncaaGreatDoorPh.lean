/-
  The reference: who waits for whom; Right.
  The reference: its table; ready.
  The reference's Order in plain Lean.
  Distances and cycles in plain Lean.
  Where no order is found there is a cycle, in plain Lean.
-/
import Derived.Test.YtagogibgoknncaaGreatDoorPg
set_option linter.unusedSimpArgs false
set_option linter.unusedVariables false
namespace Go.Proofs.YtagogibgoknncaaGreatDoor
open Go Go.B
def ay2 (l : List Str) (o : NEqn) : Bool := if (o.kind == 2) = true then false else o.left.any fun t => hasS t l
theorem bf0 {q o : NEqn} : ay2 (o9 q) o = true ↔ Waits q o := by
 unfold ay2 Waits hasS
 cases hk : (o.kind == 2) with
 | true => simp
 | false =>
   rw [if_neg (by simp)]
   simp only [List.any_eq_true, true_and]
   constructor
   ·rintro ⟨t, h1, s, h2, h3⟩; exact ⟨s, h2, t, h1, h3⟩
   ·rintro ⟨s, h2, t, h1, h3⟩; exact ⟨t, h1, s, h2, h3⟩
def wt (eqs : List NEqn) (j i : Nat) : Bool := match eqs[j]?, eqs[i]? with
 | some q, some o => ay2 (o9 q) o
 | _, _ => false
theorem wt_at {eqs : List NEqn} {i j : Nat} {q o : NEqn} (hj : eqs[j]? = some q) (hi : eqs[i]? = some o) : wt eqs j i = ay2 (o9 q) o := by
 unfold wt; rw [hj, hi]
theorem wt_iff {eqs : List NEqn} {i j : Nat} : wt eqs j i = true ↔ i ∈ ao4 eqs j := by
 rw [depF_mem]
 unfold wt
 constructor
 ·intro h
  split at h
  ·rename_i q o h1 h2; exact ⟨q, o, h1, h2, bf0.1 h⟩
  ·cases h
 ·rintro ⟨q, o, h1, h2, h3⟩
  rw [h1, h2]; exact bf0.2 h3
theorem an4 {eqs : List NEqn} {i j : Nat} (h : i ∈ ao4 eqs j) : i < eqs.length ∧ j < eqs.length := by
 obtain ⟨q, o, h1, h2, _⟩ := depF_mem.1 h
 exact ⟨(List.getElem?_eq_some_iff.1 h2).1, (List.getElem?_eq_some_iff.1 h1).1⟩
def tbF (eqs : List NEqn) (k : Nat) (j : Nat) : List Nat := (List.range k).filter fun i => wt eqs j i
theorem tbF_succ (eqs : List NEqn) (k j : Nat) : tbF eqs (k + 1) j = if wt eqs j k = true then tbF eqs k j ++ [k] else tbF eqs k j := by
 unfold tbF
 rw [List.range_succ, List.filter_append]
 by_cases h : wt eqs j k = true
 ·rw [if_pos h, List.filter_cons, if_pos h]; rfl
 ·rw [if_neg h, List.filter_cons, if_neg h]; simp
theorem tbF_len (eqs : List NEqn) (k j : Nat) : (tbF eqs k j).length ≤ k := by
 unfold tbF
 have := List.length_filter_le (fun i => wt eqs j i) (List.range k)
 rw [List.length_range] at this; exact this
theorem ay6 {eqs : List NEqn} {i j : Nat} : i ∈ tbF eqs eqs.length j ↔ i ∈ ao4 eqs j := by
 unfold tbF
 rw [List.mem_filter, List.mem_range]
 constructor
 ·rintro ⟨_, h⟩; exact wt_iff.1 h
 ·intro h; exact ⟨(an4 h).1, wt_iff.2 h⟩
theorem sub_len : ∀ {l m : List Nat}, l.Nodup → (∀ k, k ∈ l → k ∈ m) → l.length ≤ m.length
 | [], m, _, _ => Nat.zero_le _
 | a :: l, m, h, hs => by
   rw [List.nodup_cons] at h
   have ha := hs a (by simp)
   have := sub_len (l := l) (m := m.erase a) h.2 fun k hk => (List.mem_erase_of_ne (fun e => h.1 (by rw [← e]; exact hk))).2 (hs k (by simp [hk]))
   rw [List.length_erase_of_mem ha] at this
   have := List.length_pos_of_mem ha
   rw [List.length_cons]; omega
theorem nextR_eq {eqs : List NEqn} {g : Nat → Nat} {d : Nat → Bool} {last : Option Nat} : ∀ (r k : Nat) (first : Option Nat), aw5 eqs g d last r k first = ((List.range' k r).find? fun i => (!d i && g i == 0) && nearB eqs last i).or (first.or ((List.range' k r).find? fun i => !d i && g i == 0))
 | 0, k, first => by simp [aw5]
 | r + 1, k, first => by
   simp only [aw5, List.range'_succ, List.find?_cons]
   have e : (d k = true ∨ 0 < g k) ↔ (!d k && g k == 0) = false := by
    cases d k <;> simp <;> omega
   by_cases hc : d k = true ∨ 0 < g k
   ·rw [if_pos hc, e.1 hc, nextR_eq r]
    simp
   ·rw [if_neg hc]
    have h1 : (!d k && g k == 0) = true := by
     cases h : (!d k && g k == 0) with
     | true => rfl
     | false => exact (hc (e.2 h)).elim
    rw [h1]
    cases hn : nearB eqs last k with
    | true => simp
    | false => simp [nextR_eq r, Option.or_assoc]
theorem min_of {P : Nat → Prop} (f : Nat → Nat) : ∀ (b x : Nat), f x ≤ b → P x → ∃ y, P y ∧ ∀ z, P z → f y ≤ f z
 | 0, x, h, hx => ⟨x, hx, fun z _ => by omega⟩
 | b + 1, x, h, hx => by
   by_cases q : ∃ z, P z ∧ f z < f x
   ·obtain ⟨z, hz, hlt⟩ := q
    exact min_of f b z (by omega) hz
   ·refine ⟨x, hx, fun z hz => ?_⟩
    rcases Nat.lt_or_ge (f z) (f x) with h1 | h1
    ·exact (q ⟨z, hz, h1⟩).elim
    ·exact h1
def itF (p : Nat → Nat) : Nat → Nat → Nat
 | 0, x => x
 | i + 1, x => p (itF p i x)
theorem it_add (p : Nat → Nat) : ∀ (i j x : Nat), itF p (i + j) x = itF p i (itF p j x)
 | 0, j, x => by rw [Nat.zero_add]; rfl
 | i + 1, j, x => by rw [Nat.add_right_comm]; simp only [itF]; rw [it_add p i j x]
theorem it_in {S : Nat → Prop} {p : Nat → Nat} (hp : ∀ x, S x → S (p x)) {x : Nat} (hx : S x) : ∀ i, S (itF p i x)
 | 0 => hx
 | i + 1 => hp _ (it_in hp hx i)
theorem it_cycle {n : Nat} {S : Nat → Prop} {p : Nat → Nat} (hS : ∀ x, S x → x < n) (hp : ∀ x, S x → S (p x)) {x : Nat} (hx : S x) : ∃ y m, S y ∧ 0 < m ∧ itF p m y = y := by
 have hnd : ¬ ((List.range (n + 1)).map fun i => itF p i x).Nodup := fun h => by
  have := ad5 h (n := n) (fun k hk => by
   obtain ⟨i, _, rfl⟩ := List.mem_map.1 hk
   exact hS _ (it_in hp hx i))
  simp only [List.length_map, List.length_range] at this
  omega
 have : ∃ i j, i < j ∧ itF p i x = itF p j x := Classical.byContradiction fun hno => hnd (by
  unfold List.Nodup
  rw [List.pairwise_map]
  exact List.Pairwise.imp (fun {a b} hab e => hno ⟨a, b, hab, e⟩) List.pairwise_lt_range)
 obtain ⟨i, j, hij, e⟩ := this
 refine ⟨itF p i x, j - i, it_in hp hx i, by omega, ?_⟩
 rw [← it_add, show j - i + i = j by omega]; exact e.symm
theorem it_least {p : Nat → Nat} {y m : Nat} (h : itF p m y = y) : ∃ v a, v = itF p a y ∧ itF p m v = v ∧ ∀ i, v ≤ itF p i v := by
 obtain ⟨v, ⟨a, rfl⟩, hmin⟩ := min_of (P := fun z => ∃ a, z = itF p a y) id y y (Nat.le_refl _) ⟨0, rfl⟩
 refine ⟨_, a, rfl, ?_, fun i => ?_⟩
 ·rw [← it_add, Nat.add_comm m a, it_add, h]
 ·rw [← it_add]; exact hmin _ ⟨i + a, rfl⟩
def aw8 (d : Nat → Option Nat) (u k : Nat) : Nat → Option Nat := fun x => if x = u then some k else d x
def dN (d : Nat → Option Nat) (v : Nat) : Nat := (d v).getD 0
def inF (to k : Nat) : List Nat → (Nat → Option Nat) → List Nat → (Nat → Option Nat) × List Nat
 | [], d, q => (d, q)
 | u :: us, d, q => if to < u ∧ d u = none then inF to k us (aw8 d u (k + 1)) (q ++ [u]) else inF to k us d q
def bfF (bf : Nat → List Nat) (to : Nat) : Nat → (Nat → Option Nat) → List Nat → (Nat → Option Nat)
 | 0, d, _ => d
 | _ + 1, d, [] => d
 | f + 1, d, v :: q => bfF bf to f (inF to (dN d v) (bf v) d q).1 (inF to (dN d v) (bf v) d q).2
def d0F (to : Nat) : Nat → Option Nat := fun x => if x = to then some 0 else none
def ai6 (bf : Nat → List Nat) (n to : Nat) : Nat → Option Nat := bfF bf to (2 * n + 2) (d0F to) [to]
theorem be7 {to k : Nat} : ∀ {us : List Nat} {d : Nat → Option Nat} {q : List Nat} {x j : Nat}, d x = some j → (inF to k us d q).1 x = some j
 | [], d, q, x, j, h => h
 | u :: us, d, q, x, j, h => by
   simp only [inF]
   split
   ·rename_i hc
    refine be7 ?_
    have : x ≠ u := fun e => by rw [e, hc.2] at h; cases h
    simp only [aw8, if_neg this]; exact h
   ·exact be7 h
theorem inF_2 {to k : Nat} : ∀ {us : List Nat} {d : Nat → Option Nat} {q : List Nat} {u : Nat}, u ∈ us → to < u → (inF to k us d q).1 u ≠ none
 | a :: us, d, q, u, hm, ht => by
   simp only [inF]
   rcases List.mem_cons.1 hm with rfl | hm
   ·split
    ·rw [be7 (j := k + 1) (by simp [aw8])]; simp
    ·rename_i hc
     cases hd : d u with
     | none => exact (hc ⟨ht, hd⟩).elim
     | some j => rw [be7 hd]; simp
   ·split
    ·exact inF_2 hm ht
    ·exact inF_2 hm ht
theorem inF_3 {to k : Nat} : ∀ {us : List Nat} {d : Nat → Option Nat} {q : List Nat} {x j : Nat}, (inF to k us d q).1 x = some j → d x = some j ∨ (d x = none ∧ to < x ∧ x ∈ us ∧ j = k + 1)
 | [], d, q, x, j, h => .inl h
 | u :: us, d, q, x, j, h => by
   simp only [inF] at h
   split at h
   ·rename_i hc
    rcases inF_3 h with h1 | ⟨h1, h2, h3, h4⟩
    ·by_cases hx : x = u
     ·subst hx
      simp [aw8] at h1
      exact .inr ⟨hc.2, hc.1, by simp, h1.symm⟩
     ·simp only [aw8, if_neg hx] at h1; exact .inl h1
    ·by_cases hx : x = u
     ·subst hx; simp [aw8] at h1
     ·simp only [aw8, if_neg hx] at h1; exact .inr ⟨h1, h2, by simp [h3], h4⟩
   ·rcases inF_3 h with h1 | ⟨h1, h2, h3, h4⟩
    ·exact .inl h1
    ·exact .inr ⟨h1, h2, by simp [h3], h4⟩
theorem inF_4 {to k : Nat} : ∀ {us : List Nat} {d : Nat → Option Nat} {q : List Nat} {x : Nat}, x ∈ q → x ∈ (inF to k us d q).2
 | [], d, q, x, h => h
 | u :: us, d, q, x, h => by
   simp only [inF]
   split
   ·exact inF_4 (by simp [h])
   ·exact inF_4 h
theorem inF_5 {to k : Nat} : ∀ {us : List Nat} {d : Nat → Option Nat} {q : List Nat} {x : Nat}, d x = none → (inF to k us d q).1 x ≠ none → x ∈ (inF to k us d q).2
 | [], d, q, x, h, h' => (h' h).elim
 | u :: us, d, q, x, h, h' => by
   simp only [inF] at h' ⊢
   split
   ·rename_i hc
    rw [if_pos hc] at h'
    by_cases hx : x = u
    ·subst hx; exact inF_4 (by simp)
    ·exact inF_5 (by simp only [aw8, if_neg hx]; exact h) h'
   ·rename_i hc
    rw [if_neg hc] at h'
    exact inF_5 h h'
theorem inF_6 {to k : Nat} : ∀ {us : List Nat} {d : Nat → Option Nat} {q : List Nat} {x : Nat}, x ∈ (inF to k us d q).2 → x ∈ q ∨ (inF to k us d q).1 x ≠ none
 | [], d, q, x, h => .inl h
 | u :: us, d, q, x, h => by
   simp only [inF] at h ⊢
   split
   ·rename_i hc
    rw [if_pos hc] at h
    rcases inF_6 h with h1 | h1
    ·rcases List.mem_append.1 h1 with h2 | h2
     ·exact .inl h2
     ·have : x = u := by simpa using h2
      subst this
      exact .inr (by rw [be7 (j := k + 1) (by simp [aw8])]; simp)
    ·exact .inr h1
   ·rename_i hc
    rw [if_neg hc] at h
    exact inF_6 h
def cn (d : Nat → Option Nat) : Nat → Nat
 | 0 => 0
 | n + 1 => cn d n + if d n = none then 1 else 0
theorem cn_le (d : Nat → Option Nat) : ∀ n, cn d n ≤ n
 | 0 => Nat.le_refl _
 | n + 1 => by have := cn_le d n; simp only [cn]; split <;> omega
theorem cn_out {d : Nat → Option Nat} {u k : Nat} : ∀ {n}, n ≤ u → cn (aw8 d u k) n = cn d n
 | 0, _ => rfl
 | n + 1, h => by
   have h1 := cn_out (d := d) (u := u) (k := k) (n := n) (by omega)
   have h2 : aw8 d u k n = d n := if_neg (by omega)
   simp only [cn, h1, h2]
theorem cn_set {d : Nat → Option Nat} {u k : Nat} (hd : d u = none) : ∀ {n}, u < n → cn (aw8 d u k) n + 1 = cn d n
 | n + 1, h => by
   simp only [cn]
   by_cases hn : n = u
   ·subst hn
    rw [cn_out (Nat.le_refl _), hd, show aw8 d n k n = some k from if_pos rfl]
    simp
   ·have := cn_set (k := k) hd (n := n) (by omega)
    rw [show aw8 d u k n = d n from if_neg hn]
    omega
theorem inF_mu {to k n : Nat} : ∀ {us : List Nat} {d : Nat → Option Nat} {q : List Nat}, (∀ u, u ∈ us → u < n) → 2 * cn (inF to k us d q).1 n + (inF to k us d q).2.length ≤ 2 * cn d n + q.length
 | [], d, q, _ => Nat.le_refl _
 | u :: us, d, q, h => by
   simp only [inF]
   split
   ·rename_i hc
    have h1 := inF_mu (to := to) (k := k) (us := us) (d := aw8 d u (k + 1)) (q := q ++ [u]) (fun x hx => h x (by simp [hx]))
    have h2 := cn_set (k := k + 1) hc.2 (h u (by simp))
    simp only [List.length_append, List.length_cons, List.length_nil] at h1
    omega
   ·exact inF_mu fun x hx => h x (by simp [hx])
structure BI (bf : Nat → List Nat) (n to : Nat) (d : Nat → Option Nat) (q : List Nat) : Prop where
 z : d to = some 0
 lo : ∀ u k, d u = some k → (u = to ∧ k = 0) ∨ (to < u ∧ ∃ w j, k = j + 1 ∧ d w = some j ∧ u ∈ bf w)
 qd : ∀ v, v ∈ q → d v ≠ none
 lt : ∀ u, d u ≠ none → u < n
 cl : ∀ v, d v ≠ none → v ∉ q → ∀ u, u ∈ bf v → to < u → d u ≠ none
theorem dN_eq {d : Nat → Option Nat} {v : Nat} (h : d v ≠ none) : d v = some (dN d v) := by
 unfold dN
 cases hd : d v with
 | none => exact (h hd).elim
 | some k => rfl
section
variable {bf : Nat → List Nat} {n to : Nat} {d : Nat → Option Nat} {q : List Nat}
theorem BI.start (h : to < n) : BI bf n to (d0F to) [to] := by
 refine ⟨if_pos rfl, fun u k hu => ?_, fun v hv => ?_, fun u hu => ?_, fun v hv hq => ?_⟩
 ·unfold d0F at hu
  split at hu
  ·cases hu; exact .inl ⟨by assumption, rfl⟩
  ·cases hu
 ·have : v = to := by simpa using hv
  subst this; simp [d0F]
 ·unfold d0F at hu
  split at hu
  ·subst to; exact h
  ·exact (hu rfl).elim
 ·unfold d0F at hv
  split at hv
  ·subst to; exact (hq (by simp)).elim
  ·exact (hv rfl).elim
theorem BI.step {v : Nat} (h : BI bf n to d (v :: q)) (hb : ∀ w u, u ∈ bf w → u < n) : BI bf n to (inF to (dN d v) (bf v) d q).1 (inF to (dN d v) (bf v) d q).2 := by
 have hv := dN_eq (h.qd v (by simp))
 refine ⟨be7 h.z, fun u k hu => ?_, fun x hx => ?_, fun u hu => ?_, fun x hx hq u hu ht => ?_⟩
 ·rcases inF_3 hu with h1 | ⟨h1, h2, h3, h4⟩
  ·rcases h.lo u k h1 with h2 | ⟨h2, w, j, h3, h4, h5⟩
   ·exact .inl h2
   ·exact .inr ⟨h2, w, j, h3, be7 h4, h5⟩
  ·exact .inr ⟨h2, v, _, h4, be7 hv, h3⟩
 ·rcases inF_6 hx with h1 | h1
  ·have := dN_eq (h.qd x (by simp [h1]))
   rw [be7 this]; simp
  ·exact h1
 ·cases hd : (inF to (dN d v) (bf v) d q).1 u with
  | none => exact (hu hd).elim
  | some j =>
    rcases inF_3 hd with h1 | ⟨h1, h2, h3, h4⟩
    ·exact h.lt u (by rw [h1]; simp)
    ·exact hb v u h3
 ·cases hd : d x with
  | none => exact (hq (inF_5 hd hx)).elim
  | some j =>
    by_cases hxv : x = v
    ·subst hxv; exact inF_2 hu ht
    ·have h1 := h.cl x (by rw [hd]; simp) (fun hm => by
      rcases List.mem_cons.1 hm with e | e
      ·exact hxv e
      ·exact hq (inF_4 e)) u hu ht
     rw [be7 (dN_eq h1)]; simp
theorem bfF_BI (hb : ∀ w u, u ∈ bf w → u < n) : ∀ (f : Nat) (d : Nat → Option Nat) (q : List Nat), BI bf n to d q → 2 * cn d n + q.length < f → BI bf n to (bfF bf to f d q) []
 | 0, d, q, _, hf => by omega
 | f + 1, d, [], h, _ => h
 | f + 1, d, v :: q, h, hf => by
   simp only [bfF]
   have hm := inF_mu (to := to) (k := dN d v) (n := n) (us := bf v) (d := d) (q := q) (fun u hu => hb v u hu)
   exact bfF_BI hb f _ _ (h.step hb) (by simp only [List.length_cons] at hf; omega)
theorem dist_BI (hb : ∀ w u, u ∈ bf w → u < n) (h : to < n) : BI bf n to (ai6 bf n to) [] :=
 bfF_BI hb _ _ _ (BI.start h) (by have := cn_le (d0F to) n; simp; omega)
theorem BI.chain (h : BI bf n to d q) : ∀ (k u : Nat), d u = some k → ∃ l : List Nat, l.length = k + 1 ∧ l.Nodup ∧ ∀ x, x ∈ l → ∃ j, j ≤ k ∧ d x = some j
 | 0, u, hu => ⟨[u], rfl, by simp, fun x hx => ⟨0, Nat.le_refl _, by rw [show x = u by simpa using hx]; exact hu⟩⟩
 | k + 1, u, hu => by
   rcases h.lo u _ hu with ⟨_, h1⟩ | ⟨_, w, j, h3, h4, _⟩
   ·omega
   ·have hj : j = k := by omega
    subst hj
    obtain ⟨l, l1, l2, l3⟩ := BI.chain h j w h4
    refine ⟨u :: l, by simp [l1], List.nodup_cons.2 ⟨fun hm => ?_, l2⟩, fun x hx => ?_⟩
    ·obtain ⟨i, h1, h2⟩ := l3 u hm
     rw [hu] at h2; cases h2; omega
    ·rcases List.mem_cons.1 hx with rfl | hx
     ·exact ⟨_, Nat.le_refl _, hu⟩
     ·obtain ⟨i, h1, h2⟩ := l3 x hx; exact ⟨i, by omega, h2⟩
theorem BI.dlt (h : BI bf n to d q) {k u : Nat} (hu : d u = some k) : k < n := by
 obtain ⟨l, l1, l2, l3⟩ := h.chain k u hu
 have := ad5 l2 (n := n) (fun x hx => by
  obtain ⟨j, _, h2⟩ := l3 x hx
  exact h.lt x (by rw [h2]; simp))
 omega
theorem BI.pos (h : BI bf n to d q) {k u : Nat} (hu : d u = some (k + 1)) : to < u ∧ ∃ w, d w = some k ∧ u ∈ bf w := by
 rcases h.lo u _ hu with ⟨_, h1⟩ | ⟨h2, w, j, h3, h4, h5⟩
 ·omega
 ·have : j = k := by omega
  subst this
  exact ⟨h2, w, h4, h5⟩
end
def bsF (d : Nat → Option Nat) (v : Nat) : List Nat → Nat → Nat
 | [], b => b
 | w :: l, b => bsF d v l (if v ≤ w ∧ d w ≠ none then (if dN d w + 1 < b then dN d w + 1 else b) else b)
theorem bsF_le {d : Nat → Option Nat} {v : Nat} : ∀ {l : List Nat} {b : Nat}, bsF d v l b ≤ b
 | [], b => Nat.le_refl _
 | w :: l, b => by
   simp only [bsF]
   refine Nat.le_trans bsF_le ?_
   split
   ·split <;> omega
   ·exact Nat.le_refl _
theorem bsF_in {d : Nat → Option Nat} {v : Nat} : ∀ {l : List Nat} {b w : Nat}, w ∈ l → v ≤ w → d w ≠ none → bsF d v l b ≤ dN d w + 1
 | a :: l, b, w, hm, hv, hd => by
   simp only [bsF]
   rcases List.mem_cons.1 hm with rfl | hm
   ·refine Nat.le_trans bsF_le ?_
    rw [if_pos ⟨hv, hd⟩]
    split <;> omega
   ·exact bsF_in hm hv hd
theorem bh8 {d : Nat → Option Nat} {v : Nat} : ∀ {l : List Nat} {b : Nat}, bsF d v l b = b ∨ (bsF d v l b < b ∧ ∃ w, w ∈ l ∧ v ≤ w ∧ d w ≠ none ∧ bsF d v l b = dN d w + 1)
 | [], b => .inl rfl
 | w :: l, b => by
   simp only [bsF]
   by_cases hc : v ≤ w ∧ d w ≠ none
   ·rw [if_pos hc]
    by_cases hb : dN d w + 1 < b
    ·rw [if_pos hb]
     rcases bh8 (d := d) (v := v) (l := l) (b := dN d w + 1) with h | ⟨h1, x, h2, h3, h4, h5⟩
     ·exact .inr ⟨by omega, w, by simp, hc.1, hc.2, h⟩
     ·exact .inr ⟨by omega, x, by simp [h2], h3, h4, h5⟩
    ·rw [if_neg hb]
     rcases bh8 (d := d) (v := v) (l := l) (b := b) with h | ⟨h1, x, h2, h3, h4, h5⟩
     ·exact .inl h
     ·exact .inr ⟨h1, x, by simp [h2], h3, h4, h5⟩
   ·rw [if_neg hc]
    rcases bh8 (d := d) (v := v) (l := l) (b := b) with h | ⟨h1, x, h2, h3, h4, h5⟩
    ·exact .inl h
    ·exact .inr ⟨h1, x, by simp [h2], h3, h4, h5⟩
def ar7 (d : Nat → Option Nat) (v left w : Nat) : Bool := decide (v < w) && d w == some left
def cyF (nx : Nat → List Nat) (d : Nat → Option Nat) (v : Nat) : Nat → Nat → List Nat → List Nat
 | 0, _, c => c
 | l + 1, a, c => match (nx a).find? (ar7 d v (l + 1)) with
   | none => c
   | some w => cyF nx d v l w (c ++ [w])
def arF (nx bf : Nat → List Nat) (n v most : Nat) : Option (List Nat) :=
 if bsF (ai6 bf n v) v (nx v) most = most then none else some (cyF nx (ai6 bf n v) v (bsF (ai6 bf n v) v (nx v) most - 1) v [v])
def mostF (n : Nat) : Option (List Nat) → Nat
 | none => n + 1
 | some c => c.length
def gcF (nx bf : Nat → List Nat) (n : Nat) : Nat → Option (List Nat)
 | 0 => none
 | k + 1 => match arF nx bf n k (mostF n (gcF nx bf n k)) with
   | none => gcF nx bf n k
   | some c => some c
theorem gcF_none {nx bf : Nat → List Nat} {n : Nat} : ∀ {k : Nat}, gcF nx bf n k = none ↔ ∀ v, v < k → arF nx bf n v (n + 1) = none
 | 0 => by simp [gcF]
 | k + 1 => by
   simp only [gcF]
   constructor
   ·intro h
    split at h
    ·rename_i h1
     rw [h] at h1
     intro v hv
     by_cases hk : v = k
     ·subst hk; exact h1
     ·exact gcF_none.1 h v (by omega)
    ·cases h
   ·intro h
    have h0 : gcF nx bf n k = none := gcF_none.2 fun v hv => h v (by omega)
    have := h k (Nat.lt_succ_self _)
    simp only [h0, mostF, this]
theorem ar_none {nx bf : Nat → List Nat} {n : Nat} {rk : Nat → Nat} (hb : ∀ w u, u ∈ bf w → u < n) (hd : ∀ u w, u ∈ bf w ↔ w ∈ nx u) (hr : ∀ u w, w ∈ nx u → rk u < rk w) {v most : Nat} (hv : v < n) : arF nx bf n v most = none := by
 have hI := dist_BI (bf := bf) hb hv
 have key : ∀ k u, ai6 bf n v u = some k → rk u ≤ rk v := by
  intro k
  induction k with
  | zero =>
    intro u hu
    rcases hI.lo u _ hu with ⟨rfl, _⟩ | ⟨_, w, j, h3, _⟩
    ·exact Nat.le_refl _
    ·omega
  | succ k ih =>
    intro u hu
    obtain ⟨_, w, h4, h5⟩ := hI.pos hu
    have := ih w h4
    have := hr u w ((hd u w).1 h5)
    omega
 unfold arF
 rcases bh8 (d := ai6 bf n v) (v := v) (l := nx v) (b := most) with h | ⟨h1, w, h2, h3, h4, h5⟩
 ·rw [if_pos h]
 ·have := key _ w (dN_eq h4)
  have := hr v w h2
  omega
theorem ar_some {nx bf : Nat → List Nat} {n : Nat} (hb : ∀ w u, u ∈ bf w → u < n) (hd : ∀ u w, u ∈ bf w ↔ w ∈ nx u) {S : Nat → Prop} (hS : ∀ x, S x → x < n) (hp : ∀ x, S x → ∃ y, S y ∧ x ∈ nx y) {x : Nat} (hx : S x) : ∃ v, v < n ∧ arF nx bf n v (n + 1) ≠ none := by
 obtain ⟨p, hp1⟩ : ∃ p : Nat → Nat, ∀ x, S x → S (p x) ∧ x ∈ nx (p x) := by
  classical
  exact ⟨fun x => if h : S x then (hp x h).choose else 0, fun x h => by
  simp only [dif_pos h]; exact (hp x h).choose_spec⟩
 obtain ⟨y, m, hy, hm, he⟩ := it_cycle hS (fun x h => (hp1 x h).1) hx
 obtain ⟨v, a, hva, hvm, hmin⟩ := it_least he
 have hSv : S v := by rw [hva]; exact it_in (fun x h => (hp1 x h).1) hy a
 have hSi : ∀ i, S (itF p i v) := it_in (fun x h => (hp1 x h).1) hSv
 have hI := dist_BI (bf := bf) hb (hS v hSv)
 have key : ∀ i, ai6 bf n v (itF p i v) ≠ none := by
  intro i
  induction i with
  | zero => simp only [itF]; rw [hI.z]; simp
  | succ i ih =>
    simp only [itF]
    have h1 := (hp1 _ (hSi i)).2
    have h2 := hmin (i + 1)
    simp only [itF] at h2
    rcases Nat.lt_or_ge v (p (itF p i v)) with h3 | h3
    ·exact hI.cl _ ih (by simp) _ ((hd _ _).2 h1) h3
    ·rw [show p (itF p i v) = v by omega, hI.z]; simp
 refine ⟨v, hS v hSv, ?_⟩
 obtain ⟨m', rfl⟩ : ∃ m', m = m' + 1 := ⟨m - 1, by omega⟩
 have hw := (hp1 _ (hSi m')).2
 have hpv : p (itF p m' v) = v := hvm
 rw [hpv] at hw
 have hd2 := dN_eq (key m')
 have h1 := bsF_in (b := n + 1) hw (hmin m') (key m')
 have h2 := hI.dlt hd2
 unfold arF
 rw [if_neg (by omega)]
 simp
theorem goF_topo {nx : Nat → List Nat} {n : Nat} (hb : ∀ v w, v < n → w ∈ nx v → w < n) : ∀ (f : Nat) (l out : List Nat), IV n out l (ac3 nx n out) →
  (∀ j v, out[j]? = some v → ∀ u, u < n → v ∈ nx u → u ∈ out.take j) → ∀ j v, (goF nx n f l out)[j]? = some v → ∀ u, u < n → v ∈ nx u → u ∈ (goF nx n f l out).take j
 | 0, l, out, _, ht => ht
 | f + 1, l, out, h, ht => by
   simp only [goF]
   by_cases h0 : l.length = 0
   ·rw [if_pos h0]; exact ht
   ·rw [if_neg h0]
    obtain ⟨h1, h2⟩ := h.pop (m := l.length - 1) (by omega)
    have hvl : (ai8 l).getD (l.length - 1) 0 ∈ l := (popF_perm (l := l) (m := l.length - 1) (by omega)).mem_iff.1 (by simp)
    have hc := (h.ct _ h1).2 (List.mem_append.2 (.inr hvl))
    refine goF_topo hb f _ _ (h2.pr fun w hw => hb _ w h1 hw) (fun j w hj u hu hw => ?_)
    rcases Nat.lt_or_ge j out.length with hl | hl
    ·rw [List.getElem?_append_left hl] at hj
     rw [List.take_append_of_le_length (by omega)]
     exact ht j w hj u hu hw
    ·have hjl := (List.getElem?_eq_some_iff.1 hj).1
     simp only [List.length_append, List.length_cons, List.length_nil] at hjl
     have hje : j = out.length := by omega
     subst hje
     simp only [List.getElem?_append_right (Nat.le_refl _), Nat.sub_self, List.getElem?_cons_zero, Option.some.injEq] at hj
     subst hj
     rw [List.take_append_of_le_length (Nat.le_refl _), List.take_length]
     by_cases ho : u ∈ out
     ·exact ho
     ·exfalso
      have : (ai8 l).getD (l.length - 1) 0 ∈ ac3 nx n out := by
       simp only [ac3, List.mem_flatten, List.mem_map, List.mem_filter, List.mem_range]
       exact ⟨_, ⟨u, ⟨hu, by simpa using ho⟩, rfl⟩, hw⟩
      have := List.count_pos_iff.2 this
      omega
def posF : List Nat → Nat → Nat
 | [], _ => 0
 | a :: l, u => if a = u then 0 else posF l u + 1
theorem posF_get : ∀ {l : List Nat} {u : Nat}, u ∈ l → l[posF l u]? = some u
 | a :: l, u, h => by
   simp only [posF]
   by_cases ha : a = u
   ·rw [if_pos ha, List.getElem?_cons_zero, ha]
   ·rw [if_neg ha, List.getElem?_cons_succ]
    exact posF_get ((List.mem_cons.1 h).resolve_left fun e => ha e.symm)
theorem posF_le : ∀ {l : List Nat} {u i : Nat}, l[i]? = some u → posF l u ≤ i
 | a :: l, u, 0, h => by
   have : a = u := by simpa using h
   simp [posF, this]
 | a :: l, u, i + 1, h => by
   simp only [posF]
   split
   ·omega
   ·have := posF_le (l := l) (u := u) (i := i) (by simpa using h); omega
theorem rank_of {nx : Nat → List Nat} {n : Nat} (hb : ∀ v w, v < n → w ∈ nx v → w < n) (hx : ∀ v w, w ∈ nx v → v < n) (hf : ¬ (an9 nx n).length < n) : ∃ rk : Nat → Nat, ∀ u w, w ∈ nx u → rk u < rk w := by
 have hiv := outF_spec (nx := nx) (n := n) hb
 have hnd := hiv.nd
 have hlt := hiv.lt
 rw [List.append_nil] at hnd
 simp only [List.append_nil] at hlt
 have hall : ∀ k, k < n → k ∈ an9 nx n := fun k hk => Classical.byContradiction fun ho => by
  have := ad5 (List.nodup_cons.2 ⟨ho, hnd⟩) (n := n) (fun x hx => by
   rcases List.mem_cons.1 hx with rfl | hx
   ·exact hk
   ·exact hlt x hx)
  simp only [List.length_cons] at this
  omega
 refine ⟨posF (an9 nx n), fun u w hw => ?_⟩
 have hu := hx u w hw
 have h1 := posF_get (hall w (hb u w hu hw))
 have h2 := goF_topo hb _ _ _ IV.start (by simp) _ w h1 u hu hw
 obtain ⟨i, hi, e⟩ := List.getElem_of_mem h2
 rw [List.length_take] at hi
 rw [List.getElem_take] at e
 have hio : i < (an9 nx n).length := by
  have : i < min (posF (an9 nx n) w) (an9 nx n).length := hi
  omega
 have h3 : (an9 nx n)[i]? = some u := by rw [List.getElem?_eq_getElem hio]; exact congrArg some e
 have := posF_le h3
 have : i < posF (an9 nx n) w := by
  have : i < min (posF (an9 nx n) w) (an9 nx n).length := hi
  omega
 omega
theorem nextF_none {eqs : List NEqn} {g : Nat → Nat} {d : Nat → Bool} {last : Option Nat} (h : nextF eqs g d last = none) {i : Nat} (hi : i < eqs.length) : d i = true ∨ 0 < g i := by
 unfold nextF at h
 rw [nextR_eq, ← List.range_eq_range', Option.or_eq_none_iff, Option.or_eq_none_iff] at h
 have := List.find?_eq_none.1 h.2.2 i (List.mem_range.2 hi)
 cases hd : d i with
 | true => exact .inl rfl
 | false => rw [hd] at this; simp at this; exact .inr (by omega)
theorem ordF_ne {eqs : List NEqn} {rk : Nat → Nat} (hr : ∀ u w, u ∈ ao4 eqs w → rk u < rk w) : ∀ (f : Nat) (out : List Nat), ordF eqs f out ≠ none
 | 0, out => by simp [ordF]
 | f + 1, out => by
   simp only [ordF]
   by_cases hl : eqs.length ≤ out.length
   ·rw [if_pos hl]; simp
   ·rw [if_neg hl]
    split
    ·rename_i hn
     exfalso
     have hex : ∃ k, k < eqs.length ∧ k ∉ out := Classical.byContradiction fun hno => by
      have := sub_len (l := List.range eqs.length) (m := out) List.nodup_range fun k hk => Classical.byContradiction fun h => hno ⟨k, List.mem_range.1 hk, h⟩
      rw [List.length_range] at this
      exact hl this
     obtain ⟨k, hk⟩ := hex
     obtain ⟨y, ⟨hy1, hy2⟩, hmin⟩ := min_of (P := fun k => k < eqs.length ∧ k ∉ out) rk (rk k) k (Nat.le_refl _) hk
     rcases nextF_none hn hy1 with h | h
     ·exact hy2 (by simpa using h)
     ·have hg : 0 < (ac3 (nxE eqs) eqs.length out).count y := h
      rw [count_rem eqs out hy1] at hg
      obtain ⟨u, hu⟩ := List.exists_mem_of_length_pos hg
      rw [List.mem_filter] at hu
      have h1 := hr u y hu.1
      have := hmin u ⟨bc6 hu.1, by simpa using hu.2⟩
      omega
    ·exact ordF_ne hr f _
def exE (eqs : List NEqn) : Nat → List (Nat × Nat)
 | 0 => []
 | k + 1 => exE eqs k ++ (tbF eqs eqs.length k).map fun i => (i, k)
theorem exE_nx (eqs : List NEqn) (i : Nat) : ∀ k, ((exE eqs k).filter (fun e => e.1 == i)).map (·.2) = (List.range k).filter fun j => (tbF eqs eqs.length j).contains i
 | 0 => rfl
 | k + 1 => by
   have ih := exE_nx eqs i k
   simp only [exE, List.filter_append, List.map_append, List.range_succ]
   rw [ih]
   congr 1
   have : ((tbF eqs eqs.length k).map (fun i => (i, k))).filter (fun e => e.1 == i) = ((tbF eqs eqs.length k).filter (fun k => k == i)).map fun i => (i, k) := by
    rw [List.filter_map]; rfl
   rw [this, bh0 (by unfold tbF; exact List.Pairwise.filter _ List.nodup_range)]
   by_cases h : i ∈ tbF eqs eqs.length k
   ·simp [h]
   ·simp [h]
theorem exE_bf (eqs : List NEqn) (j : Nat) : ∀ k, ((exE eqs k).filter (fun e => e.2 == j)).map (·.1) = if j < k then tbF eqs eqs.length j else []
 | 0 => rfl
 | k + 1 => by
   have ih := exE_bf eqs j k
   simp only [exE, List.filter_append, List.map_append]
   rw [ih]
   have : ((tbF eqs eqs.length k).map (fun i => (i, k))).filter (fun e => e.2 == j) = if k = j then (tbF eqs eqs.length k).map fun i => (i, k) else [] := by
    rw [List.filter_map]
    by_cases h : k = j
    ·subst h
     rw [if_pos rfl, List.filter_eq_self.2 (by simp)]
    ·have : (k == j) = false := by simpa using h
     simp [Function.comp_def, this, h]
   rw [this]
   by_cases h : k = j
   ·subst h; simp [Function.comp_def]
   ·rw [if_neg h]
    by_cases h2 : j < k
    ·rw [if_pos h2, if_pos (by omega)]; simp
    ·rw [if_neg h2, if_neg (by omega)]; simp
def an8 (e : Nat × Nat) : Nat × Nat := (e.2, e.1)
theorem nxt_ex (eqs : List NEqn) (i : Nat) : nxt (exE eqs eqs.length) i = (List.range eqs.length).filter fun j => (tbF eqs eqs.length j).contains i := by
 unfold nxt nxF
 rw [List.take_length]; exact exE_nx eqs i _
theorem nxt_exb (eqs : List NEqn) (j : Nat) : nxt ((exE eqs eqs.length).map an8) j = if j < eqs.length then tbF eqs eqs.length j else [] := by
 unfold nxt nxF
 rw [List.take_length, List.filter_map, List.map_map]; exact exE_bf eqs j _
theorem am8 {eqs : List NEqn} {i j : Nat} : j ∈ nxt (exE eqs eqs.length) i ↔ i ∈ ao4 eqs j := by
 rw [nxt_ex, List.mem_filter, List.mem_range]
 constructor
 ·rintro ⟨_, h⟩; exact ay6.1 (by simpa using h)
 ·intro h; exact ⟨(an4 h).2, by simpa using ay6.2 h⟩
theorem ap3 {eqs : List NEqn} {i j : Nat} : i ∈ nxt ((exE eqs eqs.length).map an8) j ↔ i ∈ ao4 eqs j := by
 rw [nxt_exb]
 constructor
 ·intro h
  split at h
  ·exact ay6.1 h
  ·simp at h
 ·intro h; rw [if_pos (an4 h).2]; exact ay6.2 h
theorem asc_of {l : List Nat} (hp : l.Pairwise (· < ·)) : Asc l := by
 intro k x y hx hy
 obtain ⟨h1, rfl⟩ := List.getElem?_eq_some_iff.1 hx
 obtain ⟨h2, rfl⟩ := List.getElem?_eq_some_iff.1 hy
 exact List.pairwise_iff_getElem.1 hp k (k + 1) h1 h2 (Nat.lt_succ_self _)
theorem nxt_ex_asc (eqs : List NEqn) (i : Nat) : Asc (nxt (exE eqs eqs.length) i) := by
 rw [nxt_ex]; exact asc_of (List.Pairwise.filter _ List.pairwise_lt_range)
theorem nxt_exb_asc (eqs : List NEqn) (i : Nat) : Asc (nxt ((exE eqs eqs.length).map an8) i) := by
 rw [nxt_exb]
 split
 ·exact asc_of (List.Pairwise.filter _ List.pairwise_lt_range)
 ·intro k x y hx; simp at hx
theorem nxt_ex_len (eqs : List NEqn) (i : Nat) : (nxt (exE eqs eqs.length) i).length ≤ eqs.length := by
 rw [nxt_ex]
 have := List.length_filter_le (fun j => (tbF eqs eqs.length j).contains i) (List.range eqs.length)
 rw [List.length_range] at this; exact this
theorem nxt_exb_len (eqs : List NEqn) (i : Nat) : (nxt ((exE eqs eqs.length).map an8) i).length ≤ eqs.length := by
 rw [nxt_exb]
 split
 ·exact tbF_len eqs _ _
 ·simp
theorem exE_lt {eqs : List NEqn} {e : Nat × Nat} : ∀ {k}, k ≤ eqs.length → e ∈ exE eqs k → e.1 < eqs.length ∧ e.2 < eqs.length
 | 0, _, h => by simp [exE] at h
 | k + 1, hk, h => by
   simp only [exE, List.mem_append, List.mem_map] at h
   rcases h with h | ⟨i, h1, rfl⟩
   ·exact exE_lt (by omega) h
   ·exact ⟨(an4 (ay6.1 h1)).1, by simp only; omega⟩
theorem exE_len (eqs : List NEqn) : ∀ k, (exE eqs k).length ≤ k * eqs.length
 | 0 => by simp [exE]
 | k + 1 => by
   have := exE_len eqs k
   have := tbF_len eqs eqs.length k
   simp only [exE, List.length_append, List.length_map, Nat.add_mul, Nat.one_mul]
   omega
theorem gc_iff (eqs : List NEqn) : gcF (nxt (exE eqs eqs.length)) (nxt ((exE eqs eqs.length).map an8)) eqs.length eqs.length = none ↔ al4 eqs ≠ none := by
 have hb : ∀ w u, u ∈ nxt ((exE eqs eqs.length).map an8) w → u < eqs.length := fun w u h => (an4 (ap3.1 h)).1
 have hd : ∀ u w, u ∈ nxt ((exE eqs eqs.length).map an8) w ↔ w ∈ nxt (exE eqs eqs.length) u := fun u w => by rw [ap3, am8]
 rw [gcF_none]
 have hn1 : ∀ v w, v < eqs.length → w ∈ nxE eqs v → w < eqs.length := fun v w _ hw => (ap4.1 hw).1
 have hn2 : ∀ v w, w ∈ nxE eqs v → v < eqs.length := fun v w hw => bc6 (ap4.1 hw).2
 by_cases hf : (an9 (nxE eqs) eqs.length).length < eqs.length
 ·have hr : al4 eqs = none := by unfold al4; rw [if_pos hf]
  refine ⟨fun h => ?_, fun h => (h hr).elim⟩
  exfalso
  have hex : ∃ k, k < eqs.length ∧ k ∉ an9 (nxE eqs) eqs.length := Classical.byContradiction fun hno => by
   have := sub_len (l := List.range eqs.length) (m := an9 (nxE eqs) eqs.length) List.nodup_range fun k hk => Classical.byContradiction fun h => hno ⟨k, List.mem_range.1 hk, h⟩
   rw [List.length_range] at this
   omega
  obtain ⟨k, hk⟩ := hex
  obtain ⟨v, hv, hne⟩ := ar_some hb hd (S := fun k => k < eqs.length ∧ k ∉ an9 (nxE eqs) eqs.length) (fun x h => h.1) (fun x h => by
   obtain ⟨v, h1, h2, h3⟩ := outF_stuck hn1 h.1 h.2
   exact ⟨v, ⟨h1, h2⟩, am8.2 (ap4.1 h3).2⟩) hk
  exact hne (h v hv)
 ·obtain ⟨rk, hrk⟩ := rank_of hn1 hn2 hf
  have hrd : ∀ u w, u ∈ ao4 eqs w → rk u < rk w := fun u w h => hrk u w (ap4.2 ⟨(an4 h).2, h⟩)
  refine ⟨fun _ => ?_, fun _ v hv => ar_none hb hd (fun u w h => hrd u w (am8.1 h)) hv⟩
  unfold al4
  rw [if_neg hf]
  exact ordF_ne hrd _ _
end Go.Proofs.YtagogibgoknncaaGreatDoor
