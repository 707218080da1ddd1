/-
  sched.next.
  The edges in plain Lean; what sched.Order keeps.
  sched.Order.
-/
import Derived.Test.YtagogibgoknncaaGreatDoorPe
set_option linter.unusedSimpArgs false
set_option linter.unusedVariables false
namespace Go.Proofs.YtagogibgoknncaaGreatDoor
open Go Go.B
def ag0 (N : Nat) (d : Nat → Bool) : List V := (List.range N).map fun k => .b (d k)
theorem bc_len (N : Nat) (d : Nat → Bool) : (ag0 N d).length = N := by simp [ag0]
theorem bc_get {N : Nat} {d : Nat → Bool} {j : Nat} (h : j < N) : (ag0 N d)[j]? = some (.b (d j)) := by simp [ag0, h]
theorem bc_set (N : Nat) (d : Nat → Bool) (j : Nat) (x : Bool) : (ag0 N d).set j (.b x) = ag0 N (fun k => if k = j then x else d k) := by
 apply List.ext_getElem?
 intro i
 rw [List.getElem?_set]
 simp only [ag0, List.getElem?_map, List.length_map, List.length_range]
 by_cases hij : j = i
 ·subst hij
  by_cases hj : j < N
  ·simp [hj]
  ·simp [hj]
 ·rw [if_neg hij]
  by_cases hi : i < N
  ·simp [hi, Ne.symm hij]
  ·simp [hi]
theorem bc_false (N : Nat) : List.replicate N (V.b false) = ag0 N fun _ => false := by
 apply List.ext_getElem?
 intro i
 simp only [ag0, List.getElem?_map, List.getElem?_replicate]
 by_cases h : i < N
 ·simp [h]
 ·simp [h]
def ckF (eqs : List NEqn) (k : Nat) : List On := match eqs[k]? with
 | some q => q.ck
 | none => []
def nearB (eqs : List NEqn) (last : Option Nat) (k : Nat) : Bool := match last with
 | none => true
 | some m => eqB eqOn (ckF eqs k) (ckF eqs m)
def ar3 : Option Nat → Int
 | none => -1
 | some m => m
def aw5 (eqs : List NEqn) (g : Nat → Nat) (d : Nat → Bool) (last : Option Nat) : Nat → Nat → Option Nat → Option Nat
 | 0, _, first => first
 | r + 1, k, first => if d k = true ∨ 0 < g k then aw5 eqs g d last r (k + 1) first else if nearB eqs last k = true then some k else aw5 eqs g d last r (k + 1) (first.or (some k))
def nextF (eqs : List NEqn) (g : Nat → Nat) (d : Nat → Bool) (last : Option Nat) : Option Nat := aw5 eqs g d last eqs.length 0 none
set_option maxRecDepth 10000 in
set_option maxHeartbeats 4000000 in
theorem snext_ac {js : List O} {b : Nat} {ev : V} {g : Nat → Nat} {d : Nat → Bool} {last : Option Nat} (n : NNode) (hk : n.ok) (hb : NB n.eqs) (hsc : hpL js b = .c false (scc b n.row n.eqs.length ev)) (hlf : hpL js (b + 1) = .c false (m6 n.eqs.length g)) (hdn : hpL js (b + 2) = .c false (ag0 n.eqs.length d))
  (hm : ∀ m, last = some m → m < n.eqs.length) (hlt : ltO js.length js = true) :
  ACalls Tryz.prog 21 [.p b 0, .i .i64 (ar3 last)] (hpL js) js.length (.i .i64 (ar3 (nextF n.eqs g d last))) (hpL js) js.length := by
 have hN := hb.n
 have hsc' : ∀ ks, hpL (js ++ ks) b = .c false [.s n.nm.1 n.nm.2, .ts (n.ins.map Decl.row), .ts (n.outs.map Decl.row), .ts (n.locals.map Decl.row), .ts (n.eqs.map NEqn.row), ev, .sl (b + 1) 0 1 n.eqs.length none, .sl (b + 2) 0 1 n.eqs.length none] := fun ks => j2 hsc
 have hsc0 := hsc' []
 rw [List.append_nil] at hsc0
 have hlf' := fun ks => j2 (m := ks) hlf
 have hdn' := fun ks => j2 (m := ks) hdn
 refine ab4 Tryz.func21 k21 rfl rfl (by simp only [V.lt]) hlt ?_
 repeat' (first
  | ((with_reducible refine b8 (fun h => ?_) (fun h => ?_)) <;> simp only [h, aa9, aa8, hsc0, m0, SXR, simprocAttr])
  | (simp only [c21, aa9, aa8, hsc0, m0, SXR, simprocAttr]))
 refine m5 (X := Nat × Option Nat) (fun x ll hs => ∃ zs : List O, Hd (fun j => [.p b 0, .i .i64 (ar3 last), j 2, j 3, j 4, .i .i64 (ar3 x.2), j 6, j 7, j 8, j 9, j 10, j 11, .ts (n.eqs.map NEqn.row), .i .i64 (n.eqs.length : Int), .i .i64 (x.1 : Int), j 15, j 16, j 17, j 18, j 19, j 20, j 21, j 22, j 23, j 24, j 25, j 26, j 27, j 28, j 29, j 30, j 31, j 32, j 33, j 34, j 35, j 36, j 37, j 38, j 39, j 40, j 41, j 42, j 43, j 44, j 45, j 46, j 47, j 48, j 49, j 50, j 51, j 52, j 53, j 54, j 55, j 56, j 57]) ll ∧ hs = js ++ zs)
  (fun x => x.1 ≤ n.eqs.length ∧ aw5 n.eqs g d last (n.eqs.length - x.1) x.1 x.2 = nextF n.eqs g d last) (fun x => n.eqs.length - x.1) ?_ (0, none) _ _ (by exact ⟨[], rfl, by simp⟩) ⟨Nat.zero_le _, rfl⟩
 rintro ⟨k, first⟩ _ _ ⟨zs, e, rfl⟩ ⟨hkn, hfin⟩ IH
 obtain ⟨j, rfl⟩ := e.open
 clear e
 simp only at hkn hfin IH ⊢
 by_cases hil : k < n.eqs.length
 ·obtain ⟨q, hq, hqm⟩ := ats hil
  have hqr := mg (f := NEqn.row) hq
  have hd := ltd hil
  have hw := j1 (n := k) (by omega)
  have hia : ∀ a, iadE 1 (.sl a 0 1 n.eqs.length none) (.i .i64 (k : Int)) = some (.p a k) := fun a => by
   have := ae0 (a := a) (w := 1) (wd := 1) (c := none) hil
   rw [Nat.mul_one] at this; exact this
  have hld := ld1 (gr := false) (fc_get (g := g) hil)
  have hdd := ld1 (gr := false) (bc_get (d := d) hil)
  unfold z7 at hld
  have hqo := (hk.2.2.2.2 q hqm).2.2.2.2.1
  have hck : ckF n.eqs k = q.ck := by simp only [ckF, hq]
  rw [show n.eqs.length - k = (n.eqs.length - (k + 1)) + 1 by omega] at hfin
  simp only [aw5] at hfin
  cases hdk : d k with
  | true =>
    rw [if_pos (.inl hdk)] at hfin
    rw [hdk] at hdd
    repeat' (first
     | ((with_reducible refine b8 (fun h => ?_) (fun h => ?_)) <;> simp only [h, aa9, aa8, hsc', hlf', hdn', hqr, hd, hw, hia, hld, hdd, ak6, i6, i4, List.append_assoc, m0, SXR, simprocAttr])
     | (simp only [c21, aa9, aa8, hsc', hlf', hdn', hqr, hd, hw, hia, hld, hdd, ak6, i6, i4, List.append_assoc, m0, SXR, simprocAttr]))
    exact IH (k + 1, first) _ _ (by exact ⟨zs ++ [.c false q.row], rfl, rfl⟩) ⟨hil, hfin⟩ (by simp only; omega)
  | false =>
    rw [hdk] at hdd
    by_cases hg : 0 < g k
    ·have hgg : decide ((g k : Int) > 0) = true := decide_eq_true (by omega)
     rw [if_pos (.inr hg)] at hfin
     repeat' (first
      | ((with_reducible refine b8 (fun h => ?_) (fun h => ?_)) <;> simp only [h, aa9, aa8, hsc', hlf', hdn', hqr, hd, hw, hia, hld, hdd, hgg, ak6, i6, i4, List.append_assoc, m0, SXR, simprocAttr])
      | (simp only [c21, aa9, aa8, hsc', hlf', hdn', hqr, hd, hw, hia, hld, hdd, hgg, ak6, i6, i4, List.append_assoc, m0, SXR, simprocAttr]))
     exact IH (k + 1, first) _ _ (by exact ⟨zs ++ [.c false q.row], rfl, rfl⟩) ⟨hil, hfin⟩ (by simp only; omega)
    ·have hgg : decide ((g k : Int) > 0) = false := decide_eq_false (by omega)
     rw [if_neg (by rw [hdk]; simp; omega)] at hfin
     rcases last with _ | m
     ·simp only [nearB, if_true] at hfin
      have hl0 : decide (ar3 none < 0) = true := rfl
      rw [← hfin]
      repeat' (first
       | ((with_reducible refine b8 (fun h => ?_) (fun h => ?_)) <;> simp only [h, aa9, aa8, hsc', hlf', hdn', hqr, hd, hw, hia, hld, hdd, hgg, hl0, ak6, i6, i4, List.append_assoc, m0, SXR, simprocAttr])
       | (simp only [c21, aa9, aa8, hsc', hlf', hdn', hqr, hd, hw, hia, hld, hdd, hgg, hl0, ak6, i6, i4, List.append_assoc, m0, SXR, simprocAttr]))
      exact ⟨rfl, _, rfl⟩
     ·have hmn := hm m rfl
      obtain ⟨q2, hq2, hq2m⟩ := ats hmn
      have hqr2 := mg (f := NEqn.row) hq2
      have hck2 : ckF n.eqs m = q2.ck := by simp only [ckF, hq2]
      have hl0 : decide ((m : Int) < 0) = false := decide_eq_false (by omega)
      have hlm : ar3 (some m) = (m : Int) := rfl
      have heq := seqon_pc q.ck q2.ck hqo
      simp only [nearB, hck, hck2] at hfin
      have hoc := u5 q.ck
      have hoc2 := u5 q2.ck
      cases hne : eqB eqOn q.ck q2.ck with
      | true =>
        rw [if_pos hne] at hfin
        rw [hne] at heq
        rw [← hfin]
        repeat' (first
         | ((with_reducible refine b8 (fun h => ?_) (fun h => ?_)) <;> simp only [h, aa9, aa8, hsc', hlf', hdn', hqr, hqr2, hd, hw, hia, hld, hdd, hgg, hl0, hlm, hoc, hoc2, ak6, i6, i4, m9, List.append_assoc, m0, SXR, simprocAttr])
         | (with_reducible refine j9 (heq) (by simp only [SXR, hoc, hoc2]) (by simp only [SXR, hoc, hoc2]) ?_)
         | (simp only [c21, aa9, aa8, hsc', hlf', hdn', hqr, hqr2, hd, hw, hia, hld, hdd, hgg, hl0, hlm, hoc, hoc2, ak6, i6, i4, m9, List.append_assoc, m0, SXR, simprocAttr]))
        exact ⟨rfl, _, rfl⟩
      | false =>
        rw [if_neg (by rw [hne]; simp)] at hfin
        rw [hne] at heq
        rcases first with _ | f
        ·have hf0 : decide (ar3 none < 0) = true := rfl
         repeat' (first
          | ((with_reducible refine b8 (fun h => ?_) (fun h => ?_)) <;> simp only [h, aa9, aa8, hsc', hlf', hdn', hqr, hqr2, hd, hw, hia, hld, hdd, hgg, hl0, hlm, hf0, hoc, hoc2, ak6, i6, i4, m9, List.append_assoc, m0, SXR, simprocAttr])
          | (with_reducible refine j9 (heq) (by simp only [SXR, hoc, hoc2]) (by simp only [SXR, hoc, hoc2]) ?_)
          | (simp only [c21, aa9, aa8, hsc', hlf', hdn', hqr, hqr2, hd, hw, hia, hld, hdd, hgg, hl0, hlm, hf0, hoc, hoc2, ak6, i6, i4, m9, List.append_assoc, m0, SXR, simprocAttr]))
         exact IH (k + 1, some k) _ _ (by exact ⟨zs ++ [.c false q.row], rfl, rfl⟩) ⟨hil, hfin⟩ (by simp only; omega)
        ·have hf0 : decide (ar3 (some f) < 0) = false := decide_eq_false (by simp only [ar3]; omega)
         repeat' (first
          | ((with_reducible refine b8 (fun h => ?_) (fun h => ?_)) <;> simp only [h, aa9, aa8, hsc', hlf', hdn', hqr, hqr2, hd, hw, hia, hld, hdd, hgg, hl0, hlm, hf0, hoc, hoc2, ak6, i6, i4, m9, List.append_assoc, m0, SXR, simprocAttr])
          | (with_reducible refine j9 (heq) (by simp only [SXR, hoc, hoc2]) (by simp only [SXR, hoc, hoc2]) ?_)
          | (simp only [c21, aa9, aa8, hsc', hlf', hdn', hqr, hqr2, hd, hw, hia, hld, hdd, hgg, hl0, hlm, hf0, hoc, hoc2, ak6, i6, i4, m9, List.append_assoc, m0, SXR, simprocAttr]))
         exact IH (k + 1, some f) _ _ (by exact ⟨zs ++ [.c false q.row], rfl, rfl⟩) ⟨hil, hfin⟩ (by simp only; omega)
 ·clear IH
  have hke : k = n.eqs.length := by omega
  subst hke
  have hd := ltn hil
  rw [Nat.sub_self] at hfin
  simp only [aw5] at hfin
  rw [← hfin]
  repeat' (first
   | ((with_reducible refine b8 (fun h => ?_) (fun h => ?_)) <;> simp only [h, aa9, aa8, hd, m0, SXR, simprocAttr])
   | (simp only [c21, aa9, aa8, hd, m0, SXR, simprocAttr]))
  exact ⟨_, rfl⟩
theorem bh0 {l : List Nat} {i : Nat} (h : l.Nodup) : l.filter (fun k => k == i) = if i ∈ l then [i] else [] := by
 induction l with
 | nil => rfl
 | cons a l ih =>
   rw [List.nodup_cons] at h
   rw [List.filter_cons, ih h.2]
   by_cases ha : a = i
   ·subst ha
    simp [h.1]
   ·have : (a == i) = false := by simp [ha]
    simp [this, Ne.symm ha]
def wtF (eqs : List NEqn) (j : Nat) (i : Nat) : List Nat := (List.range j).filter fun k => (ao4 eqs k).contains i
theorem edg_nx (eqs : List NEqn) (i : Nat) : ∀ j, ((as5 eqs j).filter (fun e => e.1 == i)).map (·.2) = wtF eqs j i
 | 0 => rfl
 | j + 1 => by
   have ih := edg_nx eqs i j
   simp only [as5, wtF, List.filter_append, List.map_append, List.range_succ] at ih ⊢
   rw [ih]
   congr 1
   have : ((ao4 eqs j).map (fun i => (i, j))).filter (fun e => e.1 == i) = ((ao4 eqs j).filter (fun k => k == i)).map fun i => (i, j) := by
    rw [List.filter_map]; rfl
   rw [this, bh0 (av0 eqs j)]
   by_cases h : i ∈ ao4 eqs j
   ·simp [h]
   ·simp [h]
def nxE (eqs : List NEqn) : Nat → List Nat := nxt (as5 eqs eqs.length)
theorem nxE_eq (eqs : List NEqn) (i : Nat) : nxE eqs i = wtF eqs eqs.length i := by
 unfold nxE nxt nxF
 rw [List.take_length]; exact edg_nx eqs i _
theorem ap4 {eqs : List NEqn} {i k : Nat} : k ∈ nxE eqs i ↔ k < eqs.length ∧ i ∈ ao4 eqs k := by
 rw [nxE_eq]; simp [wtF]
theorem nxE_asc (eqs : List NEqn) (i : Nat) : Asc (nxE eqs i) := by
 rw [nxE_eq]
 have hp : (wtF eqs eqs.length i).Pairwise (· < ·) := List.Pairwise.filter _ List.pairwise_lt_range
 intro k x y hx hy
 obtain ⟨h1, rfl⟩ := List.getElem?_eq_some_iff.1 hx
 obtain ⟨h2, rfl⟩ := List.getElem?_eq_some_iff.1 hy
 exact List.pairwise_iff_getElem.1 hp k (k + 1) h1 h2 (Nat.lt_succ_self _)
theorem nxE_nodup (eqs : List NEqn) (i : Nat) : (nxE eqs i).Nodup := by
 rw [nxE_eq]; exact List.Pairwise.filter _ List.nodup_range
theorem nxE_len (eqs : List NEqn) (i : Nat) : (nxE eqs i).length ≤ eqs.length := ad5 (nxE_nodup eqs i) fun k hk => (ap4.1 hk).1
theorem edgF_lt {eqs : List NEqn} {e : Nat × Nat} : ∀ {j}, j ≤ eqs.length → e ∈ as5 eqs j → e.1 < eqs.length ∧ e.2 < eqs.length
 | 0, _, h => by simp [as5] at h
 | j + 1, hj, h => by
   simp only [as5, List.mem_append, List.mem_map] at h
   rcases h with h | ⟨i, h1, rfl⟩
   ·exact edgF_lt (by omega) h
   ·exact ⟨bc6 h1, by simp only; omega⟩
theorem sum_one (f : Nat → Nat) (p : Nat → Bool) (h : ∀ i, f i = if p i = true then 1 else 0) : ∀ l : List Nat, (l.map f).sum = (l.filter p).length
 | [] => rfl
 | a :: l => by
   rw [List.map_cons, List.sum_cons, sum_one f p h l, h a, List.filter_cons]
   split <;> simp <;> omega
theorem count_one {l : List Nat} {k : Nat} (h : l.Nodup) : l.count k = if l.contains k = true then 1 else 0 := by
 have := List.nodup_iff_count.1 h k
 by_cases hk : k ∈ l
 ·have := List.count_pos_iff.2 hk
  simp [hk]; omega
 ·simp [hk, List.count_eq_zero.2 hk]
theorem count_rem (eqs : List NEqn) (out : List Nat) {k : Nat} (hk : k < eqs.length) : (ac3 (nxE eqs) eqs.length out).count k = ((ao4 eqs k).filter fun i => !out.contains i).length := by
 unfold ac3
 rw [an5, sum_one _ (fun v => (nxE eqs v).contains k) (fun i => count_one (nxE_nodup eqs i)), List.filter_filter]
 have h1 : ((List.range eqs.length).filter fun a => (nxE eqs a).contains k && !out.contains a).Perm ((ao4 eqs k).filter fun i => !out.contains i) := by
  refine (List.perm_ext_iff_of_nodup (List.Pairwise.filter _ List.nodup_range) ((av0 eqs k).filter _)).2 fun a => ?_
  simp only [List.mem_filter, List.mem_range, Bool.and_eq_true, List.contains_iff_mem, ap4]
  constructor
  ·rintro ⟨h1, ⟨_, h2⟩, h3⟩; exact ⟨h2, h3⟩
  ·rintro ⟨h2, h3⟩; exact ⟨bc6 h2, ⟨hk, h2⟩, h3⟩
 exact h1.length_eq
theorem count_rem0 (eqs : List NEqn) {k : Nat} (hk : k < eqs.length) : (ac3 (nxE eqs) eqs.length []).count k = (ao4 eqs k).length := by
 rw [count_rem eqs [] hk, List.filter_eq_self.2 (by simp)]
theorem au0 {eqs : List NEqn} {g : Nat → Nat} {d : Nat → Bool} {last : Option Nat} : ∀ {r k : Nat} {first : Option Nat} {v : Nat}, (∀ f, first = some f → f < k ∧ d f = false ∧ g f = 0) → aw5 eqs g d last r k first = some v → v < k + r ∧ d v = false ∧ g v = 0
 | 0, k, first, v, hf, h => by simp only [aw5] at h; have := hf v h; exact ⟨by omega, this.2⟩
 | r + 1, k, first, v, hf, h => by
   simp only [aw5] at h
   split at h
   ·have := au0 (fun f e => ⟨by have := (hf f e).1; omega, (hf f e).2⟩) h
    exact ⟨by omega, this.2⟩
   ·rename_i hc
    have hdk : d k = false := by
     cases hx : d k with
     | true => exact (hc (.inl hx)).elim
     | false => rfl
    have hgk : g k = 0 := by
     rcases Nat.eq_zero_or_pos (g k) with q | q
     ·exact q
     ·exact (hc (.inr q)).elim
    split at h
    ·cases h; exact ⟨by omega, hdk, hgk⟩
    ·have := au0 (fun f e => by
      cases first with
      | none => simp at e; subst e; exact ⟨by omega, hdk, hgk⟩
      | some x => simp at e; subst e; exact ⟨by have := (hf x rfl).1; omega, (hf x rfl).2⟩) h
     exact ⟨by omega, this.2⟩
theorem nextF_spec {eqs : List NEqn} {g : Nat → Nat} {d : Nat → Bool} {last : Option Nat} {v : Nat} (h : nextF eqs g d last = some v) : v < eqs.length ∧ d v = false ∧ g v = 0 := by
 have := au0 (fun f e => by cases e) h
 simpa using this
def ordF (eqs : List NEqn) : Nat → List Nat → Option (List Nat)
 | 0, out => some out
 | f + 1, out => if eqs.length ≤ out.length then some out else match nextF eqs (gX (ac3 (nxE eqs) eqs.length out)) (fun k => out.contains k) out.getLast? with
   | none => none
   | some v => ordF eqs f (out ++ [v])
def al4 (eqs : List NEqn) : Option (List Nat) := if (an9 (nxE eqs) eqs.length).length < eqs.length then none else ordF eqs (eqs.length + 1) []
def ordV : Option (List Nat) → V
 | none => .tu [.ns, .i .i64 13]
 | some l => .tu [.ts (p6 l), .i .i64 0]
structure SO (P H : List O) (N : Nat) (X : List Nat) (d : Nat → Bool) (ov : V) (out : List Nat) : Prop where
 len : P.length ≤ H.length
 P4 : 4 ≤ P.length
 low : ∀ a, a < P.length → a ≠ 2 → a ≠ 3 → hpL H a = hpL P a
 lf : hpL H 2 = .c false (m6 N (gX X))
 dn : hpL H 3 = .c false (ag0 N d)
 ou : NR irw 1 H ov out
 oK : ∀ B o w m c, ov = .sl B o w m c → P.length ≤ B
 lt : ltO H.length H = true
section
variable {P H : List O} {N : Nat} {X : List Nat} {d : Nat → Bool} {ov : V} {out : List Nat}
theorem bc_cl (N : Nat) (d : Nat → Bool) : clL (ag0 N d) = true := by
 unfold ag0
 induction List.range N with
 | nil => rfl
 | cons a l ih => simp only [List.map_cons, clL, ih, V.cl, Bool.and_self]
theorem SO.done (h : SO P H N X d ov out) {v : Nat} (hv : v < N) : ∃ H', stpO H 3 1 v [.b true] (.c false (ag0 N d)) = some H' ∧ SO P H' N X (fun k => if k = v then true else d k) ov out := by
 have hl := h.len
 have h4 := h.P4
 have hst := stp1 (hs := H) (b := 3) (gr := false) (cs := ag0 N d) (j := v) (x := .b true) (by rw [bc_len]; exact hv)
 rw [bc_set, z9 (by omega)] at hst
 refine ⟨_, hst, by simpa using hl, h4, fun a ha h2 h3 => ?_, ?_, m8 (by omega), ?_, h.oK, ?_⟩
 ·rw [i8 h3]; exact h.low a ha h2 h3
 ·rw [i8 (by omega)]; exact h.lf
 ·rcases h.ou with q | ⟨B, q1, q2⟩
  ·exact .inl q
  ·refine .inr ⟨B, q1, ?_⟩
   have := h.oK _ _ _ _ _ q1
   rw [i8 (by omega)]; exact q2
 ·rw [List.length_set]; exact ltO_set (ab2 (by rw [ac4]; exact bc_cl _ _)) h.lt
theorem SO.left (h : SO P H N X d ov out) {w x : Nat} {X' : List Nat} (hw : w < N) (hX : ∀ k, X'.count k = if k = w then x else X.count k) : ∃ H', stpO H 2 1 w [.i .i64 (x : Int)] (.c false (m6 N (gX X))) = some H' ∧ SO P H' N X' d ov out := by
 have hl := h.len
 have h4 := h.P4
 have hst := stp1 (hs := H) (b := 2) (gr := false) (cs := m6 N (gX X)) (j := w) (x := z7 x) (by rw [fc_len]; exact hw)
 rw [fc_set, z9 (by omega), show (fun k => if k = w then x else gX X k) = gX X' from funext fun k => (hX k).symm] at hst
 refine ⟨_, hst, by simpa using hl, h4, fun a ha h2 h3 => ?_, m8 (by omega), ?_, ?_, h.oK, ?_⟩
 ·rw [i8 h2]; exact h.low a ha h2 h3
 ·rw [i8 (by omega)]; exact h.dn
 ·rcases h.ou with q | ⟨B, q1, q2⟩
  ·exact .inl q
  ·refine .inr ⟨B, q1, ?_⟩
   have := h.oK _ _ _ _ _ q1
   rw [i8 (by omega)]; exact q2
 ·rw [List.length_set]; exact ltO_set (ab2 (by rw [ac4]; exact fc_cl _ _)) h.lt
theorem SO.app (h : SO P H N X d ov out) (v : Nat) (hn : out.length < 1000000) :
  ∃ (ov' : V) (H' : List O), (∀ rb k, rb + k = H.length + 1 → ag9 rb (H ++ [.c false [.i .i64 (v : Int)], .no]) k ov (some [.i .i64 (v : Int)]) (some 1) 1 8 = some (ov', H')) ∧ SO P H' N X d ov' (out ++ [v]) := by
 have hl := h.len
 have h4 := h.P4
 have hap := h.ou.app1 (by omega) irw_w v (bytes := 8) (v9 (by omega) (by omega)) [.c false [.i .i64 (v : Int)]]
 have hother : ∀ a, a < P.length → hpL (ak8 H ov ++ ([O.c false [V.i .i64 (v : Int)]] ++ [O.c true (fl irw (out ++ [v]))])) a = hpL H a := fun a ha => al9 (by omega) (fun B o w n c e => by have := h.oK _ _ _ _ _ e; omega)
 refine ⟨_, _, fun rb k e => hap rb k (by simpa using e), by simp [p7]; omega, h4, fun a ha h2 h3 => ?_, ?_, ?_, ?_, fun B o w m c e => ?_, ?_⟩
 ·rw [hother a ha]; exact h.low a ha h2 h3
 ·rw [hother _ (by omega)]; exact h.lf
 ·rw [hother _ (by omega)]; exact h.dn
 ·exact .inr ⟨H.length + 1, by simp, an0 (X := [O.c false [V.i IntKind.i64 (v : Int)]])⟩
 ·cases e; simp; omega
 ·refine aa7 (n := H.length) (by simp [p7]) (bb3 h.lt) ?_
  simp only [List.cons_append, List.nil_append, List.all_cons, List.all_nil, ac4, fl_cl irw_c, clL, V.cl, Bool.and_self]
end
theorem beg_nr (n : NNode) {o : O} : NR ag2 2 ([o] ++ begO 1 n) (edgV 1 (as5 n.eqs n.eqs.length)) (as5 n.eqs n.eqs.length) := by
 by_cases h : (as5 n.eqs n.eqs.length).length = 0
 ·exact .inl ⟨by simp only [edgV, if_pos h], List.length_eq_zero_iff.1 h⟩
 ·refine .inr ⟨4, by simp only [edgV, if_neg h], ?_⟩
  simp only [begO, if_neg h]
  rfl
theorem ltL_app2 {m : Nat} {a b : List V} (ha : clL a = true) (hb : ltL m b = true) : ltL m (a ++ b) = true := ltL_app (ac7 m a ha) hb
theorem beg_lt (n : NNode) : ltO ([O.c false n.row] ++ begO 1 n).length ([O.c false n.row] ++ begO 1 n) = true := by
 have h1 : ocl (O.c false n.row) = true := by rw [ac4]; exact aj4 n
 have h2 : ocl (O.c false (m6 n.eqs.length fun k => (ao4 n.eqs k).length)) = true := by rw [ac4]; exact fc_cl _ _
 have h3 : ocl (O.c false (List.replicate n.eqs.length (V.b false))) = true := by rw [ac4]; exact bd5 _
 by_cases h : (as5 n.eqs n.eqs.length).length = 0
 ·simp only [begO, edgV, if_pos h, List.append_nil, List.cons_append, List.nil_append, ltO, ab2 h1, ab2 h2, ab2 h3, Bool.true_and, Bool.and_true, List.length_cons, List.length_nil]
  show ltL _ (n.row ++ [_, _, _]) = true
  exact ltL_app2 (aj4 n) rfl
 ·have h4 : ocl (O.c true (fl ag2 (as5 n.eqs n.eqs.length))) = true := by rw [ac4]; exact fl_cl bc2 _
  simp only [begO, edgV, if_neg h, List.cons_append, List.nil_append, ltO, ab2 h1, ab2 h2, ab2 h3, ab2 h4, Bool.true_and, Bool.and_true, List.length_cons, List.length_nil]
  show ltL _ (n.row ++ [_, _, _]) = true
  exact ltL_app2 (aj4 n) rfl
theorem ordV_cl (r : Option (List Nat)) : (ordV r).cl = true := by
 cases r with
 | none => rfl
 | some l =>
   have : clR (p6 l) = true := by
    have := irw_cl l
    simpa only [irow, clL, V.cl, Bool.and_true] using this
   simp only [ordV, V.cl, clL, this, Bool.and_self]
set_option maxRecDepth 20000 in
set_option maxHeartbeats 8000000 in
theorem sorder_pc (n : NNode) (hk : n.ok) (hb : NB n.eqs) : PC Tryz.prog 8 [.ag n.row] (ordV (al4 n.eqs)) := by
 have hN := hb.n
 have hmk : ∀ hs a, mksB hs a 1 24 [.ns] (.i .i64 (n.eqs.length : Int)) (.i .i64 (n.eqs.length : Int)) = (u6 hs a (.c false (List.replicate n.eqs.length .ns))).map fun h => (n.eqs.length, h) := by
  intro hs a
  have hq : decide (n.eqs.length ≤ 1073741824 ∧ 24 * n.eqs.length ≤ 281474976710656 ∧ [V.ns].length = 1) = true := decide_eq_true ⟨by omega, by omega, rfl⟩
  rw [mks_n hq, nscells]
 have h4096 : decide ((n.eqs.length : Int) > 4096) = false := decide_eq_false (by omega)
 have hbeg := sbegin_ac (js := [.c false n.row]) n hk hb (bg5 (by rw [ac4]; exact aj4 n))
 have hnr := beg_nr n (o := O.c false n.row)
 have hlt0 := beg_lt n
 have hl5 : 4 ≤ ([O.c false n.row] ++ begO 1 n).length := by simp [begO]
 have hs1 : hpL ([O.c false n.row] ++ begO 1 n) 1 = .c false (scc 1 n.row n.eqs.length (edgV 1 (as5 n.eqs n.eqs.length))) := rfl
 have hs2 : hpL ([O.c false n.row] ++ begO 1 n) 2 = .c false (m6 n.eqs.length fun k => (ao4 n.eqs k).length) := rfl
 have hs3 : hpL ([O.c false n.row] ++ begO 1 n) 3 = .c false (List.replicate n.eqs.length (.b false)) := rfl
 rw [show ([O.c false n.row] : List O).length = 1 from rfl] at hbeg
 obtain ⟨P0, hP0⟩ : ∃ P0, P0 = [O.c false n.row] ++ begO 1 n := ⟨_, rfl⟩
 rw [← hP0] at hbeg hnr hlt0 hl5 hs1 hs2 hs3
 have hEl := edgF_len n.eqs n.eqs.length
 have hEl2 : n.eqs.length * n.eqs.length ≤ 200 * 200 := Nat.mul_le_mul hN hN
 have hEb : ∀ e, e ∈ as5 n.eqs n.eqs.length → e.1 < n.eqs.length ∧ e.2 < n.eqs.length := fun e he => edgF_lt (Nat.le_refl _) he
 have hnxe : nxt (as5 n.eqs n.eqs.length) = nxE n.eqs := rfl
 generalize hE : as5 n.eqs n.eqs.length = E at *
 generalize hev : edgV 1 E = ev at *
 have hs1' : ∀ ks, hpL (P0 ++ ks) 1 = .c false [.s n.nm.1 n.nm.2, .ts (n.ins.map Decl.row), .ts (n.outs.map Decl.row), .ts (n.locals.map Decl.row), .ts (n.eqs.map NEqn.row), ev, .sl 2 0 1 n.eqs.length none, .sl 3 0 1 n.eqs.length none] := fun ks => j2 hs1
 have hrw := hnr.rw bc1
 have hEln := hrw.len
 have hP1l : ∀ a, a < P0.length → hpL (P0 ++ [O.c false (List.replicate n.eqs.length .ns)]) a = hpL P0 a := fun a ha => o0 ha
 have hOA0 : OA (P0.length + 1) P0.length n.eqs.length (P0 ++ [O.c false (List.replicate n.eqs.length .ns)]) (P0 ++ [O.c false (List.replicate n.eqs.length .ns)]) (nxF E 0) := (OA.new ab9 ⟨Nat.lt_succ_self _, by simp⟩).fun_eq fun s => by simp [nxF]
 have hltP1 : ltO (P0 ++ [O.c false (List.replicate n.eqs.length .ns)]).length (P0 ++ [O.c false (List.replicate n.eqs.length .ns)]) = true := by
  refine aa7 (by simp) hlt0 ?_
  have : ∀ m, clL (List.replicate m V.ns) = true := fun m => by
   induction m with
   | zero => rfl
   | succ n ih => rw [List.replicate_succ]; simp only [clL, ih, V.cl, Bool.and_self]
  simp only [List.all_cons, List.all_nil, ac4, this, Bool.and_self]
 refine pc_frz Tryz.func8 k8 rfl ?_
 repeat' (first
  | ((with_reducible refine b8 (fun h => ?_) (fun h => ?_)) <;> simp only [h, ae2, ae1, nn4, i9, i5, List.length_map, h4096, hs1', hmk, hEln, SXR, simprocAttr])
  | ((with_reducible refine aa6 ?rdq ?_); (case rdq => refine aa5 rfl ?_ ?_ <;> simp only [Option.isSome_some, ae2, ae1, nn4, i9, i5, List.length_map, h4096, hs1', hmk, hEln, SXR, simprocAttr]))
  | (with_reducible refine e8 (hbeg) ?_)
  | (simp only [c8, ae2, ae1, nn4, i9, i5, List.length_map, h4096, hs1', hmk, hEln, SXR, simprocAttr]))
 refine m5 (X := Nat) (fun k ll hs => ∃ H : List O, Hd (fun j => [j 0, j 1, j 2, j 3, .p 1 0, .sl P0.length 0 1 n.eqs.length none, j 6, j 7, j 8, j 9, j 10, j 11, j 12, j 13, j 14, j 15, j 16, j 17, j 18, j 19, j 20, j 21, j 22, j 23, j 24, j 25, j 26, j 27, j 28, j 29, ev, .i .i64 (E.length : Int), .i .i64 (k : Int), j 33, j 34, j 35, j 36, j 37, j 38, j 39, j 40, j 41, j 42, j 43, j 44, j 45, j 46, j 47, j 48, j 49, j 50, j 51, j 52, j 53, j 54, j 55, j 56, j 57, j 58, j 59, j 60, j 61, j 62, j 63, j 64, j 65, j 66, j 67, j 68, j 69, j 70, j 71, j 72, j 73, j 74, j 75, j 76, j 77, j 78, j 79, j 80, j 81, j 82, j 83, j 84, j 85, j 86, j 87, j 88, j 89, j 90, j 91, j 92, j 93, j 94, j 95, j 96, j 97, j 98, j 99, j 100, j 101, j 102, j 103, j 104, j 105, j 106, j 107, j 108, j 109]) ll ∧ hs = H ∧ OA (P0.length + 1) P0.length n.eqs.length (P0 ++ [O.c false (List.replicate n.eqs.length .ns)]) H (nxF E k) ∧ ltO H.length H = true)
  (fun k => k ≤ E.length) (fun k => E.length - k) ?_ 0 _ _ (by exact ⟨_, rfl, rfl, hOA0, hltP1⟩) (Nat.zero_le _)
 clear hOA0 hltP1 hbeg
 rintro k _ H ⟨_, e, rfl, hOA, hlH⟩ hkk IH
 obtain ⟨j, rfl⟩ := e.open
 clear e
 have hHs := ag7 (js := P0) (H := H) (by have := hOA.len; simp at this; omega) (fun a ha => by rw [hOA.low a (by omega) (by omega)]; exact hP1l a ha)
 by_cases hkl : k < E.length
 ·obtain ⟨x, hx, hxm⟩ := ats hkl
  obtain ⟨b1, b2⟩ := hEb x hxm
  obtain ⟨ad, g1, g2⟩ := hrw.get k x hx
  have g2' : ∀ ks, ldE (hpL (H ++ ks)) 2 true ad = some (.ag [.i .i64 (x.1 : Int), .i .i64 (x.2 : Int)]) := fun ks => by rw [hHs, List.append_assoc]; exact g2 _
  clear hHs
  have hd := ltd hkl
  have hw := j1 (n := k) (by omega)
  have hbox : hpL (H ++ [O.c false (ag2 x)]) H.length = .c false [.i .i64 (x.1 : Int), .i .i64 (x.2 : Int)] := ab9
  have hl1 : ltO (H ++ [O.c false (ag2 x)]).length (H ++ [O.c false (ag2 x)]) = true := aa7 (by simp) hlH rfl
  obtain ⟨vs, v, v', H1, H2, s1, s2, s3, s4, s5, s6, s7, s8, s9⟩ := (hOA.more [.c false (ag2 x)]).step b1 x.2 (v9 (by have := nxF_len E k x.1; omega) (by omega))
  have hia : iadE 1 (.sl P0.length 0 1 n.eqs.length none) (.i .i64 (x.1 : Int)) = some (.p P0.length x.1) := by
   have := ae0 (a := P0.length) (w := 1) (wd := 1) (c := none) b1
   rw [Nat.mul_one] at this; exact this
  have s1' : ∀ ks, hpL (H ++ .c false [.i .i64 (x.1 : Int), .i .i64 (x.2 : Int)] :: ks) P0.length = .c false vs := fun ks => by
   have := s1 ks
   rw [List.append_assoc] at this; exact this
  have s3' : ∀ rb k, rb + k = H.length + 2 → ag9 rb (H ++ [.c false [.i .i64 (x.1 : Int), .i .i64 (x.2 : Int)], .c false [.i .i64 (x.2 : Int)], .no]) k v (some [.i .i64 (x.2 : Int)]) (some 1) 1 8 = some (v', H1) := fun rb k e => by
   have := s3 rb k (by rw [e]; simp)
   rw [List.append_assoc] at this; exact this
  have s7' := s7.fun_eq (L' := nxF E (k + 1)) fun t => (nxF_succ hx t).symm
  have s8' := s8 hl1
  have s9' := s9 _ _ hbox
  repeat' (first
   | ((with_reducible refine b8 (fun h => ?_) (fun h => ?_)) <;> simp only [h, ae2, ae1, hd, hw, g1, g2', hia, s1', s2, s3', s4, s5, s6, s9', Nat.add_assoc, SXR, simprocAttr])
   | ((with_reducible refine aa6 ?rdq ?_); (case rdq => refine aa5 rfl ?_ ?_ <;> simp only [Option.isSome_some, ae2, ae1, hd, hw, g1, g2', hia, s1', s2, s3', s4, s5, s6, s9', Nat.add_assoc, SXR, simprocAttr]))
   | (simp only [c8, ae2, ae1, hd, hw, g1, g2', hia, s1', s2, s3', s4, s5, s6, s9', Nat.add_assoc, SXR, simprocAttr]))
  exact IH (k + 1) _ _ (by exact ⟨H2, rfl, rfl, s7', s8'⟩) hkl (by omega)
 ·clear IH
  have hke : E.length = k := by omega
  subst hke
  have hd := ltn hkl
  have hrwH : RW ag2 2 H ev E := by rw [hHs]; exact hrw.more _
  have hgo := gorder_ac hrwH hN (by omega) hEb (fun i => by rw [hnxe]; exact nxE_asc _ i) (fun i => by rw [hnxe]; have := nxE_len n.eqs i; omega) hlH
  rw [hnxe] at hgo
  have hsH : ∀ ks, hpL (H ++ ks) 1 = .c false [.s n.nm.1 n.nm.2, .ts (n.ins.map Decl.row), .ts (n.outs.map Decl.row), .ts (n.locals.map Decl.row), .ts (n.eqs.map NEqn.row), ev, .sl 2 0 1 n.eqs.length none, .sl 3 0 1 n.eqs.length none] := fun ks => by rw [hHs, List.append_assoc]; exact hs1' _
  have hsH0 := hsH []
  rw [List.append_nil] at hsH0
  by_cases hcy : (an9 (nxE n.eqs) n.eqs.length).length < n.eqs.length
  ·rw [if_pos hcy, if_pos hcy] at hgo
   have hor : al4 n.eqs = none := by simp only [al4]; rw [if_pos hcy]
   rw [hor]
   repeat' (first
    | ((with_reducible refine b8 (fun h => ?_) (fun h => ?_)) <;> simp only [h, ae2, ae1, hd, hsH0, List.length_map, SXR, simprocAttr])
    | ((with_reducible refine aa6 ?rdq ?_); (case rdq => refine aa5 rfl ?_ ?_ <;> simp only [Option.isSome_some, ae2, ae1, hd, hsH0, List.length_map, SXR, simprocAttr]))
    | (with_reducible refine e8 (hgo) ?_)
    | (simp only [c8, ae2, ae1, hd, hsH0, List.length_map, SXR, simprocAttr]))
   exact .same _
  ·rw [if_neg hcy, if_neg hcy] at hgo
   have hor : al4 n.eqs = ordF n.eqs (n.eqs.length + 1) [] := by simp only [al4]; rw [if_neg hcy]
   generalize hR : ordF n.eqs (n.eqs.length + 1) [] = R at hor
   obtain ⟨P, hP⟩ : ∃ P, P = H := ⟨_, rfl⟩
   have hlk : ∀ v, v < n.eqs.length → ∃ wv vs, (∀ ks, hpL (P ++ ks) P0.length = .c false vs) ∧ ldE.ldO 1 false v (.c false vs) = some wv ∧ ∀ H', (∀ a, a < P.length → a ≠ 2 → a ≠ 3 → hpL H' a = hpL P a) → RC z7 H' wv (nxE n.eqs v) := by
    intro v hv
    obtain ⟨vs, wv, a1, a2, a3, a4, a5, a6⟩ := hOA.look hv
    rw [show nxF E E.length v = nxE n.eqs v from congrFun hnxe v] at a4
    rw [hP]
    refine ⟨wv, vs, a3, ld1 a2, fun H' hH' => ?_⟩
    refine NR.rc (g := z7) ?_
    rcases a4 with q | ⟨B, q1, q2⟩
    ·exact .inl q
    ·have hB := a5 _ _ _ _ _ q1
     have := t8 q2
     refine .inr ⟨B, q1, ?_⟩
     rw [hH' B (by omega) (by omega) (by omega)]; exact q2
   have hSO0 : SO P H n.eqs.length (ac3 (nxE n.eqs) n.eqs.length []) (fun k => ([] : List Nat).contains k) .ns [] := by
    have h2 : hpL H 2 = .c false (m6 n.eqs.length fun k => (ao4 n.eqs k).length) := by
     rw [hHs]; exact j2 hs2
    have h3 : hpL H 3 = .c false (List.replicate n.eqs.length (.b false)) := by
     rw [hHs]; exact j2 hs3
    have hHl := hOA.len
    simp only [List.length_append, List.length_cons, List.length_nil] at hHl
    refine ⟨by rw [hP]; exact Nat.le_refl _, by rw [hP]; omega, fun a _ _ _ => by rw [hP], ?_, ?_, .inl ⟨rfl, rfl⟩, fun B o w m c e => (by cases e), hlH⟩
    ·rw [h2]; congr 1
     exact fc_congr fun k hk => (count_rem0 n.eqs hk).symm
    ·rw [h3, bc_false]; rfl
   have hsP : ∀ H', (∀ a, a < P.length → a ≠ 2 → a ≠ 3 → hpL H' a = hpL P a) → 4 ≤ P.length → hpL H' 1 = .c false (scc 1 n.row n.eqs.length ev) := fun H' h1 h2 => by
    rw [h1 1 (by omega) (by omega) (by omega), hP]; exact hsH0
   rw [hor]
   repeat' (first
    | ((with_reducible refine b8 (fun h => ?_) (fun h => ?_)) <;> simp only [h, ae2, ae1, hd, hsH0, List.length_map, SXR, simprocAttr])
    | ((with_reducible refine aa6 ?rdq ?_); (case rdq => refine aa5 rfl ?_ ?_ <;> simp only [Option.isSome_some, ae2, ae1, hd, hsH0, List.length_map, SXR, simprocAttr]))
    | (with_reducible refine e8 (hgo) ?_)
    | (simp only [c8, ae2, ae1, hd, hsH0, List.length_map, SXR, simprocAttr]))
   clear hd hsH0 hsH hrwH hOA hgo hHs hlH hmk
   refine m5 (X := List Nat) (fun out ll hs => ∃ (H : List O) (ov : V), Hd (fun j => [j 0, j 1, j 2, j 3, .p 1 0, .sl P0.length 0 1 n.eqs.length none, j 6, j 7, j 8, j 9, ov, .i .i64 (ar3 out.getLast?), j 12, j 13, j 14, j 15, j 16, j 17, j 18, j 19, j 20, j 21, j 22, j 23, j 24, j 25, j 26, j 27, j 28, j 29, j 30, j 31, j 32, j 33, j 34, j 35, j 36, j 37, j 38, j 39, j 40, j 41, j 42, j 43, j 44, j 45, j 46, j 47, j 48, j 49, j 50, j 51, j 52, j 53, j 54, j 55, j 56, j 57, j 58, j 59, j 60, j 61, j 62, j 63, j 64, j 65, j 66, j 67, j 68, j 69, j 70, j 71, j 72, j 73, j 74, j 75, j 76, j 77, j 78, j 79, j 80, j 81, j 82, j 83, j 84, j 85, j 86, j 87, j 88, j 89, j 90, j 91, j 92, j 93, j 94, j 95, j 96, j 97, j 98, j 99, j 100, j 101, j 102, j 103, j 104, j 105, j 106, j 107, j 108, j 109]) ll ∧ hs = H ∧ SO P H n.eqs.length (ac3 (nxE n.eqs) n.eqs.length out) (fun k => out.contains k) ov out)
    (fun out => out.Nodup ∧ (∀ v, v ∈ out → v < n.eqs.length) ∧ ordF n.eqs (n.eqs.length + 1 - out.length) out = R) (fun out => n.eqs.length - out.length) ?_ [] _ _ (by exact ⟨_, _, rfl, rfl, hSO0⟩) ⟨List.nodup_nil, fun v hv => by simp at hv, hR⟩
   clear hSO0
   rintro out _ H ⟨_, ov, e, rfl, hSO⟩ ⟨hnd, hol, hfin⟩ IH
   obtain ⟨j, rfl⟩ := e.open
   clear e
   have hsc := hsP H hSO.low hSO.P4
   have hsc' : hpL H 1 = .c false [.s n.nm.1 n.nm.2, .ts (n.ins.map Decl.row), .ts (n.outs.map Decl.row), .ts (n.locals.map Decl.row), .ts (n.eqs.map NEqn.row), ev, .sl 2 0 1 n.eqs.length none, .sl 3 0 1 n.eqs.length none] := hsc
   have hole := ad5 hnd hol
   have hoL := (hSO.ou.rc (g := z7)).len
   rw [show n.eqs.length + 1 - out.length = (n.eqs.length - out.length) + 1 by omega] at hfin
   simp only [ordF] at hfin
   by_cases hlt2 : out.length < n.eqs.length
   ·have hd := ltd hlt2
    rw [if_neg (by omega)] at hfin
    have hnext := snext_ac (b := 1) (last := out.getLast?) n hk hb hsc hSO.lf hSO.dn (fun m hm => hol m (List.mem_of_getLast? hm)) hSO.lt
    cases hnx : nextF n.eqs (gX (ac3 (nxE n.eqs) n.eqs.length out)) (fun k => out.contains k) out.getLast? with
    | none =>
      rw [hnx] at hfin hnext
      simp only at hfin
      have hl0 : decide (ar3 none < 0) = true := rfl
      rw [← hfin]
      repeat' (first
       | ((with_reducible refine b8 (fun h => ?_) (fun h => ?_)) <;> simp only [h, ae2, ae1, hd, hsc', hoL, hl0, List.length_map, SXR, simprocAttr])
       | ((with_reducible refine aa6 ?rdq ?_); (case rdq => refine aa5 rfl ?_ ?_ <;> simp only [Option.isSome_some, ae2, ae1, hd, hsc', hoL, hl0, List.length_map, SXR, simprocAttr]))
       | (with_reducible refine e8 (hnext) ?_)
       | (simp only [c8, ae2, ae1, hd, hsc', hoL, hl0, List.length_map, SXR, simprocAttr]))
      exact .same _
    | some v =>
      rw [hnx] at hfin hnext
      simp only at hfin
      obtain ⟨hvn, hvd, hvg⟩ := nextF_spec hnx
      have hvo : v ∉ out := by simpa using hvd
      have hl0 : decide (ar3 (some v) < 0) = false := decide_eq_false (by simp only [ar3]; omega)
      have hlv : ar3 (some v) = (v : Int) := rfl
      have hl0' : decide ((v : Int) < 0) = false := hl0
      have hia : ∀ a, iadE 1 (.sl a 0 1 n.eqs.length none) (.i .i64 (v : Int)) = some (.p a v) := fun a => by
       have := ae0 (a := a) (w := 1) (wd := 1) (c := none) hvn
       rw [Nat.mul_one] at this; exact this
      have hdn := hSO.dn
      obtain ⟨H1, hst, hS1⟩ := hSO.done hvn
      have hsc1 : hpL H1 1 = .c false [.s n.nm.1 n.nm.2, .ts (n.ins.map Decl.row), .ts (n.outs.map Decl.row), .ts (n.locals.map Decl.row), .ts (n.eqs.map NEqn.row), ev, .sl 2 0 1 n.eqs.length none, .sl 3 0 1 n.eqs.length none] := hsP H1 hS1.low hS1.P4
      obtain ⟨ov2, H2, hap, hS2⟩ := hS1.app v (by omega)
      obtain ⟨wv, vs, w1, w2, w3⟩ := hlk v hvn
      have hvs : hpL H2 P0.length = .c false vs := by
       have := w1 []
       rw [List.append_nil] at this
       have hP0 := t8 this
       rw [hS2.low _ (by omega) (by omega) (by omega)]; exact this
      have hwl := (w3 H2 hS2.low).len
      have hrm := fun k => remF_pop (nx := nxE n.eqs) (n := n.eqs.length) hvn hvo k
      have hnl := nxE_len n.eqs v
      have hrl := remF_len (nx := nxE n.eqs) (fun i => by have := nxE_len n.eqs i; omega) n.eqs.length (out ++ [v])
      have hrl2 : n.eqs.length * 256 ≤ 200 * 256 := Nat.mul_le_mul_right _ hN
      have hS2' : SO P H2 n.eqs.length (nxE n.eqs v ++ ac3 (nxE n.eqs) n.eqs.length (out ++ [v])) (fun k => (out ++ [v]).contains k) ov2 (out ++ [v]) := by
       refine ⟨hS2.len, hS2.P4, hS2.low, ?_, ?_, hS2.ou, hS2.oK, hS2.lt⟩
       ·rw [hS2.lf, show gX (ac3 (nxE n.eqs) n.eqs.length out) = gX (nxE n.eqs v ++ ac3 (nxE n.eqs) n.eqs.length (out ++ [v])) from funext fun k => hrm k]
       ·rw [hS2.dn]; congr 2; funext k
        by_cases hkv : k = v
        ·simp [hkv]
        ·simp [hkv]
      rw [show n.eqs.length - out.length = n.eqs.length + 1 - (out ++ [v]).length by simp] at hfin
      have hnd2 : (out ++ [v]).Nodup := by
       rw [List.nodup_append]
       exact ⟨hnd, by simp, fun a ha b hb => by simp at hb; rintro rfl; exact hvo (hb ▸ ha)⟩
      have hol2 : ∀ x, x ∈ out ++ [v] → x < n.eqs.length := fun x hx => by
       rcases List.mem_append.1 hx with h | h
       ·exact hol x h
       ·simp at h; omega
      have hgl : (out ++ [v]).getLast? = some v := by simp
      generalize hW : ac3 (nxE n.eqs) n.eqs.length (out ++ [v]) = W at *
      repeat' (first
       | ((with_reducible refine b8 (fun h => ?_) (fun h => ?_)) <;> simp only [h, ae2, ae1, hd, hsc', hoL, hlv, hl0', List.length_map, hia, hdn, hst, hsc1, hap, hvs, w2, hwl, SXR, simprocAttr])
       | ((with_reducible refine aa6 ?rdq ?_); (case rdq => refine aa5 rfl ?_ ?_ <;> simp only [Option.isSome_some, ae2, ae1, hd, hsc', hoL, hlv, hl0', List.length_map, hia, hdn, hst, hsc1, hap, hvs, w2, hwl, SXR, simprocAttr]))
       | (with_reducible refine e8 (hnext) ?_)
       | (simp only [c8, ae2, ae1, hd, hsc', hoL, hlv, hl0', List.length_map, hia, hdn, hst, hsc1, hap, hvs, w2, hwl, SXR, simprocAttr]))
      refine m5 (X := Nat) (fun c ll hs => ∃ (H : List O), Hd (fun j => [j 0, j 1, j 2, j 3, .p 1 0, .sl P0.length 0 1 n.eqs.length none, j 6, j 7, j 8, j 9, ov2, .i .i64 (v : Int), j 12, j 13, j 14, j 15, j 16, j 17, j 18, j 19, j 20, j 21, j 22, j 23, j 24, j 25, j 26, j 27, j 28, j 29, j 30, j 31, j 32, j 33, j 34, j 35, j 36, j 37, j 38, j 39, j 40, j 41, j 42, j 43, j 44, j 45, j 46, j 47, j 48, j 49, j 50, j 51, j 52, j 53, j 54, j 55, j 56, j 57, j 58, j 59, j 60, j 61, j 62, j 63, j 64, j 65, j 66, j 67, j 68, j 69, j 70, j 71, j 72, j 73, j 74, j 75, j 76, j 77, j 78, j 79, j 80, j 81, j 82, j 83, j 84, j 85, j 86, j 87, j 88, j 89, j 90, j 91, j 92, wv, .i .i64 ((nxE n.eqs v).length : Int), .i .i64 (c : Int), j 96, j 97, j 98, j 99, j 100, j 101, j 102, j 103, j 104, j 105, j 106, j 107, j 108, j 109]) ll ∧ hs = H ∧ SO P H n.eqs.length ((nxE n.eqs v).drop c ++ W) (fun k => (out ++ [v]).contains k) ov2 (out ++ [v]))
       (fun c => c ≤ (nxE n.eqs v).length) (fun c => (nxE n.eqs v).length - c) ?_ 0 _ _ (by exact ⟨_, rfl, rfl, hS2'⟩) (Nat.zero_le _)
      clear hS2' hS2 hap hst hS1 hnext hSO hsc hsc' hsc1 hdn hvs hwl
      rintro c _ H ⟨_, e, rfl, hSO⟩ hc IK
      obtain ⟨j, rfl⟩ := e.open
      clear e
      by_cases hcl : c < (nxE n.eqs v).length
      ·clear IH
       obtain ⟨w, hwx, hwm⟩ := ats hcl
       have hwn := (ap4.1 hwm).1
       obtain ⟨ad, g1, g2⟩ := (w3 H hSO.low).get0 hwx
       unfold z7 at g2
       have hdc := ltd hcl
       have hwc := j1 (n := c) (by omega)
       have hsc' : hpL H 1 = .c false [.s n.nm.1 n.nm.2, .ts (n.ins.map Decl.row), .ts (n.outs.map Decl.row), .ts (n.locals.map Decl.row), .ts (n.eqs.map NEqn.row), ev, .sl 2 0 1 n.eqs.length none, .sl 3 0 1 n.eqs.length none] := hsP H hSO.low hSO.P4
       rw [t6 hwx, List.cons_append] at hSO
       generalize hX : (nxE n.eqs v).drop (c + 1) ++ W = X at *
       have hXl : X.length ≤ 100000 := by rw [← hX]; simp; omega
       have hcX := List.count_le_length (a := w) (l := X)
       have hiw : ∀ a, iadE 1 (.sl a 0 1 n.eqs.length none) (.i .i64 (w : Int)) = some (.p a w) := fun a => by
        have := ae0 (a := a) (w := 1) (wd := 1) (c := none) hwn
        rw [Nat.mul_one] at this; exact this
       have hlf := hSO.lf
       have hld : ldE.ldO 1 false w (.c false (m6 n.eqs.length (gX (w :: X)))) = some (.i .i64 ((X.count w + 1 : Nat) : Int)) := by
        have := ld1 (gr := false) (fc_get (g := gX (w :: X)) hwn)
        rw [show gX (w :: X) w = X.count w + 1 from List.count_cons_self] at this
        exact this
       have hws := ab0 (n := X.count w) (by omega)
       obtain ⟨H3, hst, hS3⟩ := hSO.left (w := w) (x := X.count w) (X' := X) hwn (fun k => by
        by_cases hk : k = w
        ·rw [if_pos hk, hk]
        ·rw [if_neg hk, List.count_cons_of_ne (Ne.symm hk)])
       repeat' (first
        | ((with_reducible refine b8 (fun h => ?_) (fun h => ?_)) <;> simp only [h, ae2, ae1, hdc, hwc, g1, g2, hsc', hiw, hlf, hld, hws, hst, SXR, simprocAttr])
        | ((with_reducible refine aa6 ?rdq ?_); (case rdq => refine aa5 rfl ?_ ?_ <;> simp only [Option.isSome_some, ae2, ae1, hdc, hwc, g1, g2, hsc', hiw, hlf, hld, hws, hst, SXR, simprocAttr]))
        | (simp only [c8, ae2, ae1, hdc, hwc, g1, g2, hsc', hiw, hlf, hld, hws, hst, SXR, simprocAttr]))
       exact IK (c + 1) _ _ (by exact ⟨_, rfl, rfl, by simp only [hX]; exact hS3⟩) hcl (by omega)
      ·clear IK
       have hce : c = (nxE n.eqs v).length := by omega
       subst hce
       have hdc := ltn hcl
       rw [List.drop_eq_nil_of_le (Nat.le_refl _), List.nil_append] at hSO
       repeat' (first
        | ((with_reducible refine b8 (fun h => ?_) (fun h => ?_)) <;> simp only [h, ae2, ae1, hdc, SXR, simprocAttr])
        | ((with_reducible refine aa6 ?rdq ?_); (case rdq => refine aa5 rfl ?_ ?_ <;> simp only [Option.isSome_some, ae2, ae1, hdc, SXR, simprocAttr]))
        | (simp only [c8, ae2, ae1, hdc, SXR, simprocAttr]))
       exact IH (out ++ [v]) _ _ (by refine ⟨_, _, ?_, rfl, by rw [hW]; exact hSO⟩; rw [hgl]; rfl) ⟨hnd2, hol2, hfin⟩ (by simp; omega)
   ·clear IH
    have hd := ltn hlt2
    rw [if_pos (by omega)] at hfin
    rw [← hfin]
    repeat' (first
     | ((with_reducible refine b8 (fun h => ?_) (fun h => ?_)) <;> simp only [h, ae2, ae1, hd, hsc', hoL, List.length_map, SXR, simprocAttr])
     | ((with_reducible refine aa6 ?rdq ?_); (case rdq => refine aa5 rfl ?_ ?_ <;> simp only [Option.isSome_some, ae2, ae1, hd, hsc', hoL, List.length_map, SXR, simprocAttr]))
     | (simp only [c8, ae2, ae1, hd, hsc', hoL, List.length_map, SXR, simprocAttr]))
    refine se_pair ?_
    rcases hSO.ou with ⟨q1, q2⟩ | ⟨Bo, q1, q2⟩
    ·rw [q1, q2]; exact .nil
    ·rw [q1]
     exact Se.flat' q2 (fl_ir _) (ah0 _) trivial ai1
end Go.Proofs.YtagogibgoknncaaGreatDoor
