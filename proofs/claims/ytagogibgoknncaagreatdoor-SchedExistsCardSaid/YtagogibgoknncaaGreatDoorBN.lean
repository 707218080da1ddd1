/-
  Regions: in the order of the text; in any order that the edges leave open. Program-independent.
-/
import Derived.Test.YtagogibgoknncaaGreatDoorBM
set_option linter.unusedSectionVars false
set_option linter.unusedVariables false
set_option linter.unusedSimpArgs false
namespace Go.B
variable [iok : OkC]
abbrev Tr := Nat × GOp × List Nat
def au4 (all : List Tr) (i : Nat) : Option GOp := (all.find? (fun t => t.1 == i)).map (·.2.1)
def az8 (all : List Tr) (i : Nat) (s s' : St) : Prop := ∃ q v, au4 all i = some q ∧ ap9 q s = some v ∧ ap9 q s' = some v
def deadK (rb : Nat) (L : List Tr) (s : St) : Prop := ∀ t, t ∈ L → t.2.1.op.cl = .a → ∀ k, t.2.1.op.kx = some k → (s.h (rb + k)).live = false ∧ rb + k < s.nx
def rwd (P : Program) (rb : Nat) (all : List Tr) : List Tr → (St → Prop) → St → Prop
 | [], K, st => K st
 | t :: r, K, st => deadK rb (t :: r) st ∧ gwp P rb t.2.1 (fun s => (∀ i, i ∈ t.2.2 → az8 all i st s) ∧ rwd P rb all r K s) st
def rwp (P : Program) (rb : Nat) : List GOp → (St → Prop) → St → Prop
 | [], K, st => K st
 | o :: r, K, st => gwp P rb o (rwp P rb r K) st
theorem rwp_mono {P : Program} {rb : Nat} {K K' : St → Prop} (hk : ∀ s, K s → K' s) : ∀ {gs : List GOp} {st : St}, rwp P rb gs K st → rwp P rb gs K' st
 | [], st, h => hk _ h
 | o :: gs, st, h => aj8 (fun s hs => rwp_mono hk hs) h
theorem rwd_mono {P : Program} {rb : Nat} {all : List Tr} {K K' : St → Prop} (hk : ∀ s, K s → K' s) : ∀ {gs : List Tr} {st : St}, rwd P rb all gs K st → rwd P rb all gs K' st
 | [], st, h => hk _ h
 | o :: gs, st, h => ⟨h.1, aj8 (fun s hs => ⟨hs.1, rwd_mono hk hs.2⟩) h.2⟩
def kxNe (x t : GOp) : Bool := match x.op.kx, t.op.kx with
 | some a, some b => a != b
 | _, _ => true
def dstNot (t : GOp) (q : Option GOp) : Bool := match q, t.op.dst with
 | some q, some d => !(rdG q).contains d
 | _, _ => true
def swOk (all : List Tr) (out : List Nat) (x t : Tr) : Bool :=
 slotsOk x.2.1 t.2.1 && clOk x.2.1 t.2.1 (t.2.2.contains x.1) &&
 (x.2.2.isEmpty || ((t.2.1.op.cl == .p || t.2.1.op.cl == .a) && x.2.2.all fun i => dstNot t.2.1 (au4 all i))) &&
 (t.2.2.isEmpty || ((x.2.1.op.cl == .p || x.2.1.op.cl == .r) && t.2.2.all fun i => !out.contains i || dstNot x.2.1 (au4 all i)))
def frontOk (all : List Tr) (t : Tr) : List Nat → List Tr → Prop
 | _, [] => True
 | out, x :: r => (swOk all out x t = true ∧ au4 all x.1 = some x.2.1) ∧ frontOk all t (x.1 :: out) r
section
variable {P : Program} {rb : Nat} {all : List Tr} {K : St → Prop}
theorem rwd_dead {L : List Tr} {t : Tr} {s : St} (h : rwd P rb all L K s) (ht : t ∈ L) : deadK rb L s := by
 cases L with
 | nil => cases ht
 | cons _ _ => exact h.1
theorem aq1 {t q : GOp} (h : dstNot t (some q) = true) {d : Nat} (hd : t.op.dst = some d) : d ∉ rdG q := by
 simp only [dstNot, hd] at h
 simpa using h
theorem rwd_front : ∀ (pre post : List Tr) (t : Tr) (out : List Nat) (st : St), frontOk all t out pre → (∀ x, x ∈ pre ++ t :: post → x.2.1.op.isDfr = false) → (∀ x, x ∈ pre ++ post → kxNe x.2.1 t.2.1 = true) →
  rwd P rb all (pre ++ t :: post) K st → ∃ s', ai3 P rb t.2.1 st s' ∧ (∀ i, i ∈ t.2.2 → i ∈ out → az8 all i st s') ∧ rwd P rb all (pre ++ post) K s'
 | [], post, t, out, st, _, hdf, _, h => by
   obtain ⟨_, h⟩ := h
   obtain ⟨s', q1, q2, q3⟩ := (gwp_iff (hdf t (by simp))).1 h
   exact ⟨s', q1, fun i hi _ => q2 i hi, q3⟩
 | x :: pre, post, t, out, st, hsw, hdf, hks, h => by
   obtain ⟨hD, h⟩ := h
   obtain ⟨s1, g1, r1, h⟩ := (gwp_iff (hdf x (by simp))).1 h
   have hD1 : deadK rb (pre ++ t :: post) s1 := rwd_dead (t := t) h (by simp)
   obtain ⟨s2, g2, r2, h2⟩ := rwd_front pre post t (x.1 :: out) s1 hsw.2 (fun y hy => hdf y (List.mem_cons_of_mem _ hy)) (fun y hy => hks y (List.mem_cons_of_mem _ hy)) h
   obtain ⟨hs, hlx⟩ := hsw.1
   simp only [swOk, Bool.and_eq_true, Bool.or_eq_true] at hs
   obtain ⟨⟨⟨c1, c2⟩, c3⟩, c4⟩ := hs
   have hkt : ∀ u, u ∈ x :: (pre ++ post) → ∀ k k', u.2.1.op.kx = some k → t.2.1.op.kx = some k' → k ≠ k' := by
    intro u hu k k' e1 e2
    have := hks u (by simpa using hu)
    simp only [kxNe, e1, e2] at this
    simpa using this
   have hDt : t.2.1.op.cl = .a → ∀ k, t.2.1.op.kx = some k → (st.h (rb + k)).live = false ∧ rb + k < st.nx := fun hc k hk => hD t (by simp) hc k hk
   obtain ⟨u1, hU⟩ := swap (re := t.2.2.contains x.1) g1 g2 c1 c2 (fun hr hw => by
    have hc : t.2.2.contains x.1 = true := by simpa only [clOk, hr, hw] using c2
    obtain ⟨q, v, e1, e2, e3⟩ := r2 x.1 (by simpa using hc) (by simp)
    rw [hlx] at e1
    cases e1
    exact ⟨v, e2, e3⟩) (fun hc k hk => ⟨(hDt hc k hk).1, (hDt hc k hk).2, fun k' hk' => hkt x (by simp) k' k hk' hk⟩)
   obtain ⟨sx, sT⟩ := av6 c1
   refine ⟨u1, hU.tt, fun i hi hio => ?_, ?_⟩
   ·
    have hne : t.2.2.isEmpty = false := by cases hh : t.2.2 with | nil => rw [hh] at hi; cases hi | cons _ _ => rfl
    rw [hne] at c4
    simp only [Bool.false_eq_true, false_or, Bool.and_eq_true] at c4
    obtain ⟨c4, c5'⟩ := c4
    simp only [Bool.or_eq_true, beq_iff_eq] at c4
    obtain ⟨q, v, e1, e2, e3⟩ := r2 i hi (List.mem_cons_of_mem _ hio)
    have hdq : dstNot x.2.1 (au4 all i) = true := by
     have := List.all_eq_true.1 c5' i hi
     have hc : out.contains i = true := by simpa using hio
     rw [hc] at this
     simpa only [Bool.not_true, Bool.false_or] using this
    rw [e1] at hdq
    obtain ⟨d, vx, w1, w2, w3⟩ := (gset c4).1 g1
    have hdn := aq1 hdq w1
    refine ⟨q, v, e1, ?_, ?_⟩
    ·rw [← e2]
     refine ab3 (fun n hn => ?_) (by rw [w3]; rfl)
     rw [w3]; exact (j4 _ _ (show n ≠ d from fun e => hdn (e ▸ hn))).symm
    ·rw [← e3]
     have hh1 : s1.h = st.h := by rw [w3]; rfl
     refine ab3 (fun n hn => hU.sl2 n (fun e => ?_)) ?_
     ·rw [w1] at e; cases e; exact hdn hn
     ·rcases hU.hp with ⟨_, e, _⟩ | ⟨_, e, e', _⟩ | ⟨_, k, ob, _, _, ⟨e, e'⟩ | ⟨e, e'⟩⟩
      ·exact e
      ·rw [e, e', hh1]
      ·rw [e, e', hh1]
      ·rw [e, e', hh1]
   ·refine ⟨fun u hu hc k hk => ?_, (gwp_iff (hdf x (by simp))).2 ⟨s2, hU.xx, fun i hi => ?_, h2⟩⟩
    ·
     have hmem : u ∈ x :: (pre ++ t :: post) := by
      rcases List.mem_cons.1 hu with rfl | hu
      ·simp
      ·rcases List.mem_append.1 hu with hu | hu <;> simp [hu]
     obtain ⟨o1, o2⟩ := hD u hmem hc k hk
     cases htc : t.2.1.op.cl with
     | p =>
       obtain ⟨d, v, _, _, e⟩ := (gset (.inl htc)).1 hU.tt
       rw [e]; exact ⟨o1, o2⟩
     | r =>
       obtain ⟨d, v, _, _, e⟩ := (gset (.inr htc)).1 hU.tt
       rw [e]; exact ⟨o1, o2⟩
     | a =>
       obtain ⟨d, k', w1, w2, w3⟩ := aj9 htc hU.tt
       have hkk := hkt u hu k k' hk w2
       rcases w3 with ⟨ob, v, _, e, _⟩ | ⟨e, _⟩
       ·rw [e]
        refine ⟨?_, o2⟩
        show (upd st.h (rb + k') ob (rb + k)).live = false
        rw [j4 _ _ (by omega)]; exact o1
       ·rw [e]; exact ⟨o1, o2⟩
     | w =>
       have hxc : x.2.1.op.cl = .p ∨ x.2.1.op.cl = .r := by
        cases hxc : x.2.1.op.cl with
        | p => exact .inl rfl
        | r => exact .inr rfl
        | a => simp only [clOk, hxc, htc] at c2; cases c2
        | w => simp only [clOk, hxc, htc] at c2; cases c2
       have hux : u ∈ pre ++ post := by
        rcases List.mem_cons.1 hu with rfl | hu
        ·rcases hxc with e | e <;> rw [e] at hc <;> cases hc
        ·exact hu
       have := rwd_dead h2 hux u hux hc k hk
       rcases hU.hp with ⟨_, e, e'⟩ | ⟨e, _⟩ | ⟨e, _⟩
       ·rw [e, e']; exact this
       ·rw [htc] at e; cases e
       ·rw [htc] at e; cases e
    ·
     have hne : x.2.2.isEmpty = false := by cases hh : x.2.2 with | nil => rw [hh] at hi; cases hi | cons _ _ => rfl
     rw [hne] at c3
     simp only [Bool.false_eq_true, false_or, Bool.and_eq_true, Bool.or_eq_true, beq_iff_eq, List.all_eq_true] at c3
     obtain ⟨c3, c5⟩ := c3
     obtain ⟨q, v, e1, e2, e3⟩ := r1 i hi
     have hdq := c5 i hi
     rw [e1] at hdq
     have key : ∀ (s s' : St), ai3 P rb t.2.1 s s' → (t.2.1.op.cl = .a → ∀ k, t.2.1.op.kx = some k → (s.h (rb + k)).live = false) → ap9 q s = some v → ap9 q s' = some v := by
      intro s s' hg hdd hv
      rcases c3 with hp | ha
      ·obtain ⟨d, v', w1, _, rfl⟩ := (gset (.inl hp)).1 hg
       have hdn := aq1 hdq w1
       rw [← hv]
       exact (ab3 (s := s) (s' := s.put d v') (fun n hn => (j4 _ _ (show n ≠ d from fun e => hdn (e ▸ hn))).symm) rfl).symm
      ·obtain ⟨d, k, w1, w2, w3⟩ := aj9 ha hg
       have hdn := aq1 hdq w1
       rcases w3 with ⟨ob, v', _, rfl, _⟩ | ⟨rfl, _⟩
       ·have := bg8 (ob := ob) (hdd ha k w2) hv
        rw [← this]
        exact (ab3 (s := { s with h := upd s.h (rb + k) ob }) (s' := s.alc (rb + k) ob d v') (fun n hn => (j4 _ _ (show n ≠ d from fun e => hdn (e ▸ hn))).symm) rfl).symm
       ·rw [← hv]
        exact (ab3 (s := s) (s' := s.put d udf) (fun n hn => (j4 _ _ (show n ≠ d from fun e => hdn (e ▸ hn))).symm) rfl).symm
     exact ⟨q, v, e1, key st u1 hU.tt (fun hc k hk => (hDt hc k hk).1) e2, key s1 s2 g2 (fun hc k hk => (hD1 t (by simp) hc k hk).1) e3⟩
end
def aa1 : List Nat → Bool
 | [] => true
 | x :: r => !r.contains x && aa1 r
def ksOk (na : Nat) (gs : List GOp) : Bool := aa1 (gs.filterMap (·.op.kx)) && (gs.filterMap (·.op.kx)).all (fun k => decide (k < na))
def bh6 (P : Program) (nt : Nat) (ops : Array Oper) : List Oper → List GOp → Bool
 | [], [] => true
 | o :: os, a :: as => chkG P nt ops o a && bh6 P nt ops os as
 | _, _ => false
def chkR (P : Program) (nt : Nat) (ops : Array Oper) (na : Nat) (gs : List GOp) : Bool := bh6 P nt ops ops.toList gs && ksOk na gs
def pathTo (ops : Array Oper) (x : Nat) : Nat → Oper → Bool
 | 0, _ => false
 | n + 1, o => o.after.any fun e => Region.binds .any e && (e.on == x || (match ops[e.on]? with | some o' => pathTo ops x n o' | none => false))
def pathT (ops : Array Oper) (x t : Nat) : Bool := match ops[t]? with
 | some o => pathTo ops x 6 o
 | none => false
def af4 (ops : Array Oper) (all : List Tr) : List Nat → List Tr → Bool
 | _, [] => true
 | out, x :: r => r.all (fun y => pathT ops x.1 y.1 || swOk all out x y) && af4 ops all (x.1 :: out) r
def edgesOk (ops : Array Oper) : List Nat → List Tr → Bool
 | _, [] => true
 | seen, t :: r => (match ops[t.1]? with | some o => o.after.all (fun e => !Region.binds .any e || seen.contains e.on) | none => false) && edgesOk ops (t.1 :: seen) r
def tripOk (P : Program) (nt : Nat) (ops : Array Oper) (t : Tr) : Bool := match ops[t.1]? with
 | some o => chkG P nt ops o t.2.1 && !t.2.1.op.isDfr
 | none => false
def chkD (P : Program) (nt : Nat) (ops : Array Oper) (na : Nat) (L : List Tr) : Bool :=
 L.length == ops.size && P.follows .mixedOrders && L.all (tripOk P nt ops) && af4 ops L [] L && edgesOk ops [] L && ksOk na (L.map (·.2.1)) && aa1 (L.map (·.1)) && (List.range ops.size).all (fun i => (L.map (·.1)).contains i)
theorem ksOk_cons {na : Nat} {o : GOp} {gs : List GOp} (h : ksOk na (o :: gs) = true) : ksOk na gs = true ∧ (∀ k, o.op.kx = some k → k < na ∧ ∀ u, u ∈ gs → u.op.kx ≠ some k) := by
 simp only [ksOk, Bool.and_eq_true, List.filterMap_cons] at h ⊢
 cases hk : o.op.kx with
 | none => rw [hk] at h; exact ⟨h, fun k e => by cases e⟩
 | some k =>
   rw [hk] at h
   simp only [aa1, List.all_cons, Bool.and_eq_true, decide_eq_true_eq, Bool.not_eq_true'] at h
   obtain ⟨⟨h1, h2⟩, h3, h4⟩ := h
   refine ⟨⟨h2, h4⟩, fun k' e => ?_⟩
   cases e
   refine ⟨h3, fun u hu e => ?_⟩
   have : (List.filterMap (fun x => x.op.kx) gs).contains k = true := by
    simp only [List.contains_iff_mem, List.mem_filterMap]; exact ⟨u, hu, e⟩
   rw [this] at h1; cases h1
theorem ksOk_lt {na : Nat} : ∀ {gs : List GOp}, ksOk na gs = true → ∀ u, u ∈ gs → ∀ k, u.op.kx = some k → k < na
 | [], _, u, hu, _, _ => by cases hu
 | o :: gs, h, u, hu, k, hk => by
   obtain ⟨h1, h2⟩ := ksOk_cons h
   rcases List.mem_cons.1 hu with rfl | hu
   ·exact (h2 k hk).1
   ·exact ksOk_lt h1 u hu k hk
section
variable {P : Program} {w w' w0 : World} {g g' g0 : G} {H0 : Hp} {nx0 : Nat} {tmps : Array Value} {st st' : St} {ds : List Deferred}
theorem Fr.step {nx nx' rb : Nat} {op op2 : AOp} {H : Hp} {H' : Hp} (h : Fr g nx rb op) (hs : Stp w g H w' g' H' (fun a => NewD rb op2 a ∨ nx ≤ a)) (hn : nx ≤ nx') (hk : ∀ k, op2.kx = some k → op.kx ≠ some k) : Fr g' nx' rb op := by
 intro k e
 obtain ⟨h1, h2⟩ := h k e
 refine ⟨fun hd => ?_, Nat.lt_of_lt_of_le h2 hn⟩
 rcases hs.dom _ hd with q | ⟨k', q1, q2⟩ | q
 ·exact h1 q
 ·exact hk k' q1 (by rw [e]; congr 1; omega)
 ·omega
theorem rwp_sound {r0 : Option Nat} {ops : Array Oper} {nt na rb : Nat} {K : St → Prop} {Q : Exit → Act → World → Prop}
  (hQ : ∀ a w g st, DfX P ds a.defers → a.tmps.size = nt → StR w g a.tmps st → Stp w0 g0 H0 w g st.h (fun a => rb ≤ a) → rb ≤ st.nx → K st → Q .normal a w) :
  ∀ (os : List Oper) (l : List Nat) (gs : List GOp) (a : Act) (w : World) (g : G) (st : St), l.map (fun i => ops[i]?) = os.map some → bh6 P nt ops os gs = true → ksOk na gs = true → (r0 = none ∨ ∀ o, o ∈ gs → o.op.isDfr = false) →
   DfX P ds a.defers → a.tmps.size = nt → StR w g a.tmps st → Stp w0 g0 H0 w g st.h (fun a => rb ≤ a) → rb ≤ st.nx → (∀ o, o ∈ gs → Fr g st.nx rb o.op) → rwp P rb gs K st → wpOpsIn (FW r0) 0 P ops Q l a w
 | [], [], [], a, w, g, st, _, _, _, _, hd, hn, h, s, hx, _, hr => by simp only [wpOpsIn]; exact hQ a w g st hd hn h s hx hr
 | [], _ :: _, _, _, _, _, _, hl, _, _, _, _, _, _, _, _, _, _ => by simp at hl
 | _ :: _, [], _, _, _, _, _, hl, _, _, _, _, _, _, _, _, _, _ => by simp at hl
 | [], _, _ :: _, _, _, _, _, _, hc, _, _, _, _, _, _, _, _, _ => by simp [bh6] at hc
 | _ :: _, _, [], _, _, _, _, _, hc, _, _, _, _, _, _, _, _, _ => by simp [bh6] at hc
 | o :: os, i :: l, ga :: gs, ⟨tmps, ds'⟩, w, g, st, hl, hc, hks, hR, hd, hn, h, s, hx, hf, hr => by
   simp only [List.map_cons, List.cons.injEq] at hl
   obtain ⟨ho, hl⟩ := hl
   simp only [bh6, Bool.and_eq_true] at hc
   obtain ⟨k1, k2⟩ := ksOk_cons hks
   rw [wpOpsIn_cons]
   refine op_step ho hn hc.1 h (hf ga (by simp)) (hR.imp id fun q => q ga (by simp)) hr (fun a w' g' st' hd' _ hn' h' s' hx' hk => ?_)
   refine rwp_sound hQ os l gs a w' g' st' hl hc.2 k1 (hR.imp id fun q o ho => q o (List.mem_cons_of_mem _ ho)) (hd.trans hd') hn' h' (s.trans (s'.mono fun a e => ?_)) (Nat.le_trans hx hx') (fun u hu => (hf u (List.mem_cons_of_mem _ hu)).step s' hx' (fun k e => (k2 k e).2 u hu)) hk
   rcases e with ⟨k, _, e⟩ | e
   ·omega
   ·omega
def Closed (ops : Array Oper) (listed : Array Bool) : Prop :=
 ∀ (j : Nat) (o : Oper), ops[j]? = some o → listed.getD j false = true → ∀ e, e ∈ o.after → Region.binds .any e = true → listed.getD e.on false = true
theorem ba2 {ops : Array Oper} {listed : Array Bool} (hc : Closed ops listed) {x : Nat} : ∀ (n : Nat) (o : Oper), (∀ e, e ∈ o.after → Region.binds .any e = true → listed.getD e.on false = true) → pathTo ops x n o = true → listed.getD x false = true
 | 0, o, _, h => by cases h
 | n + 1, o, hr, h => by
   simp only [pathTo] at h
   obtain ⟨e, he1, he2⟩ := Array.any_eq_true'.1 h
   simp only [Bool.and_eq_true, Bool.or_eq_true, beq_iff_eq] at he2
   obtain ⟨b1, b2⟩ := he2
   have hl := hr e he1 b1
   rcases b2 with rfl | b2
   ·exact hl
   ·split at b2
    ·rename_i o' ho'
     exact ba2 hc n o' (hc e.on o' ho' hl) b2
    ·cases b2
theorem ak0 {a : Array Bool} {i j : Nat} (h : a.getD j false = true) : (a.setIfInBounds i true).getD j false = true := by
 simp only [Array.getD_eq_getD_getElem?, Array.getElem?_setIfInBounds] at h ⊢
 split
 ·split
  ·rfl
  ·rename_i h1 h2
   subst h1
   rw [Array.getElem?_eq_none (by omega)] at h
   exact h
 ·exact h
theorem bb8 {a : Array Bool} {i j : Nat} (d : Bool) (h : i ≠ j) : (a.setIfInBounds i true).getD j d = a.getD j d := by
 simp [Array.getD_eq_getD_getElem?, Array.getElem?_setIfInBounds, h]
theorem closed_step {ops : Array Oper} {listed : Array Bool} {t : Nat} {o : Oper} (hc : Closed ops listed) (ho : ops[t]? = some o) (hm : ∀ e, e ∈ o.after → Region.binds .any e = true → listed.getD e.on false = true) : Closed ops (listed.setIfInBounds t true) := by
 intro j o' ho' hl e he hb
 by_cases htj : t = j
 ·subst htj
  rw [ho] at ho'; cases ho'
  exact ak0 (hm e he hb)
 ·rw [bb8 false htj] at hl
  exact ak0 (hc j o' ho' hl e he hb)
def EdgesP (ops : Array Oper) : (Nat → Prop) → List Tr → Prop
 | _, [] => True
 | S, t :: r => (∀ o, ops[t.1]? = some o → ∀ e, e ∈ o.after → Region.binds .any e = true → S e.on) ∧ EdgesP ops (fun j => S j ∨ j = t.1) r
theorem EdgesP.mono {ops : Array Oper} : ∀ {L : List Tr} {S S' : Nat → Prop}, (∀ j, S j → S' j) → EdgesP ops S L → EdgesP ops S' L
 | [], _, _, _, _ => trivial
 | t :: r, S, S', h, hh => ⟨fun o ho e he hb => h _ (hh.1 o ho e he hb), EdgesP.mono (fun j hj => hj.imp (h j) id) hh.2⟩
theorem EdgesP.drop {ops : Array Oper} : ∀ {pre post : List Tr} {t : Tr} {S : Nat → Prop}, EdgesP ops S (pre ++ t :: post) → EdgesP ops (fun j => S j ∨ j = t.1) (pre ++ post)
 | [], post, t, S, h => h.2
 | x :: pre, post, t, S, h => ⟨fun o ho e he hb => .inl (h.1 o ho e he hb), (EdgesP.drop (pre := pre) h.2).mono fun j hj => by
    rcases hj with (hj | hj) | hj
    ·exact .inl (.inl hj)
    ·exact .inr hj
    ·exact .inl (.inr hj)⟩
theorem edges_of {ops : Array Oper} : ∀ {L : List Tr} {seen : List Nat}, edgesOk ops seen L = true → EdgesP ops (fun j => j ∈ seen) L
 | [], _, _ => trivial
 | t :: r, seen, h => by
   simp only [edgesOk, Bool.and_eq_true] at h
   refine ⟨fun o ho e he hb => ?_, (edges_of h.2).mono fun j hj => ?_⟩
   ·have h1 := h.1
    rw [ho] at h1
    have := Array.all_eq_true_iff_forall_mem.1 h1 e he
    simpa [hb] using this
   ·rcases List.mem_cons.1 hj with hj | hj
    ·exact .inr hj
    ·exact .inl hj
theorem swOk_sub {all : List Tr} {out out' : List Nat} (hs : ∀ i, i ∈ out' → i ∈ out) {x t : Tr} (h : swOk all out x t = true) : swOk all out' x t = true := by
 simp only [swOk, Bool.and_eq_true, Bool.or_eq_true] at h ⊢
 refine ⟨h.1, h.2.imp id fun q => ⟨q.1, ?_⟩⟩
 have q2 := q.2
 simp only [List.all_eq_true] at q2 ⊢
 intro i hi
 have := q2 i hi
 simp only [Bool.or_eq_true, Bool.not_eq_true', List.contains_eq_mem, decide_eq_false_iff_not] at this ⊢
 exact this.imp (fun a b => a (hs i b)) id
theorem pairs_sub {ops : Array Oper} {all : List Tr} : ∀ {L : List Tr} {out out' : List Nat}, (∀ i, i ∈ out' → i ∈ out) → af4 ops all out L = true → af4 ops all out' L = true
 | [], _, _, _, _ => rfl
 | x :: r, out, out', hs, h => by
   simp only [af4, Bool.and_eq_true, List.all_eq_true, Bool.or_eq_true] at h ⊢
   refine ⟨fun y hy => (h.1 y hy).imp id (swOk_sub hs), pairs_sub (fun i hi => ?_) h.2⟩
   rcases List.mem_cons.1 hi with rfl | hi
   ·exact List.mem_cons_self ..
   ·exact List.mem_cons_of_mem _ (hs i hi)
def preOk (ops : Array Oper) (all : List Tr) (t : Tr) : List Nat → List Tr → Prop
 | _, [] => True
 | out, x :: r => (pathT ops x.1 t.1 = true ∨ swOk all out x t = true) ∧ preOk ops all t (x.1 :: out) r
theorem ba3 {ops : Array Oper} {all : List Tr} : ∀ (pre post : List Tr) (t : Tr) (out : List Nat), af4 ops all out (pre ++ t :: post) = true → preOk ops all t out pre ∧ af4 ops all out (pre ++ post) = true
 | [], post, t, out, h => by
   simp only [List.nil_append, af4, Bool.and_eq_true] at h
   exact ⟨trivial, pairs_sub (fun i hi => List.mem_cons_of_mem _ hi) h.2⟩
 | y :: pre, post, t, out, h => by
   simp only [List.cons_append, af4, Bool.and_eq_true] at h
   obtain ⟨h1, h4⟩ := h
   obtain ⟨i1, i2⟩ := ba3 pre post t (y.1 :: out) h4
   simp only [List.all_eq_true, Bool.or_eq_true] at h1
   refine ⟨⟨h1 t (by simp), i1⟩, ?_⟩
   simp only [List.cons_append, af4, Bool.and_eq_true, List.all_eq_true, Bool.or_eq_true]
   refine ⟨fun z hz => h1 z ?_, i2⟩
   rcases List.mem_append.1 hz with hz | hz
   ·exact List.mem_append_left _ hz
   ·exact List.mem_append_right _ (List.mem_cons_of_mem _ hz)
theorem front_of {ops : Array Oper} {all : List Tr} {t : Tr} : ∀ (pre : List Tr) (out : List Nat), preOk ops all t out pre → (∀ x, x ∈ pre → pathT ops x.1 t.1 = false ∧ au4 all x.1 = some x.2.1) → frontOk all t out pre
 | [], _, _, _ => trivial
 | x :: pre, out, h, hx => by
   refine ⟨⟨?_, (hx x (by simp)).2⟩, front_of pre (x.1 :: out) h.2 fun y hy => hx y (List.mem_cons_of_mem _ hy)⟩
   rcases h.1 with e | e
   ·rw [(hx x (by simp)).1] at e; cases e
   ·exact e
theorem ad8 : ∀ {pre post : List Nat} {t : Nat}, aa1 (pre ++ t :: post) = true → t ∉ pre ++ post ∧ aa1 (pre ++ post) = true
 | [], post, t, h => by
   simp only [List.nil_append, aa1, Bool.and_eq_true, Bool.not_eq_true'] at h
   exact ⟨fun hm => (by simp at hm; simp [hm] at h), h.2⟩
 | y :: pre, post, t, h => by
   simp only [List.cons_append, aa1, Bool.and_eq_true, Bool.not_eq_true'] at h
   obtain ⟨h1, h2⟩ := h
   obtain ⟨i1, i2⟩ := ad8 h2
   have hy : y ∉ pre ++ t :: post := by
    intro hm
    have : (pre ++ t :: post).contains y = true := by simpa using hm
    rw [this] at h1; cases h1
   refine ⟨fun hm => ?_, ?_⟩
   ·rcases List.mem_cons.1 hm with rfl | hm
    ·exact hy (by simp)
    ·exact i1 hm
   ·simp only [List.cons_append, aa1, Bool.and_eq_true, Bool.not_eq_true']
    refine ⟨?_, i2⟩
    cases hc : (pre ++ post).contains y with
    | false => rfl
    | true =>
      have : y ∈ pre ++ post := by simpa using hc
      exact (hy (by rcases List.mem_append.1 this with q | q <;> simp [q])).elim
theorem look_of {all : List Tr} (hd : aa1 (all.map (·.1)) = true) {x : Tr} (hx : x ∈ all) : au4 all x.1 = some x.2.1 := by
 obtain ⟨pre, post, rfl⟩ := List.append_of_mem hx
 have hn : ∀ y, y ∈ pre → (y.1 == x.1) = false := by
  intro y hy
  have := ad8 (pre := pre.map (·.1)) (post := post.map (·.1)) (t := x.1) (by simpa using hd)
  have h1 := this.1
  cases hb : y.1 == x.1 with
  | false => rfl
  | true =>
    have : y.1 = x.1 := by simpa using hb
    exact (h1 (List.mem_append_left _ (List.mem_map.2 ⟨y, hy, this⟩))).elim
 have : (pre ++ x :: post).find? (fun t => t.1 == x.1) = some x := by
  rw [List.find?_append]
  have h1 : pre.find? (fun t => t.1 == x.1) = none := by
   rw [List.find?_eq_none]; intro y hy; rw [hn y hy]; simp
  rw [h1]
  simp
 simp [au4, this]
theorem ks_split {na : Nat} : ∀ {pre post : List Tr} {t : Tr}, ksOk na ((pre ++ t :: post).map (·.2.1)) = true → ksOk na ((pre ++ post).map (·.2.1)) = true ∧ ∀ u, u ∈ pre ++ post → kxNe u.2.1 t.2.1 = true := by
 intro pre post t h
 simp only [ksOk, List.map_append, List.map_cons, List.filterMap_append, List.filterMap_cons, Bool.and_eq_true] at h ⊢
 cases hk : t.2.1.op.kx with
 | none =>
   rw [hk] at h
   refine ⟨h, fun u hu => ?_⟩
   simp only [kxNe, hk]
   split
   ·rename_i e; cases e
   ·rfl
 | some k =>
   rw [hk] at h
   obtain ⟨h1, h2⟩ := h
   obtain ⟨d1, d2⟩ := ad8 h1
   simp only [List.all_append, List.all_cons, Bool.and_eq_true] at h2
   refine ⟨⟨d2, by simp only [List.all_append, Bool.and_eq_true]; exact ⟨h2.1, h2.2.2⟩⟩, fun u hu => ?_⟩
   simp only [kxNe, hk]
   cases hu' : u.2.1.op.kx with
   | none => rfl
   | some k' =>
     simp only [bne_iff_ne, ne_eq]
     rintro rfl
     refine d1 ?_
     rcases List.mem_append.1 hu with hu | hu
     ·exact List.mem_append_left _ (List.mem_filterMap.2 ⟨u.2.1, List.mem_map.2 ⟨u, hu, rfl⟩, hu'⟩)
     ·exact List.mem_append_right _ (List.mem_filterMap.2 ⟨u.2.1, List.mem_map.2 ⟨u, hu, rfl⟩, hu'⟩)
theorem any_sound {r0 : Option Nat} {ops : Array Oper} {nt na rb : Nat} {all : List Tr} {K : St → Prop} {Q : Exit → Act → World → Prop}
  (hQ : ∀ a w g st, a.defers = ds → a.tmps.size = nt → StR w g a.tmps st → Stp w0 g0 H0 w g st.h (fun a => rb ≤ a) → rb ≤ st.nx → K st → Q .normal a w) :
  ∀ (n : Nat) (L : List Tr) (listed : Array Bool) (a : Act) (w : World) (g : G) (st : St), L.length = n → listed.size = ops.size → (∀ t, t ∈ L → tripOk P nt ops t = true) → (∀ t, t ∈ L → au4 all t.1 = some t.2.1) →
   (∀ j, j < ops.size → (listed.getD j true = false ↔ ∃ t, t ∈ L ∧ t.1 = j)) → Closed ops listed → af4 ops all [] L = true → EdgesP ops (fun j => listed.getD j false = true) L → ksOk na (L.map (·.2.1)) = true → aa1 (L.map (·.1)) = true →
   a.defers = ds → a.tmps.size = nt → StR w g a.tmps st → Stp w0 g0 H0 w g st.h (fun a => rb ≤ a) → rb ≤ st.nx → (∀ t, t ∈ L → Fr g st.nx rb t.2.1.op) → rwd P rb all L K st → wpAnyIn (FW r0) 0 P .any ops Q n listed a w := by
 intro n
 induction n with
 | zero =>
   intro L listed a w g st hn hsz hops hlk hidx hcl hp hE hks hdi hd hnt h s hx hf hr
   have hL : L = [] := List.length_eq_zero_iff.1 hn
   subst hL
   refine ⟨?_, hQ a w g st hd hnt h s hx hr⟩
   refine List.eq_nil_iff_forall_not_mem.2 (fun j hj => ?_)
   obtain ⟨m1, o, m2, m3⟩ := mem_ready.1 hj
   have hlt : j < ops.size := (Array.getElem?_eq_some_iff.1 m2).1
   obtain ⟨t, ht, _⟩ := (hidx j hlt).1 m1
   cases ht
 | succ n ih =>
   intro L listed a w g st hn hsz hops hlk hidx hcl hp hE hks hdi hd hnt h s hx hf hr
   have hop : ∀ t, t ∈ L → ∃ o, ops[t.1]? = some o ∧ chkG P nt ops o t.2.1 = true ∧ t.2.1.op.isDfr = false := by
    intro t ht
    have := hops t ht
    unfold tripOk at this
    split at this
    ·rename_i o ho
     simp only [Bool.and_eq_true, Bool.not_eq_true'] at this
     exact ⟨o, ho, this.1, this.2⟩
    ·cases this
   refine ⟨fun hnil => ?_, fun i hi => ?_⟩
   ·
    cases L with
    | nil => simp at hn
    | cons t r =>
      obtain ⟨o, ho, _⟩ := hop t (by simp)
      have : t.1 ∈ Region.ready .any ops listed := by
       refine mem_ready.2 ⟨(hidx _ (Array.getElem?_eq_some_iff.1 ho).1).2 ⟨t, by simp, rfl⟩, o, ho, fun e hm hb => hE.1 o ho e hm hb⟩
      rw [hnil] at this; cases this
   ·obtain ⟨m1, o, m2, m3⟩ := mem_ready.1 hi
    have hlt : i < ops.size := (Array.getElem?_eq_some_iff.1 m2).1
    obtain ⟨t, ht, rfl⟩ := (hidx i hlt).1 m1
    obtain ⟨pre, post, rfl⟩ := List.append_of_mem ht
    obtain ⟨p1, p2⟩ := ba3 pre post t [] hp
    obtain ⟨o', ho', hg, hdf⟩ := hop t ht
    rw [m2] at ho'; cases ho'
    obtain ⟨k1, k2⟩ := ks_split hks
    have hdi' := ad8 (pre := pre.map (·.1)) (post := post.map (·.1)) (t := t.1) (by simpa using hdi)
    have hsub : ∀ u, u ∈ pre ++ post → u ∈ pre ++ t :: post := by
     intro u hu
     rcases List.mem_append.1 hu with hu | hu <;> simp [hu]
    have hap : frontOk all t [] pre := by
     refine front_of pre [] p1 fun x hxm => ?_
     have hx' : x ∈ pre ++ t :: post := List.mem_append_left _ hxm
     refine ⟨?_, hlk x hx'⟩
     cases hpk : pathT ops x.1 t.1 with
     | false => rfl
     | true =>
       obtain ⟨ox, hox, _⟩ := hop x hx'
       have hxl : x.1 < ops.size := (Array.getElem?_eq_some_iff.1 hox).1
       have hun := (hidx x.1 hxl).2 ⟨x, hx', rfl⟩
       unfold pathT at hpk
       rw [m2] at hpk
       have hl := ba2 hcl 6 _ m3 hpk
       have hl2 : x.1 < listed.size := by omega
       simp [Array.getD, hl2] at hun hl
       rw [hl] at hun; cases hun
    obtain ⟨s', q1, _, q3⟩ := rwd_front pre post t [] st hap (fun x hxm => (hop x hxm).choose_spec.2.2) k2 hr
    obtain ⟨tmps, ds'⟩ := a
    simp only at hd hnt
    subst hd
    refine op_step m2 hnt hg h (hf t ht) (.inr hdf) ((gwp_iff hdf).2 ⟨s', q1, (q3 : rwd P rb all (pre ++ post) K s')⟩) (fun a' w' g' st' hd1 hd2 hn' h' s' hx' hk => ?_)
    refine ih (pre ++ post) _ a' w' g' st' (by simp at hn ⊢; omega) (by simpa using hsz) (fun u hu => hops u (hsub u hu)) (fun u hu => hlk u (hsub u hu)) (fun j hj => ?_) (closed_step hcl m2 m3) p2
     (hE.drop.mono fun j hj => ?_) k1 (by simpa using hdi'.2) (hd2 hdf) hn' h' (s.trans (s'.mono fun a e => ?_)) (Nat.le_trans hx hx') (fun u hu => (hf u (hsub u hu)).step s' hx' (fun k e1 e2 => ?_)) hk
    ·
     have hdist : ∀ u, u ∈ pre ++ post → u.1 ≠ t.1 := by
      intro u hu e
      refine hdi'.1 ?_
      rcases List.mem_append.1 hu with hu | hu
      ·exact List.mem_append_left _ (List.mem_map.2 ⟨u, hu, e⟩)
      ·exact List.mem_append_right _ (List.mem_map.2 ⟨u, hu, e⟩)
     by_cases hjt : t.1 = j
     ·subst hjt
      have : (listed.setIfInBounds t.1 true).getD t.1 true = true := by simp [Array.getD]
      rw [this]
      constructor
      ·intro h; cases h
      ·rintro ⟨u, u1, u2⟩; exact (hdist u u1 u2).elim
     ·rw [bb8 true hjt, hidx j hj]
      constructor
      ·rintro ⟨u, u1, u2⟩
       refine ⟨u, ?_, u2⟩
       rcases List.mem_append.1 u1 with u1 | u1
       ·exact List.mem_append_left _ u1
       ·rcases List.mem_cons.1 u1 with rfl | u1
        ·exact (hjt u2).elim
        ·exact List.mem_append_right _ u1
      ·rintro ⟨u, u1, u2⟩
       exact ⟨u, hsub u u1, u2⟩
    ·rcases hj with hj | rfl
     ·exact ak0 hj
     ·have : t.1 < listed.size := by omega
      simp [Array.getD, this]
    ·rcases e with ⟨k, _, e⟩ | e
     ·omega
     ·omega
    ·have := k2 u hu
     simp only [kxNe, e1, e2] at this
     simp at this
theorem HR.raise {H : Hp} {nx nx' : Nat} (h : HR w g H nx) (hn : nx ≤ nx') : HR w g H nx' := ⟨h.ob, h.dm, h.inj, fun a ha => Nat.lt_of_lt_of_le (h.nx a ha) hn, h.lt, h.fz⟩
theorem StR.raise (h : StR w g tmps st) (na : Nat) : StR w g tmps { st with nx := st.nx + na } := ⟨h.sl, h.hr.raise (Nat.le_add_right _ _)⟩
theorem fr_fresh (h : HR w g st.h st.nx) {na : Nat} {gs : List GOp} (hk : ksOk na gs = true) : ∀ o, o ∈ gs → Fr g (st.nx + na) st.nx o.op := by
 intro o ho k e
 have := ksOk_lt hk o ho k e
 refine ⟨fun hd => ?_, by omega⟩
 have := h.nx _ hd
 omega
theorem range_map (ops : Array Oper) : (List.range ops.size).map (fun i => ops[i]?) = ops.toList.map some := by
 apply List.ext_getElem?
 intro j
 by_cases hj : j < ops.size
 ·simp [hj]
 ·rw [List.getElem?_eq_none (by simpa using Nat.le_of_not_lt hj), List.getElem?_eq_none (by simpa using Nat.le_of_not_lt hj)]
theorem OR.heap {a : Nat} {o : O} (h : OR w g a o) (he : w'.heap = w.heap) : OR w' g a o := by
 cases o with
 | no => trivial
 | gone => trivial
 | c gr cs => simpa only [OR, he] using h
 | m es clock => simpa only [OR, he] using h
 | lp ps asg bd sl stt pnd => simpa only [OR, he] using h
theorem HR.heap {H : Hp} {nx : Nat} (h : HR w g H nx) (he : w'.heap = w.heap) : HR w' g H nx :=
 ⟨fun a => (h.ob a).heap he, h.dm, h.inj, h.nx, fun a ha => by rw [he]; exact h.lt a ha, fun c o v hz => ⟨by simp only [World.cell?, he]; exact (h.fz c o v hz).1, (h.fz c o v hz).2⟩⟩
theorem Stp.heap {H : Hp} (D : Nat → Prop) (he : WEq w w') : Stp w g H w' g H D :=
 ⟨Le.refl g, by rw [he.heap]; exact Nat.le_refl _, fun _ _ _ => by rw [he.heap], fun a ha => .inr ⟨a, ha, rfl⟩, fun _ h => .inl h, fun _ _ _ h => .inl h, he.out, he.os⟩
theorem reg_sound {r0 : Option Nat} {ops : Array Oper} {nt na id : Nat} {gs : List GOp} {K : St → Prop} {Q : Exit → Act → World → Prop} {a : Act}
  (hQ : ∀ a' w' g' st', DfX P a.defers a'.defers → a'.tmps.size = nt → StR w' g' a'.tmps st' → Stp w g st.h w' g' st'.h (fun a => st.nx ≤ a) → st.nx ≤ st'.nx → K st' → Q .normal a' w')
  (hc : chkR P nt ops na gs = true) (hR : r0 = none ∨ ∀ o, o ∈ gs → o.op.isDfr = false) (hn : a.tmps.size = nt) (h : StR w g a.tmps st) (hr : rwp P st.nx gs K { st with nx := st.nx + na }) : (Code.region id ops false).wpIn (FW r0) 0 P Q a w := by
 simp only [chkR, Bool.and_eq_true] at hc
 exact wpIn_region (rwp_sound (w0 := w) (g0 := g) (H0 := st.h) (ds := a.defers) hQ ops.toList _ gs a w g _ (range_map ops) hc.1 hc.2 hR .refl hn (h.raise na) (Stp.refl _ _ _ _) (Nat.le_add_right _ _) (fr_fresh h.hr hc.2) hr)
theorem drw_sound {r0 : Option Nat} {ops : Array Oper} {nt na id : Nat} {L : List Tr} {K : St → Prop} {Q : Exit → Act → World → Prop} {a : Act}
  (hQ : ∀ a' w' g' st', a'.defers = a.defers → a'.tmps.size = nt → StR w' g' a'.tmps st' → Stp w g st.h w' g' st'.h (fun a => st.nx ≤ a) → st.nx ≤ st'.nx → K st' → Q .normal a' w')
  (hc : chkD P nt ops na L = true) (hn : a.tmps.size = nt) (h : StR w g a.tmps st) (hr : rwd P st.nx L L K { st with nx := st.nx + na }) : (Code.region id ops true).wpIn (FW r0) 0 P Q a w := by
 simp only [chkD, Bool.and_eq_true] at hc
 obtain ⟨⟨⟨⟨⟨⟨⟨c0, c1⟩, c2⟩, c3⟩, c4⟩, c5⟩, c6⟩, c7⟩ := hc
 refine wpIn_region_any c1 ?_
 have hD : StR w.drew g a.tmps { st with nx := st.nx + na } := ⟨h.sl, (h.hr.raise (Nat.le_add_right _ _)).heap rfl⟩
 have hlen : L.length = ops.size := by simpa using c0
 refine any_sound (w0 := w) (g0 := g) (H0 := st.h) (ds := a.defers) hQ ops.size L _ a _ g _ hlen (by simp) (fun t ht => List.all_eq_true.1 c2 t ht) (fun t ht => look_of c6 ht) (fun j hj => ?_) (fun j o _ h => by simp [Array.getD] at h) c3
  ((edges_of c4).mono fun j hj => by cases hj) c5 c6 rfl hn hD (Stp.heap _ (WEq.drew w)) (Nat.le_add_right _ _) (fun t ht => fr_fresh h.hr c5 _ (List.mem_map.2 ⟨t, ht, rfl⟩)) hr
 constructor
 ·intro _
  have := List.all_eq_true.1 c7 j (by simpa using hj)
  have : j ∈ L.map (·.1) := by simpa using this
  obtain ⟨t, t1, t2⟩ := List.mem_map.1 this
  exact ⟨t, t1, t2⟩
 ·intro _; simp [Array.getD, hj]
end
end Go.B
