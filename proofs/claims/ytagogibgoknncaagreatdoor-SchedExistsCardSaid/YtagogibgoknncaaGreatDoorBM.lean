/-
  Regions: in the order of the text; in any order that the edges leave open. Program-independent.
-/
import Derived.Test.YtagogibgoknncaaGreatDoorBL
import Derived.Orders
set_option linter.unusedSectionVars false
set_option linter.unusedVariables false
set_option linter.unusedSimpArgs false
namespace Go.B
variable [iok : OkC]
def ai0 (P : Program) (rb : Nat) (op : AOp) (st st' : St) : Prop :=
 match op with
 | .cal d f args => ∃ r h' nx', ACalls P f (ae5 st.sl args) st.h st.nx r h' nx' ∧ st' = { st with sl := upd st.sl d r, h := h', nx := nx' }
 | .cav d x args => ∃ r h' nx', VCalls P (evO st.sl x) (ae5 st.sl args) st.h st.nx r h' nx' ∧ st' = { st with sl := upd st.sl d r, h := h', nx := nx' }
 | .inv d x args tb => ∃ f rv r h' nx', invV st.h tb (evO st.sl x) = some (f, rv) ∧ ACalls P f (rv :: ae5 st.sl args) st.h st.nx r h' nx' ∧ st' = { st with sl := upd st.sl d r, h := h', nx := nx' }
 | .dfr _ _ => False
 | op => q9 rb st op = some st'
def ai3 (P : Program) (rb : Nat) (o : GOp) (st st' : St) : Prop :=
 match o.g with
 | none => ai0 P rb o.op st st'
 | some (j, want) => ∃ b, af7 (st.sl j) = some b ∧ if b = some want then ai0 P rb o.op st st' else st' = st.clr o.op.dst
theorem owp_iff {P : Program} {rb : Nat} {K : St → Prop} {st : St} {op : AOp} (hn : op.isDfr = false) : owp P rb K st op ↔ ∃ st', ai0 P rb op st st' ∧ K st' := by
 cases op <;> first | (simp [AOp.isDfr] at hn; done) | exact Iff.rfl | simp only [owp, ai0]
 ·constructor
  ·rintro ⟨r, h', nx', a, c⟩; exact ⟨_, ⟨r, h', nx', a, rfl⟩, c⟩
  ·rintro ⟨st', ⟨r, h', nx', a, rfl⟩, c⟩; exact ⟨r, h', nx', a, c⟩
 ·constructor
  ·rintro ⟨r, h', nx', a, c⟩; exact ⟨_, ⟨r, h', nx', a, rfl⟩, c⟩
  ·rintro ⟨st', ⟨r, h', nx', a, rfl⟩, c⟩; exact ⟨r, h', nx', a, c⟩
 ·constructor
  ·rintro ⟨f, rv, r, h', nx', z, a, c⟩; exact ⟨_, ⟨f, rv, r, h', nx', z, a, rfl⟩, c⟩
  ·rintro ⟨st', ⟨f, rv, r, h', nx', z, a, rfl⟩, c⟩; exact ⟨f, rv, r, h', nx', z, a, c⟩
theorem gwp_iff {P : Program} {rb : Nat} {K : St → Prop} {st : St} {o : GOp} (hm : o.op.isDfr = false) : gwp P rb o K st ↔ ∃ st', ai3 P rb o st st' ∧ K st' := by
 obtain ⟨g, op⟩ := o
 cases g with
 | none => exact owp_iff hm
 | some jw =>
   obtain ⟨j, want⟩ := jw
   simp only [gwp, ai3]
   constructor
   ·rintro ⟨b, h1, h2⟩
    split at h2
    ·rename_i e
     obtain ⟨st', q1, q2⟩ := (owp_iff hm).1 h2
     exact ⟨st', ⟨b, h1, by rw [if_pos e]; exact q1⟩, q2⟩
    ·rename_i e
     exact ⟨_, ⟨b, h1, by rw [if_neg e]⟩, h2⟩
   ·rintro ⟨st', ⟨b, h1, h2⟩, hk⟩
    refine ⟨b, h1, ?_⟩
    split at h2
    ·rename_i e; rw [if_pos e]; exact (owp_iff hm).2 ⟨st', h2, hk⟩
    ·rename_i e; rw [if_neg e, ← h2]; exact hk
theorem owp_mono {P : Program} {rb : Nat} {K K' : St → Prop} (hk : ∀ s, K s → K' s) {st : St} {op : AOp} (h : owp P rb K st op) : owp P rb K' st op := by
 cases op <;> simp only [owp] at h ⊢ <;> first
  | (obtain ⟨st', h1, h2⟩ := h; exact ⟨st', h1, hk _ h2⟩)
  | (obtain ⟨r, h', nx', h1, h2⟩ := h; exact ⟨r, h', nx', h1, hk _ h2⟩)
  | (obtain ⟨f, rv, r, h', nx', h0, h1, h2⟩ := h; exact ⟨f, rv, r, h', nx', h0, h1, hk _ h2⟩)
  | (obtain ⟨f, fst, caps, h0, h1, h2⟩ := h; exact ⟨f, fst, caps, h0, h1, hk _ h2⟩)
theorem aj8 {P : Program} {rb : Nat} {K K' : St → Prop} (hk : ∀ s, K s → K' s) {st : St} {o : GOp} (h : gwp P rb o K st) : gwp P rb o K' st := by
 unfold gwp at h ⊢
 split
 ·rename_i hg; rw [hg] at h; exact owp_mono hk h
 ·rename_i j want hg
  rw [hg] at h
  obtain ⟨b, h1, h2⟩ := h
  refine ⟨b, h1, ?_⟩
  split
  ·rename_i e; rw [if_pos e] at h2; exact owp_mono hk h2
  ·rename_i e; rw [if_neg e] at h2; exact hk _ h2
def rdG (o : GOp) : List Nat := (match o.g with | none => [] | some (j, _) => [j]) ++ rdA o.op
inductive Cl where
 | p | r | a | w
 deriving DecidableEq
def isH : AX → Bool
 | .ld _ _ _ | .lkp _ _ _ _ _ _ | .ssx _ _ _ _ => true
 | _ => false
def AOp.cl : AOp → Cl
 | .set _ x => if isH x = true then .r else .p
 | .new _ _ _ | .box _ _ _ | .bsl _ _ _ _ | .mks _ _ _ _ _ _ _ | .mkm _ _ => .a
 | _ => .w
def ap9 (q : GOp) (s : St) : Option V :=
 match q.op with
 | .set _ x => match q.g with
   | none => evX s.sl s.h x
   | some (j, want) => match af7 (s.sl j) with
     | some b => if b = some want then evX s.sl s.h x else some udf
     | none => none
 | _ => none
section
variable {P : Program} {rb : Nat} {o x t : GOp} {st st' s1 s2 : St}
theorem evX_pure {x : AX} (hx : isH x = false) (sl : Nat → V) (h h2 : Hp) : evX sl h x = evX sl h2 x := by
 cases x <;> first | rfl | (simp [isH] at hx; done)
theorem cl_set {op : AOp} (h : op.cl = .p ∨ op.cl = .r) : ∃ d x, op = .set d x ∧ (op.cl = .p → isH x = false) := by
 cases op <;> first | (simp [AOp.cl] at h; done) | skip
 rename_i d x
 exact ⟨d, x, rfl, fun e => by simp only [AOp.cl] at e; split at e <;> simp_all⟩
theorem gset (h : o.op.cl = .p ∨ o.op.cl = .r) : ai3 P rb o st st' ↔ ∃ d v, o.op.dst = some d ∧ ap9 o st = some v ∧ st' = st.put d v := by
 obtain ⟨g, op⟩ := o
 obtain ⟨d, x, e, _⟩ := cl_set h
 simp only at e
 subst e
 cases g with
 | none =>
   simp only [ai3, ai0, q9, ap9, AOp.dst]
   constructor
   ·intro hx
    cases he : evX st.sl st.h x with
    | none => rw [he] at hx; cases hx
    | some v => rw [he] at hx; cases hx; exact ⟨d, v, rfl, rfl, rfl⟩
   ·rintro ⟨d', v, e1, e2, rfl⟩; cases e1; rw [e2]; rfl
 | some jw =>
   obtain ⟨j, want⟩ := jw
   simp only [ai3, ai0, q9, ap9, AOp.dst]
   constructor
   ·rintro ⟨b, h1, h2⟩
    rw [h1]
    split at h2
    ·rename_i hb
     cases he : evX st.sl st.h x with
     | none => rw [he] at h2; cases h2
     | some v => rw [he] at h2; cases h2; exact ⟨d, v, rfl, by simp [hb], rfl⟩
    ·rename_i hb
     exact ⟨d, udf, rfl, by simp [hb], h2⟩
   ·rintro ⟨d', v, e1, e2, rfl⟩
    cases e1
    split at e2
    ·rename_i b hb
     refine ⟨b, hb, ?_⟩
     split at e2
     ·rename_i hh; rw [if_pos hh, e2]; rfl
     ·rename_i hh; rw [if_neg hh]; cases e2; rfl
    ·cases e2
theorem ab3 {s s' : St} (ha : Agr s.sl s'.sl (rdG o)) (hh : s.h = s'.h) : ap9 o s = ap9 o s' := by
 obtain ⟨g, op⟩ := o
 unfold ap9
 cases op <;> try rfl
 rename_i d x
 cases g with
 | none => simp only [hh, evX_agr (x := x) (h := s'.h) (s1 := s.sl) (s2 := s'.sl) ha.r]
 | some jw =>
   obtain ⟨j, want⟩ := jw
   simp only [hh, evX_agr (x := x) (h := s'.h) (s1 := s.sl) (s2 := s'.sl) ha.r, ha j (by simp [rdG])]
theorem gval_pure {s s' : St} (hp : o.op.cl = .p) (ha : Agr s.sl s'.sl (rdG o)) : ap9 o s = ap9 o s' := by
 have h1 : ap9 o s = ap9 o { s with h := s'.h } := by
  obtain ⟨d, x, e, hx⟩ := cl_set (.inl hp)
  simp only [ap9, e, evX_pure (hx hp) s.sl s.h s'.h]
 rw [h1]
 exact ab3 (s := { s with h := s'.h }) ha rfl
theorem bg8 {s : St} {a : Nat} {ob : O} {v : V} (ha : (s.h a).live = false) (hv : ap9 o s = some v) : ap9 o { s with h := upd s.h a ob } = some v := by
 obtain ⟨g, op⟩ := o
 unfold ap9 at hv ⊢
 cases op <;> try exact hv
 rename_i d x
 cases g with
 | none => exact as3 ha hv
 | some jw =>
   obtain ⟨j, want⟩ := jw
   simp only at hv ⊢
   split at hv
   ·split at hv
    ·rename_i hb; rw [if_pos hb]; exact as3 ha hv
    ·rename_i hb; rw [if_neg hb]; exact hv
   ·cases hv
theorem ar6 {u : St} (ha : Agr st.sl u.sl (rdG o)) (hh : st.h = u.h) (hn : st.nx = u.nx) (hs : ai3 P rb o st st') :
  ∃ u', ai3 P rb o u u' ∧ u'.h = st'.h ∧ u'.nx = st'.nx ∧ u'.df = u.df ∧ ∀ m, u'.sl m = if o.op.dst = some m then st'.sl m else u.sl m := by
 obtain ⟨g, op⟩ := o
 have main : ai0 P rb op st st' → ∃ u', ai0 P rb op u u' ∧ u'.h = st'.h ∧ u'.nx = st'.nx ∧ u'.df = u.df ∧ ∀ m, u'.sl m = if op.dst = some m then st'.sl m else u.sl m := by
  clear hs
  intro hs
  have hr : Agr st.sl u.sl (rdA op) := ha.r
  have ex : q9 rb st op = some st' → ∃ u', q9 rb u op = some u' ∧ u'.h = st'.h ∧ u'.nx = st'.nx ∧ u'.df = u.df ∧ ∀ m, u'.sl m = if op.dst = some m then st'.sl m else u.sl m := by
   intro hx
   have e := exop_agr (rb := rb) (h := st.h) (nx := st.nx) (nx2 := u.nx) (df := st.df) (df2 := u.df) hr
   have hx' : q9 rb ⟨st.sl, st.h, st.nx, st.df⟩ op = some st' := hx
   rw [hx', hh] at e
   simp only [Option.map_some] at e
   cases hy : q9 rb ⟨u.sl, u.h, u.nx, u.df⟩ op with
   | none => rw [hy] at e; cases e
   | some u' =>
     rw [hy] at e
     simp only [Option.map_some, Option.some.injEq, eff, Prod.mk.injEq] at e
     obtain ⟨e1, e2⟩ := e
     obtain ⟨o1, o2, o3⟩ := as2 hx
     obtain ⟨p1, p2, p3⟩ := as2 hy
     refine ⟨u', by first | exact hy | rfl, e2.symm, by rw [p1, o1, hn], p2, fun m => ?_⟩
     split
     ·rename_i hd; rw [hd] at e1; exact e1.symm
     ·rename_i hd; exact p3 m hd
  have slot : ∀ (d m : Nat) (r : V), upd u.sl d r m = if some d = some m then upd st.sl d r m else u.sl m := by
   intro d m r
   by_cases hm : d = m
   ·subst hm; simp [j5]
   ·rw [j4 _ _ (Ne.symm hm), if_neg (by simpa using hm)]
  cases op <;> first | exact ex hs | (simp only [ai0] at hs; done) | skip
  ·rename_i d f args
   obtain ⟨r, h', nx', q1, rfl⟩ := hs
   rw [ag8 hr, hh, hn] at q1
   exact ⟨_, ⟨r, h', nx', q1, rfl⟩, rfl, rfl, rfl, fun m => slot d m r⟩
  ·rename_i d x args
   obtain ⟨r, h', nx', q1, rfl⟩ := hs
   rw [i7 hr.l, ag8 hr.r, hh, hn] at q1
   exact ⟨_, ⟨r, h', nx', q1, rfl⟩, rfl, rfl, rfl, fun m => slot d m r⟩
  ·rename_i d x args tb
   obtain ⟨f, rv, r, h', nx', q0, q1, rfl⟩ := hs
   rw [i7 hr.l, hh] at q0
   rw [ag8 hr.r, hh, hn] at q1
   exact ⟨_, ⟨f, rv, r, h', nx', q0, q1, rfl⟩, rfl, rfl, rfl, fun m => slot d m r⟩
 cases g with
 | none => exact main hs
 | some jw =>
   obtain ⟨j, want⟩ := jw
   obtain ⟨b, h1, h2⟩ := hs
   rw [ha j (by simp [rdG])] at h1
   split at h2
   ·rename_i hb
    obtain ⟨u', q1, q2⟩ := main h2
    exact ⟨u', ⟨b, h1, by rw [if_pos hb]; exact q1⟩, q2⟩
   ·rename_i hb
    subst h2
    simp only
    refine ⟨u.clr op.dst, ⟨b, h1, by rw [if_neg hb]⟩, ?_⟩
    cases op.dst with
    | none => exact ⟨hh.symm, hn.symm, rfl, fun m => by simp [St.clr]⟩
    | some d =>
      refine ⟨hh.symm, hn.symm, rfl, fun m => ?_⟩
      simp only [St.clr, St.put]
      by_cases hm : d = m
      ·subst hm; simp [j5]
      ·rw [j4 _ _ (Ne.symm hm), if_neg (by simpa using hm)]
theorem gstep_out (hs : ai3 P rb o st st') : st'.df = st.df ∧ ∀ m, o.op.dst ≠ some m → st'.sl m = st.sl m := by
 obtain ⟨g, op⟩ := o
 have main : ai0 P rb op st st' → st'.df = st.df ∧ ∀ m, op.dst ≠ some m → st'.sl m = st.sl m := by
  clear hs
  intro hs
  have ne : ∀ {d m : Nat}, some d ≠ some m → m ≠ d := fun hh e => hh (by rw [e])
  cases op <;> first | exact (as2 hs).2 | (simp only [ai0] at hs; done) | skip
  ·obtain ⟨r, h', nx', q1, rfl⟩ := hs; exact ⟨rfl, fun m hm => j4 _ _ (ne hm)⟩
  ·obtain ⟨r, h', nx', q1, rfl⟩ := hs; exact ⟨rfl, fun m hm => j4 _ _ (ne hm)⟩
  ·obtain ⟨f, rv, r, h', nx', q0, q1, rfl⟩ := hs; exact ⟨rfl, fun m hm => j4 _ _ (ne hm)⟩
 cases g with
 | none => exact main hs
 | some jw =>
   obtain ⟨j, want⟩ := jw
   obtain ⟨b, h1, h2⟩ := hs
   split at h2
   ·exact main h2
   ·subst h2
    simp only
    cases op.dst with
    | none => exact ⟨rfl, fun _ _ => rfl⟩
    | some d => exact ⟨rfl, fun m hm => j4 _ _ (fun e => hm (by rw [e]))⟩
theorem gstep_frame {a : Nat} {ob : O} (ha : (st.h a).live = false) (hlt : a < st.nx) (hlo : ob.live = true) (hk : ∀ k, o.op.kx = some k → rb + k ≠ a) (hs : ai3 P rb o st st') :
  ai3 P rb o { st with h := upd st.h a ob } { st' with h := upd st'.h a ob } := by
 obtain ⟨g, op⟩ := o
 have main : ai0 P rb op st st' → ai0 P rb op { st with h := upd st.h a ob } { st' with h := upd st'.h a ob } := by
  clear hs
  intro hs
  cases op <;> first | exact exop_frame ha hk hs | (simp only [ai0] at hs; done) | skip
  ·obtain ⟨r, h', nx', q1, rfl⟩ := hs; exact ⟨r, _, nx', q1.frame ha hlt hlo, rfl⟩
  ·obtain ⟨r, h', nx', q1, rfl⟩ := hs; exact ⟨r, _, nx', q1.frame ha hlt hlo, rfl⟩
  ·obtain ⟨f, rv, r, h', nx', q0, q1, rfl⟩ := hs; exact ⟨f, rv, r, _, nx', invV_frame ha q0, q1.frame ha hlt hlo, rfl⟩
 cases g with
 | none => exact main hs
 | some jw =>
   obtain ⟨j, want⟩ := jw
   obtain ⟨b, h1, h2⟩ := hs
   refine ⟨b, h1, ?_⟩
   split at h2
   ·rename_i hb; rw [if_pos hb]; exact main h2
   ·rename_i hb
    rw [if_neg hb, h2]
    simp only
    cases op.dst <;> rfl
theorem aj9 (hc : o.op.cl = .a) (hs : ai3 P rb o st st') :
  ∃ d k, o.op.dst = some d ∧ o.op.kx = some k ∧ ((∃ ob v, ob.live = true ∧ st' = st.alc (rb + k) ob d v ∧ ∀ u : St, Agr st.sl u.sl (rdG o) → ai3 P rb o u (u.alc (rb + k) ob d v)) ∨
   (st' = st.put d udf ∧ ∀ u : St, Agr st.sl u.sl (rdG o) → ai3 P rb o u (u.put d udf))) := by
 obtain ⟨g, op⟩ := o
 have main : ∀ (d k : Nat), op.dst = some d → op.kx = some k → ai0 P rb op st st' → ∃ ob v, ob.live = true ∧ st' = st.alc (rb + k) ob d v ∧ ∀ u : St, Agr st.sl u.sl (rdA op) → ai0 P rb op u (u.alc (rb + k) ob d v) := by
  clear hs
  intro d k hd hk hs
  cases op <;> first | (simp [AOp.cl] at hc; done) | skip
  all_goals try (simp only [AOp.cl] at hc; split at hc <;> cases hc)
  all_goals
   simp only [AOp.dst, Option.some.injEq] at hd
   simp only [AOp.kx, Option.some.injEq] at hk
   subst hd hk
   simp only [ai0, q9] at hs
  ·cases hs; exact ⟨_, _, rfl, rfl, fun u hu => rfl⟩
  ·rename_i d k x
   cases he : stored (evO st.sl x) with
   | none => rw [he] at hs; cases hs
   | some l =>
     rw [he] at hs; cases hs
     refine ⟨_, _, rfl, rfl, fun u hu => ?_⟩
     simp only [ai0, q9, ← i7 (x := x) hu, he]; rfl
  ·rename_i d k wd xs
   cases he : ab6 wd (ae5 st.sl xs) with
   | none => rw [he] at hs; cases hs
   | some l =>
     rw [he] at hs; cases hs
     refine ⟨_, _, rfl, rfl, fun u hu => ?_⟩
     simp only [ai0, q9, ← ag8 (xs := xs) hu, he]; rfl
  ·rename_i d k n c wd bytes zero
   split at hs
   ·rename_i n' c' e1 e2
    split at hs
    ·rename_i hh
     cases hs
     refine ⟨.c false (List.replicate c'.toNat zero).flatten, _, rfl, rfl, fun u hu => ?_⟩
     simp only [ai0, q9, ← i7 (x := n) hu.l, ← i7 (x := c) hu.r, e1, e2, if_pos hh]
    ·cases hs
   ·cases hs
  ·cases hs; exact ⟨_, _, rfl, rfl, fun u hu => rfl⟩
 have hdk : ∃ d k, op.dst = some d ∧ op.kx = some k := by
  cases op <;> first | (simp [AOp.cl] at hc; done) | exact ⟨_, _, rfl, rfl⟩ | skip
  simp only [AOp.cl] at hc; split at hc <;> cases hc
 obtain ⟨d, k, hd, hk⟩ := hdk
 refine ⟨d, k, hd, hk, ?_⟩
 cases g with
 | none =>
   obtain ⟨ob, v, q1, q2, q3⟩ := main d k hd hk hs
   exact .inl ⟨ob, v, q1, q2, fun u hu => q3 u hu.r⟩
 | some jw =>
   obtain ⟨j, want⟩ := jw
   obtain ⟨b, h1, h2⟩ := hs
   split at h2
   ·rename_i hb
    obtain ⟨ob, v, q1, q2, q3⟩ := main d k hd hk h2
    exact .inl ⟨ob, v, q1, q2, fun u hu => ⟨b, by rw [← hu j (by simp [rdG])]; exact h1, by rw [if_pos hb]; exact q3 u hu.r⟩⟩
   ·rename_i hb
    simp only [hd, St.clr] at h2
    exact .inr ⟨h2, fun u hu => ⟨b, by rw [← hu j (by simp [rdG])]; exact h1, by rw [if_neg hb]; simp only [hd, St.clr]⟩⟩
theorem st_ext {a b : St} (h1 : ∀ n, a.sl n = b.sl n) (h2 : a.h = b.h) (h3 : a.nx = b.nx) (h4 : a.df = b.df) : a = b := by
 obtain ⟨al, ah, an, ad⟩ := a
 obtain ⟨bl, bh, bn, bd⟩ := b
 simp only at h1 h2 h3 h4
 have : al = bl := funext h1
 subst this h2 h3 h4
 rfl
def slotsOk (x t : GOp) : Bool :=
 (match x.op.dst with | some d => !(rdG t).contains d && !(rdG x).contains d && t.op.dst != some d | none => true) && (match t.op.dst with | some d => !(rdG x).contains d | none => true)
theorem av6 (h : slotsOk x t = true) : (∀ d, x.op.dst = some d → d ∉ rdG t ∧ d ∉ rdG x ∧ t.op.dst ≠ some d) ∧ ∀ d, t.op.dst = some d → d ∉ rdG x := by
 simp only [slotsOk, Bool.and_eq_true] at h
 refine ⟨fun d hd => ?_, fun d hd => ?_⟩
 ·have := h.1
  rw [hd] at this
  simpa [and_assoc] using this
 ·have := h.2
  rw [hd] at this
  simpa using this
def clOk (x t : GOp) (re : Bool) : Bool := match x.op.cl, t.op.cl with
 | .p, _ | .r, .r | .r, .p | .r, .a | .a, .p | .a, .a | .w, .p | .w, .a => true
 | .r, .w => re
 | _, _ => false
structure Swapped (P : Program) (rb : Nat) (x t : GOp) (st s1 s2 u1 : St) : Prop where
 tt : ai3 P rb t st u1
 xx : ai3 P rb x u1 s2
 hp : (x.op.cl = .p ∨ x.op.cl = .r) ∧ u1.h = s2.h ∧ u1.nx = s2.nx ∨ (t.op.cl = .p ∧ u1.h = st.h ∧ s2.h = s1.h ∧ u1.nx = st.nx) ∨
  (t.op.cl = .a ∧ ∃ k ob, t.op.kx = some k ∧ u1.nx = st.nx ∧ (u1.h = st.h ∧ s2.h = s1.h ∨ u1.h = upd st.h (rb + k) ob ∧ s2.h = upd s1.h (rb + k) ob))
 sl : ∀ m, t.op.dst ≠ some m → u1.sl m = st.sl m
 sl2 : ∀ m, x.op.dst ≠ some m → u1.sl m = s2.sl m
theorem swap {re : Bool} (hx : ai3 P rb x st s1) (ht : ai3 P rb t s1 s2) (hsl : slotsOk x t = true) (hc : clOk x t re = true)
  (hre : x.op.cl = .r → t.op.cl = .w → ∃ v, ap9 x s1 = some v ∧ ap9 x s2 = some v)
  (hd : t.op.cl = .a → ∀ k, t.op.kx = some k → (st.h (rb + k)).live = false ∧ rb + k < st.nx ∧ ∀ k', x.op.kx = some k' → k' ≠ k) : ∃ u1, Swapped P rb x t st s1 s2 u1 := by
 obtain ⟨sx, sT⟩ := av6 hsl
 obtain ⟨dx1, dx2⟩ := gstep_out hx
 obtain ⟨dt1, dt2⟩ := gstep_out ht
 by_cases hxp : x.op.cl = .p ∨ x.op.cl = .r
 ·
  obtain ⟨d, v, e1, e2, rfl⟩ := (gset hxp).1 hx
  obtain ⟨a1, a2, a3⟩ := sx d e1
  have hag : Agr (st.put d v).sl st.sl (rdG t) := fun n hn => j4 _ _ (fun e => a1 (e ▸ hn))
  obtain ⟨u1, q1, q2, q3, q4, q5⟩ := ar6 (u := st) hag rfl rfl ht
  have hu2 : ∀ m, m ≠ d → u1.sl m = s2.sl m := by
   intro m hm
   rw [q5 m]
   split
   ·rfl
   ·rename_i hdm; rw [dt2 m hdm]; exact (j4 _ _ hm).symm
  have hu1 : ∀ m, t.op.dst ≠ some m → u1.sl m = st.sl m := fun m hm => by rw [q5 m, if_neg hm]
  have hgx : ap9 x u1 = some v := by
   have hslx : Agr st.sl u1.sl (rdG x) := fun n hn => (hu1 n (fun e => sT n e hn)).symm
   rcases hxp with hp | hr
   ·rw [← gval_pure hp hslx]; exact e2
   ·cases htc : t.op.cl with
    | w =>
      obtain ⟨v', r1, r2⟩ := hre hr htc
      have : ap9 x (st.put d v) = some v := by
       rw [← e2]; exact (ab3 (s := st) (s' := st.put d v) (fun n hn => (j4 _ _ (show n ≠ d from fun e => a2 (e ▸ hn))).symm) rfl).symm
      rw [this] at r1
      cases r1
      rw [← r2]
      exact ab3 (fun n hn => hu2 n (fun e => a2 (e ▸ hn))) q2
    | p =>
      have : u1.h = st.h := by obtain ⟨d', v', _, _, rfl⟩ := (gset (.inl htc)).1 q1; rfl
      rw [← ab3 hslx this.symm]; exact e2
    | r =>
      have : u1.h = st.h := by obtain ⟨d', v', _, _, rfl⟩ := (gset (.inr htc)).1 q1; rfl
      rw [← ab3 hslx this.symm]; exact e2
    | a =>
      obtain ⟨d', k, w1, w2, w3⟩ := aj9 htc q1
      rcases w3 with ⟨ob, v', w4, rfl, _⟩ | ⟨rfl, _⟩
      ·have := bg8 (ob := ob) (hd htc k w2).1 e2
       rw [← this]
       exact (ab3 (s := { st with h := upd st.h (rb + k) ob }) (s' := st.alc (rb + k) ob d' v') hslx rfl).symm
      ·rw [← ab3 hslx rfl]; exact e2
  refine ⟨u1, ⟨q1, (gset hxp).2 ⟨d, v, e1, hgx, st_ext (fun n => ?_) q2.symm q3.symm ?_⟩, .inl ⟨hxp, q2, q3⟩, hu1, fun m hm => hu2 m (fun e => hm (by rw [e, e1]))⟩⟩
  ·by_cases hn : n = d
   ·subst hn
    rw [dt2 n a3]; simp [St.put, j5]
   ·rw [← hu2 n hn]; exact (j4 _ _ hn).symm
  ·show s2.df = u1.df
   rw [dt1, q4]; rfl
 ·cases htc : t.op.cl with
  | r => simp only [clOk, htc] at hc; split at hc <;> simp_all
  | w => simp only [clOk, htc] at hc; split at hc <;> simp_all
  | p =>
    obtain ⟨d, v, e1, e2, rfl⟩ := (gset (.inl htc)).1 ht
    have hag : Agr s1.sl st.sl (rdG t) := fun n hn => dx2 n (fun e => (sx n e).1 hn)
    have hgt : ap9 t st = some v := by rw [← gval_pure htc hag]; exact e2
    have hT : ai3 P rb t st (st.put d v) := (gset (.inl htc)).2 ⟨d, v, e1, hgt, rfl⟩
    obtain ⟨u', q1, q2, q3, q4, q5⟩ := ar6 (u := st.put d v) (fun n hn => (j4 _ _ (show n ≠ d from fun e => sT d e1 (e ▸ hn))).symm) rfl rfl hx
    have heq : u' = s1.put d v := by
     refine st_ext (fun n => ?_) q2 q3 (by rw [q4]; exact dx1.symm)
     rw [q5 n]
     split
     ·rename_i hdn
      have : n ≠ d := fun e => (sx n hdn).2.2 (by rw [e, e1])
      simp only [St.put, j4 _ _ this]
     ·rename_i hdn
      by_cases hn : n = d
      ·subst hn; simp [St.put, j5]
      ·simp only [St.put, j4 _ _ hn]; exact (dx2 n hdn).symm
    rw [heq] at q1
    refine ⟨_, ⟨hT, q1, .inr (.inl ⟨htc, rfl, rfl, rfl⟩), fun m hm => j4 _ _ (fun e => hm (by rw [e, e1])), fun m hm => ?_⟩⟩
    by_cases hn : m = d
    ·subst hn; simp [St.put, j5]
    ·simp only [St.put, j4 _ _ hn]; exact (dx2 m hm).symm
  | a =>
    obtain ⟨d, k, w1, w2, w3⟩ := aj9 htc ht
    obtain ⟨hd1, hd2, hd3⟩ := hd htc k w2
    have hag : Agr s1.sl st.sl (rdG t) := fun n hn => dx2 n (fun e => (sx n e).1 hn)
    rcases w3 with ⟨ob, v, w4, rfl, w5⟩ | ⟨rfl, w5⟩
    ·have hT := w5 st hag
     have hfr := gstep_frame (ob := ob) hd1 hd2 w4 (fun k' hk' e => hd3 k' hk' (by omega)) hx
     obtain ⟨u', q1, q2, q3, q4, q5⟩ := ar6 (st := { st with h := upd st.h (rb + k) ob }) (u := st.alc (rb + k) ob d v) (fun n hn => (j4 _ _ (show n ≠ d from fun e => sT d w1 (e ▸ hn))).symm) rfl rfl hfr
     have heq : u' = s1.alc (rb + k) ob d v := by
      refine st_ext (fun n => ?_) q2 q3 (by rw [q4]; exact dx1.symm)
      rw [q5 n]
      split
      ·rename_i hdn
       have : n ≠ d := fun e => (sx n hdn).2.2 (by rw [e, w1])
       simp only [St.alc, j4 _ _ this]
      ·rename_i hdn
       by_cases hn : n = d
       ·subst hn; simp [St.alc, j5]
       ·simp only [St.alc, j4 _ _ hn]; exact (dx2 n hdn).symm
     rw [heq] at q1
     refine ⟨_, ⟨hT, q1, .inr (.inr ⟨htc, k, ob, w2, rfl, .inr ⟨rfl, rfl⟩⟩), fun m hm => j4 _ _ (fun e => hm (by rw [e, w1])), fun m hm => ?_⟩⟩
     by_cases hn : m = d
     ·subst hn; simp [St.alc, j5]
     ·simp only [St.alc, j4 _ _ hn]; exact (dx2 m hm).symm
    ·have hT := w5 st hag
     obtain ⟨u', q1, q2, q3, q4, q5⟩ := ar6 (u := st.put d udf) (fun n hn => (j4 _ _ (show n ≠ d from fun e => sT d w1 (e ▸ hn))).symm) rfl rfl hx
     have heq : u' = s1.put d udf := by
      refine st_ext (fun n => ?_) q2 q3 (by rw [q4]; exact dx1.symm)
      rw [q5 n]
      split
      ·rename_i hdn
       have : n ≠ d := fun e => (sx n hdn).2.2 (by rw [e, w1])
       simp only [St.put, j4 _ _ this]
      ·rename_i hdn
       by_cases hn : n = d
       ·subst hn; simp [St.put, j5]
       ·simp only [St.put, j4 _ _ hn]; exact (dx2 n hdn).symm
     rw [heq] at q1
     refine ⟨_, ⟨hT, q1, .inr (.inr ⟨htc, k, .no, w2, rfl, .inl ⟨rfl, rfl⟩⟩), fun m hm => j4 _ _ (fun e => hm (by rw [e, w1])), fun m hm => ?_⟩⟩
     by_cases hn : m = d
     ·subst hn; simp [St.put, j5]
     ·simp only [St.put, j4 _ _ hn]; exact (dx2 m hm).symm
end
end Go.B
