/-
  A round of a range over a function, out of its codes; a function, out of its body. Program-independent.
-/
import Derived.Test.YtagogibgoknncaaGreatDoorBO
import Derived.RangeFuncIn
set_option linter.unusedSectionVars false
set_option linter.unusedVariables false
set_option linter.unusedSimpArgs false
namespace Go.B
variable [iok : OkC]
def az0 : (Nat → V) → List Nat → List V → Nat → V
 | sl, p :: ps, x :: xs => az0 (upd sl p x) ps xs
 | sl, _, _ => sl
def ay9 : Array Value → List Nat → List Value → Array Value
 | t, p :: ps, v :: vs => ay9 (t.setIfInBounds p v) ps vs
 | t, _, _ => t
def rndE : Exit → Option (Bool × LoopState × Option (Option Nat))
 | .normal => some (true, .ready, none)
 | .ret => some (false, .done, some none)
 | .exit id => some (false, .done, some (some id))
 | _ => none
theorem zip_setPv : ∀ (ps : List Nat) (vs : List Value) (t : Array Value), (ps.zip vs).foldl (fun tmps (x : Nat × Value) => tmps.setIfInBounds x.1 x.2) t = ay9 t ps vs
 | [], vs, t => by simp [ay9]
 | p :: ps, [], t => by simp [ay9]
 | p :: ps, v :: vs, t => by
   simp only [List.zip_cons_cons, List.foldl_cons, ay9]
   exact zip_setPv ps vs _
theorem setPs_ok {g : G} : ∀ (ps : List Nat) (xs : List V) (vs : List Value) (sl : Nat → V) (t : Array Value), vs.length = xs.length → (∀ p, p ∈ ps → p < t.size) → SlR g t sl →
  (∀ (j : Nat) (x : V) (v : Value), xs[j]? = some x → vs[j]? = some v → VR g x v) → (ay9 t ps vs).size = t.size ∧ SlR g (ay9 t ps vs) (az0 sl ps xs)
 | [], xs, vs, sl, t, hs, hp, h, hx => by simp only [az0, ay9]; exact ⟨trivial, h⟩
 | p :: ps, [], vs, sl, t, hs, hp, h, hx => by
   have : vs = [] := List.length_eq_zero_iff.1 (by simpa using hs)
   subst this
   simp only [az0, ay9]; exact ⟨trivial, h⟩
 | p :: ps, x :: xs, [], sl, t, hs, hp, h, hx => by simp at hs
 | p :: ps, x :: xs, v :: vs, sl, t, hs, hp, h, hx => by
   simp only [az0, ay9]
   obtain ⟨q1, q2⟩ := setPs_ok ps xs vs (upd sl p x) (t.setIfInBounds p v) (by simpa using hs) (fun q hq => by simpa using hp q (List.mem_cons_of_mem _ hq)) (h.put (hp p (by simp)) (hx 0 x v rfl rfl))
    (fun j y u e1 e2 => hx (j + 1) y u (by simpa using e1) (by simpa using e2))
   exact ⟨by rw [q1]; simp, q2⟩
section
variable {P : Program} [iop : OkP P] {w : World} {g : G} {H : Hp} {nx : Nat} {tmps : Array Value} {st : St}
theorem HR.lp (h : HR w g H nx) {i : Nat} {ps : List Nat} {asg bd : ACode} {sl : List (Nat × V)} {s0 : LoopState} {p0 : Option (Option Nat)} (hi : H i = .lp ps asg bd sl s0 p0) (s1 : LoopState) (p1 : Option (Option Nat)) :
  ∃ rc : Loop, w.heap[g.be i]? = some (.loop rc) ∧ rc.state = s0 ∧ rc.pending = ar4 p0 ∧ HR (w.putObj (g.be i) (.loop { rc with state := s1, pending := ar4 p1 })) g (upd H i (.lp ps asg bd sl s1 p1)) nx ∧
   Stp w g H (w.putObj (g.be i) (.loop { rc with state := s1, pending := ar4 p1 })) g (upd H i (.lp ps asg bd sl s1 p1)) (fun _ => False) := by
 have hO := h.ob i
 rw [hi] at hO
 obtain ⟨rc, k1, k2, kp, k3, k4, k5, k6, k7⟩ := hO
 have hlt := (Array.getElem?_eq_some_iff.1 k1).1
 obtain ⟨q1, q2⟩ := h.chg (o := .lp ps asg bd sl s1 p1) (by rw [hi]; rfl) (Wr.put w (g.be i) (.loop { rc with state := s1, pending := ar4 p1 })) ⟨{ rc with state := s1, pending := ar4 p1 }, World.putObj_heap_same hlt, k2, kp, k3, k4, rfl, rfl, k7⟩
 exact ⟨rc, k1, k5, k6, q1, q2⟩
theorem rcalls_intro {i : Nat} {ps : List Nat} {asg bd : ACode} {sl : List (Nat × V)} {xs : List V} {h h' : Hp} {r : V} {nx' : Nat} (hi : h i = .lp ps asg bd sl .ready none) (hl : xs.length = ps.length)
  (hw : awp P asg (fun e st => e = .normal ∧ ∃ ps1 asg1 bd1 sl1, st.h i = .lp ps1 asg1 bd1 sl1 .ready none ∧
    awp P bd (fun e st => ∃ b stt pnd ps2 asg2 bd2 sl3 s0 p0, rndE e = some (b, stt, pnd) ∧ st.h i = .lp ps2 asg2 bd2 sl3 s0 p0 ∧ r = .b b ∧ h' = upd st.h i (.lp ps2 asg2 bd2 sl3 stt pnd) ∧ nx' = st.nx)
     { st with h := upd st.h i (.lp ps1 asg1 bd1 sl1 .busy none) }) { sl := az0 (slOf sl) ps xs, h := h, nx := nx, df := [] }) : RCalls P i xs h nx r h' nx' := by
 intro w g vs hH hv
 have hO := hH.ob i
 rw [hi] at hO
 obtain ⟨rc, k1, k2, kp, k3, k4, k5, k6, k7⟩ := hO
 have hz : (rc.params.zip vs).foldl (fun tmps (x : Nat × Value) => tmps.setIfInBounds x.1 x.2) rc.tmps = ay9 rc.tmps ps vs.toList := by
  rw [k2, ← Array.foldl_toList, Array.toList_zip]
  exact zip_setPv ps vs.toList rc.tmps
 obtain ⟨l1, l2⟩ := setPs_ok (g := g) ps xs vs.toList (slOf sl) rc.tmps (by simpa using hv.1) kp k7 (fun j x v e1 e2 => hv.2 j x v e1 (by simpa using e2))
 refine ⟨rc.fn, _, rc.assign, rc.body, run_yield k1 (by rw [hv.1, hl, k2]; simp), ?_⟩
 rw [hz]
 have hok3 := (OkP.eq (P := P) _ _ _).1 k3
 have hok4 := (OkP.eq (P := P) _ _ _).1 k4
 refine roundIn_of_wpIn (F := FW none) trivial ?_
 refine wpIn_mono (bd7 (P := P) (nt := rc.tmps.size) (r0 := some (g.be i)) (w0 := w) (g0 := g) (H0 := h) (n0 := nx) asg rc.assign _ ⟨_, []⟩ w g { sl := az0 (slOf sl) ps xs, h := h, nx := nx, df := [] } hok3.1 (.inr hok3.2) trivial l1 ⟨l2, hH⟩ (Stp.refl _ _ _ _) (Nat.le_refl _) hw) (fun e a w1 hq => ?_)
 obtain ⟨st1, g1, hd1, hn1, H1, s1, hx1, rfl, ps1, asg1, bd1, sl1, hi1, hw1⟩ := hq
 obtain ⟨rc1, q1, q2, q3, H2, s2⟩ := H1.hr.lp hi1 .busy none
 have hdi : g.dom i := hH.dm i (by rw [hi]; rfl)
 have hbe : g1.be i = g.be i := (s1.le.dom i hdi).2.1
 refine ⟨_, by rw [hbe] at q1; exact run_beginRound q1 q2, ?_⟩
 have e2 : ({ rc1 with state := .busy } : Loop) = { rc1 with state := .busy, pending := ar4 none } := by
  have : rc1.pending = none := q3
  simp [ar4, this]
 have sA := s1.trans (s2.mono fun _ e => e.elim)
 rw [← hbe, e2]
 refine wpIn_mono (bd7 (P := P) (nt := rc.tmps.size) (r0 := some (g1.be i)) (w0 := w) (g0 := g) (H0 := h) (n0 := nx) bd rc.body _ a _ g1 { st1 with h := upd st1.h i (.lp ps1 asg1 bd1 sl1 .busy none) } hok4.1 (.inr hok4.2) (hd1.step s2) hn1 ⟨H1.sl, H2⟩ sA hx1 hw1) (fun e a2 w2 hq2 => ?_)
 obtain ⟨st2, g2, _, _, H3, s3, hx3, b, stt, pnd, ps2, asg2, bd2, sl3, s0, p0, f1, f2, rfl, rfl, rfl⟩ := hq2
 obtain ⟨rc2, t1, t2, t5, H4, s4⟩ := H3.hr.lp f2 stt pnd
 have hbe2 : g2.be i = g1.be i := by rw [(s3.le.dom i hdi).2.1, hbe]
 have sB := s3.trans (s4.mono fun _ e => e.elim)
 have fin : APost w g h nx (.b b) (upd st2.h i (.lp ps2 asg2 bd2 sl3 stt pnd)) st2.nx (.returned (.bool b)) (w2.putObj (g2.be i) (.loop { rc2 with state := stt, pending := ar4 pnd })) :=
  ⟨.bool b, g2, rfl, .b b, H4, sB, hx3⟩
 cases e <;> simp only [rndE, Option.some.injEq, Prod.mk.injEq] at f1 <;> first | (cases f1; done) | skip
 all_goals
  obtain ⟨rfl, rfl, rfl⟩ := f1
  simp only [roundPost]
  rw [← hbe2]
  exact ⟨_, _, run_endRound _ t1, fin⟩
inductive AR where
 | s (n : Nat)
 | c (n k : Nat) (agg : Bool)
 deriving Inhabited
structure AF where
 nt : Nat
 body : ACode
 res : List AR
 deriving Inhabited
def aEV (st : St) : AR → Option V
 | .s n => some (st.sl n)
 | .c n k agg => evX st.sl st.h (.ld (.s n) k agg)
def aEVs (st : St) : List AR → Option (List V)
 | [] => some []
 | r :: rs => match aEV st r, aEVs st rs with
   | some x, some xs => some (x :: xs)
   | _, _ => none
def an7 (st : St) (l : List AR) : Option V := match l with
 | [r] => aEV st r
 | rs => (aEVs st rs).map .tu
def at7 (P : Program) : List ResultVar → List AR → Bool
 | [], [] => true
 | .tmp t :: rs, .s n :: as => t == n && at7 P rs as
 | .cell a T :: rs, .c n k agg :: as => a == n && shp P T k agg && at7 P rs as
 | _, _ => false
def j3 (P : Program) (fn : Func) (af : AF) : Bool :=
 fn.ntmps == af.nt && at7 P fn.results.toList af.res && !(fn.name == "runtime.NumGoroutine") && (match fn.body with | some c => am2 P af.nt c af.body | none => false)
def au5 (xs : List V) (h : Hp) (nx : Nat) : St := { sl := fun s => xs.getD s .und, h := h, nx := nx, df := [] }
def retQ (af : AF) (r : V) (h' : Hp) (nx' : Nat) : Exit → St → Prop
 | .normal, st | .ret, st => an7 st af.res = some r ∧ st.h = h' ∧ st.nx = nx'
 | _, _ => False
def resRun (P : Program) (tmps : Array Value) (rv : ResultVar) : Sem Value := match rv with
 | .tmp t => pure (tmps.getD t undef)
 | .cell a t => do loadVar t (← asAddr (tmps.getD a undef))
theorem res_one (h : StR w g tmps st) {rv : ResultVar} {ar : AR} {x : V} {rs : List ResultVar} {as : List AR} (hk : at7 P (rv :: rs) (ar :: as) = true) (hx : aEV st ar = some x) :
  (∃ v, (resRun P tmps rv).run P w = .ok v w ∧ VR g x v) ∧ at7 P rs as = true := by
 cases rv with
 | tmp t =>
   cases ar with
   | s n =>
     simp only [at7, Bool.and_eq_true, beq_iff_eq] at hk
     obtain ⟨rfl, hk⟩ := hk
     simp only [aEV, Option.some.injEq] at hx
     subst hx
     exact ⟨⟨_, by simp only [resRun, Sem.run_pure], h.sl t⟩, hk⟩
   | c n k agg => simp [at7] at hk
 | cell a T =>
   cases ar with
   | s n => simp [at7] at hk
   | c n k agg =>
     simp only [at7, Bool.and_eq_true, beq_iff_eq] at hk
     obtain ⟨⟨rfl, hs⟩, hk⟩ := hk
     have hx' : evX (fun _ => st.sl a) st.h (.ld (.s 0) k agg) = some x := by simpa only [aEV, evX, evO] using hx
     obtain ⟨ad, u, e1, e2, e3⟩ := ldv_sound h.hr (h.sl a) hs hx'
     refine ⟨⟨u, ?_, e3⟩, hk⟩
     simp only [resRun, e1, asAddr, pure_bind, e2]
theorem res_all (h : StR w g tmps st) : ∀ {rvs : List ResultVar} {ars : List AR} {xs : List V}, at7 P rvs ars = true → aEVs st ars = some xs →
  rvs.length = ars.length ∧ xs.length = ars.length ∧ ∃ vs : List Value, (rvs.mapM (resRun P tmps)).run P w = .ok vs w ∧ vs.length = xs.length ∧ ∀ (j : Nat) (x : V) (v : Value), xs[j]? = some x → vs[j]? = some v → VR g x v
 | [], [], xs, _, hx => by simp [aEVs] at hx; subst hx; exact ⟨rfl, rfl, [], by simp, rfl, fun j x v e => by simp at e⟩
 | [], _ :: _, _, hk, _ => by simp [at7] at hk
 | rv :: _, [], _, hk, _ => by cases rv <;> simp [at7] at hk
 | rv :: rvs, ar :: ars, xs, hk, hx => by
   simp only [aEVs] at hx
   split at hx
   ·rename_i y ys e1 e2
    cases hx
    obtain ⟨⟨v, v1, v2⟩, hk'⟩ := res_one h hk e1
    obtain ⟨l1, l2, vs, r1, r2, r3⟩ := res_all h hk' e2
    refine ⟨by simp [l1], by simp [l2], v :: vs, ?_, by simp [r2], fun j x u q1 q2 => ?_⟩
    ·simp only [List.mapM_cons, Sem.run_bind, v1, Result.andThen_ok, r1, Sem.run_pure]
    ·cases j with
     | zero => simp at q1 q2; subst q1 q2; exact v2
     | succ j => exact r3 j x u (by simpa using q1) (by simpa using q2)
   ·cases hx
theorem ad3 (h : StR w g tmps st) {fn : Func} {ars : List AR} {r : V} (hk : at7 P fn.results.toList ars = true) (hr : an7 st ars = some r) : ∃ v, (results fn tmps).run P w = .ok v w ∧ VR g r v := by
 have hmk : ∀ (xs : List V), aEVs st ars = some xs → ∃ vs : List Value, vs.length = xs.length ∧ (∀ (j : Nat) (x : V) (v : Value), xs[j]? = some x → vs[j]? = some v → VR g x v) ∧
   (results fn tmps).run P w = .ok (if h : vs.toArray.size = 1 then vs.toArray[0] else .tuple vs.toArray) w := by
  intro xs hx
  obtain ⟨l1, l2, vs, r1, r2, r3⟩ := res_all h hk hx
  refine ⟨vs, r2, r3, ?_⟩
  simp only [results, Array.mapM_eq_mapM_toList, Sem.run_bind, Sem.run_map]
  refine (congrArg (fun r => Result.andThen (Result.andThen r _) _) r1).trans ?_
  rfl
 unfold an7 at hr
 split at hr
 ·rename_i ar
  obtain ⟨vs, q1, q2, q3⟩ := hmk [r] (by simp [aEVs, hr])
  match vs, q1 with
  | [v], _ =>
    refine ⟨v, ?_, q2 0 r v rfl rfl⟩
    rw [q3]; rfl
 ·rename_i rs hne
  cases he : aEVs st ars with
  | none => rw [he] at hr; cases hr
  | some xs =>
    rw [he] at hr; cases hr
    obtain ⟨vs, q1, q2, q3⟩ := hmk xs he
    obtain ⟨_, l2, _⟩ := res_all h hk he
    have hnot : vs.toArray.size ≠ 1 := by
     intro e
     have : ars.length = 1 := by rw [← l2, ← q1]; simpa using e
     obtain ⟨ar, har⟩ := List.length_eq_one_iff.1 this
     exact hne ar har
    refine ⟨.tuple vs.toArray, by rw [q3, dif_neg hnot], .tu _ _ (by simp [q1]) (fun j x v e1 e2 => q2 j x v e1 (by simpa using e2))⟩
theorem aw1 {f : FuncId} {fn : Func} {af : AF} {xs : List V} {h h' : Hp} {r : V} {nx nx' : Nat} (hf : P.funcs[f]? = some fn) (hc : j3 P fn af = true) (hlen : xs.length ≤ af.nt)
  (hw : awp P af.body (retQ af r h' nx') (au5 xs h nx)) : ACalls P f xs h nx r h' nx' := by
 simp only [j3, Bool.and_eq_true, Bool.not_eq_true', beq_iff_eq] at hc
 obtain ⟨⟨⟨c1, c2⟩, c4⟩, c5⟩ := hc
 cases hb : fn.body with
 | none => rw [hb] at c5; cases c5
 | some code =>
   rw [hb] at c5
   refine ⟨⟨fn, hf, c4, by rw [hb]; rfl⟩, fun w g vs hH hv => ?_⟩
   have hsz : (vs ++ Array.replicate (fn.ntmps - vs.size) undef).size = af.nt := by
    have := hv.1
    simp; omega
   have hst : StR w g (vs ++ Array.replicate (fn.ntmps - vs.size) undef) (au5 xs h nx) := by
    refine ⟨fun s => ?_, hH⟩
    show VR g (xs.getD s .und) _
    rcases Nat.lt_or_ge s xs.length with hs | hs
    ·have e1 : xs[s]? = some xs[s] := by simp [hs]
     have hs' : s < vs.size := by rw [hv.1]; exact hs
     have e2 : vs[s]? = some vs[s] := by simp [hs']
     have e3 : (vs ++ Array.replicate (fn.ntmps - vs.size) undef).getD s undef = vs[s] := by
      rw [Array.getD_eq_getD_getElem?, Array.getElem?_append_left hs', e2]; rfl
     rw [e3, List.getD_eq_getElem?_getD, e1]
     exact hv.2 s _ _ e1 e2
    ·rw [List.getD_eq_getElem?_getD, List.getElem?_eq_none hs]; exact .und _
   refine ac0 hf hb c5 hsz hst hw ?_ ?_
   ·intro e tmps w' g' st' hq hS hT hX
    have hq' : an7 st' af.res = some r ∧ st'.h = h' ∧ st'.nx = nx' := by cases e <;> first | exact hq | exact hq.elim
    obtain ⟨q1, rfl, rfl⟩ := hq'
    obtain ⟨v, v1, v2⟩ := ad3 hS c2 q1
    exact ⟨v, v1, v, g', rfl, v2, hS.hr, hT, hX⟩
   ·intro e st' hq; cases e <;> first | exact .inl rfl | exact .inr rfl | exact hq.elim
theorem ACalls.less {f : FuncId} {xs : List V} {h h' h2 : Hp} {r : V} {nx nx' : Nat} (hc : ACalls P f xs h nx r h' nx') (hl : ∀ a, h2 a = h' a ∨ (h2 a).live = false) : ACalls P f xs h nx r h2 nx' := by
 have hlv : ∀ a, (h2 a).live = true → (h' a).live = true ∧ h2 a = h' a := by
  intro a ha
  rcases hl a with e | e
  ·exact ⟨e ▸ ha, e⟩
  ·rw [e] at ha; cases ha
 refine ⟨hc.1, fun w g vs hH hv => (hc.2 w g vs hH hv).mono ?_⟩
 rintro e w' ⟨v, g', rfl, q1, q2, q3, q4⟩
 refine ⟨v, g', rfl, q1, ⟨fun a => ?_, fun a ha => q2.dm a (hlv a ha).1, fun a b ha hb e => q2.inj a b (hlv a ha).1 (hlv b hb).1 e, q2.nx, q2.lt, fun c o u hz => ⟨(q2.fz c o u hz).1, fun a ha => (q2.fz c o u hz).2 a (hlv a ha).1⟩⟩,
  ⟨q3.le, q3.size, q3.keep, fun a ha => q3.own a (hlv a ha).1, q3.dom, q3.fzn, q3.out, q3.os⟩, q4⟩
 rcases hl a with e | e
 ·rw [e]; exact q2.ob a
 ·cases ho : h2 a <;> rw [ho] at e <;> first | trivial | cases e
end
end Go.B
