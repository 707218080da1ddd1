/-
  Codes: the abstract weakest precondition, the check of a code against its translation, soundness; the end of a function. Program-independent.
-/
import Derived.Test.YtagogibgoknncaaGreatDoorBN
set_option linter.unusedSectionVars false
set_option linter.unusedVariables false
set_option linter.unusedSimpArgs false
namespace Go.B
variable [iok : OkC]
def thenA (next : St → Prop) (Q : Exit → St → Prop) : Exit → St → Prop
 | .normal, st => next st
 | e, st => Q e st
def blockA (id : Nat) (Q : Exit → St → Prop) : Exit → St → Prop
 | .exit id', st => if id' = id then Q .normal st else Q (.exit id') st
 | e, st => Q e st
def endJ (Q : Exit → St → Prop) (st : St) : Option (Option Nat) → Prop
 | none => Q .normal st
 | some none => Q .ret st
 | some (some id) => Q (.exit id) st
def noR : ACode → Bool
 | .reg _ gs => gs.all fun o => !o.op.isDfr
 | .seq a b => noR a && noR b
 | .cond _ a b => noR a && noR b
 | .block _ a => noR a
 | .loop a => noR a
 | .rfn _ _ _ _ _ => false
 | _ => true
def am2 (P : Program) (nt : Nat) : Code → ACode → Bool
 | .skip, .skip => true
 | .label _, .skip => true
 | .region _ ops false, .reg na gs => chkR P nt ops na gs
 | .region _ ops true, .drw na gs => chkD P nt ops na gs
 | .seq a b, .seq a' b' => am2 P nt a a' && am2 P nt b b'
 | .cond c a b, .cond c' a' b' => opd c c' && am2 P nt a a' && am2 P nt b b'
 | .block id a, .block id' a' => id == id' && am2 P nt a a'
 | .loop a, .loop a' => am2 P nt a a'
 | .exit id, .exit id' => id == id'
 | .ret, .ret => true
 | .rangeFunc f ps a b, .rfn _ x ps' a' b' => opd f x && ps.toList == ps' && am2 P nt a a' && am2 P nt b b' && noR a' && noR b' && ps'.all (fun p => decide (p < nt))
 | _, .bad => true
 | _, _ => false
def okP (P : Program) : Nat → Code → ACode → Prop := fun nt c ac => am2 P nt c ac = true ∧ noR ac = true
class OkP (P : Program) : Prop where
 eq : ∀ nt c ac, OkC.ok nt c ac ↔ (am2 P nt c ac = true ∧ noR ac = true)
def awp (P : Program) : ACode → (Exit → St → Prop) → St → Prop
 | .skip, Q, st => Q .normal st
 | .reg na ops, Q, st => rwp P st.nx ops (Q .normal) { st with nx := st.nx + na }
 | .drw na L, Q, st => rwd P st.nx L L (Q .normal) { st with nx := st.nx + na }
 | .seq a b, Q, st => awp P a (thenA (awp P b Q) Q) st
 | .cond c a b, Q, st => ∃ x, evO st.sl c = .b x ∧ if x = true then awp P a Q st else awp P b Q st
 | .block id a, Q, st => awp P a (blockA id Q) st
 | .loop a, Q, st => ∀ X : St → Prop, (∀ s, awp P a (thenA X Q) s → X s) → X st
 | .exit id, Q, st => Q (.exit id) st
 | .ret, Q, st => Q .ret st
 | .bad, _, _ => False
 | .rfn m x ps asg bd, Q, st => ∃ f fst caps r h' nx' ps' asg' bd' sl' stt pnd, evO st.sl x = .fn f fst caps ∧
    ACalls P f (fst ++ [.yl st.nx] ++ caps) (upd st.h st.nx (.lp ps asg bd (m.map fun n => (n, st.sl n)) .ready none)) (st.nx + 1) r h' nx' ∧
    h' st.nx = .lp ps' asg' bd' sl' stt pnd ∧ stt ≠ .busy ∧ endJ Q { st with h := upd h' st.nx .gone, nx := nx' } pnd
theorem o6 {P : Program} : ∀ {c : ACode} {Q Q' : Exit → St → Prop} (hq : ∀ e s, Q e s → Q' e s) {st : St}, awp P c Q st → awp P c Q' st
 | .skip, Q, Q', hq, st, h => hq _ _ h
 | .reg na ops, Q, Q', hq, st, h => rwp_mono (hq _) h
 | .drw na ops, Q, Q', hq, st, h => rwd_mono (hq _) h
 | .seq a b, Q, Q', hq, st, h => by
   refine o6 (c := a) (fun e s hs => ?_) h
   cases e <;> first | exact o6 (c := b) hq hs | exact hq _ _ hs
 | .cond c a b, Q, Q', hq, st, h => by
   obtain ⟨x, h1, h2⟩ := h
   refine ⟨x, h1, ?_⟩
   split
   ·rename_i e; rw [if_pos e] at h2; exact o6 hq h2
   ·rename_i e; rw [if_neg e] at h2; exact o6 hq h2
 | .block id a, Q, Q', hq, st, h => by
   refine o6 (c := a) (fun e s hs => ?_) h
   cases e <;> first
    | exact hq _ _ hs
    | (simp only [blockA] at hs ⊢
       split
       ·rename_i e; rw [if_pos e] at hs; exact hq _ _ hs
       ·rename_i e; rw [if_neg e] at hs; exact hq _ _ hs)
 | .loop a, Q, Q', hq, st, h => by
   intro X hX
   refine h X (fun s hs => hX s (o6 (c := a) (fun e s hs => ?_) hs))
   cases e <;> first | exact hs | exact hq _ _ hs
 | .exit id, Q, Q', hq, st, h => hq _ _ h
 | .ret, Q, Q', hq, st, h => hq _ _ h
 | .bad, Q, Q', hq, st, h => h.elim
 | .rfn m x ps asg bd, Q, Q', hq, st, h => by
   obtain ⟨f, fst, caps, r, h', nx', ps', asg', bd', sl', stt, pnd, e1, e3, e4, e5, e6⟩ := h
   refine ⟨f, fst, caps, r, h', nx', ps', asg', bd', sl', stt, pnd, e1, e3, e4, e5, ?_⟩
   rcases pnd with _ | _ | id <;> exact hq _ _ e6
theorem awp_loop {P : Program} {a : ACode} {Q : Exit → St → Prop} {st : St} (h : awp P a (thenA (awp P (.loop a) Q) Q) st) : awp P (.loop a) Q st := by
 intro X hX
 refine hX st (o6 (fun e s hs => ?_) h)
 cases e <;> first | exact hs X hX | exact hs
section
variable {P : Program} [iop : OkP P] {w w' w0 : World} {g g' g0 : G} {H H' H0 : Hp} {nx : Nat} {lo nt : Nat}
def mark (r : Nat) : Deferred := { target := .collected r, args := #[] }
def DfR (P : Program) (lo : Nat) (w : World) (g : G) (H : Hp) : List Deferred → Prop
 | [] => True
 | d :: ds => DfR P lo w g H ds ∧ ((∃ f caps, d.target = .fn (.func f) caps ∧ DNop P f) ∨
    (∃ r, d = mark r ∧ w.heap[r]? = some (.deferred (some [])) ∧ (∀ a, (H a).live = true → g.be a ≠ r) ∧ lo ≤ r ∧ mark r ∉ ds))
theorem DfR.step {D : Nat → Prop} (s : Stp w g H w' g' H' D) : ∀ {ds : List Deferred}, DfR P lo w g H ds → DfR P lo w' g' H' ds
 | [], _ => trivial
 | d :: ds, ⟨h1, h2⟩ => by
   refine ⟨DfR.step s h1, h2.imp id ?_⟩
   rintro ⟨r, e1, e2, e3, e4, e5⟩
   have hr : r < w.heap.size := (Array.getElem?_eq_some_iff.1 e2).1
   refine ⟨r, e1, by rw [s.keep r hr e3]; exact e2, fun a ha e => ?_, e4, e5⟩
   rcases s.own a ha with q | ⟨b, hb, q⟩
   ·omega
   ·exact e3 b hb (q.trans e)
theorem DfR.add {ds ds' : List Deferred} (h : DfR P lo w g H ds) (hx : DfX P ds ds') : DfR P lo w g H ds' := by
 induction hx with
 | refl => exact h
 | cons f fst caps hn hr ih => exact ⟨ih, .inl ⟨f, caps, rfl, hn⟩⟩
def Lift (P : Program) (nt : Nat) (w0 : World) (g0 : G) (H0 : Hp) (n0 : Nat) (Q : Exit → St → Prop) : Exit → Act → World → Prop :=
 fun e a w => ∃ st g, DfR P w0.heap.size w g st.h a.defers ∧ a.tmps.size = nt ∧ StR w g a.tmps st ∧ Stp w0 g0 H0 w g st.h (fun a => n0 ≤ a) ∧ n0 ≤ st.nx ∧ Q e st
def LWp (r0 : Option Nat) (P : Program) (c : Code) (Q : Exit → Act → World → Prop) (a : Act) (w : World) : Prop :=
 ∀ (b : Frame) (k : List Item) (cs : List Frame), b.roundOf = r0 → ∃ e a' w', Q e a' w' ∧ ArrivesIn (Machine.fenced P (FW r0)) P (lone (b.atR a (.inLoop c :: k)) cs w) b k cs e a' w'
theorem bg6 {r0 : Option Nat} {c : Code} {Q : Exit → Act → World → Prop} {a : Act} {w : World} (h : c.wpIn (FW r0) 0 P (Exit.then (LWp r0 P c Q) Q) a w) (b : Frame) (k : List Item) (cs : List Frame) (hro : b.roundOf = r0) :
  ∃ e a' w', Q e a' w' ∧ ArrivesIn (Machine.fenced P (FW r0)) P (lone (b.atR a (.code c :: .inLoop c :: k)) cs w) b k cs e a' w' := by
 obtain ⟨e, a₁, w₁, hq, harr⟩ := h b (.inLoop c :: k) cs hro trivial (fw_room _)
 cases e with
 | normal =>
   obtain ⟨e₂, a₂, w₂, hq₂, harr₂⟩ := hq b k cs hro
   exact ⟨e₂, a₂, w₂, hq₂, .of_steps harr harr₂⟩
 | exit id => exact ⟨_, a₁, w₁, hq, .pass (x := .inLoop c) rfl (fun _ _ => .inl (by simp)) harr⟩
 | goto l => exact ⟨_, a₁, w₁, hq, .pass (x := .inLoop c) rfl (fun _ _ => .inl (by simp)) harr⟩
 | ret => exact ⟨_, a₁, w₁, hq, .pass (x := .inLoop c) rfl (fun _ _ => .inl (by simp)) harr⟩
 | panic ch => exact ⟨_, a₁, w₁, hq, .pass (x := .inLoop c) rfl (fun _ _ => .inl (by simp)) harr⟩
 | outgrown => exact ⟨_, a₁, w₁, hq, .pass (x := .inLoop c) rfl (fun _ _ => .inl (by simp)) harr⟩
theorem lwp_round {r0 : Option Nat} {c : Code} {Q : Exit → Act → World → Prop} {a : Act} {w : World} (h : c.wpIn (FW r0) 0 P (Exit.then (LWp r0 P c Q) Q) a w) : LWp r0 P c Q a w := by
 intro b k cs hro
 obtain ⟨e, a', w', hq, harr⟩ := bg6 h b k cs hro
 exact ⟨e, a', w', hq, .of_steps (.one (fw_all _) stepR_inLoop) harr⟩
theorem wp_loop_round {r0 : Option Nat} {c : Code} {Q : Exit → Act → World → Prop} {a : Act} {w : World} (h : c.wpIn (FW r0) 0 P (Exit.then (LWp r0 P c Q) Q) a w) : (Code.loop c).wpIn (FW r0) 0 P Q a w := by
 intro b k cs hro _ _
 obtain ⟨e, a', w', hq, harr⟩ := bg6 h b k cs hro
 exact ⟨e, a', w', hq, .of_steps (.one (fw_all _) stepR_loop) harr⟩
theorem HR.ext (h : HR w g H nx) (he : WExt w w') : HR w' g H nx ∧ Stp w g H w' g H (fun _ => False) := by
 refine ⟨⟨fun a => (h.ob a).mono (Le.refl g) (h.dm a) (fun hl => he.heap _ (h.lt_of_live hl)), h.dm, h.inj, h.nx, fun a ha => Nat.lt_of_lt_of_le (h.lt a ha) he.size, fun c o v hz => ⟨?_, (h.fz c o v hz).2⟩⟩,
  ⟨Le.refl g, he.size, fun c hc _ => he.heap c hc, fun a ha => .inr ⟨a, ha, rfl⟩, fun _ h => .inl h, fun _ _ _ h => .inl h, he.out, he.os⟩⟩
 have := cell_lt h hz
 simp only [World.cell?, he.heap c this]; exact (h.fz c o v hz).1
theorem WExt.alloc (w : World) (o : Obj) : WExt w (w.alloc o) := ⟨by simp, fun c hc => at0 _ _ hc, rfl, rfl⟩
theorem WExt.trans {w1 w2 w3 : World} (h : WExt w1 w2) (h' : WExt w2 w3) : WExt w1 w3 :=
 ⟨Nat.le_trans h.size h'.size, fun c hc => (h'.heap c (Nat.lt_of_lt_of_le hc h.size)).trans (h.heap c hc), h'.out.trans h.out, h'.os.trans h.os⟩
theorem WExt.refl (w : World) : WExt w w := ⟨Nat.le_refl _, fun _ _ => rfl, rfl, rfl⟩
theorem Wr.put (w : World) (r : Nat) (o : Obj) : Wr w (w.putObj r o) r := ⟨by simp, fun d hd => World.putObj_heap_other hd, rfl, rfl⟩
theorem HR.side (h : HR w g H nx) {r : Nat} (hw : Wr w w' r) (hr : ∀ a, (H a).live = true → g.be a ≠ r) (hc : ∀ o, w.cell? ⟨r, o, none⟩ = none) : HR w' g H nx := by
 refine ⟨fun a => (h.ob a).mono (Le.refl g) (h.dm a) (fun hl => hw.heap _ (hr a hl)), h.dm, h.inj, h.nx, fun a ha => by rw [hw.size]; exact h.lt a ha, fun c o v hz => ⟨?_, (h.fz c o v hz).2⟩⟩
 rw [hw.cell]
 ·exact (h.fz c o v hz).1
 ·rintro rfl
  have := (h.fz c o v hz).1
  rw [hc] at this; cases this
theorem Stp.side {D : Nat → Prop} (s : Stp w0 g0 H0 w g H D) {r : Nat} (hw : Wr w w' r) (hr : w0.heap.size ≤ r) : Stp w0 g0 H0 w' g H D :=
 ⟨s.le, by rw [hw.size]; exact s.size, fun c hc hn => by rw [hw.heap c (by omega)]; exact s.keep c hc hn, s.own, s.dom, s.fzn, hw.out.trans s.out, hw.os.trans s.os⟩
theorem slOf_vr {tmps : Array Value} {sl : Nat → V} (h : SlR g tmps sl) (m : List Nat) : SlR g tmps (slOf (m.map fun n => (n, sl n))) := by
 intro s
 induction m with
 | nil => exact .und _
 | cons n m ih =>
   simp only [List.map_cons, slOf]
   split
   ·rename_i e; subst e; exact h _
   ·exact ih
theorem rfn_sound {gO : Operand} {ps : Array Tmp} {c1 c2 : Code} {m : List Nat} {x : AO} {asg bd : ACode} {Q : Exit → St → Prop} {a : Act} {st : St} {n0 : Nat} (hx : opd gO x = true) (h1 : am2 P nt c1 asg = true) (h2 : am2 P nt c2 bd = true) (h3 : noR asg = true) (h4 : noR bd = true) (h5 : ∀ p, p ∈ ps.toList → p < nt)
  (hd : DfR P w0.heap.size w g st.h a.defers) (hn : a.tmps.size = nt) (h : StR w g a.tmps st) (s : Stp w0 g0 H0 w g st.h (fun a => n0 ≤ a)) (hn0 : n0 ≤ st.nx) (hq : awp P (.rfn m x ps.toList asg bd) Q st) : (Code.rangeFunc gO ps c1 c2).wpIn (FW none) 0 P (Lift P nt w0 g0 H0 n0 Q) a w := by
 obtain ⟨f, fst, caps, r, h', nx', ps', asg', bd', sl', stt, pnd, e1, e3, e4, e5, e6⟩ := hq
 refine wpIn_rangeFunc (fun fn _ => ?_)
 have hen := run_enterLoop_outer (P := P) (w := w) fn a.tmps ps c1 c2
 generalize hw1 : w.alloc (.deferred (some [])) = w1 at hen
 have x1 : WExt w w1 := hw1 ▸ WExt.alloc w _
 obtain ⟨hr1, s1⟩ := h.hr.ext x1
 have hsz1 : w1.heap.size = w.heap.size + 1 := by rw [← hw1]; simp
 generalize hrec : ({ state := .ready, pending := none, fn, tmps := a.tmps, params := ps, assign := c1, body := c2, defers := w.heap.size } : Loop) = rc at hen
 have hnd : ¬ g.dom st.nx := fun hd => by have := h.hr.nx _ hd; omega
 have hle : Le g (g.new st.nx w1.heap.size (0, 0)) := Le.new hnd
 have hO : OR (w1.alloc (.loop rc)) (g.new st.nx w1.heap.size (0, 0)) st.nx (.lp ps.toList asg bd (m.map fun n => (n, st.sl n)) .ready none) := by
  refine ⟨rc, by rw [ab7]; exact ae9 _ _, by subst hrec; simp, by subst hrec; rw [hn]; exact h5, by subst hrec; exact (OkP.eq (P := P) _ _ _).2 ⟨hn ▸ h1, h3⟩, by subst hrec; exact (OkP.eq (P := P) _ _ _).2 ⟨hn ▸ h2, h4⟩, by subst hrec; rfl, by subst hrec; rfl, fun s => ?_⟩
  subst hrec
  exact (slOf_vr h.sl m s).mono hle
 obtain ⟨hr2, s2⟩ := (hr1.raise (nx' := st.nx + 1) (by omega)).alloc (WEq.refl w1) (ob := .loop rc) (o := .lp ps.toList asg bd (m.map fun n => (n, st.sl n)) .ready none) hnd (by omega) hO rfl
 generalize hw2 : w1.alloc (.loop rc) = w2 at hen hr2 s2
 have hfv := e9 (ds := a.defers) h.sl hx
 have hev0 : Act.eval { tmps := a.tmps, defers := a.defers } gO = a.eval gO := rfl
 rw [e1, hev0] at hfv
 generalize hev : a.eval gO = fv at hfv
 cases hfv with
 | fn _ _ _ fa ca ha hb hra hrb =>
 have vy : VRs (g.new st.nx w1.heap.size (0, 0)) [.yl st.nx] #[.func (.yield (w.heap.size + 1)) #[] #[]] := by
  refine ⟨rfl, fun j y v q1 q2 => ?_⟩
  cases j with
  | zero =>
    simp at q1 q2
    subst q1 q2
    have := VR.yl (g := g.new st.nx w1.heap.size (0, 0)) st.nx (au1 _ _ _ _)
    rw [ab7] at this
    rw [hsz1] at this ⊢
    exact this
  | succ j => simp at q1
 have va : VRs (g.new st.nx w1.heap.size (0, 0)) (fst ++ [.yl st.nx] ++ caps) (fa ++ #[.func (.yield (w.heap.size + 1)) #[] #[]] ++ ca) :=
  ah5 (ah5 (VRs.mono ⟨ha, hra⟩ hle) vy) (VRs.mono ⟨hb, hrb⟩ hle)
 refine ⟨w.heap.size + 1, _, w2, { target := .fn (.func f) ca, args := fa ++ #[.func (.yield (w.heap.size + 1)) #[] #[]] }, w2, f, fa ++ #[.func (.yield (w.heap.size + 1)) #[] #[]] ++ ca, w2, hen, ?_, fun _ _ => trivial, ?_, nd, ?_⟩
 ·simp only [resolve, hev, Deferred.ofValue, pure_bind, Sem.run_bind, Sem.run_pure, Result.andThen_ok]
  have hcv : a.eval (.const (.func (.yield (w.heap.size + 1)) #[] #[])) = .func (.yield (w.heap.size + 1)) #[] #[] := rfl
  simp [hcv]
 ·simp only [invoke]
  exact al0 e3.1 _
 refine ax9 ((e3.2 w2 _ _ hr2 va).mono ?_)
 rintro e w' ⟨v, g', rfl, hv, hr3, s3, hn3⟩
 have hO3 := hr3.ob st.nx
 rw [e4] at hO3
 obtain ⟨rc2, k1, k2, kp, k3, k4, k5, k6, k7⟩ := hO3
 have hdn : (g.new st.nx w1.heap.size (0, 0)).dom st.nx := au1 _ _ _ _
 have hbe' : g'.be st.nx = w.heap.size + 1 := by rw [(s3.le.dom _ hdn).2.1, ab7, hsz1]
 have hlive : (h' st.nx).live = true := by rw [e4]; rfl
 refine ⟨_, _, run_endLoop (by rw [← hbe']; exact k1) (by rw [k5]; exact e5), ?_⟩
 rw [← hbe']
 have hlt3 : g'.be st.nx < w'.heap.size := (Array.getElem?_eq_some_iff.1 k1).1
 obtain ⟨hr4, s4⟩ := hr3.chg (o := .lp ps' asg' bd' sl' .exhausted pnd) hlive (Wr.put w' (g'.be st.nx) (.loop { rc2 with state := .exhausted })) ⟨{ rc2 with state := .exhausted }, World.putObj_heap_same hlt3, k2, kp, k3, k4, rfl, k6, k7⟩
 obtain ⟨hr5, s5⟩ := hr4.forget st.nx (o := .gone) rfl
 rw [upd_upd] at hr5 s5
 have sa : Stp w0 g0 H0 w1 g st.h (fun a => n0 ≤ a) := s.trans (s1.mono fun _ e => e.elim)
 have sb := sa.trans (s2.mono fun a (e : a = st.nx) => by omega)
 have sc := sb.trans (s3.mono fun a e => by omega)
 have sd := sc.trans (s4.mono fun _ e => e.elim)
 have se := sd.trans (s5.mono fun _ e => e.elim)
 have hd1 : DfR P w0.heap.size w1 g st.h (mark w.heap.size :: a.defers) := by
  refine ⟨hd.step s1, .inr ⟨w.heap.size, rfl, by rw [← hw1]; exact ae9 _ _, fun b hb e => ?_, s.size, ?_⟩⟩
  ·have := h.hr.lt_of_live hb; omega
  ·have : ∀ (ds : List Deferred), DfR P w0.heap.size w g st.h ds → mark w.heap.size ∉ ds := by
    intro ds
    induction ds with
    | nil => intro _ hm; cases hm
    | cons d ds ih =>
      rintro ⟨q1, q2⟩ hm
      rcases List.mem_cons.1 hm with rfl | hm
      ·rcases q2 with ⟨_, _, q, _⟩ | ⟨r', q, q3, _⟩
       ·cases q
       ·simp only [mark, Deferred.mk.injEq, Target.collected.injEq, and_true] at q
        have := (Array.getElem?_eq_some_iff.1 q3).1
        omega
      ·exact ih q1 hm
   exact this _ hd
 have hD := (((hd1.step s2).step s3).step s4).step s5
 have hst : StR (w'.putObj (g'.be st.nx) (.loop { rc2 with state := .exhausted })) g' a.tmps { st with h := upd h' st.nx .gone, nx := nx' } := ⟨(h.sl.mono hle).mono s3.le, hr5⟩
 rcases pnd with _ | _ | id
 all_goals split
 ·exact ⟨_, g', hD, hn, hst, se, by show n0 ≤ nx'; omega, e6⟩
 ·rename_i c hp; rw [hp] at k6; cases k6
 ·rename_i hp; rw [hp] at k6; cases k6
 ·rename_i c hp; rw [hp] at k6; cases k6; exact wpIn_ret ⟨_, g', hD, hn, hst, se, by show n0 ≤ nx'; omega, e6⟩
 ·rename_i hp; rw [hp] at k6; cases k6
 ·rename_i c hp; rw [hp] at k6; cases k6; exact wpIn_exit ⟨_, g', hD, hn, hst, se, by show n0 ≤ nx'; omega, e6⟩
theorem noR_seq {a b : ACode} (h : noR (.seq a b) = true) : noR a = true ∧ noR b = true := by simpa only [noR, Bool.and_eq_true] using h
theorem noR_cond {c : AO} {a b : ACode} (h : noR (.cond c a b) = true) : noR a = true ∧ noR b = true := by simpa only [noR, Bool.and_eq_true] using h
theorem bd7 {r0 : Option Nat} {n0 : Nat} : ∀ (ac : ACode) (c : Code) (Q : Exit → St → Prop) (a : Act) (w : World) (g : G) (st : St), am2 P nt c ac = true → (r0 = none ∨ noR ac = true) → DfR P w0.heap.size w g st.h a.defers → a.tmps.size = nt → StR w g a.tmps st →
  Stp w0 g0 H0 w g st.h (fun a => n0 ≤ a) → n0 ≤ st.nx → awp P ac Q st → c.wpIn (FW r0) 0 P (Lift P nt w0 g0 H0 n0 Q) a w := by
 intro ac
 induction ac with
 | skip =>
   intro c Q a w g st hc hR hd hn h s hx hq
   cases c <;> first | (simp [am2] at hc; done) | exact wpIn_skip ⟨st, g, hd, hn, h, s, hx, hq⟩ | exact wpIn_label ⟨st, g, hd, hn, h, s, hx, hq⟩
 | reg na gs =>
   intro c Q a w g st hc hR hd hn h s hx hq
   cases c with
   | region id ops draw =>
     cases draw with
     | true => simp [am2] at hc
     | false =>
       simp only [am2] at hc
       refine reg_sound (K := Q .normal) (fun a' w' g' st' h1 h2 h3 h4 h5 h6 => ⟨st', g', (hd.step h4).add h1, h2, h3, s.trans (h4.mono fun a e => by omega), by omega, h6⟩) hc (hR.imp (fun q => q) fun q o ho => ?_) hn h hq
       simp only [noR, List.all_eq_true] at q
       simpa using q o ho
   | _ => simp [am2] at hc
 | drw na gs =>
   intro c Q a w g st hc hR hd hn h s hx hq
   cases c with
   | region id ops draw =>
     cases draw with
     | false => simp [am2] at hc
     | true =>
       simp only [am2] at hc
       exact drw_sound (K := Q .normal) (fun a' w' g' st' h1 h2 h3 h4 h5 h6 => ⟨st', g', by rw [h1]; exact hd.step h4, h2, h3, s.trans (h4.mono fun a e => by omega), by omega, h6⟩) hc hn h hq
   | _ => simp [am2] at hc
 | seq x y ihx ihy =>
   intro c Q a w g st hc hR hd hn h s hx hq
   cases c with
   | seq cx cy =>
     simp only [am2, Bool.and_eq_true] at hc
     refine wpIn_seq (wpIn_mono (ihx cx _ a w g st hc.1 (hR.imp (fun q => q) (fun q => (noR_seq q).1)) hd hn h s hx hq) (fun e a' w' hl => ?_))
     obtain ⟨st', g', hd', hn', h', s', hx', hq'⟩ := hl
     cases e <;> first
      | exact ihy cy Q a' w' g' st' hc.2 (hR.imp (fun q => q) (fun q => (noR_seq q).2)) hd' hn' h' s' hx' hq'
      | exact ⟨st', g', hd', hn', h', s', hx', hq'⟩
   | _ => simp [am2] at hc
 | cond k x y ihx ihy =>
   intro c Q a w g st hc hR hd hn h s hx hq
   cases c with
   | cond kc cx cy =>
     simp only [am2, Bool.and_eq_true] at hc
     obtain ⟨⟨c1, c2⟩, c3⟩ := hc
     obtain ⟨b, hb, hq⟩ := hq
     obtain ⟨tmps, ds⟩ := a
     have hev0 := e9 (ds := ds) h.sl c1
     rw [hb] at hev0
     have hev := vr_b hev0
     refine wpIn_cond_split hev (fun e => ?_) (fun e => ?_)
     ·subst e; rw [if_pos rfl] at hq; exact ihx cx Q _ w g st c2 (hR.imp (fun q => q) (fun q => (noR_cond q).1)) hd hn h s hx hq
     ·subst e; rw [if_neg (by simp)] at hq; exact ihy cy Q _ w g st c3 (hR.imp (fun q => q) (fun q => (noR_cond q).2)) hd hn h s hx hq
   | _ => simp [am2] at hc
 | block id x ih =>
   intro c Q a w g st hc hR hd hn h s hx hq
   cases c with
   | block id' cx =>
     simp only [am2, Bool.and_eq_true, beq_iff_eq] at hc
     obtain ⟨rfl, hc⟩ := hc
     refine wpIn_block (wpIn_mono (ih cx _ a w g st hc (hR.imp (fun q => q) (fun q => by simpa only [noR] using q)) hd hn h s hx hq) (fun e a' w' hl => ?_))
     obtain ⟨st', g', hd', hn', h', s', hx', hq'⟩ := hl
     cases e with
     | exit i =>
       simp only [blockA] at hq'
       simp only [Exit.inBlock]
       split
       ·rename_i e; rw [if_pos e] at hq'; exact ⟨st', g', hd', hn', h', s', hx', hq'⟩
       ·rename_i e; rw [if_neg e] at hq'; exact ⟨st', g', hd', hn', h', s', hx', hq'⟩
     | _ => exact ⟨st', g', hd', hn', h', s', hx', hq'⟩
   | _ => simp [am2] at hc
 | loop x ih =>
   intro c Q a w g st hc hR hd hn h s hx hq
   cases c with
   | loop cx =>
     simp only [am2] at hc
     have step : ∀ (X : St → Prop), (∀ st a w g, DfR P w0.heap.size w g st.h a.defers → a.tmps.size = nt → StR w g a.tmps st → Stp w0 g0 H0 w g st.h (fun a => n0 ≤ a) → n0 ≤ st.nx → X st → LWp r0 P cx (Lift P nt w0 g0 H0 n0 Q) a w) →
       ∀ st a w g, DfR P w0.heap.size w g st.h a.defers → a.tmps.size = nt → StR w g a.tmps st → Stp w0 g0 H0 w g st.h (fun a => n0 ≤ a) → n0 ≤ st.nx → awp P x (thenA X Q) st → cx.wpIn (FW r0) 0 P (Exit.then (LWp r0 P cx (Lift P nt w0 g0 H0 n0 Q)) (Lift P nt w0 g0 H0 n0 Q)) a w := by
      intro X hX st a w g hd hn h s hx hq
      refine wpIn_mono (ih cx _ a w g _ hc (hR.imp (fun q => q) (fun q => by simpa only [noR] using q)) hd hn h s hx hq) (fun e a' w' hl => ?_)
      obtain ⟨st', g', hd', hn', h', s', hx', hq'⟩ := hl
      cases e <;> first
       | exact hX st' a' w' g' hd' hn' h' s' hx' hq'
       | exact ⟨st', g', hd', hn', h', s', hx', hq'⟩
     let X : St → Prop := fun st => ∀ a w g, DfR P w0.heap.size w g st.h a.defers → a.tmps.size = nt → StR w g a.tmps st → Stp w0 g0 H0 w g st.h (fun a => n0 ≤ a) → n0 ≤ st.nx →
      LWp r0 P cx (Lift P nt w0 g0 H0 n0 Q) a w ∧ cx.wpIn (FW r0) 0 P (Exit.then (LWp r0 P cx (Lift P nt w0 g0 H0 n0 Q)) (Lift P nt w0 g0 H0 n0 Q)) a w
     have hxx : X st := by
      refine hq X (fun s' hs' => ?_)
      intro a w g hd hn h s hx
      have hw := step X (fun st a w g h1 h2 h3 h4 h5 hX => (hX a w g h1 h2 h3 h4 h5).1) s' a w g hd hn h s hx hs'
      exact ⟨lwp_round hw, hw⟩
     exact wp_loop_round (hxx a w g hd hn h s hx).2
   | _ => simp [am2] at hc
 | exit id =>
   intro c Q a w g st hc hR hd hn h s hx hq
   cases c with
   | exit id' =>
     simp only [am2, beq_iff_eq] at hc
     subst hc
     exact wpIn_exit ⟨st, g, hd, hn, h, s, hx, hq⟩
   | _ => simp [am2] at hc
 | ret =>
   intro c Q a w g st hc hR hd hn h s hx hq
   cases c <;> first | (simp [am2] at hc; done) | exact wpIn_ret ⟨st, g, hd, hn, h, s, hx, hq⟩
 | bad =>
   intro c Q a w g st hc hR hd hn h s hx hq
   exact hq.elim
 | rfn m x ps asg bd _ _ =>
   intro c Q a w g st hc hR hd hn h s hx hq
   cases c with
   | rangeFunc gO ps' c1 c2 =>
     simp only [am2, Bool.and_eq_true, beq_iff_eq] at hc
     obtain ⟨⟨⟨⟨⟨⟨q1, rfl⟩, q3⟩, q4⟩, q5⟩, q6⟩, q7⟩ := hc
     rcases hR with rfl | hR
     ·exact rfn_sound q1 q3 q4 q5 q6 (fun p hp => by have := List.all_eq_true.1 q7 p hp; simpa using this) hd hn h s hx hq
     ·cases hR
   | _ => simp [am2] at hc
theorem bb0 {fn : Func} {R : Ending → World → Prop} {tmps : Array Value} {st : St} {n0 : Nat} : ∀ (ds : List Deferred) (w : World) (g : G), DfR P w0.heap.size w g st.h ds → StR w g tmps st → Stp w0 g0 H0 w g st.h (fun a => n0 ≤ a) →
  (∀ w' g', StR w' g' tmps st → Stp w0 g0 H0 w' g' st.h (fun a => n0 ≤ a) → ∃ v, (results fn tmps).run P w' = .ok v w' ∧ R (.returned v) w') → LeavesInM (FW none) 0 P fn tmps R ds .returning w
 | [], w, g, hd, h, s, hk => hk w g h s
 | d :: ds, w, g, ⟨hd, hh⟩, h, s, hk => by
   rcases hh with ⟨f, caps, ht, hn⟩ | ⟨r, rfl, hr, hno, hlo, hnm⟩
   ·refine ⟨by simp, .inr ⟨nd, .func f, caps, f, d.args ++ caps, ht, ?_, fun _ _ => trivial, ?_⟩⟩
    ·rw [ht]; simp only [invoke]; exact al0 hn.1 _
    ·obtain ⟨q1, q2⟩ := hn.2 (d.args ++ caps) w
     refine ⟨q1, fun c cs hc hroom => ?_⟩
     obtain ⟨e, u', w', fr, ⟨⟨v, rfl⟩, rfl, hx⟩, r2, r3, r4, r5⟩ := q2 c cs hc hroom
     obtain ⟨h1, h2⟩ := h.hr.ext hx
     exact ⟨_, _, _, fr, bb0 ds w' g (hd.step h2) ⟨h.sl, h1⟩ (s.trans (h2.mono fun _ e => e.elim)) hk, r2, r3, r4, r5⟩
   ·have hw := Wr.put w r (.deferred none)
    have hlt : r < w.heap.size := (Array.getElem?_eq_some_iff.1 hr).1
    have h1 := h.hr.side hw hno (fun o => by simp [World.cell?, hr])
    have h2 := s.side hw hlo
    refine ⟨by simp, .inl ⟨r, _, rfl, run_takeDeferred hr, bb0 ds _ g ?_ ⟨h.sl, h1⟩ h2 hk⟩⟩
    have : ∀ (ds : List Deferred), mark r ∉ ds → DfR P w0.heap.size w g st.h ds → DfR P w0.heap.size (w.putObj r (.deferred none)) g st.h ds := by
     intro ds
     induction ds with
     | nil => intro _ _; trivial
     | cons d ds ih =>
       rintro hm ⟨q1, q2⟩
       refine ⟨ih (fun e => hm (List.mem_cons_of_mem _ e)) q1, q2.imp id ?_⟩
       rintro ⟨r', e1, e2, e3, e4, e5⟩
       have hne : r' ≠ r := by rintro rfl; exact hm (by rw [e1]; simp)
       exact ⟨r', e1, by rw [World.putObj_heap_other hne]; exact e2, e3, e4, e5⟩
    exact this ds hnm hd
theorem ac0 {f : FuncId} {fn : Func} {code : Code} {ac : ACode} {Q : Exit → St → Prop} {args : Array Value} {st : St} {R : Ending → World → Prop} (hf : P.funcs[f]? = some fn) (hb : fn.body = some code) (hc : am2 P nt code ac = true)
  (hn : (args ++ Array.replicate (fn.ntmps - args.size) undef).size = nt) (h : StR w g (args ++ Array.replicate (fn.ntmps - args.size) undef) st) (hw : awp P ac Q st)
  (hend : ∀ e tmps w' g' st', Q e st' → StR w' g' tmps st' → Stp w g st.h w' g' st'.h (fun a => st.nx ≤ a) → st.nx ≤ st'.nx → ∃ v, (results fn tmps).run P w' = .ok v w' ∧ R (.returned v) w')
  (hq : ∀ e st', Q e st' → e = .normal ∨ e = .ret) : Calls P f args w R := by
 refine (callsIn_wide (n := 0)).1 (callsIn_of_wp_marks (F := FW none) hf hb trivial ?_)
 refine wpIn_mono (bd7 (r0 := none) (w0 := w) (g0 := g) (H0 := st.h) (n0 := st.nx) (nt := nt) ac code Q ⟨_, []⟩ w g st hc (.inl rfl) trivial hn h (Stp.refl _ _ _ _) (Nat.le_refl _) hw) (fun e a w' hl => ?_)
 obtain ⟨st', g', hd, hn', hS, hT, hX, hQ⟩ := hl
 have key : LeavesInM (FW none) 0 P fn a.tmps R a.defers .returning w' := bb0 (w0 := w) (g0 := g) a.defers w' g' hd hS hT (fun w2 g2 h2 s2 => hend e a.tmps w2 g2 st' hQ h2 s2 hX)
 rcases hq e st' hQ with rfl | rfl
 ·exact key
 ·exact key
end
end Go.B
