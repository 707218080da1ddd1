/-
  Calls; guarded operations: one operation of a region. Program-independent.
-/
import Derived.Test.YtagogibgoknncaaGreatDoorBJ
import Derived.OrdersIn
import Derived.RangeFuncRecord
import Derived.DefersIn
set_option linter.unusedSectionVars false
set_option linter.unusedVariables false
set_option linter.unusedSimpArgs false
namespace Go.B
variable [iok : OkC]
def Enters (P : Program) (f : FuncId) : Prop := ∃ fn, P.funcs[f]? = some fn ∧ (fn.name == "runtime.NumGoroutine") = false ∧ fn.body.isSome = true
def APost (w : World) (g : G) (H : Hp) (nx : Nat) (r : V) (H' : Hp) (nx' : Nat) (e : Ending) (w' : World) : Prop :=
 ∃ v g', e = .returned v ∧ VR g' r v ∧ HR w' g' H' nx' ∧ Stp w g H w' g' H' (fun a => nx ≤ a) ∧ nx ≤ nx'
def ACalls (P : Program) (f : FuncId) (xs : List V) (H : Hp) (nx : Nat) (r : V) (H' : Hp) (nx' : Nat) : Prop :=
 Enters P f ∧ ∀ (w : World) (g : G) (vs : Array Value), HR w g H nx → VRs g xs vs → Calls P f vs w (APost w g H nx r H' nx')
def FW (r : Option Nat) : Fence := { Fence.wide with round := r }
theorem fw_all {P : Program} {r0 : Option Nat} (m : Machine) : m.fenced P (FW r0) := fenced_wide P m
theorem fw_room {r0 : Option Nat} (n : Nat) : (FW r0).room n := room_wide n
theorem round_in {P : Program} {r0 r1 : Option Nat} {k k' l : Nat} {f : FuncId} {tmps : Array Value} {assign body : Code} {w : World} {R : Ending → World → Prop} (h : RoundIn (FW r0) k P l f tmps assign body w R) :
  RoundIn (FW r1) k' P l f tmps assign body w R := ⟨trivial, fun c cs _ => h.2 c cs (fw_room _)⟩
def RCalls (P : Program) (i : Nat) (xs : List V) (H : Hp) (nx : Nat) (r : V) (H' : Hp) (nx' : Nat) : Prop :=
 ∀ (w : World) (g : G) (vs : Array Value), HR w g H nx → VRs g xs vs →
  ∃ f tmps asg bd, (Instr.yield (g.be i) vs).run P w = .ok (.round (g.be i) f tmps asg bd) w ∧ RoundIn (FW none) 0 P (g.be i) f tmps asg bd w (APost w g H nx r H' nx')
def VCalls (P : Program) (a : V) (xs : List V) (H : Hp) (nx : Nat) (r : V) (H' : Hp) (nx' : Nat) : Prop :=
 match a with
 | .fn f fst caps => ACalls P f (fst ++ xs ++ caps) H nx r H' nx'
 | .yl i => RCalls P i xs H nx r H' nx'
 | _ => False
def recvV (h : Hp) (v : V) : Option (Nat × Bool) → Option V
 | none => some v
 | some (n, agg) => evX (fun _ => v) h (.ld (.s 0) n agg)
def invV (h : Hp) (tb : List (TypeId × FuncId × Option (Nat × Bool))) : V → Option (FuncId × V)
 | .ifc t v => match tb.find? (fun e => e.1 == t) with
   | some e => match recvV h v e.2.2 with
     | some r => some (e.2.1, r)
     | none => none
   | none => none
 | _ => none
structure WExt (w w' : World) : Prop where
 size : w.heap.size ≤ w'.heap.size
 heap : ∀ c, c < w.heap.size → w'.heap[c]? = w.heap[c]?
 out : w'.output = w.output
 os : w'.os = w.os
def DNop (P : Program) (f : FuncId) : Prop :=
 Enters P f ∧ ∀ (args : Array Value) (w : World), CallsDIn (FW none) 0 P f args .returning w (fun e u w' => (∃ v, e = .returned v) ∧ u = .returning ∧ WExt w w')
def udf : V := .tu []
def St.clr (st : St) : Option Nat → St
 | none => st
 | some d => st.put d udf
def af7 : V → Option (Option Bool)
 | .b b => some (some b)
 | .tu [] => some none
 | _ => none
def owp (P : Program) (rb : Nat) (K : St → Prop) (st : St) : AOp → Prop
 | .cal d f args => ∃ r h' nx', ACalls P f (ae5 st.sl args) st.h st.nx r h' nx' ∧ K { st with sl := upd st.sl d r, h := h', nx := nx' }
 | .cav d x args => ∃ r h' nx', VCalls P (evO st.sl x) (ae5 st.sl args) st.h st.nx r h' nx' ∧ K { st with sl := upd st.sl d r, h := h', nx := nx' }
 | .inv d x args tb => ∃ f rv r h' nx', invV st.h tb (evO st.sl x) = some (f, rv) ∧ ACalls P f (rv :: ae5 st.sl args) st.h st.nx r h' nx' ∧ K { st with sl := upd st.sl d r, h := h', nx := nx' }
 | .dfr x _ => ∃ f fst caps, evO st.sl x = .fn f fst caps ∧ DNop P f ∧ K st
 | op => ∃ st', q9 rb st op = some st' ∧ K st'
def gwp (P : Program) (rb : Nat) (o : GOp) (K : St → Prop) (st : St) : Prop :=
 match o.g with
 | none => owp P rb K st o.op
 | some (j, want) => ∃ b, af7 (st.sl j) = some b ∧ if b = some want then owp P rb K st o.op else K (st.clr o.op.dst)
def invOk (P : Program) (name : String) (e : TypeId × FuncId × Option (Nat × Bool)) : Bool :=
 match P.info? e.1 with
 | some i => match i.methods.find? (·.name == name) with
   | some m => m.path.isEmpty && (match m.func with
     | some (f, pr) => f == e.2.1 && (match e.2.2 with
       | none => (match P.underlying e.1 with | some (.pointer _) => pr | some _ => !pr | none => false)
       | some (n, agg) => !pr && (match P.underlying e.1 with | some (.pointer el) => shp P el n agg | _ => false))
     | none => false)
   | none => false
 | none => false
def ah1 (P : Program) (nt : Nat) (o : Oper) : AOp → Bool
 | .cal d f args => decide (o.dst = some d) && decide (d < nt) && (match o.op with
   | .call { callee := .value (.func f'), args := as, .. } => f == f' && ba5 as.toList args
   | _ => false)
 | .cav d x args => decide (o.dst = some d) && decide (d < nt) && (match o.op with
   | .call { callee := .value a, args := as, .. } => opd a x && ba5 as.toList args
   | _ => false)
 | .inv d x args tb => decide (o.dst = some d) && decide (d < nt) && (match o.op with
   | .call { callee := .invoke a name, args := as, .. } => opd a x && ba5 as.toList args && tb.all (invOk P name)
   | _ => false)
 | .dfr x args => o.dst.isNone && (match o.op with
   | .defer { callee := .value a, args := as, .. } => opd a x && as.isEmpty && args.isEmpty
   | _ => false)
 | _ => false
def guardOk (ops : Array Oper) : Option (Nat × Bool) → Option (Nat × Bool) → Bool
 | none, none => true
 | some (j, w), some (s, w') => w == w' && ((ops[j]?).bind (·.dst)) == some s
 | _, _ => false
def isDef (o : Oper) : Bool := match o.op with | .defer _ => true | _ => false
def AOp.isDfr : AOp → Bool
 | .dfr _ _ => true
 | _ => false
def chkG (P : Program) (nt : Nat) (ops : Array Oper) (o : Oper) (a : GOp) : Bool :=
 guardOk ops o.guard a.g && (isDef o == a.op.isDfr) && (chk1 P nt o a.op || ah1 P nt o a.op)
inductive DfX (P : Program) (ds : List Deferred) : List Deferred → Prop
 | refl : DfX P ds ds
 | cons (f : FuncId) (fst caps : Array Value) (h : DNop P f) {ds' : List Deferred} (hr : DfX P ds ds') : DfX P ds ({ target := .fn (.func f) caps, args := fst } :: ds')
theorem DfX.trans {P : Program} {a b c : List Deferred} (h1 : DfX P a b) (h2 : DfX P b c) : DfX P a c := by
 induction h2 with
 | refl => exact h1
 | cons f fst caps h hr ih => exact .cons f fst caps h ih
theorem appE_out {rb d k n wd bytes : Nat} {s : V} {xs : List V} {st st' : St} (h : appE rb st d k s xs n wd bytes = some st') : st'.nx = st.nx ∧ st'.df = st.df ∧ ∀ m, m ≠ d → st'.sl m = st.sl m := by
 unfold appE at h
 repeat' split at h
 all_goals first
  | (cases h; done)
  | (cases h; exact ⟨rfl, rfl, fun m hm => j4 _ _ hm⟩)
theorem as2 {rb : Nat} {op : AOp} {st st' : St} (h : q9 rb st op = some st') : st'.nx = st.nx ∧ st'.df = st.df ∧ ∀ m, op.dst ≠ some m → st'.sl m = st.sl m := by
 have ne : ∀ {d m : Nat}, some d ≠ some m → m ≠ d := fun hh e => hh (by rw [e])
 cases op <;> simp only [q9] at h <;> first | (cases h; done) | skip
 case set d x =>
  cases he : evX st.sl st.h x with
  | none => rw [he] at h; cases h
  | some v => rw [he] at h; cases h; exact ⟨rfl, rfl, fun m hm => j4 _ _ (ne hm)⟩
 case box d k x =>
  cases he : stored (evO st.sl x) with
  | none => rw [he] at h; cases h
  | some v => rw [he] at h; cases h; exact ⟨rfl, rfl, fun m hm => j4 _ _ (ne hm)⟩
 case bsl d k wd xs =>
  cases he : ab6 wd (ae5 st.sl xs) with
  | none => rw [he] at h; cases h
  | some v => rw [he] at h; cases h; exact ⟨rfl, rfl, fun m hm => j4 _ _ (ne hm)⟩
 case app d k s x wd bytes =>
  split at h
  ·obtain ⟨h1, h2, h3⟩ := appE_out h; exact ⟨h1, h2, fun m hm => h3 m (ne hm)⟩
  ·cases h
 case apz d k s x wd bytes zero =>
  split at h
  ·split at h
   ·obtain ⟨h1, h2, h3⟩ := appE_out h; exact ⟨h1, h2, fun m hm => h3 m (ne hm)⟩
   ·cases h
  ·cases h
 all_goals
  repeat' split at h
  all_goals first
   | (cases h; done)
   | (cases h; exact ⟨rfl, rfl, fun m hm => j4 _ _ (ne hm)⟩)
   | (cases h; exact ⟨rfl, rfl, fun m hm => rfl⟩)
section
variable {P : Program} {w w' : World} {g g' : G} {H H' : Hp} {nx : Nat} {tmps : Array Value} {sl : Nat → V} {st st' : St} {ds : List Deferred}
theorem al0 {f : FuncId} (hE : Enters P f) (args : Array Value) : (callFunc f args).run P w = .ok (.enter f args) w := by
 obtain ⟨fn, h1, h2, h3⟩ := hE
 obtain ⟨c, hb⟩ := Option.isSome_iff_exists.1 h3
 have h2' : ¬ (fn.name = "runtime.NumGoroutine") := by simpa using h2
 simp [callFunc, h1, hb, h2']
theorem ax9 {r : Option Nat} {k : Nat} {f : FuncId} {vs : Array Value} {R : Ending → World → Prop} (h : Calls P f vs w R) : CallsIn (FW r) k P f vs w R := callsIn_wide.2 h
theorem nd {r : Option Nat} : (FW r).depth.isSome = true → 1 ≤ 0 := fun h => by cases h
theorem aw9 {r : Option Nat} {o : Oper} (h : isDef o = false) (ρ : Operand → Value) : Oper.semAt r ρ o = execOp ρ o := Oper.semAt_eq r ρ o (fun c e => by simp [isDef, e] at h)
theorem ah5 {xs ys : List V} {a b : Array Value} (h : VRs g xs a) (h' : VRs g ys b) : VRs g (xs ++ ys) (a ++ b) := by
 refine ⟨by simp [h.1, h'.1], fun j x v e1 e2 => ?_⟩
 rcases Nat.lt_or_ge j xs.length with hlt | hge
 ·rw [List.getElem?_append_left hlt] at e1
  rw [Array.getElem?_append_left (by rw [h.1]; exact hlt)] at e2
  exact h.2 j x v e1 e2
 ·rw [List.getElem?_append_right hge] at e1
  rw [Array.getElem?_append_right (by rw [h.1]; exact hge), h.1] at e2
  exact h'.2 _ x v e1 e2
theorem VR.udf (g : G) : VR g udf undef := .tu [] #[] rfl (fun j x v e => by simp at e)
theorem ldv_sound (hh : HR w g H nx) {x e : V} {v : Value} {T n : Nat} {agg : Bool} (hv : VR g x v) (hs : shp P T n agg = true) (hx : evX (fun _ => x) H (.ld (.s 0) n agg) = some e) :
  ∃ ad u, v = .pointer (some ad) ∧ (loadVar T ad).run P w = .ok u w ∧ VR g e u := by
 have hsl : SlR g #[v] (fun s => if s = 0 then x else .und) := by
  intro s
  by_cases h0 : s = 0
  ·subst h0; simpa using hv
  ·simp only [h0, if_false]; exact .und _
 have hx' : evX (fun s => if s = 0 then x else .und) H (.ld (.s 0) n agg) = some e := by
  simp only [evX, evO] at hx ⊢
  simpa using hx
 obtain ⟨u, hr, hu⟩ := val_ld (P := P) (ds := []) hh hsl (o := { (default : Oper) with op := .load T (.tmp 0) }) rfl (show opd (.tmp 0) (.s 0) = true by simp [opd]) hs hx'
 have hev : Act.eval { tmps := #[v], defers := [] } (.tmp 0) = v := rfl
 simp only [execOp, hev] at hr
 cases hv with
 | p a off hd =>
   refine ⟨_, u, rfl, ?_, hu⟩
   simp only [Instr.loadAt, Instr.sureAddr, pure_bind] at hr
   cases hl : (loadVar T ⟨g.be a, off + (g.cz a).2, none⟩).run P w with
   | ok u' w2 => simp [hl] at hr; obtain ⟨rfl, rfl⟩ := hr; rfl
   | halt h w2 => simp [hl] at hr
 | tp row col c o uu hc hrr =>
   refine ⟨_, u, rfl, ?_, hu⟩
   simp only [Instr.loadAt, Instr.sureAddr, pure_bind] at hr
   cases hl : (loadVar T ⟨c, o + col, none⟩).run P w with
   | ok u' w2 => simp [hl] at hr; obtain ⟨rfl, rfl⟩ := hr; rfl
   | halt h w2 => simp [hl] at hr
 | _ => simp [evX, evO] at hx
theorem inv_sound (hh : HR w g H nx) {x rv : V} {v : Value} {tb : List (TypeId × FuncId × Option (Nat × Bool))} {name : String} {f : FuncId} (htb : tb.all (invOk P name) = true) (hv : VR g x v) (hx : invV H tb x = some (f, rv)) (args : Array Value) :
  ∃ u, VR g rv u ∧ (callMethod v name args).run P w = (callFunc f (#[u] ++ args)).run P w := by
 unfold invV at hx
 split at hx
 ·rename_i t x0
  cases hv with
  | ifc _ _ v0 hv0 =>
  split at hx
  ·rename_i e he
   split at hx
   ·rename_i r hr
    cases hx
    have hmem := List.mem_of_find?_eq_some he
    have het : e.1 = t := by simpa using List.find?_some he
    have hok := List.all_eq_true.1 htb e hmem
    subst het
    unfold invOk at hok
    split at hok
    ·rename_i i hi
     split at hok
     ·rename_i m hm
      simp only [Bool.and_eq_true] at hok
      obtain ⟨hp, hok⟩ := hok
      split at hok
      ·rename_i f' pr hf
       simp only [Bool.and_eq_true, beq_iff_eq] at hok
       obtain ⟨rfl, hok⟩ := hok
       have hti : (typeInfo e.1).run P w = .ok i w := by simp [typeInfo, hi]
       have hpath : m.path.toList = [] := by
        have : m.path = #[] := by simpa using hp
        rw [this]
       obtain ⟨u, hu, hrun⟩ : ∃ u, VR g rv u ∧ (receiverAt e.1 (.val v0) pr (if m.path.isEmpty then some ((name.splitOn ".").getLastD name) else none)).run P w = .ok u w := by
        cases hd : e.2.2 with
        | none =>
          simp only [hd] at hok hr
          simp only [recvV, Option.some.injEq] at hr
          subst hr
          refine ⟨v0, hv0, ?_⟩
          split at hok
          ·rename_i el hu
           subst hok
           simp [receiverAt, f0 hu, Place.get]
          ·rename_i d hne hu
           have : pr = false := by simpa using hok
           subst this
           simp only [receiverAt, Sem.run_bind, f0 hu, Result.andThen_ok]
           cases d <;> first | exact (hne _ rfl).elim | simp [Place.get]
          ·cases hok
        | some na =>
          obtain ⟨n, agg⟩ := na
          simp only [hd] at hok hr
          simp only [Bool.and_eq_true, Bool.not_eq_true'] at hok
          obtain ⟨rfl, hok⟩ := hok
          split at hok
          ·rename_i el hu
           obtain ⟨ad, u, rfl, h1, h2⟩ := ldv_sound hh hv0 hok hr
           refine ⟨u, h2, ?_⟩
           have hck : ∀ a b : String, (Builtin.ssaWrapNilChk_ #[e.1] e.1 #[.pointer (some ad), strVal a, strVal b]).run P w = .ok (.pointer (some ad)) w := fun a b => rfl
           simp [receiverAt, f0 hu, Place.get, hp, hck, asAddr, h1]
          ·cases hok
       refine ⟨u, hu, ?_⟩
       have hm1 : (method (P.types.size + Made.depth) e.1 v0 name).run P w = .ok (e.2.1, u) w := by
        obtain ⟨k, hk⟩ : ∃ k, P.types.size + Made.depth = k + 1 := ⟨P.types.size + Made.depth - 1, by have : 0 < Made.depth := by decide
                                                                                                      omega⟩
        rw [hk]
        simp only [method, Sem.run_bind, hti, Result.andThen_ok, hm]
        simp only [hpath, follow, Sem.run_pure, Result.andThen_ok, hf, Sem.run_bind, hrun]
       simp [callMethod, hm1]
      ·cases hok
     ·cases hok
    ·cases hok
   ·cases hx
  ·cases hx
 ·cases hx
theorem call_post (h : StR w g tmps st) {d : Nat} (hlt : d < tmps.size) {r : V} {h' : Hp} {nx' : Nat} {e : Ending} (hp : APost w g st.h st.nx r h' nx' e w') :
  ∃ v g', e = .returned v ∧ StR w' g' (tmps.setIfInBounds d v) { st with sl := upd st.sl d r, h := h', nx := nx' } ∧ Stp w g st.h w' g' h' (fun a => st.nx ≤ a) ∧ st.nx ≤ nx' := by
 obtain ⟨v, g', rfl, hr, hH, s, hn⟩ := hp
 exact ⟨v, g', rfl, ⟨(h.sl.mono s.le).put hlt hr, hH⟩, s, hn⟩
theorem chkCall_def {nt : Nat} {o : Oper} {op : AOp} (h : ah1 P nt o op = true) : op.isDfr = true ∨ (∃ d, op.dst = some d ∧ o.dst = some d ∧ d < nt) := by
 cases op <;> first | (simp [ah1] at h; done) | exact .inl rfl | skip
 all_goals
  simp only [ah1, Bool.and_eq_true, decide_eq_true_eq] at h
  exact .inr ⟨_, rfl, h.1.1, h.1.2⟩
theorem op_step {r0 : Option Nat} {ops : Array Oper} {K : St → Prop} {Q : Exit → Act → World → Prop} {X : Act → World → Prop} {o : Oper} {i rb nt : Nat} {ga : GOp} (ho : ops[i]? = some o) (hn : tmps.size = nt) (hg1 : chkG P nt ops o ga = true)
  (h : StR w g tmps st) (hf : Fr g st.nx rb ga.op) (hR : r0 = none ∨ ga.op.isDfr = false) (hr : gwp P rb ga K st)
  (hX : ∀ (a : Act) (w' : World) (g' : G) (st' : St), DfX P ds a.defers → (ga.op.isDfr = false → a.defers = ds) → a.tmps.size = nt → StR w' g' a.tmps st' → Stp w g st.h w' g' st'.h (fun a => NewD rb ga.op a ∨ st.nx ≤ a) → st.nx ≤ st'.nx → K st' → X a w') : wpOpIn (FW r0) 0 P ops Q i X ⟨tmps, ds⟩ w := by
 simp only [chkG, Bool.and_eq_true, Bool.or_eq_true] at hg1
 obtain ⟨⟨c1, cd⟩, c3⟩ := hg1
 have cd : isDef o = ga.op.isDfr := by simpa using cd
 unfold wpOpIn
 simp only [ho]
 have hsz : ∀ (d : Option Nat) (v : Value), (Act.put { tmps, defers := ds } d v).tmps.size = nt := by
  intro d v
  cases d with
  | none => exact hn
  | some d => rw [act_put]; simpa using hn
 have c2 : o.dst = ga.op.dst ∧ ∀ d, ga.op.dst = some d → d < nt := by
  rcases c3 with c3 | c3
  ·exact chk1_dst c3
  ·rcases chkCall_def c3 with hd | ⟨d, e1, e2, e3⟩
   ·cases hop : ga.op <;> rw [hop] at hd c3 <;> first | (simp [AOp.isDfr] at hd; done) | skip
    simp only [ah1, Bool.and_eq_true] at c3
    refine ⟨by have := c3.1; simpa [AOp.dst] using this, fun d e => by simp [AOp.dst] at e⟩
   ·exact ⟨e2.trans e1.symm, fun d' e => by rw [e1] at e; cases e; exact e3⟩
 have run : owp P rb K st ga.op → o.wpIn (FW r0) 0 P ⟨tmps, ds⟩ w X Q := by
  intro hw
  unfold Oper.wpIn
  refine ⟨fun _ _ => trivial, ?_⟩
  rcases c3 with c3 | c3
  ·have hnd : ga.op.isDfr = false := by
    cases hop : ga.op <;> first | rfl | (rw [hop] at c3; simp [chk1] at c3)
   rw [aw9 (cd.trans hnd)]
   have hx : ∃ st', q9 rb st ga.op = some st' ∧ K st' := by
    cases hop : ga.op <;> rw [hop] at hw c3 <;> first | exact hw | (simp [chk1] at c3; done)
   obtain ⟨st', hx, hk⟩ := hx
   obtain ⟨r, v, w', g', q1, q2, q3, q4⟩ := exop_done (ds := ds) h hn c3 hf hx
   have hnx : st.nx ≤ st'.nx := by
    cases hop : ga.op <;> rw [hop] at hx c3 <;> first | (simp [chk1] at c3; done) | exact Nat.le_of_eq (as2 hx).1.symm
   have hnext : X (Act.put ⟨tmps, ds⟩ o.dst v) w' :=
    hX _ w' g' st' (by cases o.dst <;> exact .refl) (fun _ => by cases o.dst <;> rfl) (hsz _ _) q3 (q4.mono fun a e => .inl e) hnx hk
   rcases q2 with rfl | ⟨rfl, rfl⟩
   ·rw [q1]; exact hnext
   ·rw [q1]; exact hnext
  ·have afterC : ∀ (d : Nat) (r : V) (h' : Hp) (nx' : Nat), ga.op.dst = some d → ga.op.isDfr = false → K { st with sl := upd st.sl d r, h := h', nx := nx' } → ∀ (e : Ending) (w' : World), APost w g st.h st.nx r h' nx' e w' →
     match e, w' with
     | .returned v, w'' => X (Act.put ⟨tmps, ds⟩ o.dst v) w''
     | .panicked chain, w'' => Q (.panic chain) ⟨tmps, ds⟩ w''
     | .outgrown, _ => LetsOut Q := by
    intro d r h' nx' hd hnd hk e w' hp
    obtain ⟨v, g', rfl, q1, q2, q3⟩ := call_post h (d := d) (by rw [hn]; exact c2.2 d hd) hp
    have hod : o.dst = some d := c2.1.trans hd
    show X (Act.put ⟨tmps, ds⟩ o.dst v) w'
    rw [hod]
    exact hX _ w' g' _ .refl (fun _ => rfl) (by rw [act_put]; simpa using hn) (by rw [act_put]; exact q1) (q2.mono fun a e => .inr e) q3 hk
   cases hop : ga.op <;> rw [hop] at hw c3 afterC <;> first | (simp [ah1] at c3; done) | skip
   ·rename_i d f args
    obtain ⟨r, h', nx', w1, w2⟩ := hw
    simp only [ah1, Bool.and_eq_true, decide_eq_true_eq] at c3
    obtain ⟨_, c3⟩ := c3
    have hdf : isDef o = false := by rw [cd, hop]; rfl
    rw [aw9 hdf]
    split at c3
    ·rename_i f' as ts hoo
     simp only [Bool.and_eq_true, beq_iff_eq] at c3
     obtain ⟨rfl, c4⟩ := c3
     have a1 := as4 (ds := ds) h.sl c4
     have hrun : (execOp (Act.eval ⟨tmps, ds⟩) o).run P w = .ok (.enter f (as.map (Act.eval ⟨tmps, ds⟩))) w := by
      simp only [execOp, hoo, resolve, Deferred.ofValue, Act.eval, pure_bind, invoke, Sem.run_bind, Sem.run_pure, Result.andThen_ok, Array.empty_append, Array.append_empty]
      exact al0 w1.1 _
     rw [hrun]
     exact ⟨nd, ax9 ((w1.2 w g _ h.hr a1).mono (afterC d r h' nx' rfl rfl w2))⟩
    ·cases c3
   ·rename_i d x args
    obtain ⟨r, h', nx', w1, w2⟩ := hw
    simp only [ah1, Bool.and_eq_true, decide_eq_true_eq] at c3
    obtain ⟨_, c3⟩ := c3
    have hdf : isDef o = false := by rw [cd, hop]; rfl
    rw [aw9 hdf]
    split at c3
    ·rename_i a as ts hoo
     simp only [Bool.and_eq_true] at c3
     obtain ⟨c4, c5⟩ := c3
     have a1 := as4 (ds := ds) h.sl c5
     have hfv := e9 (ds := ds) h.sl c4
     generalize hev : Act.eval { tmps, defers := ds } a = fv at hfv
     generalize hxx : evO st.sl x = xx at hfv w1
     cases xx <;> simp only [VCalls] at w1
     rotate_left
     ·rename_i f fst caps
      cases hfv with
      | fn _ _ _ fa ca ha hb hra hrb =>
      have hrun : (execOp (Act.eval ⟨tmps, ds⟩) o).run P w = .ok (.enter f (fa ++ as.map (Act.eval ⟨tmps, ds⟩) ++ ca)) w := by
       simp only [execOp, hoo, resolve, hev, Deferred.ofValue, pure_bind, invoke, Sem.run_bind, Sem.run_pure, Result.andThen_ok, Array.empty_append]
       exact al0 w1.1 _
      rw [hrun]
      exact ⟨nd, ax9 ((w1.2 w g _ h.hr (ah5 (ah5 ⟨ha, hra⟩ a1) ⟨hb, hrb⟩)).mono (afterC d r h' nx' rfl rfl w2))⟩
     ·rename_i l
      cases hfv with
      | yl _ hlt =>
      obtain ⟨fl, tl, al, bl, y1, y2⟩ := w1 w g (as.map (Act.eval ⟨tmps, ds⟩)) h.hr a1
      have hrun : (execOp (Act.eval ⟨tmps, ds⟩) o).run P w = (Instr.yield (g.be l) (as.map (Act.eval ⟨tmps, ds⟩))).run P w := by
       simp only [execOp, hoo, resolve, hev, Deferred.ofValue, pure_bind, invoke, Sem.run_bind, Sem.run_pure, Result.andThen_ok, Array.empty_append, Array.append_empty]
      rw [hrun, y1]
      exact ⟨nd, round_in (y2.mono (afterC d r h' nx' rfl rfl w2))⟩
    ·cases c3
   ·rename_i d x args tb
    obtain ⟨f, rv, r, h', nx', w0, w1, w2⟩ := hw
    simp only [ah1, Bool.and_eq_true, decide_eq_true_eq] at c3
    obtain ⟨_, c3⟩ := c3
    have hdf : isDef o = false := by rw [cd, hop]; rfl
    rw [aw9 hdf]
    split at c3
    ·rename_i a name as ts hoo
     simp only [Bool.and_eq_true] at c3
     obtain ⟨⟨c4, c5⟩, c6⟩ := c3
     have a1 := as4 (ds := ds) h.sl c5
     have hfv := e9 (ds := ds) h.sl c4
     obtain ⟨u, u1, u2⟩ := inv_sound (P := P) h.hr c6 hfv w0 (as.map (Act.eval ⟨tmps, ds⟩))
     have hrun : (execOp (Act.eval ⟨tmps, ds⟩) o).run P w = .ok (.enter f (#[u] ++ as.map (Act.eval ⟨tmps, ds⟩))) w := by
      have hex : ((#[Act.eval ⟨tmps, ds⟩ a] ++ as.map (Act.eval ⟨tmps, ds⟩)).extract 1 (#[Act.eval ⟨tmps, ds⟩ a] ++ as.map (Act.eval ⟨tmps, ds⟩)).size) = as.map (Act.eval ⟨tmps, ds⟩) := by
       rw [Array.extract_append]
       simp
      simp only [execOp, hoo, resolve, pure_bind, invoke, Sem.run_bind, Sem.run_pure, Result.andThen_ok]
      simp only [Array.getElem?_append_left (show 0 < (#[Act.eval ⟨tmps, ds⟩ a]).size by simp)]
      simp only [List.getElem?_toArray, List.getElem?_cons_zero, hex, u2]
      exact al0 w1.1 _
     rw [hrun]
     refine ⟨nd, ax9 ((w1.2 w g _ h.hr (?_ : VRs g (rv :: ae5 st.sl args) _)).mono (afterC d r h' nx' rfl rfl w2))⟩
     exact ah5 (xs := [rv]) (a := #[u]) ⟨rfl, fun j x v e1 e2 => by
      cases j with
      | zero => simp at e1 e2; subst e1 e2; exact u1
      | succ j => simp at e1⟩ a1
    ·cases c3
   ·rename_i x args
    obtain ⟨f, fst, caps, w0, w1, w2⟩ := hw
    simp only [ah1, Bool.and_eq_true] at c3
    obtain ⟨_, c3⟩ := c3
    rcases hR with rfl | hR
    ·split at c3
     ·rename_i a as ts hoo
      simp only [Bool.and_eq_true] at c3
      obtain ⟨⟨c4, c5⟩, _⟩ := c3
      have hfv := e9 (ds := ds) h.sl c4
      rw [w0] at hfv
      generalize hev : Act.eval { tmps, defers := ds } a = fv at hfv
      cases hfv with
      | fn _ _ _ fa ca ha hb hra hrb =>
      have has : as = #[] := by simpa using c5
      have hrun : (Oper.semAt (FW none).round (Act.eval ⟨tmps, ds⟩) o).run P w = .ok (.defer { target := .fn (.func f) ca, args := fa }) w := by
       rw [show (FW none).round = none from rfl, Oper.semAt_none]
       simp [execOp, hoo, resolve, hev, Deferred.ofValue, has]
      rw [hrun]
      have hod : o.dst = none := c2.1.trans (by rw [hop]; rfl)
      show X (Act.put { (⟨tmps, ds⟩ : Act) with defers := { target := .fn (.func f) ca, args := fa } :: ds } o.dst undef) w
      rw [hod]
      exact hX _ w g st (.cons f fa ca w1 .refl) (fun e => by rw [hop] at e; cases e) hn h (Stp.refl _ _ _ _) (Nat.le_refl _) w2
     ·cases c3
    ·rw [hop] at hR; cases hR
 unfold gwp at hr
 cases hgd : o.guard with
 | none =>
   rw [hgd] at c1
   cases hgg : ga.g with
   | some jw => rw [hgg] at c1; simp [guardOk] at c1
   | none =>
     rw [hgg] at hr
     have : Region.wanted o (yielded ops tmps) = true := by simp [Region.wanted, hgd]
     rw [if_pos this]
     exact run hr
 | some jw =>
   obtain ⟨j, want⟩ := jw
   rw [hgd] at c1
   cases hgg : ga.g with
   | none => rw [hgg] at c1; simp [guardOk] at c1
   | some sw =>
     obtain ⟨s, want'⟩ := sw
     rw [hgg] at c1 hr
     simp only [guardOk, Bool.and_eq_true, beq_iff_eq] at c1
     obtain ⟨rfl, c1⟩ := c1
     obtain ⟨b, hb, hr⟩ := hr
     have hv := h.sl s
     have hy : yielded ops tmps j = b := by
      have hgd : tmps.getD s undef = (tmps[s]?).getD undef := by simp [Array.getD_eq_getD_getElem?]
      unfold af7 at hb
      split at hb
      ·rename_i x hx
       cases hb
       rw [hx] at hv
       have hv := vr_b hv
       rw [hgd] at hv
       cases hts : tmps[s]? with
       | none => rw [hts] at hv; simp [undef] at hv
       | some u => rw [hts] at hv; simp at hv; subst hv; simp [yielded, c1, hts]
      ·rename_i hx
       cases hb
       rw [hx] at hv
       generalize hu : tmps.getD s undef = u at hv
       cases hv with
       | tu _ a hs hrr =>
       rw [hgd] at hu
       cases hts : tmps[s]? with
       | none => simp [yielded, c1, hts]
       | some u => rw [hts] at hu; simp at hu; subst hu; simp [yielded, c1, hts]
      ·cases hb
     by_cases hbw : b = some want
     ·subst hbw
      have : Region.wanted o (yielded ops tmps) = true := by simp [Region.wanted, hgd, hy]
      rw [if_pos this]
      rw [if_pos rfl] at hr
      exact run hr
     ·have : Region.wanted o (yielded ops tmps) = false := by simp [Region.wanted, hgd, hy, hbw]
      rw [this]
      simp only [Bool.false_eq_true, if_false]
      rw [if_neg hbw] at hr
      have hst : StR w g (Act.put ⟨tmps, ds⟩ o.dst undef).tmps (st.clr ga.op.dst) := by
       rw [c2.1]
       cases hdd : ga.op.dst with
       | none => exact h
       | some d => exact ⟨h.sl.put (by rw [hn]; exact c2.2 d hdd) (VR.udf g), h.hr⟩
      have hh : (st.clr ga.op.dst).h = st.h ∧ (st.clr ga.op.dst).nx = st.nx := by cases ga.op.dst <;> exact ⟨rfl, rfl⟩
      refine ⟨fun _ _ => trivial, hX _ w g _ (by cases o.dst <;> exact .refl) (fun _ => by cases o.dst <;> rfl) (hsz _ _) hst ?_ (by rw [hh.2]; exact Nat.le_refl _) hr⟩
      rw [hh.1]; exact Stp.refl _ _ _ _
end
end Go.B
