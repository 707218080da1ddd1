/-
  Calls of functions whose arguments and results are trees; guarded operations; a region in the order of its text. Program-independent.
-/
import Derived.Test.YtpfocppjojgooaaAbsM
set_option linter.unusedSimpArgs false
set_option linter.unusedVariables false
namespace Go.Abs

def Enters (P : Program) (f : FuncId) : Prop := ∃ fn, P.funcs[f]? = some fn ∧ (fn.name == "runtime.NumGoroutine") = false ∧ fn.body.isSome = true

/-- called with trees, in whatever memory, the function returns what r stands for, in new memory -/
def PCalls (P : Program) (f : FuncId) (xs : List TV) (r : SV) : Prop :=
  Enters P f ∧ ∀ (w : World) (Fz : Nat → Nat → Prop) (be : Nat → Nat) (vs : Array Value), (∀ c o, Fz c o → c < w.heap.size) → vs.size = xs.length →
    (∀ (i : Nat) (x : TV) (v : Value), xs[i]? = some x → vs[i]? = some v → TVR w Fz x v) →
    Calls P f vs w fun e w' => ∃ v g', e = .returned v ∧ SVR w' g' [3] r v ∧ g'.n = 0 ∧ Stp w { Fz, be, om := fun _ => [], n := 0 } w' g' (fun o => o ≠ []) ∧
      (∀ c o, g'.Fz c o → c < w'.heap.size) ∧ (∀ c, g'.om c ≠ [] → c < w'.heap.size)

def hOwn (o : List Nat) : Prop := ∃ r, o = 1 :: r
/-- the blocks that several values may refer to -/
structure HpR (w : World) (g : Gh) (h : List HB) : Prop where
  hp : ∀ i b, h[i]? = some b → HBR w g i b
  n : g.n = h.length
  fz : ∀ c o, g.Fz c o → c < w.heap.size
  om : ∀ c, g.om c ≠ [] → c < w.heap.size

/-- called with values that may refer to blocks, the function returns what r stands for and leaves the blocks as h' -/
def ACalls (P : Program) (f : FuncId) (xs : List EV) (h : List HB) (r : SV) (h' : List HB) : Prop :=
  Enters P f ∧ ∀ (w : World) (g : Gh) (vs : Array Value), HpR w g h → (∀ c, g.om c ≠ [] → hOwn (g.om c) ∨ Under [4] (g.om c)) → vs.size = xs.length →
    (∀ (i : Nat) (x : EV) (v : Value), xs[i]? = some x → vs[i]? = some v → EVR w g [4, i] x v) →
    Calls P f vs w fun e w' => ∃ v g', e = .returned v ∧ SVR w' g' [3] r v ∧ HpR w' g' h' ∧ (∀ c, g'.om c ≠ [] → hOwn (g'.om c) ∨ Under [3] (g'.om c)) ∧ Stp w g w' g' (fun o => o ≠ [])

/-- the value of a cell, a struct taken apart -/
def EV.ofC : AC → EV
  | .t x => EV.ofT x
  | x => .c x
/-- a function value: the function and what it captured -/
def fnOf : AC → Option (FuncId × List EV)
  | .t (.fn f caps) => some (f, caps.map EV.ofT)
  | .fn f caps => some (f, caps.map EV.ofC)
  | _ => none

def AOp.dst : AOp → Option Nat
  | .set d _ | .fp d _ _ | .als d _ | .alb d _ _ | .bxn d _ | .bxv d _ | .bsl d _ _ | .app d _ _ _ _ _ _ | .apk d _ _ _ _ | .mvs d _ | .ext d _ _ | .lkp d _ _ _ _ _ _ | .bsx d _ _ | .hpn d _ | .hpv d _
  | .mks d _ _ _ _ | .mkm d | .rng d _ | .nxt d _ | .ent d _ | .pc d _ _ _ | .cc d _ _ _ | .tc d _ _ _ _ | .ct d _ _ _ => some d
  | .stb _ _ _ _ | .mvb _ _ _ | .stp _ _ _ | .mst _ _ _ _ | .mdl _ _ _ | .clr _ _ _ => none

/-- what a slot holds whose operation was skipped -/
def udf : SV := .e (.c (.t (.tu [])))
def St.clr (st : St) : Option Nat → St
  | none => st
  | some d => st.put d udf
/-- what a guard says: a truth value, or nothing (its own operation was skipped) -/
def guardV : Option SV → Option (Option Bool)
  | some (.e (.c (.t (.b b)))) => some (some b)
  | some (.e (.c (.t (.tu [])))) => some none
  | _ => none

/-- what was taken over is no longer there -/
def setU (sl : List SV) : Option (Nat × Nat) → List SV
  | none => sl
  | some (_, n) => sl.set n und

def owp (P : Program) (K : St → Prop) (st : St) : AOp → Prop
  | .pc d f args _ => ∃ xs r, evTs st args = some xs ∧ PCalls P f xs r ∧ K (st.put d r)
  | .cc d x args _ => ∃ f caps xs r, evO st x = some (.c (.t (.fn f caps))) ∧ evTs st args = some xs ∧ PCalls P f (xs ++ caps) r ∧ K (st.put d r)
  | .nxt d it => ∃ l, nxts st d it = some l ∧ ∀ s, s ∈ l → K s
  | .tc d f args gn _ => ∃ xs r h', evGs st gn 0 args = some xs ∧ ACalls P f xs st.h r h' ∧ K { sl := (setU st.sl gn).set d r, h := h' }
  | .ct d x args _ => ∃ a f caps xs r h', evO st x = some (.c a) ∧ fnOf a = some (f, caps) ∧ evOs st args = some xs ∧ ACalls P f (xs ++ caps) st.h r h' ∧ K { sl := st.sl.set d r, h := h' }
  | op => ∃ st', exop st op = some st' ∧ K st'

def gwp (P : Program) (o : GOp) (K : St → Prop) (st : St) : Prop :=
  match o.g with
  | none => owp P K st o.op
  | some (j, want) => ∃ b, guardV (st.sl[j]?) = some b ∧ if b = some want then owp P K st o.op else K (st.clr o.op.dst)

def rwp (P : Program) : List GOp → (St → Prop) → St → Prop
  | [], K, st => K st
  | o :: r, K, st => gwp P o (rwp P r K) st

/- the check of guarded operations -/
abbrev GEnv := List ((Nat × ER) × Option (Nat × Bool))
def envOf (G : GEnv) (g : Option (Nat × Bool)) : Env := G.filterMap fun e => if e.2 = none ∨ e.2 = g then some e.1 else none

def newE : AOp → Env
  | .fp d s col => [(d, .ptr s col)]
  | .als d s => [(d, .als s)]
  | .alb d s col => [(d, .alb s col)]
  | _ => []
def killOp : AOp → Env → Env
  | .stb s _ _ _, G => killB G s
  | .app d s none _ _ _ _, G => kill (kill G d) s
  | .app d s (some _) _ _ _ _, G => killB (kill G d) s
  | .mvs d s, G => kill (kill G d) s
  | .mvb s _ d, G => killB (kill G d) s
  | .ext d s _, G => kill (kill G d) s
  | .stp _ _ _, G => G
  | .mst _ _ _ _, G => G
  | .clr _ _ _, G => G
  | .nxt _ _, _ => []
  | .tc d _ _ (some (_, n)) _, G => kill (kill G d) n
  | op, G => match op.dst with
    | some d => kill G d
    | none => []
def gOk (op : AOp) (g : Option (Nat × Bool)) : Bool :=
  match g, op.dst with
  | some (j, _), some d => j != d
  | _, _ => true
/-- the entries that outlive an operation -/
def keepG (op : AOp) (G : GEnv) : GEnv := G.filter fun e => !(killOp op [e.1]).isEmpty && gOk op e.2

def gvOk (args : List AO) : Option (Nat × Nat) → Bool
  | none => true
  | some (i, n) => match args[i]? with
    | some (.s m) => m == n
    | _ => false
def chkCall (G : Env) (o : Oper) : AOp → Bool
  | .pc d f args _ => match o.op with
    | .call { callee := .value (.func f'), args := as, .. } => f == f' && decide (o.dst = some d) && opds as.toList args
    | _ => false
  | .cc d x args _ => match o.op with
    | .call { callee := .value a, args := as, .. } => decide (o.dst = some d) && opd a x && opds as.toList args
    | _ => false
  | .tc d f args gn _ => match o.op with
    | .call { callee := .value (.func f'), args := as, .. } => f == f' && decide (o.dst = some d) && opds as.toList args && gvOk args gn
    | _ => false
  | .ct d x args _ => match o.op with
    | .call { callee := .value a, args := as, .. } => decide (o.dst = some d) && opd a x && opds as.toList args
    | _ => false
  | .nxt d it => match o.op with
    | .next a false => decide (o.dst = some d) && opd a it
    | _ => false
  | _ => false

def guardOk (ops : Array Oper) (op : AOp) (g : Option (Nat × Bool)) : Option (Nat × Bool) → Bool
  | none => g.isNone
  | some (j, w) => match g with
    | some (s, w') => w == w' && ((ops[j]?).bind (·.dst)) == some s && gOk op g
    | none => false
def gcond (P : Program) (ops : Array Oper) (G : GEnv) (o : Oper) (a : GOp) : Bool :=
  guardOk ops a.op a.g o.guard && decide (o.dst = a.op.dst) && ((chk1 P (envOf G a.g) o a.op).isSome || chkH P o a.op || chkCall (envOf G a.g) o a.op)
def chkG1 (P : Program) (ops : Array Oper) (G : GEnv) (o : Oper) (a : GOp) : Option GEnv :=
  if gcond P ops G o a = true then some ((newE a.op).map (·, a.g) ++ keepG a.op G) else none

def chkOps (P : Program) (ops : Array Oper) : GEnv → List Oper → List GOp → Bool
  | _, [], [] => true
  | G, o :: os, a :: as => match chkG1 P ops G o a with
    | some G' => chkOps P ops G' os as
    | none => false
  | _, _, _ => false

def GTrue (tmps : Array Value) : Option (Nat × Bool) → Prop
  | none => True
  | some (j, w) => tmps[j]? = some (.bool w)
def GEnvR (w : World) (tmps : Array Value) (st : St) (G : GEnv) : Prop := ∀ e, e ∈ G → GTrue tmps e.2 → EntR w tmps st e.1.1 e.1.2

section
variable {P : Program} {w w' : World} {g g' : Gh} {tmps tmps' : Array Value} {st st' : St} {G G' : Env} {ds : List Deferred}

theorem chk1_eq {o : Oper} {op : AOp} (h : chk1 P G o op = some G') : G' = newE op ++ killOp op G ∧ o.dst = op.dst := by
  cases op <;> first | (simp [chk1] at h; done) | skip
  all_goals try (rename_i col _ _ _ _; cases col)
  all_goals
    simp only [chk1] at h
    repeat' split at h
    all_goals first
      | (cases h; done)
      | (rename_i hh; cases h; exact ⟨rfl, by simp_all [AOp.dst]⟩)

theorem kill_append (A B : Env) (d : Nat) : kill (A ++ B) d = kill A d ++ kill B d := by simp [kill]
theorem killB_append (A B : Env) (d : Nat) : killB (A ++ B) d = killB A d ++ killB B d := by simp [killB]
theorem killOp_append (op : AOp) (A B : Env) : killOp op (A ++ B) = killOp op A ++ killOp op B := by
  unfold killOp
  split <;> first | rfl | (simp only [kill_append, killB_append]; done) | skip
  split <;> simp [kill_append]

theorem atBox_mono {a : Operand} {s col : Nat} (B : Env) (h : atBox G a s col = true) : atBox (G ++ B) a s col = true := by
  unfold atBox at h ⊢
  split at h
  · simp only [Bool.or_eq_true, List.contains_iff_mem, List.mem_append] at h ⊢
    rcases h with h | h
    · exact .inl h
    · exact .inr (.inl h)
  · cases h
theorem isAls_mono {a : Operand} {s : Nat} (B : Env) (h : isAls G a s = true) : isAls (G ++ B) a s = true := by
  unfold isAls at h ⊢
  split at h
  · simp only [Bool.or_eq_true, List.contains_iff_mem, List.mem_append] at h ⊢
    rcases h with h | h
    · exact .inl h
    · exact .inr (.inl h)
  · cases h
theorem isAlb_mono {a : Operand} {s col : Nat} (B : Env) (h : isAlb G a s col = true) : isAlb (G ++ B) a s col = true := by
  unfold isAlb at h ⊢
  split at h
  · simp only [List.contains_iff_mem, List.mem_append] at h ⊢
    exact .inl h
  · cases h
theorem fpOk_mono {T f t s c : Nat} (B : Env) (h : fpOk P G T f t s c = true) : fpOk P (G ++ B) T f t s c = true := by
  simp only [fpOk, Bool.or_eq_true, Bool.and_eq_true, beq_iff_eq, List.any_eq_true, List.contains_iff_mem, List.mem_append] at h ⊢
  rcases h with h | ⟨c0, h1, h2, h3⟩
  · exact .inl h
  · exact .inr ⟨c0, h1, .inl h2, h3⟩
theorem chkX_mono {op : Op} {x : AX} (B : Env) (h : chkX P G op x = true) : chkX P (G ++ B) op x = true := by
  unfold chkX at h ⊢
  split at h <;> first | exact h | skip
  simp only [Bool.and_eq_true] at h ⊢
  exact ⟨atBox_mono B h.1, h.2⟩

theorem chk1_mono {o : Oper} {op : AOp} (B : Env) (h : chk1 P G o op = some G') : chk1 P (G ++ B) o op = some (newE op ++ killOp op (G ++ B)) := by
  have key : (chk1 P (G ++ B) o op).isSome = true := by
    cases op <;> first | (simp [chk1] at h; done) | skip
    case set d x =>
      simp only [chk1] at h ⊢
      split at h
      · rename_i hh; rw [if_pos ⟨hh.1, chkX_mono B hh.2⟩]; rfl
      · cases h
    case fp d s col =>
      simp only [chk1] at h ⊢
      split at h
      · split at h
        · rename_i hh; rw [if_pos ⟨hh.1, hh.2.1, fpOk_mono B hh.2.2⟩]; rfl
        · cases h
      · cases h
    case als d s =>
      simp only [chk1] at h ⊢
      split at h
      · split at h
        · rename_i hh; simp only [if_pos hh]; rfl
        · cases h
      · cases h
    case alb d s col =>
      simp only [chk1] at h ⊢
      split at h
      · split at h
        · rename_i hh; rw [if_pos ⟨hh.1, hh.2.1, atBox_mono B hh.2.2.1, hh.2.2.2⟩]; rfl
        · cases h
      · cases h
    case bxn d z =>
      simp only [chk1] at h ⊢
      split at h
      · split at h
        · rename_i hh; simp only [if_pos hh]; rfl
        · cases h
      · cases h
    case bxv d x =>
      simp only [chk1] at h ⊢
      split at h
      · split at h
        · rename_i hh; simp only [if_pos hh]; rfl
        · cases h
      · cases h
    case stb s col n x =>
      simp only [chk1] at h ⊢
      split at h
      · split at h
        · rename_i hh; rw [if_pos ⟨hh.1, atBox_mono B hh.2.1, hh.2.2⟩]; rfl
        · cases h
      · cases h
    case bsl d wd xs =>
      simp only [chk1] at h ⊢
      split at h
      · split at h
        · rename_i hh; simp only [if_pos hh]; rfl
        · cases h
      · cases h
    case app d s col x wd bytes fz =>
      cases col with
      | none =>
        simp only [chk1] at h ⊢
        split at h
        · split at h
          · rename_i hh; rw [if_pos ⟨hh.1, isAls_mono B hh.2.1, hh.2.2⟩]; rfl
          · cases h
        · cases h
      | some col =>
        simp only [chk1] at h ⊢
        split at h
        · split at h
          · rename_i hh; rw [if_pos ⟨hh.1, hh.2.1, isAlb_mono B hh.2.2.1, hh.2.2.2⟩]; rfl
          · cases h
        · cases h
    case apk d x wd bytes fz =>
      simp only [chk1] at h ⊢
      split at h
      · split at h
        · rename_i hh; simp only [if_pos hh]; rfl
        · cases h
      · cases h
    case mvs d s =>
      simp only [chk1] at h ⊢
      split at h
      · split at h
        · rename_i hh; simp only [if_pos hh]; rfl
        · cases h
      · split at h
        · rename_i hh; simp only [if_pos hh]; rfl
        · cases h
      · cases h
    case mvb s col d =>
      simp only [chk1] at h ⊢
      split at h
      · split at h
        · rename_i hh; rw [if_pos ⟨hh.1, atBox_mono B hh.2.1, hh.2.2⟩]; rfl
        · cases h
      · cases h
    case ext d s i =>
      simp only [chk1] at h ⊢
      split at h
      · split at h
        · rename_i hh; simp only [if_pos hh]; rfl
        · cases h
      · cases h
  obtain ⟨G'', hG⟩ := Option.isSome_iff_exists.1 key
  rw [hG, (chk1_eq hG).1]

/-- an operation done, with what it leaves of any environment -/
def Ran (P : Program) (w : World) (g : Gh) (tmps : Array Value) (ds : List Deferred) (st : St) (o : Oper) (op : AOp) (st' : St) : Prop :=
  ∃ r v w' g', (execOp (Act.eval { tmps, defers := ds }) o).run P w = .ok r w' ∧ (r = .value v ∨ (r = .skip ∧ v = undef)) ∧ StR w' g' (Act.put { tmps, defers := ds } o.dst v).tmps st' ∧ Stp w g w' g' (fun o => o ≠ []) ∧
    (∀ e, e ∈ newE op → EntR w' (Act.put { tmps, defers := ds } o.dst v).tmps st' e.1 e.2) ∧
    (∀ e : Nat × ER, (killOp op [e]).isEmpty = false → EntR w tmps st e.1 e.2 → EntR w' (Act.put { tmps, defers := ds } o.dst v).tmps st' e.1 e.2)

theorem killOp_one (op : AOp) (e : Nat × ER) (h : (killOp op [e]).isEmpty = false) : e ∈ killOp op [e] := by
  have sub : ∀ x, x ∈ killOp op [e] → x = e := by
    intro x hx
    have k : ∀ (G : Env) d y, y ∈ kill G d → y ∈ G := fun G d y hy => (List.mem_filter.1 hy).1
    have kb : ∀ (G : Env) d y, y ∈ killB G d → y ∈ G := fun G d y hy => (List.mem_filter.1 hy).1
    have : x ∈ [e] := by
      unfold killOp at hx
      split at hx
      · exact kb _ _ _ hx
      · exact k _ _ _ (k _ _ _ hx)
      · exact k _ _ _ (kb _ _ _ hx)
      · exact k _ _ _ (k _ _ _ hx)
      · exact k _ _ _ (kb _ _ _ hx)
      · exact k _ _ _ (k _ _ _ hx)
      · exact hx
      · exact hx
      · exact hx
      · cases hx
      · exact k _ _ _ (k _ _ _ hx)
      · split at hx
        · exact k _ _ _ hx
        · cases hx
    simpa using this
  cases hk : killOp op [e] with
  | nil => rw [hk] at h; cases h
  | cons x l =>
    have := sub x (by rw [hk]; simp)
    subst this; simp

theorem op_ran (h : StR w g tmps st) (he : EnvR w tmps st G) {o : Oper} {op : AOp} (hc : chk1 P G o op = some G') (hx : exop st op = some st') : Ran P w g tmps ds st o op st' := by
  obtain ⟨r, v, w', g', q1, q2, q3, q4, q5⟩ := op_done (ds := ds) h he hc hx
  rw [(chk1_eq hc).1] at q4
  refine ⟨r, v, w', g', q1, q2, q3, q5, fun e hn => q4 e.1 e.2 (List.mem_append_left _ hn), fun e hk hr => ?_⟩
  have he' : EnvR w tmps st (G ++ [e]) := by
    intro t r' hm
    rcases List.mem_append.1 hm with hm | hm
    · exact he t r' hm
    · have := List.mem_singleton.1 hm
      rw [← this] at hr; exact hr
  obtain ⟨r2, v2, w2, g2, p1, p2, p3, p4, p5⟩ := op_done (ds := ds) h he' (chk1_mono [e] hc) hx
  rw [q1] at p1
  cases p1
  have hv : v2 = v := by
    rcases q2 with q2 | ⟨q2, rfl⟩
    · rcases p2 with p2 | ⟨p2, _⟩
      · rw [q2] at p2; cases p2; rfl
      · rw [q2] at p2; cases p2
    · rcases p2 with p2 | ⟨p2, rfl⟩
      · rw [q2] at p2; cases p2
      · rfl
  subst hv
  refine p4 e.1 e.2 (List.mem_append_right _ ?_)
  rw [killOp_append]
  exact List.mem_append_right _ (killOp_one op e hk)

theorem hop_new {o : Oper} {op : AOp} (hc : chkH P o op = true) : newE op = [] ∧ ∀ G, killH op G = killOp op G := by
  cases op <;> first | (simp [chkH] at hc; done) | exact ⟨rfl, fun G => rfl⟩

theorem hop_ran (h : StR w g tmps st) {o : Oper} {op : AOp} (hc : chkH P o op = true) (hx : exop st op = some st') : Ran P w g tmps ds st o op st' := by
  obtain ⟨k1, k2⟩ := hop_new hc
  obtain ⟨r, v, w', g', q1, q2, q3, q4, q5⟩ := hop_done (ds := ds) (G := []) h (fun t r hm => by cases hm) hc hx
  refine ⟨r, v, w', g', q1, q2, q3, q5, (fun e hn => (by rw [k1] at hn; cases hn)), fun e hk hr => ?_⟩
  have he' : EnvR w tmps st [e] := by
    intro t r' hm
    have := List.mem_singleton.1 hm
    rw [← this] at hr; exact hr
  obtain ⟨r2, v2, w2, g2, p1, p2, p3, p4, p5⟩ := hop_done (ds := ds) h he' hc hx
  rw [q1] at p1
  cases p1
  have hv : v2 = v := by
    rcases q2 with q2 | ⟨q2, rfl⟩
    · rcases p2 with p2 | ⟨p2, _⟩
      · rw [q2] at p2; cases p2; rfl
      · rw [q2] at p2; cases p2
    · rcases p2 with p2 | ⟨p2, rfl⟩
      · rw [q2] at p2; cases p2
      · rfl
  subst hv
  refine p4 e.1 e.2 ?_
  rw [k2]
  exact killOp_one op e hk

end
end Go.Abs
