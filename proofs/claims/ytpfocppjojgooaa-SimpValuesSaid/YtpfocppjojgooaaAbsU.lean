/-
  Running abstract codes on values that are not known: rules for simp. Program-independent.
-/
import Derived.Test.YtpfocppjojgooaaAbsT
set_option linter.unusedSimpArgs false
set_option linter.unusedVariables false
namespace Go.Abs

/- what simp is not to go into: it leaves what the type of another argument names -/
inductive Tg (A : Prop) : Type where | mk
inductive Tf {α : Type} (F : α → Prop) : Type where | mk
inductive Th2 {α β : Type} (F : α → β → Prop) : Type where | mk
def cnd (c : Bool) (A B : Prop) (_ : Tg A) (_ : Tg B) : Prop := if c = true then A else B
theorem cnd_true {A B : Prop} {a : Tg A} {b : Tg B} : cnd true A B a b = A := by simp [cnd]
theorem cnd_false {A B : Prop} {a : Tg A} {b : Tg B} : cnd false A B a b = B := by simp [cnd]
theorem cnd_intro {c : Bool} {A B : Prop} {a : Tg A} {b : Tg B} (h1 : c = true → A) (h2 : c = false → B) : cnd c A B a b := by
  cases c
  · rw [cnd_false]; exact h2 rfl
  · rw [cnd_true]; exact h1 rfl
def bnd {α : Type} (o : Option α) (F : α → Prop) (_ : Tf F) : Prop := ∃ v, o = some v ∧ F v
theorem bnd_some {α : Type} {v : α} {F : α → Prop} {t : Tf F} : bnd (some v) F t = F v := by simp [bnd]
theorem bnd_intro {α : Type} {v : α} {o : Option α} {F : α → Prop} {t : Tf F} (h : o = some v) (hk : F v) : bnd o F t := ⟨v, h, hk⟩
def cndE (o : Option EV) (A B : Prop) (_ : Tg A) (_ : Tg B) : Prop := ∃ x, o = some (.c (.t (.b x))) ∧ if x = true then A else B
theorem cndE_some {x : Bool} {A B : Prop} {a : Tg A} {b : Tg B} : cndE (some (.c (.t (.b x)))) A B a b = cnd x A B a b := by simp [cndE, cnd]
def gcn (o : Option SV) (b : Bool) (A B : Prop) (_ : Tg A) (_ : Tg B) : Prop := ∃ x, guardV o = some x ∧ if x = some b then A else B
theorem gcn_t {x : Bool} {A B : Prop} {a : Tg A} {b : Tg B} : gcn (some (.e (.c (.t (.b x))))) true A B a b = cnd x A B a b := by simp [gcn, cnd, guardV]
theorem gcn_f {x : Bool} {A B : Prop} {a : Tg A} {b : Tg B} : gcn (some (.e (.c (.t (.b x))))) false A B a b = cnd x B A b a := by cases x <;> simp [gcn, cnd, guardV]
theorem gcn_u {x : Bool} {A B : Prop} {a : Tg A} {b : Tg B} : gcn (some (.e (.c (.t (.tu []))))) x A B a b = B := by simp [gcn, guardV]
/-- a call of a function of trees -/
def pcl (P : Program) (f : FuncId) (xs : Option (List TV)) (F : SV → Prop) (_ : Tf F) : Prop := ∃ ys r, xs = some ys ∧ PCalls P f ys r ∧ F r
theorem pcl_intro {P : Program} {f : FuncId} {xs : List TV} {r : SV} {F : SV → Prop} {t : Tf F} (h : PCalls P f xs r) (hk : F r) : pcl P f (some xs) F t := ⟨xs, r, rfl, h, hk⟩
/-- a call that may refer to blocks -/
def acl (P : Program) (f : FuncId) (xs : Option (List EV)) (h : List HB) (F : SV → List HB → Prop) (_ : Th2 F) : Prop := ∃ ys r h', xs = some ys ∧ ACalls P f ys h r h' ∧ F r h'
theorem acl_intro {P : Program} {f : FuncId} {xs : List EV} {h h' : List HB} {r : SV} {F : SV → List HB → Prop} {t : Th2 F} (hc : ACalls P f xs h r h') (hk : F r h') : acl P f (some xs) h F t := ⟨xs, r, h', rfl, hc, hk⟩
/-- a call of a function value -/
def ccl (P : Program) (c : Option EV) (xs : Option (List EV)) (h : List HB) (F : SV → List HB → Prop) (_ : Th2 F) : Prop := ∃ a f caps ys r h', c = some (.c a) ∧ fnOf a = some (f, caps) ∧ xs = some ys ∧ ACalls P f (ys ++ caps) h r h' ∧ F r h'
theorem ccl_intro {P : Program} {a : AC} {f : FuncId} {caps xs : List EV} {h h' : List HB} {r : SV} {F : SV → List HB → Prop} {t : Th2 F} (hf : fnOf a = some (f, caps)) (hc : ACalls P f (xs ++ caps) h r h') (hk : F r h') : ccl P (some (.c a)) (some xs) h F t :=
  ⟨a, f, caps, xs, r, h', rfl, hf, rfl, hc, hk⟩
/-- a loop -/
structure Lp (P : Program) (m : List Bool) (a : ACode) (Q : Exit → St → Prop) (st : St) : Prop where
  out : awp P (.loop m a) Q st

section
variable {P : Program}
theorem awp_seq {a b : ACode} {Q : Exit → St → Prop} {st : St} : awp P (.seq a b) Q st = awp P a (thenA (awp P b Q) Q) st := rfl
theorem awp_reg {ops : List GOp} {Q : Exit → St → Prop} {st : St} : awp P (.reg ops) Q st = rwp P ops (Q .normal) st := rfl
theorem awp_drw {ops : List GOp} {Q : Exit → St → Prop} {st : St} : awp P (.drw ops) Q st = rwp P ops (Q .normal) st := rfl
theorem awp_skip {Q : Exit → St → Prop} {st : St} : awp P .skip Q st = Q .normal st := rfl
theorem awp_ret {Q : Exit → St → Prop} {st : St} : awp P .ret Q st = Q .ret st := rfl
theorem awp_exit {i : Nat} {Q : Exit → St → Prop} {st : St} : awp P (.exit i) Q st = Q (.exit i) st := rfl
theorem awp_block {i : Nat} {a : ACode} {Q : Exit → St → Prop} {st : St} : awp P (.block i a) Q st = awp P a (blockA i Q) st := rfl
theorem awp_cond {c : AO} {a b : ACode} {Q : Exit → St → Prop} {st : St} : awp P (.cond c a b) Q st = cndE (evO st c) (awp P a Q st) (awp P b Q st) .mk .mk := rfl
theorem awp_lp {m : List Bool} {a : ACode} {Q : Exit → St → Prop} {st : St} : awp P (.loop m a) Q st = Lp P m a Q st := propext ⟨fun h => ⟨h⟩, fun h => h.out⟩
theorem Lp_step {m : List Bool} {a : ACode} {Q : Exit → St → Prop} {st : St} (h : awp P a (thenA (Lp P m a Q) Q) (st.msk m)) : Lp P m a Q st :=
  ⟨awp_loop (awp_mono (fun e s hs => by cases e <;> first | exact hs.out | exact hs) h)⟩
/-- a loop, by what its head's state is a function of -/
theorem Lp_ind {m : List Bool} {a : ACode} {Q : Exit → St → Prop} {st : St} {X : Type} (S : X → St) (I : X → Prop) (μ : X → Nat) (x0 : X) (h0 : st.msk m = S x0) (hI : I x0)
    (step : ∀ x, I x → (∀ y, I y → μ y < μ x → ∀ st', st'.msk m = S y → Lp P m a Q st') → awp P a (thenA (Lp P m a Q) Q) (S x)) : Lp P m a Q st := by
  have key : ∀ n x, μ x < n → I x → awp P a (thenA (Lp P m a Q) Q) (S x) := by
    intro n
    induction n with
    | zero => intro x h; exact (Nat.not_lt_zero _ h).elim
    | succ n ih =>
      intro x hn hx
      exact step x hx (fun y hy hlt st' e => Lp_step (e ▸ ih y (by omega) hy))
  exact Lp_step (h0 ▸ key _ x0 (Nat.lt_succ_self _) hI)
theorem msk_eq {sl : List SV} {h : List HB} {m : List Bool} : St.msk ⟨sl, h⟩ m = ⟨mskL m sl, h⟩ := rfl
theorem msk_t {m : List Bool} {x : SV} {xs : List SV} : mskL (true :: m) (x :: xs) = x :: mskL m xs := rfl
theorem msk_f {m : List Bool} {x : SV} {xs : List SV} : mskL (false :: m) (x :: xs) = .e (.c .und) :: mskL m xs := rfl
theorem msk_n {xs : List SV} : mskL [] xs = xs := rfl
theorem thenA_n {N : St → Prop} {Q : Exit → St → Prop} {st : St} : thenA N Q .normal st = N st := rfl
theorem thenA_e {N : St → Prop} {Q : Exit → St → Prop} {i : Nat} {st : St} : thenA N Q (.exit i) st = Q (.exit i) st := rfl
theorem thenA_r {N : St → Prop} {Q : Exit → St → Prop} {st : St} : thenA N Q .ret st = Q .ret st := rfl
theorem blockA_n {Q : Exit → St → Prop} {i : Nat} {st : St} : blockA i Q .normal st = Q .normal st := rfl
theorem blockA_r {Q : Exit → St → Prop} {i : Nat} {st : St} : blockA i Q .ret st = Q .ret st := rfl
theorem blockA_e {Q : Exit → St → Prop} {i : Nat} {st : St} : blockA i Q (.exit i) st = Q .normal st := by simp [blockA]
theorem blockA_o {Q : Exit → St → Prop} {i j : Nat} {st : St} (h : (j == i) = false) : blockA i Q (.exit j) st = Q (.exit j) st := by
  have : j ≠ i := by simpa using h
  simp [blockA, this]
theorem retQ_n {af : AF} {r : SV} {st : St} : retQ af r .normal st = (aRes st af.res = some r) := rfl
theorem retQ_r {af : AF} {r : SV} {st : St} : retQ af r .ret st = (aRes st af.res = some r) := rfl
theorem retH_n {af : AF} {r : SV} {h' : List HB} {st : St} : retH af r h' .normal st = (aRes st af.res = some r ∧ Less st.h h') := rfl
theorem retH_r {af : AF} {r : SV} {h' : List HB} {st : St} : retH af r h' .ret st = (aRes st af.res = some r ∧ Less st.h h') := rfl
/-- what a body is to come to -/
def retR (res : List AR) (r : SV) : Exit → St → Prop
  | .normal, st | .ret, st => aRes st res = some r
  | _, _ => False
theorem retR_n {res : List AR} {r : SV} {st : St} : retR res r .normal st = (aRes st res = some r) := rfl
theorem retR_r {res : List AR} {r : SV} {st : St} : retR res r .ret st = (aRes st res = some r) := rfl
theorem pcalls_of {f : FuncId} {fn : Func} {af : AF} {xs : List TV} {r : SV} (hf : P.funcs[f]? = some fn) (hc : chkF P fn af = true) (hnr : r.nr = true) (hlen : xs.length ≤ af.nt)
    (h : awp P af.body (retR af.res r) (initS af.nt xs)) : PCalls P f xs r :=
  pcalls_intro hf hc hnr hlen (awp_mono (fun e s hs => by cases e <;> exact hs) h)
/-- what a body is to come to, up to how it is seen -/
def retN (res : List AR) (r : SV) : Exit → St → Prop
  | .normal, st | .ret, st => ∃ r0, aRes st res = some r0 ∧ r0.nr = true ∧ fin r0 = r
  | _, _ => False
theorem retN_n {res : List AR} {r : SV} {st : St} : retN res r .normal st = bnd (aRes st res) (fun r0 => r0.nr = true ∧ fin r0 = r) .mk := rfl
theorem retN_r {res : List AR} {r : SV} {st : St} : retN res r .ret st = bnd (aRes st res) (fun r0 => r0.nr = true ∧ fin r0 = r) .mk := rfl
theorem pcalls_fin {f : FuncId} {fn : Func} {af : AF} {xs : List TV} {r : SV} (hf : P.funcs[f]? = some fn) (hc : chkF P fn af = true) (hlen : xs.length ≤ af.nt)
    (h : awp P af.body (retN af.res r) (initS af.nt xs)) : PCalls P f xs r :=
  (pcallsS_intro (R := fun r0 => r0.nr = true ∧ fin r0 = r) hf hc (fun r0 h => h.1) hlen (awp_mono (fun e s hs => by cases e <;> exact hs) h)).fin (fun r0 h => h)
theorem fin_c {x : AC} : fin (.e (.c x)) = .e (.c (nzA (frA x))) := rfl
theorem fin_ag {x : List AC} : fin (.e (.ag x)) = .e (.ag ((x.map frA).map nzA)) := rfl
theorem fin_tu {x : List EV} : fin (.tu x) = .tu ((x.map frE).map nzE) := rfl
theorem fe_c {x : AC} : frE (.c x) = .c (frA x) := rfl
theorem fe_ag {x : List AC} : frE (.ag x) = .ag (x.map frA) := rfl
theorem ne_c {x : AC} : nzE (.c x) = .c (nzA x) := rfl
theorem ne_ag {x : List AC} : nzE (.ag x) = .ag (x.map nzA) := rfl
theorem fa_t {x : TV} : frA (.t x) = .t x := rfl
theorem fa_os {w : Nat} {r : List (List TV)} : frA (.os w r) = .t (.ts r) := rfl
theorem na_i {k : IntKind} {n : Int} : nzA (.t (.i k n)) = .t (.i k n) := rfl
theorem na_b {x : Bool} : nzA (.t (.b x)) = .t (.b x) := rfl
theorem na_s {x : List UInt8} : nzA (.t (.s x)) = .t (.s x) := rfl
theorem na_ts {x : List (List TV)} : nzA (.t (.ts x)) = .t (.ts x) := rfl
theorem na_ns : nzA (.t .ns) = .t (.ts []) := rfl
theorem nr_e {x : EV} : (SV.e x).nr = x.nr := rfl
theorem nr_tu {x : List EV} : (SV.tu x).nr = x.all (·.nr) := rfl
theorem nr_c {x : AC} : (EV.c x).nr = x.nr := rfl
theorem nr_ag {x : List AC} : (EV.ag x).nr = x.all (·.nr) := rfl
theorem nr_t {x : TV} : (AC.t x).nr = true := rfl
theorem nr_os {w : Nat} {r : List (List TV)} : (AC.os w r).nr = true := rfl
def retG (res : List AR) (r : SV) (h' : List HB) : Exit → St → Prop
  | .normal, st | .ret, st => aRes st res = some r ∧ Less st.h h'
  | _, _ => False
theorem retG_n {res : List AR} {r : SV} {h' : List HB} {st : St} : retG res r h' .normal st = (aRes st res = some r ∧ Less st.h h') := rfl
theorem retG_r {res : List AR} {r : SV} {h' : List HB} {st : St} : retG res r h' .ret st = (aRes st res = some r ∧ Less st.h h') := rfl
theorem acalls_of {f : FuncId} {fn : Func} {af : AF} {xs : List EV} {h h' : List HB} {r : SV} (hf : P.funcs[f]? = some fn) (hc : chkF P fn af = true) (hlen : xs.length ≤ af.nt)
    (hw : awp P af.body (retG af.res r h') (initH af.nt xs h)) : ACalls P f xs h r h' :=
  acalls_intro hf hc hlen (awp_mono (fun e s hs => by cases e <;> exact hs) hw)
theorem rwp_nil {K : St → Prop} {st : St} : rwp P [] K st = K st := rfl
theorem rwp_none {op : AOp} {r : List GOp} {K : St → Prop} {st : St} : rwp P (⟨none, op⟩ :: r) K st = owp P (rwp P r K) st op := rfl
theorem rwp_some {op : AOp} {j : Nat} {b : Bool} {r : List GOp} {K : St → Prop} {st : St} :
    rwp P (⟨some (j, b), op⟩ :: r) K st = gcn (st.sl[j]?) b (owp P (rwp P r K) st op) (rwp P r K (st.clr op.dst)) .mk .mk := rfl
/- operations -/
theorem o_pc {K : St → Prop} {st : St} {d f m : Nat} {args : List AO} : owp P K st (.pc d f args m) = pcl P f (evTs st args) (fun r => K (st.put d r)) .mk := rfl
theorem o_tc {K : St → Prop} {st : St} {d f m : Nat} {gn : Option (Nat × Nat)} {args : List AO} : owp P K st (.tc d f args gn m) = acl P f (evGs st gn 0 args) st.h (fun r h' => K { sl := (setU st.sl gn).set d r, h := h' }) .mk := rfl
theorem o_ct {K : St → Prop} {st : St} {d m : Nat} {x : AO} {args : List AO} : owp P K st (.ct d x args m) = ccl P (evO st x) (evOs st args) st.h (fun r h' => K { sl := st.sl.set d r, h := h' }) .mk := rfl
theorem o_set {K : St → Prop} {st : St} {d : Nat} {x : AX} : owp P K st (.set d x) = bnd (evX st x) (fun v => K (st.put d (.e v))) .mk := by
  simp only [owp, exop, bnd, Option.map_eq_some_iff]
  exact propext ⟨fun ⟨s, ⟨v, h1, h2⟩, h3⟩ => ⟨v, h1, h2 ▸ h3⟩, fun ⟨v, h1, h2⟩ => ⟨_, ⟨v, h1, rfl⟩, h2⟩⟩
theorem o_fp {K : St → Prop} {st : St} {d s col : Nat} : owp P K st (.fp d s col) = bnd (exop st (.fp d s col)) K .mk := rfl
theorem o_als {K : St → Prop} {st : St} {d s : Nat} : owp P K st (.als d s) = bnd (exop st (.als d s)) K .mk := rfl
theorem o_alb {K : St → Prop} {st : St} {d s col : Nat} : owp P K st (.alb d s col) = bnd (exop st (.alb d s col)) K .mk := rfl
theorem o_bxn {K : St → Prop} {st : St} {d : Nat} {z : List TV} : owp P K st (.bxn d z) = K (st.put d (.bx (z.map .t))) := by simp [owp, exop]
theorem o_bxv {K : St → Prop} {st : St} {d : Nat} {x : AO} : owp P K st (.bxv d x) = bnd ((evO st x).bind stored) (fun l => K (st.put d (.bx l))) .mk := by
  simp only [owp, exop, bnd]
  refine propext ⟨fun ⟨s, h1, h3⟩ => ?_, fun ⟨l, h1, h2⟩ => ⟨_, by rw [h1], h2⟩⟩
  split at h1
  · rename_i l hl; cases h1; exact ⟨l, hl, h3⟩
  · cases h1
theorem o_stb {K : St → Prop} {st : St} {s col n : Nat} {x : AO} : owp P K st (.stb s col n x) = bnd (exop st (.stb s col n x)) K .mk := rfl
theorem o_bsl {K : St → Prop} {st : St} {d wd : Nat} {xs : List AO} : owp P K st (.bsl d wd xs) = bnd ((evTs st xs).bind (rowsOf wd)) (fun rs => K (st.put d (.e (.c (.t (.ts rs)))))) .mk := by
  simp only [owp, exop, bnd]
  refine propext ⟨fun ⟨s, h1, h3⟩ => ?_, fun ⟨l, h1, h2⟩ => ⟨_, by rw [h1], h2⟩⟩
  split at h1
  · rename_i l hl; cases h1; exact ⟨l, hl, h3⟩
  · cases h1
def appS (fz : Bool) (wd by_ : Nat) (o : Option SV) (x : Option EV) : Option AC :=
  match o with
  | some (.e (.c b)) => x.bind (appd fz wd by_ b)
  | _ => none
theorem o_app {K : St → Prop} {st : St} {d s wd by_ : Nat} {x : AO} {fz : Bool} :
    owp P K st (.app d s none x wd by_ fz) = bnd (appS fz wd by_ (st.sl[s]?) (evO st x)) (fun r => K ((st.put s und).put d (.e (.c r)))) .mk := by
  simp only [owp, exop, bnd, appS]
  generalize st.sl[s]? = o
  generalize evO st x = q
  refine propext ⟨fun ⟨s1, h1, h3⟩ => ?_, fun ⟨l, h1, h2⟩ => ?_⟩
  · split at h1
    · rename_i b v
      obtain ⟨r, r1, r2⟩ := Option.map_eq_some_iff.1 h1
      exact ⟨r, r1, r2 ▸ h3⟩
    · cases h1
  · split at h1
    · rename_i b
      obtain ⟨v, v1, v2⟩ := Option.bind_eq_some_iff.1 h1
      subst v1
      exact ⟨_, Option.map_eq_some_iff.2 ⟨l, v2, rfl⟩, h2⟩
    · cases h1
theorem appS_e {fz : Bool} {wd by_ : Nat} {b : AC} {v : EV} : appS fz wd by_ (some (.e (.c b))) (some v) = appd fz wd by_ b v := rfl
def appC (fz : Bool) (wd by_ col : Nat) (o : Option SV) (x : Option EV) : Option (List AC × AC) :=
  match o with
  | some (.bx cs) => (cs[col]?).bind fun b => (x.bind (appd fz wd by_ b)).map fun r => (cs.set col .und, r)
  | _ => none
theorem o_appc {K : St → Prop} {st : St} {d s col wd by_ : Nat} {x : AO} {fz : Bool} :
    owp P K st (.app d s (some col) x wd by_ fz) = bnd (appC fz wd by_ col (st.sl[s]?) (evO st x)) (fun r => K ((st.put s (.bx r.1)).put d (.e (.c r.2)))) .mk := by
  simp only [owp, exop, bnd, appC]
  generalize st.sl[s]? = o
  generalize evO st x = q
  refine propext ⟨fun ⟨s1, h1, h3⟩ => ?_, fun ⟨l, h1, h2⟩ => ?_⟩
  · split at h1
    · rename_i cs v _
      split at h1
      · rename_i b hb
        obtain ⟨r, r1, r2⟩ := Option.map_eq_some_iff.1 h1
        exact ⟨(cs.set col .und, r), by simp [hb, r1], r2 ▸ h3⟩
      · cases h1
    · cases h1
  · split at h1
    · rename_i cs
      obtain ⟨b, b1, b2⟩ := Option.bind_eq_some_iff.1 h1
      obtain ⟨r, r1, r2⟩ := Option.map_eq_some_iff.1 b2
      obtain ⟨v, v1, v2⟩ := Option.bind_eq_some_iff.1 r1
      subst v1 r2
      simp only [b1, v2, Option.map_some]
      exact ⟨_, rfl, h2⟩
    · cases h1
theorem appC_e {fz : Bool} {wd by_ col : Nat} {cs : List AC} {v : EV} : appC fz wd by_ col (some (.bx cs)) (some v) = (cs[col]?).bind fun b => (appd fz wd by_ b v).map fun r => (cs.set col .und, r) := rfl
theorem o_apk {K : St → Prop} {st : St} {d wd by_ : Nat} {x : AO} {fz : Bool} : owp P K st (.apk d x wd by_ fz) = bnd (exop st (.apk d x wd by_ fz)) K .mk := rfl
theorem o_mvs {K : St → Prop} {st : St} {d s : Nat} : owp P K st (.mvs d s) = bnd (st.sl[s]?) (fun x => K ((st.put s und).put d x)) .mk := by
  simp only [owp, exop, bnd]
  refine propext ⟨fun ⟨s, h1, h3⟩ => ?_, fun ⟨l, h1, h2⟩ => ⟨_, by rw [h1], h2⟩⟩
  split at h1
  · rename_i l hl; cases h1; exact ⟨l, hl, h3⟩
  · cases h1
theorem o_mvb {K : St → Prop} {st : St} {s col d : Nat} : owp P K st (.mvb s col d) = bnd (exop st (.mvb s col d)) K .mk := rfl
theorem o_ext {K : St → Prop} {st : St} {d s i : Nat} : owp P K st (.ext d s i) = bnd (exop st (.ext d s i)) K .mk := rfl
/- states -/
theorem put_eq {sl : List SV} {h : List HB} {d : Nat} {v : SV} : St.put ⟨sl, h⟩ d v = ⟨sl.set d v, h⟩ := rfl
theorem clr_none {st : St} : st.clr none = st := rfl
theorem clr_some {st : St} {d : Nat} : st.clr (some d) = st.put d udf := rfl
/- operands -/
def rdS : Option SV → Option EV
  | some (.e x) => some (rdE x)
  | _ => none
theorem evO_s {sl : List SV} {h : List HB} {n : Nat} : evO ⟨sl, h⟩ (.s n) = rdS (sl[n]?) := by
  simp only [evO]
  generalize sl[n]? = o
  rcases o with _ | (_ | _ | _) <;> rfl
theorem evO_k {st : St} {x : TV} : evO st (.k x) = some (EV.ofT x) := rfl
theorem rdS_some {x : EV} : rdS (some (.e x)) = some (rdE x) := rfl
theorem rd_t {x : TV} : rdE (.c (.t x)) = .c (.t x) := rfl
theorem rd_u : rdE (.c .und) = .c .und := rfl
theorem rd_os {w : Nat} {r : List (List TV)} : rdE (.c (.os w r)) = .c (.t (.ts r)) := rfl
theorem rd_tp {r : List TV} {c : Nat} : rdE (.c (.tp r c)) = .c (.tp r c) := rfl
theorem rd_p {a b c d : Nat} : rdE (.c (.p a b c d)) = .c (.p a b c d) := rfl
theorem rd_sl {a b c d : Nat} : rdE (.c (.sl a b c d)) = .c (.sl a b c d) := rfl
theorem rd_m {a : Nat} : rdE (.c (.m a)) = .c (.m a) := rfl
theorem rd_fn {f : FuncId} {l : List AC} : rdE (.c (.fn f l)) = .c (.fn f l) := rfl
theorem rd_ag {xs : List AC} : rdE (.ag xs) = .ag (xs.map rdC) := rfl
theorem rc_t {x : TV} : rdC (.t x) = .t x := rfl
theorem rc_os {w : Nat} {r : List (List TV)} : rdC (.os w r) = .t (.ts r) := rfl
theorem ofE_i {k : IntKind} {n : Int} : EV.ofT (.i k n) = .c (.t (.i k n)) := rfl
theorem ofE_b {x : Bool} : EV.ofT (.b x) = .c (.t (.b x)) := rfl
theorem ofE_s {x : List UInt8} : EV.ofT (.s x) = .c (.t (.s x)) := rfl
theorem ofE_ts {x : List (List TV)} : EV.ofT (.ts x) = .c (.t (.ts x)) := rfl
theorem ofE_ns : EV.ofT .ns = .c (.t .ns) := rfl
theorem ofE_nl : EV.ofT .nl = .c (.t .nl) := rfl
theorem ofE_nm : EV.ofT .nm = .c (.t .nm) := rfl
theorem ofE_nf : EV.ofT .nf = .c (.t .nf) := rfl
theorem ofE_fn {f : FuncId} {l : List TV} : EV.ofT (.fn f l) = .c (.t (.fn f l)) := rfl
theorem ofE_ag {x : List TV} : EV.ofT (.ag x) = .ag (x.map .t) := rfl
theorem ofT_i {k : IntKind} {n : Int} : SV.ofT (.i k n) = .e (.c (.t (.i k n))) := rfl
theorem ofT_b {x : Bool} : SV.ofT (.b x) = .e (.c (.t (.b x))) := rfl
theorem ofT_s {x : List UInt8} : SV.ofT (.s x) = .e (.c (.t (.s x))) := rfl
theorem ofT_ts {x : List (List TV)} : SV.ofT (.ts x) = .e (.c (.t (.ts x))) := rfl
theorem ofT_ns : SV.ofT .ns = .e (.c (.t .ns)) := rfl
theorem ofT_ag {x : List TV} : SV.ofT (.ag x) = .e (.ag (x.map .t)) := rfl
theorem ofT_fn {f : FuncId} {l : List TV} : SV.ofT (.fn f l) = .e (.c (.t (.fn f l))) := rfl
/- trees -/
theorem ts_nil {st : St} : evTs st [] = some [] := rfl
def consO {α : Type} : Option α → Option (List α) → Option (List α)
  | some a, some l => some (a :: l)
  | _, _ => none
theorem ts_cons {st : St} {x : AO} {xs : List AO} : evTs st (x :: xs) = consO ((evO st x).bind tE) (evTs st xs) := by
  simp only [evTs, evT, consO]
  split <;> simp_all
theorem os_nil {st : St} : evOs st [] = some [] := rfl
theorem os_cons {st : St} {x : AO} {xs : List AO} : evOs st (x :: xs) = consO (evO st x) (evOs st xs) := by
  simp only [evOs, consO]
  split <;> simp_all
theorem consO_some {α : Type} {a : α} {l : List α} : consO (some a) (some l) = some (a :: l) := rfl
theorem tE_t {x : TV} : tE (.c (.t x)) = some x := rfl
theorem tE_ag {xs : List AC} : tE (.ag xs) = (tCs xs).map .ag := rfl
theorem tCs_nil : tCs [] = some [] := rfl
theorem tCs_cons {x : TV} {xs : List AC} : tCs (.t x :: xs) = consO (some x) (tCs xs) := by
  simp only [tCs, tC, consO]
  split <;> simp_all
theorem st_ag {xs : List AC} : stored (.ag xs) = some xs := rfl
theorem st_i {k : IntKind} {n : Int} : stored (.c (.t (.i k n))) = some [.t (.i k n)] := rfl
theorem st_b {x : Bool} : stored (.c (.t (.b x))) = some [.t (.b x)] := rfl
theorem st_s {x : List UInt8} : stored (.c (.t (.s x))) = some [.t (.s x)] := rfl
theorem st_ts {x : List (List TV)} : stored (.c (.t (.ts x))) = some [.t (.ts x)] := rfl
theorem st_ns : stored (.c (.t .ns)) = some [.t .ns] := rfl
theorem st_fn {f : FuncId} {l : List TV} : stored (.c (.t (.fn f l))) = some [.t (.fn f l)] := rfl
theorem st_nm : stored (.c (.t .nm)) = some [.t .nm] := rfl
theorem st_m {b : Nat} : stored (.c (.m b)) = some [.m b] := rfl
theorem st_p {a b c d : Nat} : stored (.c (.p a b c d)) = some [.p a b c d] := rfl
theorem st_f {f : FuncId} {l : List AC} : stored (.c (.fn f l)) = some [.fn f l] := rfl
def consR (wd : Nat) : Option (List TV) → Option (List (List TV)) → Option (List (List TV))
  | some r, some rs => if r.length = wd then some (r :: rs) else none
  | _, _ => none
theorem ro_nil {wd : Nat} : rowsOf wd [] = some [] := rfl
theorem ro_cons {wd : Nat} {x : TV} {xs : List TV} : rowsOf wd (x :: xs) = consR wd (rowOf x) (rowsOf wd xs) := by
  simp only [rowsOf]
  generalize rowOf x = a
  generalize rowsOf wd xs = b
  cases a <;> cases b <;> rfl
theorem rf_i {k : IntKind} {n : Int} : rowOf (.i k n) = some [.i k n] := rfl
theorem rf_b {x : Bool} : rowOf (.b x) = some [.b x] := rfl
theorem rf_s {x : List UInt8} : rowOf (.s x) = some [.s x] := rfl
theorem rf_ts {x : List (List TV)} : rowOf (.ts x) = some [.ts x] := rfl
theorem rf_ag {x : List TV} : rowOf (.ag x) = some x := rfl
theorem consR_some {wd : Nat} {r : List TV} {rs : List (List TV)} (h : Nat.beq r.length wd = true) : consR wd (some r) (some rs) = some (r :: rs) := by
  have : r.length = wd := Nat.eq_of_beq_eq_true h
  simp [consR, this]
/- expressions -/
theorem x_mov {st : St} {x : AO} : evX st (.mov x) = evO st x := rfl
def bin2E (op : BinOp) : Option EV → Option EV → Option EV
  | some (.c (.t a)), some (.c (.t b)) => (bin2 op a b).map fun r => .c (.t r)
  | _, _ => none
theorem x_bin {st : St} {op : BinOp} {x y : AO} : evX st (.bin op x y) = bin2E op (evO st x) (evO st y) := by
  simp only [evX]
  generalize evO _ x = o
  generalize evO _ y = q
  rcases o with _ | (a | l) <;> rcases q with _ | (b | m) <;> first | rfl | (cases a <;> first | rfl | (cases b <;> first | rfl | (rename_i t u; cases t <;> cases u <;> rfl)))
theorem b_add {k : IntKind} {a b : Int} : bin2E .add (some (.c (.t (.i k a)))) (some (.c (.t (.i k b)))) = some (.c (.t (.i k (k.wrap (a + b))))) := by simp [bin2E, bin2]
theorem b_sub {k : IntKind} {a b : Int} : bin2E .sub (some (.c (.t (.i k a)))) (some (.c (.t (.i k b)))) = some (.c (.t (.i k (k.wrap (a - b))))) := by simp [bin2E, bin2]
theorem b_mul {k : IntKind} {a b : Int} : bin2E .mul (some (.c (.t (.i k a)))) (some (.c (.t (.i k b)))) = some (.c (.t (.i k (k.wrap (a * b))))) := by simp [bin2E, bin2]
theorem b_quo {k : IntKind} {a b : Int} (h : (b == 0) = false) : bin2E .quo (some (.c (.t (.i k a)))) (some (.c (.t (.i k b)))) = some (.c (.t (.i k (k.wrap (a.tdiv b))))) := by
  have : b ≠ 0 := by simpa using h
  simp [bin2E, bin2, this]
theorem b_rem {k : IntKind} {a b : Int} (h : (b == 0) = false) : bin2E .rem (some (.c (.t (.i k a)))) (some (.c (.t (.i k b)))) = some (.c (.t (.i k (a.tmod b)))) := by
  have : b ≠ 0 := by simpa using h
  simp [bin2E, bin2, this]
theorem b_eql {k : IntKind} {a b : Int} : bin2E .eql (some (.c (.t (.i k a)))) (some (.c (.t (.i k b)))) = some (.c (.t (.b (a == b)))) := by simp [bin2E, bin2]
theorem b_neq {k : IntKind} {a b : Int} : bin2E .neq (some (.c (.t (.i k a)))) (some (.c (.t (.i k b)))) = some (.c (.t (.b (a != b)))) := by simp [bin2E, bin2]
theorem b_lss {k : IntKind} {a b : Int} : bin2E .lss (some (.c (.t (.i k a)))) (some (.c (.t (.i k b)))) = some (.c (.t (.b (decide (a < b))))) := by simp [bin2E, bin2]
theorem b_leq {k : IntKind} {a b : Int} : bin2E .leq (some (.c (.t (.i k a)))) (some (.c (.t (.i k b)))) = some (.c (.t (.b (decide (a ≤ b))))) := by simp [bin2E, bin2]
theorem b_gtr {k : IntKind} {a b : Int} : bin2E .gtr (some (.c (.t (.i k a)))) (some (.c (.t (.i k b)))) = some (.c (.t (.b (decide (b < a))))) := by simp [bin2E, bin2]
theorem b_geq {k : IntKind} {a b : Int} : bin2E .geq (some (.c (.t (.i k a)))) (some (.c (.t (.i k b)))) = some (.c (.t (.b (decide (b ≤ a))))) := by simp [bin2E, bin2]
theorem s_eql {a b : List UInt8} : bin2E .eql (some (.c (.t (.s a)))) (some (.c (.t (.s b)))) = some (.c (.t (.b (a == b)))) := by simp [bin2E, bin2]
theorem s_neq {a b : List UInt8} : bin2E .neq (some (.c (.t (.s a)))) (some (.c (.t (.s b)))) = some (.c (.t (.b (a != b)))) := by simp [bin2E, bin2]
def beqE (ng : Bool) : Option EV → Option EV → Option EV
  | some (.c (.t (.b a))), some (.c (.t (.b b))) => some (.c (.t (.b (if ng then !(a == b) else a == b))))
  | _, _ => none
theorem x_beq {st : St} {ng : Bool} {x y : AO} : evX st (.beq ng x y) = beqE ng (evO st x) (evO st y) := by
  simp only [evX]
  generalize evO _ x = o
  generalize evO _ y = q
  rcases o with _ | (a | l) <;> rcases q with _ | (b | m) <;> first | rfl | (cases a <;> first | rfl | (cases b <;> first | rfl | (rename_i t u; cases t <;> cases u <;> rfl)))
theorem beq_t {a b : Bool} : beqE true (some (.c (.t (.b a)))) (some (.c (.t (.b b)))) = some (.c (.t (.b (!(a == b))))) := rfl
theorem beq_f {a b : Bool} : beqE false (some (.c (.t (.b a)))) (some (.c (.t (.b b)))) = some (.c (.t (.b (a == b)))) := rfl
def unE (op : UnOp) : Option EV → Option EV
  | some (.c (.t (.b a))) => if op = .not then some (.c (.t (.b (!a)))) else none
  | some (.c (.t (.i k n))) => if op = .neg then some (.c (.t (.i k (k.wrap (0 - n))))) else none
  | _ => none
theorem x_un {st : St} {op : UnOp} {x : AO} : evX st (.un op x) = unE op (evO st x) := by
  simp only [evX]
  generalize evO _ x = o
  cases op <;> (rcases o with _ | (a | l) <;> first | rfl | (cases a <;> first | rfl | (rename_i t; cases t <;> rfl)))
theorem wr0 : IntKind.i64.wrap 0 = 0 := by decide
theorem wr1 : IntKind.i64.wrap 1 = 1 := by decide
theorem wr2 : IntKind.i64.wrap 2 = 2 := by decide
theorem wr3 : IntKind.i64.wrap 3 = 3 := by decide
theorem un_not {a : Bool} : unE .not (some (.c (.t (.b a)))) = some (.c (.t (.b (!a)))) := by simp [unE]
theorem un_neg {k : IntKind} {n : Int} : unE .neg (some (.c (.t (.i k n)))) = some (.c (.t (.i k (k.wrap (0 - n))))) := by simp [unE]
def pickE : Option EV → Option EV → Option EV → Option EV
  | some (.c (.t (.b x))), some a, some b => some (if x then a else b)
  | _, _, _ => none
theorem x_pick {st : St} {c x y : AO} : evX st (.pick c x y) = pickE (evO st c) (evO st x) (evO st y) := by
  simp only [evX]
  generalize evO _ c = o
  generalize evO _ x = p
  generalize evO _ y = q
  rcases o with _ | (a | l) <;> first | rfl | (cases p <;> cases q <;> first | rfl | (cases a <;> first | rfl | (rename_i t; cases t <;> rfl)))
theorem pick_t {a b : EV} : pickE (some (.c (.t (.b true)))) (some a) (some b) = some a := rfl
theorem pick_f {a b : EV} : pickE (some (.c (.t (.b false)))) (some a) (some b) = some b := rfl
def ldbE (col n : Nat) (agg : Bool) : Option SV → Option EV
  | some (.bx cs) => if col + n ≤ cs.length then pack agg (((cs.drop col).take n).map rdC) else none
  | _ => none
theorem x_ldb {sl : List SV} {h : List HB} {s col n : Nat} {agg : Bool} : evX ⟨sl, h⟩ (.ldb s col n agg) = ldbE col n agg (sl[s]?) := by
  simp only [evX, ldbE]
  split <;> simp_all
theorem ldb_some {col n : Nat} {agg : Bool} {cs : List AC} (h : (Nat.ble (col + n) cs.length) = true) : ldbE col n agg (some (.bx cs)) = pack agg (((cs.drop col).take n).map rdC) := by
  simp only [ldbE]; rw [if_pos (Nat.le_of_ble_eq_true h)]
def ldE (hb : List HB) (n : Nat) (agg : Bool) : Option EV → Option EV
  | some (.c (.tp row col)) => if col + n ≤ row.length then pack agg (((row.drop col).take n).map .t) else none
  | some (.c (.p blk wd r col)) => match hb[blk]? with
    | some (.rows wd' rs) => match rs[r]? with
      | some row => if wd = wd' ∧ col + n ≤ row.length then pack agg (((row.drop col).take n).map rdC) else none
      | none => none
    | _ => none
  | _ => none
theorem x_ld {sl : List SV} {h : List HB} {x : AO} {n : Nat} {agg : Bool} : evX ⟨sl, h⟩ (.ld x n agg) = ldE h n agg (evO ⟨sl, h⟩ x) := by
  simp only [evX]
  generalize evO _ x = o
  rcases o with _ | (a | l) <;> first | rfl | (cases a <;> first | rfl | (rename_i t; cases t <;> rfl))
theorem ld_tp {hb : List HB} {n col : Nat} {agg : Bool} {row : List TV} (h : (Nat.ble (col + n) row.length) = true) : ldE hb n agg (some (.c (.tp row col))) = pack agg (((row.drop col).take n).map .t) := by
  simp only [ldE]; rw [if_pos (Nat.le_of_ble_eq_true h)]
theorem pack_t {l : List AC} : pack true l = some (.ag l) := rfl
theorem pack_f {x : AC} : pack false [x] = some (.c x) := rfl
def fadE (off : Nat) : Option EV → Option EV
  | some (.c (.tp row col)) => some (.c (.tp row (col + off)))
  | some (.c (.p blk wd r col)) => some (.c (.p blk wd r (col + off)))
  | _ => none
theorem x_fad {st : St} {x : AO} {off : Nat} : evX st (.fad x off) = fadE off (evO st x) := by
  simp only [evX]
  generalize evO _ x = o
  rcases o with _ | (a | l) <;> first | rfl | (cases a <;> first | rfl | (rename_i t; cases t <;> rfl))
theorem fad_tp {off col : Nat} {row : List TV} : fadE off (some (.c (.tp row col))) = some (.c (.tp row (col + off))) := rfl
def iadE (wd : Nat) (x : Option EV) (i : Option EV) : Option EV :=
  match i with
  | some (.c (.t (.i _ n))) => match x with
    | some (.c (.t (.ts rows))) => if 0 ≤ n then match rows[n.toNat]? with
        | some row => if row.length = wd then some (.c (.tp row 0)) else none
        | none => none
      else none
    | some (.c (.sl blk wd' r len)) => if 0 ≤ n ∧ n < len ∧ wd = wd' then some (.c (.p blk wd (r + n.toNat) 0)) else none
    | _ => none
  | _ => none
theorem x_iad {st : St} {x i : AO} {wd : Nat} : evX st (.iad x i wd) = iadE wd (evO st x) (evO st i) := by
  simp only [evX, evI]
  generalize evO _ x = o
  generalize evO _ i = q
  rcases q with _ | (b | m)
  · rcases o with _ | (a | l) <;> first | rfl | (cases a <;> first | rfl | (rename_i t; cases t <;> rfl))
  · cases b with
    | t u => cases u <;> (rcases o with _ | (a | l) <;> first | rfl | (cases a <;> first | rfl | (rename_i t; cases t <;> rfl)))
    | _ => rcases o with _ | (a | l) <;> first | rfl | (cases a <;> first | rfl | (rename_i t; cases t <;> rfl))
  · rcases o with _ | (a | l) <;> first | rfl | (cases a <;> first | rfl | (rename_i t; cases t <;> rfl))
def getI (rows : List (List TV)) (n : Int) : Option (List TV) := if 0 ≤ n then rows[n.toNat]? else none
def rowE (wd : Nat) : Option (List TV) → Option EV
  | some row => if row.length = wd then some (.c (.tp row 0)) else none
  | none => none
theorem iad_i {wd : Nat} {rows : List (List TV)} {k : IntKind} {n : Int} : iadE wd (some (.c (.t (.ts rows)))) (some (.c (.t (.i k n)))) = rowE wd (getI rows n) := by
  simp only [iadE, getI]
  split
  · generalize rows[n.toNat]? = o
    cases o <;> rfl
  · rfl
theorem getI_cast {rows : List (List TV)} {j : Nat} : getI rows (j : Int) = rows[j]? := by simp [getI]
theorem getI_0 {rows : List (List TV)} : getI rows 0 = rows[0]? := by simp [getI]
theorem getI_1 {rows : List (List TV)} : getI rows 1 = rows[1]? := by simp [getI]
theorem getI_2 {rows : List (List TV)} : getI rows 2 = rows[2]? := by simp [getI]
theorem rowE_some {wd : Nat} {row : List TV} (h : Nat.beq row.length wd = true) : rowE wd (some row) = some (.c (.tp row 0)) := by
  have : row.length = wd := Nat.eq_of_beq_eq_true h
  simp [rowE, this]
def lenE (str : Bool) : Option EV → Option EV
  | some (.c (.t (.s a))) => if str then some (.c (.t (.i .i64 a.length))) else none
  | some (.c (.t (.ts rows))) => if str then none else some (.c (.t (.i .i64 rows.length)))
  | some (.c (.t .ns)) => if str then none else some (.c (.t (.i .i64 0)))
  | some (.c (.sl _ _ _ n)) => if str then none else some (.c (.t (.i .i64 n)))
  | _ => none
theorem x_len {st : St} {str : Bool} {x : AO} : evX st (.len str x) = lenE str (evO st x) := by
  simp only [evX]
  generalize evO _ x = o
  cases str <;> (rcases o with _ | (a | l) <;> first | rfl | (cases a <;> first | rfl | (rename_i t; cases t <;> rfl)))
theorem len_s {a : List UInt8} : lenE true (some (.c (.t (.s a)))) = some (.c (.t (.i .i64 a.length))) := rfl
theorem len_ts {a : List (List TV)} : lenE false (some (.c (.t (.ts a)))) = some (.c (.t (.i .i64 a.length))) := rfl
theorem len_ns : lenE false (some (.c (.t .ns))) = some (.c (.t (.i .i64 0))) := rfl
theorem len_sl {a b c n : Nat} : lenE false (some (.c (.sl a b c n))) = some (.c (.t (.i .i64 n))) := rfl
def mnE : Option EV → Option EV → Option EV
  | some (.c (.t (.i k a))), some (.c (.t (.i k' b))) => if k = k' then some (.c (.t (.i k (if b < a then b else a)))) else none
  | _, _ => none
theorem x_mn {st : St} {x y : AO} : evX st (.mn x y) = mnE (evO st x) (evO st y) := by
  simp only [evX]
  generalize evO _ x = o
  generalize evO _ y = q
  rcases o with _ | (a | l) <;> rcases q with _ | (b | m) <;> first | rfl | (cases a <;> first | rfl | (cases b <;> first | rfl | (rename_i t u; cases t <;> cases u <;> rfl)))
theorem mn_i {k : IntKind} {a b : Int} : mnE (some (.c (.t (.i k a)))) (some (.c (.t (.i k b)))) = some (.c (.t (.i k (if b < a then b else a)))) := by simp [mnE]
def fldE (off n : Nat) (agg : Bool) : Option EV → Option EV
  | some (.ag cs) => if off + n ≤ cs.length then pack agg ((cs.drop off).take n) else none
  | _ => none
theorem x_fld {st : St} {x : AO} {off n : Nat} {agg : Bool} : evX st (.fld x off n agg) = fldE off n agg (evO st x) := by
  simp only [evX]
  generalize evO _ x = o
  rcases o with _ | (a | l) <;> first | rfl | (cases a <;> first | rfl | (rename_i t; cases t <;> rfl))
theorem fld_ag {off n : Nat} {agg : Bool} {cs : List AC} (h : Nat.ble (off + n) cs.length = true) : fldE off n agg (some (.ag cs)) = pack agg ((cs.drop off).take n) := by
  simp only [fldE]; rw [if_pos (Nat.le_of_ble_eq_true h)]
theorem x_bld {st : St} {z : List TV} {parts : List (Nat × Nat × AO)} : evX st (.bld z parts) = (bldE st (z.map .t) parts).map .ag := rfl
def cnvE (k : IntKind) : Option EV → Option EV
  | some (.c (.t (.i _ n))) => some (.c (.t (.i k (k.wrap n))))
  | _ => none
theorem x_cnv {st : St} {k : IntKind} {x : AO} : evX st (.cnv k x) = cnvE k (evO st x) := by
  simp only [evX]
  generalize evO _ x = o
  rcases o with _ | (a | l) <;> first | rfl | (cases a <;> first | rfl | (rename_i t; cases t <;> rfl))
theorem cnv_i {k k' : IntKind} {n : Int} : cnvE k (some (.c (.t (.i k' n)))) = some (.c (.t (.i k (k.wrap n)))) := rfl
/- results -/
theorem aRes_one {st : St} {r : AR} : aRes st [r] = (aEV st r).map .e := rfl
theorem aRes_two {st : St} {r s : AR} {l : List AR} : aRes st (r :: s :: l) = (aEVs st (r :: s :: l)).map .tu := rfl
theorem aEVs_nil {st : St} : aEVs st [] = some [] := rfl
theorem aEVs_cons {st : St} {r : AR} {l : List AR} : aEVs st (r :: l) = consO (aEV st r) (aEVs st l) := by
  simp only [aEVs, consO]
  split <;> simp_all
def rsE : Option SV → Option EV
  | some (.e x) => some x
  | _ => none
theorem aEV_s {sl : List SV} {h : List HB} {n : Nat} : aEV ⟨sl, h⟩ (.s n) = rsE (sl[n]?) := by
  simp only [aEV]
  generalize sl[n]? = o
  rcases o with _ | (_ | _ | _) <;> rfl
theorem rsE_some {x : EV} : rsE (some (.e x)) = some x := rfl
def rbE (k : Nat) (agg : Bool) : Option SV → Option EV
  | some (.bx cs) => if cs.length = k then (if agg then some (.ag cs) else match cs with | [x] => some (.c (rdC x)) | _ => none) else none
  | _ => none
theorem aEV_c {sl : List SV} {h : List HB} {n k : Nat} {agg : Bool} : aEV ⟨sl, h⟩ (.c n k agg) = rbE k agg (sl[n]?) := by
  simp only [aEV]
  generalize sl[n]? = o
  rcases o with _ | (_ | _ | _) <;> rfl
theorem rbE_some {k : Nat} {cs : List AC} (h : Nat.beq cs.length k = true) : rbE k true (some (.bx cs)) = some (.ag cs) := by
  have : cs.length = k := Nat.eq_of_beq_eq_true h
  simp [rbE, this]
theorem wrap_len {n : Nat} (h : n < 1000000000) : IntKind.i64.wrap ((n : Int) + 1) = ((n + 1 : Nat) : Int) := by
  rw [IntKind.wrap_i64]; omega
end
end Go.Abs
