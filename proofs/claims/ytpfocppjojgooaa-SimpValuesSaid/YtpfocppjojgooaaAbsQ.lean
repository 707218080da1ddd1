/-
  From the body to the call: a function whose abstract body comes to r returns what r stands for. Program-independent.
-/
import Derived.Test.YtpfocppjojgooaaAbsP
set_option linter.unusedSimpArgs false
set_option linter.unusedVariables false
namespace Go.Abs

def aEV (st : St) : AR → Option EV
  | .s n => match st.sl[n]? with
    | some (.e x) => some x
    | _ => none
  | .c n k agg => match st.sl[n]? with
    | some (.bx cs) => if cs.length = k then (if agg then some (.ag cs) else match cs with | [x] => some (.c (rdC x)) | _ => none) else none
    | _ => none
def aEVs (st : St) : List AR → Option (List EV)
  | [] => some []
  | r :: rs => match aEV st r, aEVs st rs with
    | some x, some xs => some (x :: xs)
    | _, _ => none
def AR.slot : AR → Nat
  | .s n => n
  | .c n _ _ => n
def aRes (st : St) : List AR → Option SV
  | [r] => (aEV st r).map .e
  | rs => (aEVs st rs).map .tu

def AC.nr : AC → Bool
  | .t _ | .und | .os _ _ | .ex _ _ | .tp _ _ => true
  | _ => false
def EV.nr : EV → Bool
  | .c x => x.nr
  | .ag xs => xs.all (·.nr)
def SV.nr : SV → Bool
  | .e x => x.nr
  | .tu xs => xs.all (·.nr)
  | .bx _ => false

def resOk (P : Program) : List ResultVar → List AR → Bool
  | [], [] => true
  | .tmp t :: rs, .s n :: as => t == n && resOk P rs as
  | .cell a T :: rs, .c n k agg :: as => a == n && shp P T k agg && resOk P rs as
  | _, _ => false
def distinct : List Nat → Bool
  | [] => true
  | x :: xs => !xs.contains x && distinct xs

def chkF (P : Program) (fn : Func) (af : AF) : Bool :=
  fn.ntmps == af.nt && resOk P fn.results.toList af.res && distinct (af.res.map AR.slot) && !(fn.name == "runtime.NumGoroutine") && (match fn.body with | some c => chkC P c af.body | none => false)

def initS (nt : Nat) (xs : List TV) : St := { sl := xs.map SV.ofT ++ List.replicate (nt - xs.length) und, h := [] }
def retQ (af : AF) (r : SV) : Exit → St → Prop
  | .normal, st | .ret, st => aRes st af.res = some r
  | _, _ => False

section
variable {P : Program} {w : World} {g g2 : Gh} {tmps : Array Value} {st : St}

theorem ACR.rename0 {own own2 : List Nat} {x : AC} {v : Value} (hx : x.nr = true) (h : ACR w g own x v) (hF : g2.Fz = g.Fz) (ho : own ≠ [] → own2 ≠ [] ∧ ∀ c, g.om c = own → g2.om c = own2) : ACR w g2 own2 x v := by
  cases h with
  | t h => exact .t (hF ▸ h)
  | und => exact .und
  | os wd rows c cap arr Ty u hom hne hbk hsz hcap hw hc hz =>
    obtain ⟨a, b⟩ := ho hne
    exact .os wd rows c cap arr Ty u (b c hom) a hbk hsz hcap hw (hF ▸ hc) (hF ▸ hz)
  | ex wd rows c cap arr Ty u hom hne hbk hsz hcap hw hc hz =>
    obtain ⟨a, b⟩ := ho hne
    exact .ex wd rows c cap arr Ty u (b c hom) a hbk hsz hcap hw (hF ▸ hc) (hF ▸ hz)
  | tp row col c o u hc => exact .tp row col c o u (hF ▸ hc)
  | _ => cases hx

theorem EVR.rename0 {own own2 : List Nat} {x : EV} {v : Value} (hx : x.nr = true) (h : EVR w g own x v) (hF : g2.Fz = g.Fz) (h2 : own2 ≠ []) (ho : ∀ r c, g.om c = own ++ r → g2.om c = own2 ++ r) : EVR w g2 own2 x v := by
  cases h with
  | c h => exact .c (h.rename0 hx hF (fun _ => ⟨h2, fun c hc => by simpa using ho [] c (by simpa using hc)⟩))
  | ag h =>
    refine .ag ⟨h.1, fun j y v e1 e2 => ⟨(h.2 j y v e1 e2).1, (h.2 j y v e1 e2).2.rename0 ?_ hF (fun _ => ⟨by simp, fun c hc => ho [j] c hc⟩)⟩⟩
    simp only [EV.nr, List.all_eq_true] at hx
    exact hx y (List.mem_of_getElem? e1)

theorem SVR.ofT {x : TV} {v : Value} (h : TVR w g.Fz x v) (own : List Nat) : SVR w g own (.ofT x) v := by
  cases h with
  | tu vs a hs hr =>
    refine .tu _ a (by rw [hs, List.length_map]) (fun j y v e1 e2 => ?_)
    obtain ⟨z, z1, rfl⟩ := map_get e1
    exact EVR.ofT (hr j z v z1 e2) _
  | ag cs a hs h1 hr => exact .e (EVR.ofT (.ag cs a hs h1 hr) own)
  | b x => exact .e (.c (.t (.b x)))
  | i k n => exact .e (.c (.t (.i k n)))
  | s a => exact .e (.c (.t (.s a)))
  | nl => exact .e (.c (.t .nl))
  | ns => exact .e (.c (.t .ns))
  | nm => exact .e (.c (.t .nm))
  | nf => exact .e (.c (.t .nf))
  | ni => exact .e (.c (.t .ni))
  | ts0 => exact .e (.c (.t .ts0))
  | tse a cap => exact .e (.c (.t (.tse a cap)))
  | ts rows wd c o cap u hw hcap hc hr h1 => exact .e (.c (.t (.ts rows wd c o cap u hw hcap hc hr h1)))
  | fn f caps a hs hr => exact .e (.c (.t (.fn f caps a hs hr)))
  | ifc t x v hr => exact .e (.c (.t (.ifc t x v hr)))

/-- one result -/
theorem res_one (h : StR w g tmps st) {rv : ResultVar} {ar : AR} {x : EV} (hk : resOk P [rv] [ar] = true) (hx : aEV st ar = some x) :
    ∃ v, (match rv with | .tmp t => pure (tmps.getD t undef) | .cell a t => do loadVar t (← asAddr (tmps.getD a undef)) : Sem Value).run P w = .ok v w ∧ EVR w g [0, ar.slot] x v := by
  cases rv with
  | tmp t =>
    cases ar with
    | s n =>
      simp only [resOk, Bool.and_true, beq_iff_eq] at hk
      subst hk
      simp only [aEV] at hx
      split at hx
      · rename_i y hy
        cases hx
        obtain ⟨v, v1, v2, v3⟩ := h.get hy
        refine ⟨v, by simp [v2], ?_⟩
        cases v3 with | e q => exact q
      · cases hx
    | c n k agg => simp [resOk] at hk
  | cell a T =>
    cases ar with
    | s n => simp [resOk] at hk
    | c n k agg =>
      simp only [resOk, Bool.and_true, Bool.and_eq_true, beq_iff_eq] at hk
      obtain ⟨rfl, hsh⟩ := hk
      simp only [aEV] at hx
      split at hx
      · rename_i cs hs
        split at hx
        · rename_i hk
          obtain ⟨v, v1, v2, v3⟩ := h.get hs
          obtain ⟨c, arr, Ty, rfl, e1, e2, e3, e4⟩ := bx_get v3
          have hcell : ∀ (j : Nat) (v : Value), arr.toList[j]? = some v → w.cell? ⟨c, 0 + j, none⟩ = some v := by
            intro j v hv; rw [cell_of_block e2, Nat.zero_add]; simpa using hv
          have hl := run_load_at (P := P) (w := w) hsh c 0 arr.toList (by simp [e4.1, hk]) hcell
          simp only [Instr.loadAt, Instr.sureAddr, pure_bind] at hl
          refine ⟨_, by dsimp only; rw [v2]; simp only [asAddr, pure_bind]; exact hl, ?_⟩
          cases agg with
          | true =>
            simp only [if_true] at hx ⊢
            cases hx
            exact .ag e4
          | false =>
            simp only [Bool.false_eq_true, if_false] at hx ⊢
            split at hx
            · rename_i y
              cases hx
              have hlt : 0 < arr.size := by rw [e4.1]; simp
              have ha : arr[0]? = some arr[0] := by simp [hlt]
              have : arr.toList.getD 0 undef = arr[0] := by simp [List.getD, hlt]
              rw [this]
              exact .c ((e4.2 0 y _ rfl ha).2.read _)
            · cases hx
        · cases hx
      · cases hx

theorem res_all (h : StR w g tmps st) : ∀ (rvs : List ResultVar) (ars : List AR) (xs : List EV), resOk P rvs ars = true → aEVs st ars = some xs →
    ∃ vs : List Value, (rvs.mapM fun rv => (match rv with | .tmp t => pure (tmps.getD t undef) | .cell a t => do loadVar t (← asAddr (tmps.getD a undef)) : Sem Value)).run P w = .ok vs w ∧ vs.length = xs.length ∧ rvs.length = xs.length ∧ ars.length = xs.length ∧
      ∀ (k : Nat) (x : EV) (v : Value) (ar : AR), xs[k]? = some x → vs[k]? = some v → ars[k]? = some ar → EVR w g [0, ar.slot] x v
  | [], [], xs, _, hx => by simp [aEVs] at hx; subst hx; exact ⟨[], by simp, rfl, rfl, rfl, fun k x v ar e => by simp at e⟩
  | [], ar :: _, _, hk, _ => by simp [resOk] at hk
  | rv :: _, [], _, hk, _ => by cases rv <;> simp [resOk] at hk
  | rv :: rvs, ar :: ars, xs, hk, hx => by
    have hk1 : resOk P [rv] [ar] = true ∧ resOk P rvs ars = true := by
      cases rv <;> cases ar <;> simp_all [resOk]
    simp only [aEVs] at hx
    split at hx
    · rename_i y ys h1 h2
      cases hx
      obtain ⟨v, r1, r2⟩ := res_one h hk1.1 h1
      obtain ⟨vs, s1, s2, s2', s2'', s3⟩ := res_all h rvs ars ys hk1.2 h2
      refine ⟨v :: vs, ?_, by simp [s2], by simp [s2'], by simp [s2''], fun k x u ar' e1 e2 e3 => ?_⟩
      · simp only [List.mapM_cons, Sem.run_bind, r1, Result.andThen_ok, s1, Sem.run_pure]
      · cases k with
        | zero => simp at e1 e2 e3; subst e1 e2 e3; exact r2
        | succ k => exact s3 k x u ar' (by simpa using e1) (by simpa using e2) (by simpa using e3)
    · cases hx

/-- owners of what is handed back -/
def rnO (pre : Nat → List Nat) : List Nat → Nat → List Nat → List Nat
  | [], _, _ => []
  | s :: ss, k, o => if o.take 2 = [0, s] then pre k ++ o.drop 2 else rnO pre ss (k + 1) o

theorem rnO_hit (pre : Nat → List Nat) : ∀ (ss : List Nat) (i k s : Nat) (r : List Nat), distinct ss = true → ss[k]? = some s → rnO pre ss i ([0, s] ++ r) = pre (i + k) ++ r
  | [], i, k, s, r, _, h => by simp at h
  | t :: ss, i, k, s, r, hd, h => by
    simp only [distinct, Bool.and_eq_true, Bool.not_eq_true', List.contains_eq_mem, decide_eq_false_iff_not] at hd
    simp only [rnO]
    cases k with
    | zero => simp at h; subst h; simp
    | succ k =>
      simp at h
      have hne : s ≠ t := by rintro rfl; exact hd.1 (List.mem_of_getElem? h)
      rw [if_neg (by simp; exact hne), rnO_hit pre ss (i + 1) k s r hd.2 h]
      congr 2; omega

theorem rnO_nil (pre : Nat → List Nat) : ∀ (ss : List Nat) (i : Nat), rnO pre ss i [] = []
  | [], i => rfl
  | s :: ss, i => by simp [rnO, rnO_nil pre ss (i + 1)]

theorem pcalls_intro {f : FuncId} {fn : Func} {af : AF} {xs : List TV} {r : SV} (hf : P.funcs[f]? = some fn) (hc : chkF P fn af = true) (hnr : r.nr = true) (hlen : xs.length ≤ af.nt)
    (h : awp P af.body (retQ af r) (initS af.nt xs)) : PCalls P f xs r := by
  simp only [chkF, Bool.and_eq_true, Bool.not_eq_true', beq_iff_eq] at hc
  obtain ⟨⟨⟨⟨c1, c2⟩, c3⟩, c4⟩, c5⟩ := hc
  cases hb : fn.body with
  | none => rw [hb] at c5; cases c5
  | some code =>
    rw [hb] at c5
    refine ⟨⟨fn, hf, c4, by rw [hb]; rfl⟩, fun w Fz be vs hz hs hv => ?_⟩
    let g0 : Gh := { Fz, be, om := fun _ => [], n := 0 }
    have hst : StR w g0 (vs ++ Array.replicate (fn.ntmps - vs.size) undef) (initS af.nt xs) := by
      refine ⟨by simp [initS, c1, hs], fun s x v e1 e2 => ?_, fun i b e => by simp [initS] at e, hz, fun c hc => (hc rfl).elim, rfl⟩
      simp only [initS] at e1
      rcases app_get e1 with ⟨hi, e1⟩ | ⟨hi, e1⟩
      · obtain ⟨y, y1, rfl⟩ := map_get e1
        rw [Array.getElem?_append_left (by rw [hs]; simpa using hi)] at e2
        exact SVR.ofT (hv s y v y1 e2) _
      · rw [List.getElem?_replicate] at e1
        split at e1
        · cases e1; exact SVR.und _ _ _ _
        · cases e1
    refine calls_of_wp hf hb (wp_mono (awp_sound (w0 := w) (g0 := g0) af.body code _ ⟨_, []⟩ w g0 _ c5 rfl hst (Stp.refl w g0 NE (fun h => h rfl)) h) ?_)
    -- the end of the body
    have fin : ∀ (a : Act) (w' : World), (∃ st g, StR w' g a.tmps st ∧ Stp w g0 w' g NE ∧ aRes st af.res = some r) → ∃ v, (results fn a.tmps).run P w' = .ok v w' ∧
        ∃ v' g', Ending.returned v = .returned v' ∧ SVR w' g' [3] r v' ∧ g'.n = 0 ∧ Stp w g0 w' g' NE ∧ (∀ c o, g'.Fz c o → c < w'.heap.size) ∧ (∀ c, g'.om c ≠ [] → c < w'.heap.size) := by
      rintro ⟨tmps, ds⟩ w' ⟨st, g, hS, hT, hr⟩
      have ghost : ∀ (pre : Nat → List Nat), Stp w g0 w' { Fz := g.Fz, be := g.be, n := 0, om := fun c => rnO pre (af.res.map AR.slot) 0 (g.om c) } NE ∧
          (∀ c, rnO pre (af.res.map AR.slot) 0 (g.om c) ≠ [] → c < w'.heap.size) := by
        intro pre
        have hne : ∀ c, rnO pre (af.res.map AR.slot) 0 (g.om c) ≠ [] → g.om c ≠ [] := fun c hc e => hc (by rw [e, rnO_nil])
        refine ⟨⟨hT.size, hT.heap, hT.fz, hT.fznew, fun c hc ht => ?_, fun c hc => hT.omnew c (hne c hc), fun i hi => (Nat.not_lt_zero _ hi).elim, Nat.le_refl _, hT.out, hT.os, hT.no⟩, fun c hc => hS.om c (hne c hc)⟩
        have : g.om c = [] := hT.om c hc (fun h => h rfl)
        simp only [this, rnO_nil]; rfl
      unfold aRes at hr
      split at hr
      · rename_i ar hres
        cases he : aEV st ar with
        | none => rw [he] at hr; cases hr
        | some x =>
          rw [he] at hr; cases hr
          rw [hres] at c2
          match hrv : fn.results.toList, c2 with
          | [rv], c2 =>
            obtain ⟨v, v1, v2⟩ := res_one hS c2 he
            have hrr : fn.results = #[rv] := by rw [← Array.toArray_toList (xs := fn.results), hrv]
            obtain ⟨s1, s2⟩ := ghost (fun _ => [3])
            refine ⟨v, ?_, v, _, rfl, ?_, rfl, s1, hS.fz, s2⟩
            · have v1' : ([rv].mapM fun rv => (match rv with | .tmp t => pure (tmps.getD t undef) | .cell a t => do loadVar t (← asAddr (tmps.getD a undef)) : Sem Value)).run P w' = .ok [v] w' := by
                simp only [List.mapM_cons, List.mapM_nil, Sem.run_bind, v1, Result.andThen_ok, Sem.run_pure]
              simp only [results, hrr, Array.mapM_eq_mapM_toList, Sem.run_bind, Sem.run_map]
              refine (congrArg (fun r => Result.andThen (Result.andThen r _) _) v1').trans ?_
              rfl
            · refine .e (v2.rename0 hnr rfl (by simp) (fun q c hc => ?_))
              have := rnO_hit (fun _ => [3]) (af.res.map AR.slot) 0 0 ar.slot q c3 (by rw [hres]; rfl)
              simp only [hc]
              exact this
          | [], c2 => simp [resOk] at c2
          | rv :: _ :: _, c2 => cases rv <;> cases ar <;> simp [resOk] at c2
      · rename_i hne
        cases he : aEVs st af.res with
        | none => rw [he] at hr; cases hr
        | some ys =>
          rw [he] at hr; cases hr
          obtain ⟨us, r1, r2, r2', r2'', r3⟩ := res_all hS _ _ _ c2 he
          obtain ⟨s1, s2⟩ := ghost (fun k => [3, k])
          have hnot1 : us.length ≠ 1 := by
            intro e
            have : af.res.length = 1 := by rw [r2'', ← r2, e]
            match hh : af.res, this with
            | [ar], _ => exact hne ar hh
          refine ⟨.tuple us.toArray, ?_, .tuple us.toArray, _, rfl, ?_, rfl, s1, hS.fz, s2⟩
          · simp only [results, Array.mapM_eq_mapM_toList, Sem.run_bind, Sem.run_map]
            refine (congrArg (fun r => Result.andThen (Result.andThen r _) _) r1).trans ?_
            simp only [Result.andThen_ok]
            rw [dif_neg (by simpa using hnot1)]
            rfl
          · refine .tu ys us.toArray (by simpa using r2) (fun k x v e1 e2 => ?_)
            have hk : k < af.res.length := by rw [r2'']; exact get_lt e1
            have ear : af.res[k]? = some af.res[k] := by simp [hk]
            have hxnr : x.nr = true := by
              simp only [SV.nr, List.all_eq_true] at hnr
              exact hnr x (List.mem_of_getElem? e1)
            refine (r3 k x v _ e1 (by simpa using e2) ear).rename0 hxnr rfl (by simp) (fun q c hc => ?_)
            have := rnO_hit (fun k => [3, k]) (af.res.map AR.slot) 0 k af.res[k].slot q c3 (by simp [hk])
            simp only [hc]
            rw [this]; simp
    intro e a w' hl
    obtain ⟨hd, st, g, h1, h2, h3⟩ := hl
    cases e <;> first
      | (obtain ⟨v, q1, q2⟩ := fin a w' ⟨st, g, h1, h2, h3⟩; exact ⟨hd, v, q1, q2⟩)
      | exact h3.elim


/-- called with trees the function returns what one of R stands for -/
def PCallsS (P : Program) (f : FuncId) (xs : List TV) (R : SV → Prop) : Prop :=
  Enters P f ∧ ∀ (w : World) (Fz : Nat → Nat → Prop) (be : Nat → Nat) (vs : Array Value), (∀ c o, Fz c o → c < w.heap.size) → vs.size = xs.length →
    (∀ (i : Nat) (x : TV) (v : Value), xs[i]? = some x → vs[i]? = some v → TVR w Fz x v) →
    Calls P f vs w fun e w' => ∃ r v g', R r ∧ e = .returned v ∧ SVR w' g' [3] r v ∧ g'.n = 0 ∧ Stp w { Fz, be, om := fun _ => [], n := 0 } w' g' (fun o => o ≠ []) ∧
      (∀ c o, g'.Fz c o → c < w'.heap.size) ∧ (∀ c, g'.om c ≠ [] → c < w'.heap.size)
def retS (af : AF) (R : SV → Prop) : Exit → St → Prop
  | .normal, st | .ret, st => ∃ r, aRes st af.res = some r ∧ R r
  | _, _ => False

theorem pcallsS_intro {f : FuncId} {fn : Func} {af : AF} {xs : List TV} {R : SV → Prop} (hf : P.funcs[f]? = some fn) (hc : chkF P fn af = true) (hnrR : ∀ r, R r → r.nr = true) (hlen : xs.length ≤ af.nt)
    (h : awp P af.body (retS af R) (initS af.nt xs)) : PCallsS P f xs R := by
  simp only [chkF, Bool.and_eq_true, Bool.not_eq_true', beq_iff_eq] at hc
  obtain ⟨⟨⟨⟨c1, c2⟩, c3⟩, c4⟩, c5⟩ := hc
  cases hb : fn.body with
  | none => rw [hb] at c5; cases c5
  | some code =>
    rw [hb] at c5
    refine ⟨⟨fn, hf, c4, by rw [hb]; rfl⟩, fun w Fz be vs hz hs hv => ?_⟩
    let g0 : Gh := { Fz, be, om := fun _ => [], n := 0 }
    have hst : StR w g0 (vs ++ Array.replicate (fn.ntmps - vs.size) undef) (initS af.nt xs) := by
      refine ⟨by simp [initS, c1, hs], fun s x v e1 e2 => ?_, fun i b e => by simp [initS] at e, hz, fun c hc => (hc rfl).elim, rfl⟩
      simp only [initS] at e1
      rcases app_get e1 with ⟨hi, e1⟩ | ⟨hi, e1⟩
      · obtain ⟨y, y1, rfl⟩ := map_get e1
        rw [Array.getElem?_append_left (by rw [hs]; simpa using hi)] at e2
        exact SVR.ofT (hv s y v y1 e2) _
      · rw [List.getElem?_replicate] at e1
        split at e1
        · cases e1; exact SVR.und _ _ _ _
        · cases e1
    refine calls_of_wp hf hb (wp_mono (awp_sound (w0 := w) (g0 := g0) af.body code _ ⟨_, []⟩ w g0 _ c5 rfl hst (Stp.refl w g0 NE (fun h => h rfl)) h) ?_)
    -- the end of the body
    have fin : ∀ (a : Act) (w' : World), (∃ st g, StR w' g a.tmps st ∧ Stp w g0 w' g NE ∧ ∃ r, aRes st af.res = some r ∧ R r) → ∃ v, (results fn a.tmps).run P w' = .ok v w' ∧
        ∃ r v' g', R r ∧ Ending.returned v = .returned v' ∧ SVR w' g' [3] r v' ∧ g'.n = 0 ∧ Stp w g0 w' g' NE ∧ (∀ c o, g'.Fz c o → c < w'.heap.size) ∧ (∀ c, g'.om c ≠ [] → c < w'.heap.size) := by
      rintro ⟨tmps, ds⟩ w' ⟨st, g, hS, hT, r, hr, hRr⟩
      have hnr := hnrR r hRr
      have ghost : ∀ (pre : Nat → List Nat), Stp w g0 w' { Fz := g.Fz, be := g.be, n := 0, om := fun c => rnO pre (af.res.map AR.slot) 0 (g.om c) } NE ∧
          (∀ c, rnO pre (af.res.map AR.slot) 0 (g.om c) ≠ [] → c < w'.heap.size) := by
        intro pre
        have hne : ∀ c, rnO pre (af.res.map AR.slot) 0 (g.om c) ≠ [] → g.om c ≠ [] := fun c hc e => hc (by rw [e, rnO_nil])
        refine ⟨⟨hT.size, hT.heap, hT.fz, hT.fznew, fun c hc ht => ?_, fun c hc => hT.omnew c (hne c hc), fun i hi => (Nat.not_lt_zero _ hi).elim, Nat.le_refl _, hT.out, hT.os, hT.no⟩, fun c hc => hS.om c (hne c hc)⟩
        have : g.om c = [] := hT.om c hc (fun h => h rfl)
        simp only [this, rnO_nil]; rfl
      unfold aRes at hr
      split at hr
      · rename_i ar hres
        cases he : aEV st ar with
        | none => rw [he] at hr; cases hr
        | some x =>
          rw [he] at hr; cases hr
          rw [hres] at c2
          match hrv : fn.results.toList, c2 with
          | [rv], c2 =>
            obtain ⟨v, v1, v2⟩ := res_one hS c2 he
            have hrr : fn.results = #[rv] := by rw [← Array.toArray_toList (xs := fn.results), hrv]
            obtain ⟨s1, s2⟩ := ghost (fun _ => [3])
            refine ⟨v, ?_, _, v, _, hRr, rfl, ?_, rfl, s1, hS.fz, s2⟩
            · have v1' : ([rv].mapM fun rv => (match rv with | .tmp t => pure (tmps.getD t undef) | .cell a t => do loadVar t (← asAddr (tmps.getD a undef)) : Sem Value)).run P w' = .ok [v] w' := by
                simp only [List.mapM_cons, List.mapM_nil, Sem.run_bind, v1, Result.andThen_ok, Sem.run_pure]
              simp only [results, hrr, Array.mapM_eq_mapM_toList, Sem.run_bind, Sem.run_map]
              refine (congrArg (fun r => Result.andThen (Result.andThen r _) _) v1').trans ?_
              rfl
            · refine .e (v2.rename0 hnr rfl (by simp) (fun q c hc => ?_))
              have := rnO_hit (fun _ => [3]) (af.res.map AR.slot) 0 0 ar.slot q c3 (by rw [hres]; rfl)
              simp only [hc]
              exact this
          | [], c2 => simp [resOk] at c2
          | rv :: _ :: _, c2 => cases rv <;> cases ar <;> simp [resOk] at c2
      · rename_i hne
        cases he : aEVs st af.res with
        | none => rw [he] at hr; cases hr
        | some ys =>
          rw [he] at hr; cases hr
          obtain ⟨us, r1, r2, r2', r2'', r3⟩ := res_all hS _ _ _ c2 he
          obtain ⟨s1, s2⟩ := ghost (fun k => [3, k])
          have hnot1 : us.length ≠ 1 := by
            intro e
            have : af.res.length = 1 := by rw [r2'', ← r2, e]
            match hh : af.res, this with
            | [ar], _ => exact hne ar hh
          refine ⟨.tuple us.toArray, ?_, _, .tuple us.toArray, _, hRr, rfl, ?_, rfl, s1, hS.fz, s2⟩
          · simp only [results, Array.mapM_eq_mapM_toList, Sem.run_bind, Sem.run_map]
            refine (congrArg (fun r => Result.andThen (Result.andThen r _) _) r1).trans ?_
            simp only [Result.andThen_ok]
            rw [dif_neg (by simpa using hnot1)]
            rfl
          · refine .tu ys us.toArray (by simpa using r2) (fun k x v e1 e2 => ?_)
            have hk : k < af.res.length := by rw [r2'']; exact get_lt e1
            have ear : af.res[k]? = some af.res[k] := by simp [hk]
            have hxnr : x.nr = true := by
              simp only [SV.nr, List.all_eq_true] at hnr
              exact hnr x (List.mem_of_getElem? e1)
            refine (r3 k x v _ e1 (by simpa using e2) ear).rename0 hxnr rfl (by simp) (fun q c hc => ?_)
            have := rnO_hit (fun k => [3, k]) (af.res.map AR.slot) 0 k af.res[k].slot q c3 (by simp [hk])
            simp only [hc]
            rw [this]; simp
    intro e a w' hl
    obtain ⟨hd, st, g, h1, h2, h3⟩ := hl
    cases e <;> first
      | (obtain ⟨v, q1, q2⟩ := fin a w' ⟨st, g, h1, h2, h3⟩; exact ⟨hd, v, q1, q2⟩)
      | exact h3.elim


/- functions that refer to blocks -/
def initH (nt : Nat) (xs : List EV) (h : List HB) : St := { sl := xs.map SV.e ++ List.replicate (nt - xs.length) und, h := h }
/-- the same blocks, less known of them -/
def Less (h h' : List HB) : Prop := h'.length = h.length ∧ ∀ (i : Nat) (b : HB), h'[i]? = some b → h[i]? = some b ∨ b = .gone
def retH (af : AF) (r : SV) (h' : List HB) : Exit → St → Prop
  | .normal, st | .ret, st => aRes st af.res = some r ∧ Less st.h h'
  | _, _ => False
theorem Less.refl (h : List HB) : Less h h := ⟨rfl, fun _ _ e => .inl e⟩

def rnH (pre : Nat → List Nat) (ss : List Nat) (o : List Nat) : List Nat := if o.head? = some 1 then o else rnO pre ss 0 o
theorem rnH_nil (pre : Nat → List Nat) (ss : List Nat) : rnH pre ss [] = [] := by simp [rnH, rnO_nil]
theorem rnH_one (pre : Nat → List Nat) (ss : List Nat) (r : List Nat) : rnH pre ss (1 :: r) = 1 :: r := by simp [rnH]
theorem rnH_hit (pre : Nat → List Nat) (ss : List Nat) (k s : Nat) (r : List Nat) (hd : distinct ss = true) (h : ss[k]? = some s) : rnH pre ss ([0, s] ++ r) = pre k ++ r := by
  have : ([0, s] ++ r).head? ≠ some 1 := by simp
  rw [rnH, if_neg this]
  have := rnO_hit pre ss 0 k s r hd h
  simpa using this
theorem rnO_pre (pre : Nat → List Nat) : ∀ (ss : List Nat) (i : Nat) (o : List Nat), rnO pre ss i o = [] ∨ ∃ k r, rnO pre ss i o = pre k ++ r
  | [], _, _ => .inl rfl
  | s :: ss, i, o => by
    simp only [rnO]
    split
    · exact .inr ⟨i, _, rfl⟩
    · exact rnO_pre pre ss (i + 1) o

theorem acalls_intro {f : FuncId} {fn : Func} {af : AF} {xs : List EV} {h h' : List HB} {r : SV} (hf : P.funcs[f]? = some fn) (hc : chkF P fn af = true) (hlen : xs.length ≤ af.nt)
    (hw : awp P af.body (retH af r h') (initH af.nt xs h)) : ACalls P f xs h r h' := by
  simp only [chkF, Bool.and_eq_true, Bool.not_eq_true', beq_iff_eq] at hc
  obtain ⟨⟨⟨⟨c1, c2⟩, c3⟩, c4⟩, c5⟩ := hc
  cases hb : fn.body with
  | none => rw [hb] at c5; cases c5
  | some code =>
    rw [hb] at c5
    refine ⟨⟨fn, hf, c4, by rw [hb]; rfl⟩, fun w g0 vs hh hom hs hv => ?_⟩
    have hnil : ∀ c, g0.om c = [] → (g0.mv [4] [0]).om c = [] := fun c hc => by
      rw [Gh.mv_other]
      · exact hc
      · rintro ⟨q, hq⟩; rw [hc] at hq; cases hq
    have hnn : ∀ c, (g0.mv [4] [0]).om c ≠ [] → g0.om c ≠ [] := fun c hc e => hc (hnil c e)
    have hst : StR w (g0.mv [4] [0]) (vs ++ Array.replicate (fn.ntmps - vs.size) undef) (initH af.nt xs h) := by
      refine ⟨by simp [initH, c1, hs], fun s x v e1 e2 => ?_, fun i b e => (hh.hp i b e).rename (by rw [hh.n]; exact get_lt e) rfl (fun _ _ => rfl) (Nat.le_refl _) (fun r c hc => ?_), hh.fz, fun c hc => hh.om c (hnn c hc), hh.n⟩
      rotate_left
      · rw [Gh.mv_other]
        · exact hc
        · rintro ⟨q, hq⟩; rw [hc] at hq; simp at hq
      simp only [initH] at e1
      rcases app_get e1 with ⟨hi, e1⟩ | ⟨hi, e1⟩
      · obtain ⟨y, y1, rfl⟩ := map_get e1
        rw [Array.getElem?_append_left (by rw [hs]; simpa using hi)] at e2
        exact .e ((hv s y v y1 e2).rename rfl (fun _ _ => rfl) (Nat.le_refl _) (by simp) (fun r c hc => Gh.mv_under g0 [4] [0] (s :: r) c hc))
      · rw [List.getElem?_replicate] at e1
        split at e1
        · cases e1; exact SVR.und _ _ _ _
        · cases e1
    refine calls_of_wp hf hb (wp_mono (awp_sound (w0 := w) (g0 := g0.mv [4] [0]) af.body code _ ⟨_, []⟩ w (g0.mv [4] [0]) _ c5 rfl hst (Stp.refl w _ NE (fun h => h rfl)) hw) ?_)
    -- the end of the body
    have fin : ∀ (a : Act) (w' : World), (∃ st g, StR w' g a.tmps st ∧ Stp w (g0.mv [4] [0]) w' g NE ∧ aRes st af.res = some r ∧ Less st.h h') → ∃ v, (results fn a.tmps).run P w' = .ok v w' ∧
        ∃ v' g', Ending.returned v = .returned v' ∧ SVR w' g' [3] r v' ∧ HpR w' g' h' ∧ (∀ c, g'.om c ≠ [] → hOwn (g'.om c) ∨ Under [3] (g'.om c)) ∧ Stp w g0 w' g' NE := by
      rintro ⟨tmps, ds⟩ w' ⟨st, g, hS, hT, hr, hL⟩
      have ghost : ∀ (pre : Nat → List Nat), (∀ k, Under [3] (pre k)) → HpR w' { Fz := g.Fz, be := g.be, n := g.n, om := fun c => rnH pre (af.res.map AR.slot) (g.om c) } h' ∧
          (∀ c, rnH pre (af.res.map AR.slot) (g.om c) ≠ [] → hOwn (rnH pre (af.res.map AR.slot) (g.om c)) ∨ Under [3] (rnH pre (af.res.map AR.slot) (g.om c))) ∧
          Stp w g0 w' { Fz := g.Fz, be := g.be, n := g.n, om := fun c => rnH pre (af.res.map AR.slot) (g.om c) } NE := by
        intro pre hpre
        have hne : ∀ c, rnH pre (af.res.map AR.slot) (g.om c) ≠ [] → g.om c ≠ [] := fun c hc e => hc (by rw [e, rnH_nil])
        refine ⟨⟨fun i b e => ?_, hS.n.trans hL.1.symm, hS.fz, fun c hc => hS.om c (hne c hc)⟩, fun c hc => ?_,
          ⟨hT.size, fun c hc ht => hT.heap c hc (fun h => ht (hnn c h)), hT.fz, fun c o hz => (hT.fznew c o hz).imp id (fun h => h.imp id (hnn c)), fun c hc ht => ?_, fun c hc => (hT.omnew c (hne c hc)).imp id (hnn c), hT.be, hT.n, hT.out, hT.os, hT.no⟩⟩
        · rcases hL.2 i b e with e | rfl
          · refine (hS.hp i b e).rename (by rw [hS.n]; exact get_lt e) rfl (fun _ _ => rfl) (Nat.le_refl _) (fun r c hc => ?_)
            show rnH _ _ (g.om c) = _
            rw [hc, rnH_one]
          · trivial
        · by_cases h1 : (g.om c).head? = some 1
          · left
            obtain ⟨r, hr⟩ : ∃ r, g.om c = 1 :: r := by
              cases ho : g.om c with
              | nil => rw [ho] at h1; cases h1
              | cons a r => rw [ho] at h1; simp at h1; subst h1; exact ⟨r, rfl⟩
            rw [hr, rnH_one]; exact ⟨r, rfl⟩
          · right
            have e : rnH pre (af.res.map AR.slot) (g.om c) = rnO pre (af.res.map AR.slot) 0 (g.om c) := by rw [rnH, if_neg h1]
            rw [e] at hc ⊢
            rcases rnO_pre pre (af.res.map AR.slot) 0 (g.om c) with hx | ⟨k, q, hx⟩
            · exact (hc hx).elim
            · obtain ⟨z, hz⟩ := hpre k
              exact ⟨z ++ q, by rw [hx, hz, List.append_assoc]⟩
        · have : g0.om c = [] := by
            cases ho : g0.om c with
            | nil => rfl
            | cons a r => exact (ht (by show g0.om c ≠ []; rw [ho]; simp)).elim
          have h2 : g.om c = [] := (hT.om c hc (fun h => h (hnil c this))).trans (hnil c this)
          show rnH _ _ (g.om c) = g0.om c
          rw [h2, this, rnH_nil]
      unfold aRes at hr
      split at hr
      · rename_i ar hres
        cases he : aEV st ar with
        | none => rw [he] at hr; cases hr
        | some x =>
          rw [he] at hr; cases hr
          rw [hres] at c2
          match hrv : fn.results.toList, c2 with
          | [rv], c2 =>
            obtain ⟨v, v1, v2⟩ := res_one hS c2 he
            have hrr : fn.results = #[rv] := by rw [← Array.toArray_toList (xs := fn.results), hrv]
            obtain ⟨s1, s2, s3⟩ := ghost (fun _ => [3]) (fun k => ⟨[], rfl⟩)
            refine ⟨v, ?_, v, _, rfl, ?_, s1, s2, s3⟩
            · have v1' : ([rv].mapM fun rv => (match rv with | .tmp t => pure (tmps.getD t undef) | .cell a t => do loadVar t (← asAddr (tmps.getD a undef)) : Sem Value)).run P w' = .ok [v] w' := by
                simp only [List.mapM_cons, List.mapM_nil, Sem.run_bind, v1, Result.andThen_ok, Sem.run_pure]
              simp only [results, hrr, Array.mapM_eq_mapM_toList, Sem.run_bind, Sem.run_map]
              refine (congrArg (fun r => Result.andThen (Result.andThen r _) _) v1').trans ?_
              rfl
            · refine .e (v2.rename rfl (fun _ _ => rfl) (Nat.le_refl _) (by simp) (fun q c hc => ?_))
              have := rnH_hit (fun _ => [3]) (af.res.map AR.slot) 0 ar.slot q c3 (by rw [hres]; rfl)
              simp only [hc]
              exact this
          | [], c2 => simp [resOk] at c2
          | rv :: _ :: _, c2 => cases rv <;> cases ar <;> simp [resOk] at c2
      · rename_i hne
        cases he : aEVs st af.res with
        | none => rw [he] at hr; cases hr
        | some ys =>
          rw [he] at hr; cases hr
          obtain ⟨us, r1, r2, r2', r2'', r3⟩ := res_all hS _ _ _ c2 he
          obtain ⟨s1, s2, s3⟩ := ghost (fun k => [3, k]) (fun k => ⟨[k], rfl⟩)
          have hnot1 : us.length ≠ 1 := by
            intro e
            have : af.res.length = 1 := by rw [r2'', ← r2, e]
            match hh : af.res, this with
            | [ar], _ => exact hne ar hh
          refine ⟨.tuple us.toArray, ?_, .tuple us.toArray, _, rfl, ?_, s1, s2, s3⟩
          · simp only [results, Array.mapM_eq_mapM_toList, Sem.run_bind, Sem.run_map]
            refine (congrArg (fun r => Result.andThen (Result.andThen r _) _) r1).trans ?_
            simp only [Result.andThen_ok]
            rw [dif_neg (by simpa using hnot1)]
            rfl
          · refine .tu ys us.toArray (by simpa using r2) (fun k x v e1 e2 => ?_)
            have hk : k < af.res.length := by rw [r2'']; exact get_lt e1
            have ear : af.res[k]? = some af.res[k] := by simp [hk]
            refine (r3 k x v _ e1 (by simpa using e2) ear).rename rfl (fun _ _ => rfl) (Nat.le_refl _) (by simp) (fun q c hc => ?_)
            have := rnH_hit (fun k => [3, k]) (af.res.map AR.slot) k af.res[k].slot q c3 (by simp [hk])
            simp only [hc]
            rw [this]; simp
    intro e a w' hl
    obtain ⟨hd, st, g, h1, h2, h3⟩ := hl
    cases e <;> first
      | (obtain ⟨v, q1, q2⟩ := fin a w' ⟨st, g, h1, h2, h3⟩; exact ⟨hd, v, q1, q2⟩)
      | exact h3.elim

/-- what is a tree, seen as a value that owns nothing -/
theorem evr_ofT {x : TV} {v : Value} {own : List Nat} (h : EVR w g own (EV.ofT x) v) : TVR w g.Fz x v := by
  cases x with
  | ag cs =>
    cases h with
    | ag h =>
      obtain ⟨h1, h2⟩ := h
      refine .ag cs _ (by simpa using h1) (fun j y v e1 e2 => (h2 j (.t y) v (by simp [e1]) e2).1) (fun j y v e1 e2 => ?_)
      have := (h2 j (.t y) v (by simp [e1]) e2).2
      cases this with | t q => exact q
  | _ => cases h with | c h => cases h with | t h => exact h

/-- a function of trees, called where there are blocks -/
theorem PCalls.toA {f : FuncId} {xs : List TV} {r : SV} {h : List HB} (hp : PCalls P f xs r) (hnr : r.nr = true) : ACalls P f (xs.map EV.ofT) h r h := by
  refine ⟨hp.1, fun w g vs hh hom hs hv => ?_⟩
  refine (hp.2 w g.Fz g.be vs hh.fz (by simpa using hs) (fun i x v e1 e2 => ?_)).mono ?_
  · exact evr_ofT (hv i (EV.ofT x) v (by simp [e1]) e2)
  · rintro e w' ⟨v, g1, rfl, hr, hn, s, hfz, hom1⟩
    have hold : ∀ c, c < w.heap.size → g1.om c = [] := fun c hc => s.om c hc (fun h => h rfl)
    let g2 : Gh := { Fz := g1.Fz, be := g.be, n := g.n, om := fun c => if c < w.heap.size then (if (g.om c).take 1 = [4] then [] else g.om c) else if (g1.om c).take 1 = [3] then g1.om c else [] }
    have s2 : Stp w g w' g2 (Under [4]) := by
      refine ⟨s.size, fun c hc _ => s.heap c hc (fun h => h rfl), s.fz, fun c o hz => ?_, fun c hc ht => ?_, fun c hc => ?_, fun _ _ => rfl, Nat.le_refl _, s.out, s.os, not_under_nil⟩
      · rcases s.fznew c o hz with k | k | k
        · exact .inl k
        · exact .inr (.inl k)
        · exact (k rfl).elim
      · have : ¬ ((g.om c).take 1 = [4]) := fun h => ht (under_take (a := [4]) h)
        simp [g2, hc, this]
      · by_cases hlt : c < w.heap.size
        · by_cases h4 : (g.om c).take 1 = [4]
          · simp [g2, hlt, h4] at hc
          · simp [g2, hlt, h4] at hc; exact .inr hc
        · exact .inl (by omega)
    have hr2 : SVR w' g2 [3] r v := by
      cases hr with
      | e q =>
        refine .e (q.rename0 hnr rfl (by simp) (fun q c hc => ?_))
        have hge : ¬ c < w.heap.size := fun hlt => by rw [hold c hlt] at hc; cases hc
        simp [g2, hge, hc]
      | tu ys a hs hr =>
        refine .tu ys a hs (fun j x v e1 e2 => (hr j x v e1 e2).rename0 ?_ rfl (by simp) (fun q c hc => ?_))
        · simp only [SV.nr, List.all_eq_true] at hnr
          exact hnr x (List.mem_of_getElem? e1)
        · have hge : ¬ c < w.heap.size := fun hlt => by rw [hold c hlt] at hc; cases hc
          simp [g2, hge, hc]
      | bx => cases hnr
    refine ⟨v, g2, rfl, hr2, ⟨fun i b e => (hh.hp i b e).step s2 (by rw [hh.n]; exact get_lt e) (fun j r h => by obtain ⟨q, hq⟩ := h; simp at hq), hh.n, hfz, fun c hc => ?_⟩, fun c hc => ?_, s2.mono (fun o h => by obtain ⟨q, hq⟩ := h; rw [hq]; simp) (fun h => h rfl)⟩
    · by_cases hlt : c < w.heap.size
      · exact Nat.lt_of_lt_of_le hlt s.size
      · by_cases ht : (g1.om c).take 1 = [3]
        · simp [g2, hlt, ht] at hc; exact hom1 c hc
        · simp [g2, hlt, ht] at hc
    · by_cases hlt : c < w.heap.size
      · by_cases h4 : (g.om c).take 1 = [4]
        · simp [g2, hlt, h4] at hc
        · simp [g2, hlt, h4] at hc ⊢
          rcases hom c hc with h | h
          · exact .inl h
          · obtain ⟨q, hq⟩ := h; rw [hq] at h4; simp at h4
      · by_cases ht : (g1.om c).take 1 = [3]
        · right
          simp only [g2, hlt, if_false, ht, if_true]
          exact under_take (a := [3]) ht
        · simp [g2, hlt, ht] at hc

end
end Go.Abs
