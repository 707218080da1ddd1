/-
  A region in the order of its text: the model's run is covered by the abstract one. Program-independent.
-/
import Derived.Test.YtpfocppjojgooaaAbsN
import Derived.Orders
set_option linter.unusedSimpArgs false
set_option linter.unusedVariables false
namespace Go.Abs

def NE : List Nat → Prop := fun o => o ≠ []

section
variable {P : Program} {w w' w0 : World} {g g' g0 : Gh} {tmps tmps' : Array Value} {st st' : St} {G G' : Env} {ds : List Deferred}

theorem EntR.after_put {T : List Nat → Prop} {e : Nat × ER} (he : EntR w tmps st e.1 e.2) (h : StR w g tmps st) (s : Stp w g w' g' T) (d : Nat) (x : SV) (v : Value) (hT : ∀ o, T o → Under [0, d] o)
    (h1 : e.1 ≠ d) (h2 : e.2.slot ≠ d) : EntR w' (tmps.setIfInBounds d v) (st.put d x) e.1 e.2 := by
  have : EnvR w tmps st [e] := by
    intro t r hm
    have := List.mem_singleton.1 hm
    rw [← this] at he; exact he
  refine this.killed h s d x v hT e.1 e.2 ?_
  simp [kill, h1, h2]

theorem kill_dst {op : AOp} {e : Nat × ER} {d : Nat} (h : (killOp op [e]).isEmpty = false) (hd : op.dst = some d) : e.1 ≠ d ∧ e.2.slot ≠ d := by
  have hm := killOp_one op e h
  have k : ∀ (G : Env) d y, y ∈ kill G d → y ∈ G ∧ y.1 ≠ d ∧ y.2.slot ≠ d := fun G d y hy => by
    have := mem_kill (t := y.1) (r := y.2) hy; exact this
  have kb : ∀ (G : Env) d y, y ∈ killB G d → y ∈ G := fun G d y hy => (List.mem_filter.1 hy).1
  unfold killOp at hm
  split at hm
  · simp [AOp.dst] at hd
  · simp [AOp.dst] at hd; subst hd; exact (k _ _ _ (k _ _ _ hm).1).2
  · simp [AOp.dst] at hd; subst hd; exact (k _ _ _ (kb _ _ _ hm)).2
  · simp [AOp.dst] at hd; subst hd; exact (k _ _ _ (k _ _ _ hm).1).2
  · simp [AOp.dst] at hd
  · simp [AOp.dst] at hd; subst hd; exact (k _ _ _ (k _ _ _ hm).1).2
  · simp [AOp.dst] at hd
  · simp [AOp.dst] at hd
  · simp [AOp.dst] at hd
  · cases hm
  · simp [AOp.dst] at hd; subst hd; exact (k _ _ _ (k _ _ _ hm).1).2
  · rw [hd] at hm; exact (k _ _ _ hm).2

/-- a call of a function of trees -/
theorem call_tree (h : StR w g tmps st) {f d : Nat} {xs : List TV} {r : SV} {vs : Array Value} (hp : PCalls P f xs r) (hs : vs.size = xs.length)
    (hv : ∀ (i : Nat) (x : TV) (v : Value), xs[i]? = some x → vs[i]? = some v → TVR w g.Fz x v) :
    Calls P f vs w fun e w' => ∃ v g', e = .returned v ∧ StR w' g' (tmps.setIfInBounds d v) (st.put d r) ∧ Stp w g w' g' Never := by
  refine (hp.2 w g.Fz g.be vs h.fz hs hv).mono ?_
  rintro e w' ⟨v, g1, rfl, hr, hn, s, hfz, hom⟩
  let g2 : Gh := { Fz := g1.Fz, be := g.be, n := g.n, om := fun c => if c < w.heap.size then g.om c else (g1.mv [3] [0, d]).om c }
  have hold : ∀ c, c < w.heap.size → g1.om c = [] := fun c hc => s.om c hc (fun h => h rfl)
  have s2 : Stp w g w' g2 Never := by
    refine ⟨s.size, fun c hc _ => s.heap c hc (fun h => h rfl), s.fz, fun c o hz => ?_, fun c hc _ => ?_, fun c hc => ?_, fun _ _ => rfl, Nat.le_refl _, s.out, s.os, fun h => h⟩
    · rcases s.fznew c o hz with k | k | k
      · exact .inl k
      · exact .inr (.inl k)
      · exact (k rfl).elim
    · simp [g2, hc]
    · by_cases hlt : c < w.heap.size
      · simp [g2, hlt] at hc; exact .inr hc
      · exact .inl (by omega)
  have hr2 : SVR w' g2 [0, d] r v := by
    refine hr.rename rfl (fun i hi => by rw [hn] at hi; omega) (by rw [hn]; exact Nat.zero_le _) (by simp) (fun q c hc => ?_)
    have hge : ¬ c < w.heap.size := fun hlt => by rw [hold c hlt] at hc; cases hc
    simp only [g2, hge, if_false]
    exact Gh.mv_under g1 [3] [0, d] q c hc
  refine ⟨v, g2, rfl, h.put s2 d r v (fun _ h => h.elim) rfl hr2 hfz (fun c hc => ?_), s2⟩
  by_cases hlt : c < w.heap.size
  · exact Nat.lt_of_lt_of_le hlt s.size
  · simp only [g2, hlt, if_false] at hc
    by_cases hu : Under [3] (g1.om c)
    · obtain ⟨q, hq⟩ := hu
      exact hom c (by rw [hq]; simp)
    · rw [Gh.mv_other _ _ _ _ hu] at hc; exact hom c hc

theorem run_enter {f : FuncId} (hE : Enters P f) (args : Array Value) : (callFunc f args).run P w = .ok (.enter f args) w := by
  obtain ⟨fn, h1, h2, h3⟩ := hE
  obtain ⟨c, hb⟩ := Option.isSome_iff_exists.1 h3
  have h2' : ¬ (fn.name = "runtime.NumGoroutine") := by simpa using h2
  simp [callFunc, h1, hb, h2']

theorem opds_args (h : StR w g tmps st) {as : Array Operand} {xs : List AO} {ys : List TV} (hc : opds as.toList xs = true) (hr : evTs st xs = some ys) :
    (as.map (Act.eval { tmps, defers := ds })).size = ys.length ∧ ∀ (i : Nat) (x : TV) (v : Value), ys[i]? = some x → (as.map (Act.eval { tmps, defers := ds }))[i]? = some v → TVR w g.Fz x v := by
  obtain ⟨i1, i2⟩ := evTs_sound (ds := ds) h hc hr
  refine ⟨by simpa using i1, fun i x v e1 e2 => ?_⟩
  rw [Array.getElem?_map] at e2
  cases ha : as[i]? with
  | none => rw [ha] at e2; cases e2
  | some a => rw [ha] at e2; cases e2; exact i2 i x a e1 (by simpa using ha)

theorem envOf_sound {GG : GEnv} (he : GEnvR w tmps st GG) {t : Option (Nat × Bool)} (ht : GTrue tmps t) : EnvR w tmps st (envOf GG t) := by
  intro s r hm
  obtain ⟨⟨⟨s', r'⟩, t'⟩, m1, m2⟩ := List.mem_filterMap.1 hm
  split at m2
  · rename_i hc
    cases m2
    refine he _ m1 ?_
    simp only at hc
    show GTrue tmps t'
    rcases hc with hc | hc
    · rw [hc]; trivial
    · rw [hc]; exact ht
  · cases m2

theorem gtrue_keep {tmps tmps' : Array Value} {op : AOp} {t : Option (Nat × Bool)} (hk : gOk op t = true) (hs : ∀ n, op.dst ≠ some n → tmps'[n]? = tmps[n]?) (h : GTrue tmps' t) : GTrue tmps t := by
  cases t with
  | none => trivial
  | some jw =>
    obtain ⟨j, b⟩ := jw
    have : op.dst ≠ some j := by
      intro e
      simp [gOk, e] at hk
    show tmps[j]? = _
    rw [← hs j this]; exact h

theorem put_dst_other {o : Oper} {op : AOp} (hd : o.dst = op.dst) (v : Value) (n : Nat) (hn : op.dst ≠ some n) : (Act.put { tmps, defers := ds } o.dst v).tmps[n]? = tmps[n]? := by
  rw [hd]
  cases hx : op.dst with
  | none => rfl
  | some d => exact setIf_other _ _ _ _ (fun e => hn (by rw [hx, e]))

theorem not_hown_slot (s : Nat) (r : List Nat) : ¬ hOwn ([0, s] ++ r) := by rintro ⟨q, hq⟩; simp at hq
theorem not_hown_nil : ¬ hOwn [] := by rintro ⟨q, hq⟩; cases hq

/-- owned under the slot that is given away -/
def Gv (gn : Option (Nat × Nat)) (o : List Nat) : Prop := ∃ i n, gn = some (i, n) ∧ Under [0, n] o
/-- what a call may change -/
def Th (gn : Option (Nat × Nat)) (o : List Nat) : Prop := hOwn o ∨ Gv gn o
theorem th_nil (gn : Option (Nat × Nat)) : ¬ Th gn [] := by
  rintro (h | ⟨i, n, _, q, hq⟩)
  · exact not_hown_nil h
  · cases hq
theorem th_ne {gn : Option (Nat × Nat)} {o : List Nat} (h : Th gn o) : o ≠ [] := by rintro rfl; exact th_nil gn h
theorem th_slot {gn : Option (Nat × Nat)} {s : Nat} {r : List Nat} (hs : ∀ i n, gn = some (i, n) → s ≠ n) : ¬ Th gn ([0, s] ++ r) := by
  rintro (h | ⟨i, n, e, q, hq⟩)
  · exact not_hown_slot s r h
  · simp at hq; exact hs i n e hq.1

/-- entries behind a call -/
theorem EntR.after_call {e : Nat × ER} {gn : Option (Nat × Nat)} (he : EntR w tmps st e.1 e.2) (h : StR w g tmps st) (s : Stp w g w' g' (Th gn)) (d : Nat) (x : SV) (v : Value) (hh : List HB)
    (h1 : e.1 ≠ d) (h2 : e.2.slot ≠ d) (h3 : ∀ i n, gn = some (i, n) → e.2.slot ≠ n) : EntR w' (tmps.setIfInBounds d v) { sl := (setU st.sl gn).set d x, h := hh } e.1 e.2 := by
  have : EnvR w tmps st [e] := by
    intro t r hm
    have := List.mem_singleton.1 hm
    rw [← this] at he; exact he
  refine this.step (G' := [e]) h s (fun t r hr => ?_) e.1 e.2 (by simp)
  have hre := List.mem_singleton.1 hr
  refine ⟨hr, setIf_other _ _ _ _ (by rw [← hre] at h1; exact h1), setIf_other _ _ _ _ (by rw [← hre] at h2; exact h2), fun s col e' => ⟨?_, ?_⟩⟩
  · have := th_slot (gn := gn) (s := s) (r := []) (fun i n hg => by have := h3 i n hg; rw [← hre, e'] at this; exact this)
    simpa using this
  · have hsd : s ≠ d := by rw [← hre, e'] at h2; exact h2
    rw [show ({ sl := (setU st.sl gn).set d x, h := hh } : St).sl = (setU st.sl gn).set d x from rfl, List.getElem?_set_ne (Ne.symm hsd)]
    cases gn with
    | none => rfl
    | some p =>
      obtain ⟨i, n⟩ := p
      have := h3 i n rfl
      rw [← hre, e'] at this
      exact List.getElem?_set_ne (Ne.symm this)

/-- only the blocks' own owners are left, and what is given away -/
noncomputable def Gh.give (g : Gh) (gn : Option (Nat × Nat)) : Gh := by
  classical exact { Fz := g.Fz, be := g.be, n := g.n, om := fun c => if hOwn (g.om c) then g.om c else if Gv gn (g.om c) then (match gn with | some (i, _) => [4, i] ++ (g.om c).drop 2 | none => []) else [] }
theorem give_h (g : Gh) (gn : Option (Nat × Nat)) {c : Nat} (h : hOwn (g.om c)) : (g.give gn).om c = g.om c := by simp only [Gh.give, if_pos h]
theorem give_n (g : Gh) (gn : Option (Nat × Nat)) {c : Nat} (h : ¬ Th gn (g.om c)) : (g.give gn).om c = [] := by
  have h1 : ¬ hOwn (g.om c) := fun q => h (.inl q)
  have h2 : ¬ Gv gn (g.om c) := fun q => h (.inr q)
  simp only [Gh.give, if_neg h1, if_neg h2]
theorem give_v (g : Gh) {i n c : Nat} {r : List Nat} (h : g.om c = [0, n] ++ r) : (g.give (some (i, n))).om c = [4, i] ++ r := by
  have h1 : ¬ hOwn (g.om c) := by rw [h]; exact not_hown_slot n r
  have h2 : Gv (some (i, n)) (g.om c) := ⟨i, n, rfl, r, h⟩
  simp only [Gh.give, if_neg h1, if_pos h2, h]; rfl

/-- behind a call: who owned what stays, what is handed back is the slot's -/
noncomputable def Gh.back (w : World) (g g1 : Gh) (gn : Option (Nat × Nat)) (d : Nat) : Gh := by
  classical exact { Fz := g1.Fz, be := g1.be, n := g1.n, om := fun c => if c < w.heap.size ∧ ¬ Th gn (g.om c) then g.om c else (g1.mv [3] [0, d]).om c }
theorem back_old {w : World} {g g1 : Gh} {gn : Option (Nat × Nat)} {d c : Nat} (h : c < w.heap.size ∧ ¬ Th gn (g.om c)) : (g.back w g1 gn d).om c = g.om c := by simp only [Gh.back, if_pos h]
theorem back_new {w : World} {g g1 : Gh} {gn : Option (Nat × Nat)} {d c : Nat} (h : ¬ (c < w.heap.size ∧ ¬ Th gn (g.om c))) : (g.back w g1 gn d).om c = (g1.mv [3] [0, d]).om c := by simp only [Gh.back, if_neg h]

/-- a call of a function that may refer to blocks -/
theorem call_heap (h : StR w g tmps st) (gn : Option (Nat × Nat)) {f d : Nat} {xs : List EV} {r : SV} {h' : List HB} {vs : Array Value} (hp : ACalls P f xs st.h r h') (hs : vs.size = xs.length)
    (hv : ∀ (i : Nat) (x : EV) (v : Value), xs[i]? = some x → vs[i]? = some v → EVR w (g.give gn) [4, i] x v) :
    Calls P f vs w fun e w' => ∃ v g', e = .returned v ∧ StR w' g' (tmps.setIfInBounds d v) { sl := (setU st.sl gn).set d r, h := h' } ∧ Stp w g w' g' (Th gn) := by
  have hq : HpR w (g.give gn) st.h := by
    refine ⟨fun i b e => (h.hp i b e).rename (by rw [h.n]; exact get_lt e) rfl (fun _ _ => rfl) (Nat.le_refl _) (fun r c hc => ?_), h.n, h.fz, fun c hc => ?_⟩
    · rw [give_h g gn ⟨r, hc⟩, hc]
    · by_cases ho : Th gn (g.om c)
      · exact h.om c (th_ne ho)
      · exact (hc (give_n g gn ho)).elim
  have hown : ∀ c, (g.give gn).om c ≠ [] → hOwn ((g.give gn).om c) ∨ Under [4] ((g.give gn).om c) := by
    intro c hc
    by_cases ho : Th gn (g.om c)
    · rcases ho with ho | ⟨i, n, rfl, q, hq⟩
      · rw [give_h g gn ho]; exact .inl ho
      · rw [give_v g hq]; exact .inr ⟨[i] ++ q, rfl⟩
    · exact (hc (give_n g gn ho)).elim
  refine (hp.2 w (g.give gn) vs hq hown hs hv).mono ?_
  rintro e w' ⟨v, g1, rfl, hr, hH, hO, s⟩
  have hold : ∀ c, c < w.heap.size → ¬ Th gn (g.om c) → g1.om c = [] := fun c hc ho => by
    rw [s.om c hc (fun h => h (give_n g gn ho)), give_n g gn ho]
  have hgone : ∀ c, g1.om c ≠ [] → ¬ (c < w.heap.size ∧ ¬ Th gn (g.om c)) := fun c hc hh => hc (hold c hh.1 hh.2)
  have s2 : Stp w g w' (g.back w g1 gn d) (Th gn) := by
    refine ⟨s.size, fun c hc ho => s.heap c hc (fun h => h (give_n g gn ho)), s.fz, fun c o hz => ?_, fun c hc ho => back_old ⟨hc, ho⟩, fun c hc => ?_, s.be, s.n, s.out, s.os, th_nil gn⟩
    · rcases s.fznew c o hz with k | k | k
      · exact .inl k
      · exact .inr (.inl k)
      · refine .inr (.inr ?_)
        by_cases ho : Th gn (g.om c)
        · exact ho
        · exact (k (give_n g gn ho)).elim
    · by_cases hlt : c < w.heap.size
      · refine .inr ?_
        by_cases ho : Th gn (g.om c)
        · exact th_ne ho
        · rw [back_old ⟨hlt, ho⟩] at hc; exact hc
      · exact .inl (by omega)
  have hget : ∀ (n : Nat) (y : SV), n ≠ d → ((setU st.sl gn).set d r)[n]? = some y → y = und ∨ (st.sl[n]? = some y ∧ ∀ i m, gn = some (i, m) → n ≠ m) := by
    intro n y hn e
    rw [List.getElem?_set_ne (Ne.symm hn)] at e
    cases gn with
    | none => exact .inr ⟨e, fun i m h => by cases h⟩
    | some p =>
      obtain ⟨i, m⟩ := p
      simp only [setU] at e
      by_cases hm : n = m
      · subst hm
        rw [List.getElem?_set] at e
        rw [if_pos rfl] at e
        split at e
        · cases e; exact .inl rfl
        · cases e
      · rw [List.getElem?_set_ne (Ne.symm hm)] at e
        exact .inr ⟨e, fun i' m' h => by cases h; exact hm⟩
  refine ⟨v, g.back w g1 gn d, rfl, ⟨?_, fun n y u e1 e2 => ?_, fun i b e => ?_, hH.fz, fun c hc => ?_, hH.n⟩, s2⟩
  · cases gn <;> simp [setU, h.len]
  · by_cases hn : n = d
    · subst hn
      have : y = r := put_same (st := { sl := setU st.sl gn, h := st.h }) (x := r) e1
      subst this
      have : u = v := setIf_same e2
      subst this
      refine hr.rename rfl (fun _ _ => rfl) (Nat.le_refl _) (by simp) (fun q c hc => ?_)
      rw [back_new (hgone c (by rw [hc]; simp))]
      exact Gh.mv_under g1 [3] [0, n] q c hc
    · have e2' : tmps[n]? = some u := by rw [← e2]; exact (setIf_other _ _ _ _ hn).symm
      rcases hget n y hn e1 with rfl | ⟨e1', hm⟩
      · exact SVR.und _ _ _ _
      · exact (h.sl n y u e1' e2').step s2 (fun q => th_slot hm)
  · refine (hH.hp i b e).rename (by rw [hH.n]; exact get_lt e) rfl (fun _ _ => rfl) (Nat.le_refl _) (fun q c hc => ?_)
    rw [back_new (hgone c (by rw [hc]; simp)), Gh.mv_other]
    · exact hc
    · rintro ⟨x, hx⟩; rw [hc] at hx; simp at hx
  · by_cases ho : c < w.heap.size ∧ ¬ Th gn (g.om c)
    · exact Nat.lt_of_lt_of_le ho.1 s.size
    · rw [back_new ho] at hc
      by_cases hu : Under [3] (g1.om c)
      · obtain ⟨q, hq⟩ := hu
        exact hH.om c (by rw [hq]; simp)
      · rw [Gh.mv_other _ _ _ _ hu] at hc; exact hH.om c hc

/- values that own nothing -/
def AC.cl : AC → Bool
  | .os _ _ | .ex _ _ => false
  | _ => true
def EV.cl : EV → Bool
  | .c x => x.cl
  | .ag xs => xs.all (·.cl)
theorem rdC_cl (x : AC) : (rdC x).cl = true := by cases x <;> rfl
theorem rdE_cl (x : EV) : (rdE x).cl = true := by
  cases x with
  | c x => exact rdC_cl x
  | ag xs => simp only [rdE, EV.cl, List.all_eq_true, List.mem_map]; rintro _ ⟨y, _, rfl⟩; exact rdC_cl y
theorem ofT_cl (x : TV) : (EV.ofT x).cl = true := by
  cases x <;> first | rfl | (simp only [EV.ofT, EV.cl, List.all_eq_true, List.mem_map]; rintro _ ⟨y, _, rfl⟩; rfl)
theorem evO_cl {st : St} {x : AO} {y : EV} (h : evO st x = some y) : y.cl = true := by
  cases x with
  | k x => cases h; exact ofT_cl x
  | s n =>
    simp only [evO] at h
    split at h
    · cases h; exact rdE_cl _
    · cases h
theorem ACR.clean {g2 : Gh} {own own2 : List Nat} {x : AC} {v : Value} (hx : x.cl = true) (h : ACR w g own x v) (hF : g2.Fz = g.Fz) (hb : ∀ i, i < g.n → g2.be i = g.be i) (hn : g.n ≤ g2.n) : ACR w g2 own2 x v := by
  have h0 : ACR w g [] x v := by
    cases h with
    | os => cases hx
    | ex => cases hx
    | t h => exact .t h
    | und => exact .und
    | tp row col c o u hc => exact .tp row col c o u hc
    | p blk wd row col h => exact .p blk wd row col h
    | sl blk wd row len cap off hcap h hof => exact .sl blk wd row len cap off hcap h hof
    | m blk h => exact .m blk h
    | it blk h => exact .it blk h
    | fn f caps a hs hr => exact .fn f caps a hs hr
    | ifc t x v hr => exact .ifc t x v hr
  exact h0.rename hF hb hn (fun h => (h rfl).elim)
theorem EVR.clean {g2 : Gh} {own own2 : List Nat} {x : EV} {v : Value} (hx : x.cl = true) (h : EVR w g own x v) (hF : g2.Fz = g.Fz) (hb : ∀ i, i < g.n → g2.be i = g.be i) (hn : g.n ≤ g2.n) : EVR w g2 own2 x v := by
  cases h with
  | c h => exact .c (h.clean hx hF hb hn)
  | ag h =>
    simp only [EV.cl, List.all_eq_true] at hx
    exact .ag ⟨h.1, fun j y v e1 e2 => ⟨(h.2 j y v e1 e2).1, (h.2 j y v e1 e2).2.clean (hx y (List.mem_of_getElem? e1)) hF hb hn⟩⟩

theorem evOs_args {g2 : Gh} (hF : g2.Fz = g.Fz) (hb : g2.be = g.be) (hn : g2.n = g.n) (h : StR w g tmps st) : ∀ {as : List Operand} {xs : List AO} {ys : List EV}, opds as xs = true → evOs st xs = some ys →
    as.length = ys.length ∧ ∀ (i : Nat) (x : EV) (a : Operand), ys[i]? = some x → as[i]? = some a → ∀ own, EVR w g2 own x (Act.eval { tmps, defers := ds } a)
  | [], [], ys, _, hr => by simp [evOs] at hr; subst hr; exact ⟨rfl, fun i x a e => by simp at e⟩
  | [], _ :: _, _, hc, _ => by simp [opds] at hc
  | _ :: _, [], _, hc, _ => by simp [opds] at hc
  | a :: as, x :: xs, ys, hc, hr => by
    simp only [opds, Bool.and_eq_true] at hc
    simp only [evOs] at hr
    split at hr
    · rename_i y ys' h1 h2
      cases hr
      obtain ⟨i1, i2⟩ := evOs_args hF hb hn h hc.2 h2
      refine ⟨by simp [i1], fun i z b e1 e2 own => ?_⟩
      cases i with
      | zero => simp at e1 e2; subst e1 e2; exact (opd_sound (ds := ds) h hc.1 h1 []).clean (evO_cl h1) hF (fun _ _ => by rw [hb]) (by rw [hn]; exact Nat.le_refl _)
      | succ i => exact i2 i z b (by simpa using e1) (by simpa using e2) own
    · cases hr

theorem evGs_args (h : StR w g tmps st) (gn : Option (Nat × Nat)) : ∀ {k : Nat} {as : List Operand} {xs : List AO} {ys : List EV}, opds as xs = true → (∀ j i n, gn = some (i, n) → i = k + j → xs[j]? = some (.s n) ∨ xs[j]? = none) →
    evGs st gn k xs = some ys →
    as.length = ys.length ∧ ∀ (i : Nat) (x : EV) (a : Operand), ys[i]? = some x → as[i]? = some a → EVR w (g.give gn) [4, k + i] x (Act.eval { tmps, defers := ds } a)
  | k, [], [], ys, _, _, hr => by simp [evGs] at hr; subst hr; exact ⟨rfl, fun i x a e => by simp at e⟩
  | k, [], _ :: _, _, hc, _, _ => by simp [opds] at hc
  | k, _ :: _, [], _, hc, _, _ => by simp [opds] at hc
  | k, a :: as, x :: xs, ys, hc, hg, hr => by
    simp only [opds, Bool.and_eq_true] at hc
    simp only [evGs] at hr
    split at hr
    · rename_i y ys' h1 h2
      cases hr
      obtain ⟨i1, i2⟩ := evGs_args h gn (k := k + 1) hc.2 (fun j i n e1 e2 => by have := hg (j + 1) i n e1 (by omega); simpa using this) h2
      refine ⟨by simp [i1], fun i z b e1 e2 => ?_⟩
      cases i with
      | zero =>
        simp at e1 e2; subst e1 e2
        split at h1
        · rename_i hgk
          cases hgn : gn with
          | none => rw [hgn] at hgk; cases hgk
          | some p =>
            obtain ⟨i, n⟩ := p
            rw [hgn] at hgk
            simp at hgk
            subst hgk
            have hx : x = .s n := by have := hg 0 i n hgn (by omega); simpa using this
            subst hx
            unfold opd at hc
            have hc1 := hc.1
            split at hc1
            · rename_i t m hh
              simp only [AO.s.injEq] at hh
              subst hh
              simp only [beq_iff_eq] at hc1
              subst hc1
              simp only [evR] at h1
              split at h1
              · rename_i y' hy
                cases h1
                obtain ⟨v, v1, v2, v3⟩ := h.get hy
                simp only [Act.eval, v2]
                cases v3 with
                | e q => exact q.rename rfl (fun _ _ => rfl) (Nat.le_refl _) (by simp) (fun r c hc => give_v g hc)
              · cases h1
            · rename_i hh; cases hh
            · rename_i hh; cases hh
            · cases hc1
        · exact (opd_sound (ds := ds) h hc.1 h1 []).clean (evO_cl h1) rfl (fun _ _ => rfl) (Nat.le_refl _)
      | succ i =>
        have := i2 i z b (by simpa using e1) (by simpa using e2)
        rw [show k + (i + 1) = k + 1 + i by omega]
        exact this
    · cases hr

/-- a function value stands for what it captured -/
theorem fnOf_sound {g2 : Gh} (hF : g2.Fz = g.Fz) (hb : g2.be = g.be) (hn : g2.n = g.n) {x : AC} {v : Value} {f : FuncId} {caps : List EV} (hf : fnOf x = some (f, caps)) {own : List Nat} (h : ACR w g own x v) :
    ∃ ca : Array Value, v = .func (.func f) #[] ca ∧ ca.size = caps.length ∧ ∀ (i : Nat) (y : EV) (u : Value), caps[i]? = some y → ca[i]? = some u → ∀ own2, EVR w g2 own2 y u := by
  cases h with
  | t h =>
    cases h with
    | fn f' caps' a hs hr =>
      simp only [fnOf, Option.some.injEq, Prod.mk.injEq] at hf
      obtain ⟨rfl, rfl⟩ := hf
      refine ⟨a, rfl, by simp [hs], fun i y u e1 e2 own2 => ?_⟩
      obtain ⟨z, z1, rfl⟩ := map_get e1
      exact EVR.ofT (g := g2) (hF ▸ hr i z u z1 e2) own2
    | _ => simp [fnOf] at hf
  | fn f' caps' a hs hr =>
    simp only [fnOf, Option.some.injEq, Prod.mk.injEq] at hf
    obtain ⟨rfl, rfl⟩ := hf
    refine ⟨a, rfl, by simp [hs], fun i y u e1 e2 own2 => ?_⟩
    obtain ⟨z, z1, rfl⟩ := map_get e1
    have hz : ACR w g2 [] z u := (hr i z u z1 e2).rename hF (fun _ _ => by rw [hb]) (by rw [hn]; exact Nat.le_refl _) (fun h => (h rfl).elim)
    cases hz with
    | t hz => exact EVR.ofT (g := g2) hz own2
    | os _ _ _ _ _ _ _ _ hne => exact (hne rfl).elim
    | ex _ _ _ _ _ _ _ _ hne => exact (hne rfl).elim
    | und => exact .c .und
    | tp row col c o u hc => exact .c (.tp row col c o u hc)
    | p blk wd row col h => exact .c (.p blk wd row col h)
    | sl blk wd row len cap off hcap h hof => exact .c (.sl blk wd row len cap off hcap h hof)
    | m blk h => exact .c (.m blk h)
    | it blk h => exact .c (.it blk h)
    | fn f caps a hs hr => exact .c ((ACR.fn (own := []) f caps a hs hr).rename rfl (fun _ _ => rfl) (Nat.le_refl _) (fun h => (h rfl).elim))
    | ifc t x v hr => exact .c ((ACR.ifc (own := []) t x v hr).rename rfl (fun _ _ => rfl) (Nat.le_refl _) (fun h => (h rfl).elim))
  | _ => simp [fnOf] at hf

theorem SVR.udf (w : World) (g : Gh) (own : List Nat) : SVR w g own udf undef := .e (.c (.t (.tu [] #[] rfl (fun j x v e => by simp at e))))

/-- one operation -/
theorem op_step {ops : Array Oper} {K : St → Prop} {Q : Exit → Act → World → Prop} {X : Act → World → Prop} {o : Oper} {i : Nat} {ga : GOp} {GG GG' : GEnv} (ho : ops[i]? = some o) (hg1 : chkG1 P ops GG o ga = some GG')
    (he : GEnvR w tmps st GG) (h : StR w g tmps st) (hr : gwp P ga K st)
    (hX : ∀ (a : Act) (w' : World) (g' : Gh) (st' : St), a.defers = [] → StR w' g' a.tmps st' → Stp w g w' g' NE → GEnvR w' a.tmps st' GG' → K st' → X a w') : wpOp P ops Q i X ⟨tmps, []⟩ w := by
  unfold chkG1 at hg1
  split at hg1
  · rename_i hcond
    cases hg1
    simp only [gcond, Bool.and_eq_true, decide_eq_true_eq, Bool.or_eq_true] at hcond
    obtain ⟨⟨c1, c2⟩, c3⟩ := hcond
    unfold wpOp
    simp only [ho]
    -- what happens when the operation is run
    have run : GTrue tmps ga.g → owp P K st ga.op → o.wp P ⟨tmps, []⟩ w X Q := by
      intro hg hw
      have henv := envOf_sound he hg
      unfold Oper.wp
      rcases c3 with c3 | c3
      · have hx : ∃ st', exop st ga.op = some st' ∧ K st' ∧ Ran P w g tmps [] st o ga.op st' := by
          rcases c3 with c3 | c3
          · obtain ⟨G', hG'⟩ := Option.isSome_iff_exists.1 c3
            have hx : ∃ st', exop st ga.op = some st' ∧ K st' := by
              cases hop : ga.op <;> rw [hop] at hw hG' <;> first | exact hw | (simp [chk1] at hG'; done)
            obtain ⟨st', hx, hk⟩ := hx
            exact ⟨st', hx, hk, op_ran (ds := []) h henv hG' hx⟩
          · have hx : ∃ st', exop st ga.op = some st' ∧ K st' := by
              cases hop : ga.op <;> rw [hop] at hw c3 <;> first | exact hw | (simp [chkH] at c3; done)
            obtain ⟨st', hx, hk⟩ := hx
            exact ⟨st', hx, hk, hop_ran (ds := []) h c3 hx⟩
        obtain ⟨st', hx, hk, r, v, w', g', q1, q2, q3, q4, q5, q6⟩ := hx
        have hnext : X (Act.put ⟨tmps, []⟩ o.dst v) w' := by
          refine hX _ w' g' st' (by cases o.dst <;> rfl) q3 (q4.mono (fun _ h => h) (fun h => h rfl)) (fun e hm ht => ?_) hk
          rcases List.mem_append.1 hm with hm | hm
          · obtain ⟨e', m1, rfl⟩ := List.mem_map.1 hm
            exact q5 e' m1
          · simp only [keepG, List.mem_filter, Bool.and_eq_true, Bool.not_eq_true'] at hm
            exact q6 e.1 hm.2.1 (he e hm.1 (gtrue_keep hm.2.2 (fun n hn => put_dst_other c2 v n hn) ht))
        rcases q2 with rfl | ⟨rfl, rfl⟩
        · rw [q1]; exact hnext
        · rw [q1]; exact hnext
      · -- a call
        have after : ∀ d (r : SV) v (w' : World) (g' : Gh), ga.op.dst = some d → newE ga.op = [] → StR w' g' (tmps.setIfInBounds d v) (st.put d r) → Stp w g w' g' Never → K (st.put d r) →
            X (Act.put ⟨tmps, []⟩ o.dst v) w' := by
          intro d r v w' g' hd hn q3 q4 hk
          have hod : o.dst = some d := c2.trans hd
          rw [hod]
          refine hX _ w' g' _ rfl q3 (q4.mono (fun _ h => h.elim) (fun h => h rfl)) (fun e hm ht => ?_) hk
          rw [hn] at hm
          simp only [List.map_nil, List.nil_append, keepG, List.mem_filter, Bool.and_eq_true, Bool.not_eq_true'] at hm
          obtain ⟨k1, k2⟩ := kill_dst hm.2.1 hd
          refine (he e hm.1 (gtrue_keep hm.2.2 (fun n hn => ?_) ht)).after_put h q4 d r v (fun _ h => h.elim) k1 k2
          exact setIf_other _ _ _ _ (fun e => hn (by rw [hd, e]))
        have afterH : ∀ gn d (r : SV) (hh : List HB) v (w' : World) (g' : Gh), ga.op.dst = some d → newE ga.op = [] → (∀ e : Nat × ER, (killOp ga.op [e]).isEmpty = false → ∀ i n, gn = some (i, n) → e.2.slot ≠ n) →
            StR w' g' (tmps.setIfInBounds d v) { sl := (setU st.sl gn).set d r, h := hh } → Stp w g w' g' (Th gn) → K { sl := (setU st.sl gn).set d r, h := hh } → X (Act.put ⟨tmps, []⟩ o.dst v) w' := by
          intro gn d r hh v w' g' hd hn hkg q3 q4 hk
          have hod : o.dst = some d := c2.trans hd
          rw [hod]
          refine hX _ w' g' _ rfl q3 (q4.mono (fun _ h => th_ne h) (fun h => h rfl)) (fun e hm ht => ?_) hk
          rw [hn] at hm
          simp only [List.map_nil, List.nil_append, keepG, List.mem_filter, Bool.and_eq_true, Bool.not_eq_true'] at hm
          obtain ⟨k1, k2⟩ := kill_dst hm.2.1 hd
          refine (he e hm.1 (gtrue_keep hm.2.2 (fun n hn => ?_) ht)).after_call h q4 d r v hh k1 k2 (hkg e.1 hm.2.1)
          exact setIf_other _ _ _ _ (fun e => hn (by rw [hd, e]))
        cases hop : ga.op <;> rw [hop] at hw c3 <;> first | (simp [chkCall] at c3; done) | skip
        · rename_i d it
          obtain ⟨l, w1, w2⟩ := hw
          simp only [chkCall] at c3
          split at c3
          · rename_i a hoo
            simp only [Bool.and_eq_true, decide_eq_true_eq] at c3
            obtain ⟨c4, c5⟩ := c3
            obtain ⟨st', hm, r, v, w', g', q1, q2, q3, q4, q5⟩ := done_nxt (P := P) (ds := []) (G := []) h (fun t r hm => by cases hm) c4 hoo c5 w1
            have hnext : X (Act.put ⟨tmps, []⟩ o.dst v) w' := by
              refine hX _ w' g' st' (by cases o.dst <;> rfl) q3 (q5.mono (fun _ h => h) (fun h => h rfl)) (fun e hm ht => ?_) (w2 st' hm)
              rw [hop] at hm
              simp [newE, keepG, killOp] at hm
            rcases q2 with rfl | ⟨rfl, rfl⟩
            · rw [q1]; exact hnext
            · rw [q1]; exact hnext
          · cases c3
        · rename_i d f args _
          obtain ⟨xs, r, w1, w2, w3⟩ := hw
          simp only [chkCall] at c3
          split at c3
          · rename_i f' as ts hoo
            simp only [Bool.and_eq_true, beq_iff_eq, decide_eq_true_eq] at c3
            obtain ⟨⟨rfl, _⟩, c4⟩ := c3
            obtain ⟨a1, a2⟩ := opds_args (ds := []) h c4 w1
            have hrun : (execOp (Act.eval ⟨tmps, []⟩) o).run P w = .ok (.enter f (as.map (Act.eval ⟨tmps, []⟩))) w := by
              simp only [execOp, hoo, resolve, Deferred.ofValue, Act.eval, pure_bind, invoke, Sem.run_bind, Sem.run_pure, Result.andThen_ok, Array.empty_append, Array.append_empty]
              exact run_enter w2.1 _
            rw [hrun]
            refine (call_tree (d := d) h w2 a1 a2).mono ?_
            rintro e w' ⟨v, g', rfl, q3, q4⟩
            exact after d r v w' g' (by rw [hop]; rfl) (by rw [hop]; rfl) q3 q4 w3
          · cases c3
        · rename_i d x args _
          obtain ⟨f, caps, xs, r, w0', w1, w2, w3⟩ := hw
          simp only [chkCall] at c3
          split at c3
          · rename_i a as ts hoo
            simp only [Bool.and_eq_true, decide_eq_true_eq] at c3
            obtain ⟨⟨_, c4⟩, c5⟩ := c3
            obtain ⟨a1, a2⟩ := opds_args (ds := []) h c5 w1
            have hfv := acr_t (opd_c (ds := []) h c4 w0' [])
            generalize hev : Act.eval { tmps, defers := [] } a = fv at hfv
            cases hfv with
            | fn f caps ca hs hrr =>
              have hrun : (execOp (Act.eval ⟨tmps, []⟩) o).run P w = .ok (.enter f (as.map (Act.eval ⟨tmps, []⟩) ++ ca)) w := by
                simp only [execOp, hoo, resolve, hev, Deferred.ofValue, pure_bind, invoke, Sem.run_bind, Sem.run_pure, Result.andThen_ok, Array.empty_append]
                exact run_enter w2.1 _
              rw [hrun]
              refine (call_tree (d := d) h w2 (by rw [Array.size_append, List.length_append, a1, hs]) (fun i x v e1 e2 => ?_)).mono ?_
              · rcases app_get e1 with ⟨hi, e1⟩ | ⟨hi, e1⟩
                · rw [Array.getElem?_append_left (by rw [a1]; exact hi)] at e2
                  exact a2 i x v e1 e2
                · rw [Array.getElem?_append_right (by rw [a1]; exact hi), a1] at e2
                  exact hrr _ x v e1 e2
              · rintro e w' ⟨v, g', rfl, q3, q4⟩
                exact after d r v w' g' (by rw [hop]; rfl) (by rw [hop]; rfl) q3 q4 w3
          · cases c3
        · rename_i d f args gn _
          obtain ⟨xs, r, hh, w1, w2, w3⟩ := hw
          simp only [chkCall] at c3
          split at c3
          · rename_i f' as ts hoo
            simp only [Bool.and_eq_true, beq_iff_eq, decide_eq_true_eq] at c3
            obtain ⟨⟨⟨rfl, _⟩, c4⟩, c5⟩ := c3
            have hgv : ∀ j i n, gn = some (i, n) → i = 0 + j → args[j]? = some (.s n) ∨ args[j]? = none := by
              intro j i n e1 e2
              subst e1
              simp only [gvOk] at c5
              rw [Nat.zero_add] at e2
              subst e2
              split at c5
              · rename_i m hm
                simp only [beq_iff_eq] at c5
                subst c5
                exact .inl hm
              · cases c5
            obtain ⟨a1, a2⟩ := evGs_args (ds := []) h gn c4 hgv w1
            have hrun : (execOp (Act.eval ⟨tmps, []⟩) o).run P w = .ok (.enter f (as.map (Act.eval ⟨tmps, []⟩))) w := by
              simp only [execOp, hoo, resolve, Deferred.ofValue, Act.eval, pure_bind, invoke, Sem.run_bind, Sem.run_pure, Result.andThen_ok, Array.empty_append, Array.append_empty]
              exact run_enter w2.1 _
            rw [hrun]
            refine (call_heap (d := d) h gn w2 (by simpa using a1) (fun i x v e1 e2 => ?_)).mono ?_
            · rw [Array.getElem?_map] at e2
              cases ha : as[i]? with
              | none => rw [ha] at e2; cases e2
              | some a =>
                rw [ha] at e2; cases e2
                have := a2 i x a e1 (by simpa using ha)
                rw [Nat.zero_add] at this
                exact this
            · rintro e w' ⟨v, g', rfl, q3, q4⟩
              refine afterH gn d r hh v w' g' (by rw [hop]; rfl) (by rw [hop]; rfl) (fun e hk i n hgn => ?_) q3 q4 w3
              subst hgn
              rw [hop] at hk
              have := killOp_one _ e hk
              simp only [killOp] at this
              exact (mem_kill (t := e.1) (r := e.2) this).2.2
          · cases c3
        · rename_i d x args _
          obtain ⟨cv, f, caps, xs, r, hh, w0', wf, w1, w2, w3⟩ := hw
          simp only [chkCall] at c3
          split at c3
          · rename_i a as ts hoo
            simp only [Bool.and_eq_true, decide_eq_true_eq] at c3
            obtain ⟨⟨_, c4⟩, c5⟩ := c3
            obtain ⟨a1, a2⟩ := evOs_args (ds := []) (g := g) (g2 := g.give none) rfl rfl rfl h c5 w1
            obtain ⟨ca, hev, b1, b2⟩ := fnOf_sound (g := g) (g2 := g.give none) rfl rfl rfl wf (opd_c (ds := []) h c4 w0' [])
            have hrun : (execOp (Act.eval ⟨tmps, []⟩) o).run P w = .ok (.enter f (as.map (Act.eval ⟨tmps, []⟩) ++ ca)) w := by
              simp only [execOp, hoo, resolve, hev, Deferred.ofValue, pure_bind, invoke, Sem.run_bind, Sem.run_pure, Result.andThen_ok, Array.empty_append]
              exact run_enter w2.1 _
            rw [hrun]
            have hsz : (as.map (Act.eval ⟨tmps, []⟩)).size = xs.length := by simpa using a1
            refine (call_heap (d := d) h none w2 (by rw [Array.size_append, List.length_append, hsz, b1]) (fun i x v e1 e2 => ?_)).mono ?_
            · rcases app_get e1 with ⟨hi, e1⟩ | ⟨hi, e1⟩
              · rw [Array.getElem?_append_left (by rw [hsz]; exact hi), Array.getElem?_map] at e2
                cases ha : as[i]? with
                | none => rw [ha] at e2; cases e2
                | some a => rw [ha] at e2; cases e2; exact a2 i x a e1 (by simpa using ha) _
              · rw [Array.getElem?_append_right (by rw [hsz]; exact hi), hsz] at e2
                exact b2 _ x v e1 e2 _
            · rintro e w' ⟨v, g', rfl, q3, q4⟩
              exact afterH none d r hh v w' g' (by rw [hop]; rfl) (by rw [hop]; rfl) (fun e hk i n hgn => by cases hgn) q3 q4 w3
          · cases c3
    unfold gwp at hr
    cases hgd : o.guard with
    | none =>
      rw [hgd] at c1
      cases hgg : ga.g with
      | some jw => rw [hgg] at c1; simp [guardOk] at c1
      | none =>
        rw [hgg] at hr
        have : Region.wanted o (yielded ops tmps) = true := by simp [Region.wanted, hgd]
        rw [if_pos this]
        exact .inl (run (by rw [hgg]; trivial) hr)
    | some jw =>
      obtain ⟨j, want⟩ := jw
      rw [hgd] at c1
      cases hgg : ga.g with
      | none => rw [hgg] at c1; simp [guardOk] at c1
      | some sw =>
        obtain ⟨sl, want'⟩ := sw
        rw [hgg] at c1 hr
        simp only [guardOk, Bool.and_eq_true, beq_iff_eq] at c1
        obtain ⟨⟨rfl, c1⟩, c1'⟩ := c1
        obtain ⟨b, hb, hr⟩ := hr
        obtain ⟨v, v1, hy, hvw⟩ : ∃ v, tmps[sl]? = some v ∧ yielded ops tmps j = b ∧ (b = some want → v = .bool want) ∧ (v = .bool want → b = some want) := by
          unfold guardV at hb
          split at hb
          · rename_i x hx
            cases hb
            obtain ⟨v, v1, v2, v3⟩ := h.get hx
            have hv : v = .bool x := by cases v3 with | e q => exact evr_b q
            subst hv
            exact ⟨_, v1, by simp [yielded, c1, v1], (fun e => by cases e; rfl), (fun e => by cases e; rfl)⟩
          · rename_i hx
            cases hb
            obtain ⟨v, v1, v2, v3⟩ := h.get hx
            cases v3 with | e q =>
            have := acr_t (evr_c q)
            cases this with
            | tu vs a hs hr => exact ⟨_, v1, by simp [yielded, c1, v1], (fun e => by cases e), (fun e => by cases e)⟩
          · cases hb
        by_cases hbw : b = some want
        · subst hbw
          have hvb := hvw.1 rfl
          subst hvb
          have : Region.wanted o (yielded ops tmps) = true := by simp [Region.wanted, hgd, hy]
          rw [if_pos this]
          rw [if_pos rfl] at hr
          exact .inl (run (by rw [hgg]; exact v1) hr)
        · have : Region.wanted o (yielded ops tmps) = false := by simp [Region.wanted, hgd, hy, hbw]
          rw [this]
          simp only [Bool.false_eq_true, if_false]
          rw [if_neg hbw] at hr
          have hst : StR w g (Act.put ⟨tmps, []⟩ o.dst undef).tmps (st.clr ga.op.dst) := by
            rw [c2]
            cases ga.op.dst with
            | none => exact h
            | some d => exact h.put0 d _ _ (SVR.udf w g [0, d])
          refine hX _ w g _ (by cases o.dst <;> rfl) hst (Stp.refl w g NE (fun h => h rfl)) (fun e hm ht => ?_) hr
          rcases List.mem_append.1 hm with hm | hm
          · obtain ⟨e', m1, rfl⟩ := List.mem_map.1 hm
            rw [hgg] at ht
            have := gtrue_keep (tmps := tmps) c1' (fun n hn => put_dst_other (ds := []) c2 undef n hn) ht
            have hq : tmps[sl]? = some (.bool want) := this
            rw [v1] at hq
            cases hq
            exact (hbw (hvw.2 rfl)).elim
          · simp only [keepG, List.mem_filter, Bool.and_eq_true, Bool.not_eq_true'] at hm
            have e0 := he e hm.1 (gtrue_keep hm.2.2 (fun n hn => put_dst_other (ds := []) c2 undef n hn) ht)
            rw [c2]
            cases hdd : ga.op.dst with
            | none => exact e0
            | some d =>
              obtain ⟨k1, k2⟩ := kill_dst hm.2.1 hdd
              exact e0.after_put h (Stp.refl w g Never (fun h => h)) d udf undef (fun _ h => h.elim) k1 k2
  · cases hg1

/-- the operations of a region, in the order of a list -/
theorem rwp_sound {ops : Array Oper} {K : St → Prop} {Q : Exit → Act → World → Prop} (hQ : ∀ a w g st, a.defers = [] → StR w g a.tmps st → Stp w0 g0 w g NE → K st → Q .normal a w) :
    ∀ (os : List Oper) (l : List Nat) (gs : List GOp) (GG : GEnv) (a : Act) (w : World) (g : Gh) (st : St), l.map (fun i => ops[i]?) = os.map some → chkOps P ops GG os gs = true → GEnvR w a.tmps st GG → a.defers = [] →
      StR w g a.tmps st → Stp w0 g0 w g NE → rwp P gs K st → wpOps P ops Q l a w
  | [], [], [], GG, a, w, g, st, _, _, _, hd, h, s, hr => by simp only [wpOps]; exact hQ a w g st hd h s hr
  | [], _ :: _, _, _, _, _, _, _, hl, _, _, _, _, _, _ => by simp at hl
  | _ :: _, [], _, _, _, _, _, _, hl, _, _, _, _, _, _ => by simp at hl
  | [], _, _ :: _, _, _, _, _, _, _, hc, _, _, _, _, _ => by simp [chkOps] at hc
  | _ :: _, _, [], _, _, _, _, _, _, hc, _, _, _, _, _ => by simp [chkOps] at hc
  | o :: os, i :: l, ga :: gs, GG, ⟨tmps, ds⟩, w, g, st, hl, hc, he, hd, h, s, hr => by
    simp only [List.map_cons, List.cons.injEq] at hl
    obtain ⟨ho, hl⟩ := hl
    simp only [chkOps] at hc
    split at hc
    · rename_i GG' hg1
      simp only at hd
      subst hd
      rw [wpOps_cons]
      exact op_step ho hg1 he h hr (fun a w' g' st' hd h' s' he' hk => rwp_sound hQ os l gs GG' a w' g' st' hl hc he' hd h' (s.trans s' (fun _ h => h) (fun _ h => h) (fun h => h rfl)) hk)
    · cases hc

end
end Go.Abs
