/-
  A region whose order is drawn: any order does what the text's order does, if the operations that no edge binds are apart. Program-independent.
-/
import Derived.Test.YtpfocppjojgooaaAbsR
set_option linter.unusedSimpArgs false
set_option linter.unusedVariables false
namespace Go.Abs

def tmpsOf (o : Oper) : List Nat := o.op.operands.toList.filterMap fun | .tmp t => some t | _ => none

theorem mem_tmps {o : Oper} {t : Nat} (h : Operand.tmp t ∈ o.op.operands) : t ∈ tmpsOf o :=
  List.mem_filterMap.2 ⟨.tmp t, by simpa using h, rfl⟩

section
variable {P : Program} {G G' B : Env} {ops : Array Oper}

theorem atBox_sub {a : Operand} {s col : Nat} (hn : ∀ t c, a = .tmp t → (t, ER.ptr s c) ∈ G → (t, ER.ptr s c) ∈ B) (h : atBox G a s col = true) : atBox B a s col = true := by
  unfold atBox at h ⊢
  split at h
  · simp only [Bool.or_eq_true, List.contains_iff_mem] at h ⊢
    exact h.imp id (hn _ _ rfl)
  · cases h
theorem isAls_sub {a : Operand} {s : Nat} (hn : ∀ t, a = .tmp t → (t, ER.als s) ∈ G → (t, ER.als s) ∈ B) (h : isAls G a s = true) : isAls B a s = true := by
  unfold isAls at h ⊢
  split at h
  · simp only [Bool.or_eq_true, List.contains_iff_mem] at h ⊢
    exact h.imp id (hn _ rfl)
  · cases h
theorem fpOk_sub {T f t s c : Nat} (hn : ∀ c, (t, ER.ptr s c) ∈ G → (t, ER.ptr s c) ∈ B) (h : fpOk P G T f t s c = true) : fpOk P B T f t s c = true := by
  simp only [fpOk, Bool.or_eq_true, Bool.and_eq_true, beq_iff_eq, List.any_eq_true, List.contains_iff_mem] at h ⊢
  rcases h with h | ⟨c0, h1, h2, h3⟩
  · exact .inl h
  · exact .inr ⟨c0, h1, hn _ h2, h3⟩

/-- the check of an operation looks at few entries -/
theorem chk1_sub {o : Oper} {op : AOp} {f : FP} (hf : fpo op = some f) (hn : ∀ e, e ∈ G → e.1 ∈ tmpsOf o → e.2.slot ∈ f.rd → e ∈ B) (h : chk1 P G o op = some G') : (chk1 P B o op).isSome = true := by
  cases op <;> first | (simp [chk1] at h; done) | (simp [fpo] at hf; done) | skip
  case set d x =>
    simp only [fpo, Option.some.injEq] at hf; subst hf
    simp only [chk1] at h ⊢
    split at h
    · rename_i hh
      have : chkX P B o.op x = true := by
        have h2 := hh.2
        unfold chkX at h2 ⊢
        split at h2 <;> first | exact h2 | skip
        rename_i T a s col n agg heq
        simp only [Bool.and_eq_true] at h2 ⊢
        refine ⟨atBox_sub (fun t c e hm => hn _ hm (mem_tmps ?_) (by simp [rdX, ER.slot])) h2.1, h2.2⟩
        rw [heq, e]; simp [Op.operands]
      rw [if_pos ⟨hh.1, this⟩]; rfl
    · cases h
  case fp d s col =>
    simp only [fpo, Option.some.injEq] at hf; subst hf
    simp only [chk1] at h ⊢
    split at h
    · rename_i T t f heq
      split at h
      · rename_i hh
        rw [if_pos ⟨hh.1, hh.2.1, fpOk_sub (fun c hm => hn _ hm (mem_tmps (by rw [heq]; simp [Op.operands])) (by simp [ER.slot])) hh.2.2⟩]; rfl
      · cases h
    · cases h
  case als d s =>
    simp only [chk1] at h ⊢
    split at h
    · split at h
      · rename_i hh; rw [if_pos hh]; rfl
      · cases h
    · cases h
  case bxn d z =>
    simp only [chk1] at h ⊢
    split at h
    · split at h
      · rename_i hh; rw [if_pos hh]; rfl
      · cases h
    · cases h
  case bxv d x =>
    simp only [chk1] at h ⊢
    split at h
    · split at h
      · rename_i hh; rw [if_pos hh]; rfl
      · cases h
    · cases h
  case stb s col n x =>
    simp only [fpo, Option.some.injEq] at hf; subst hf
    simp only [chk1] at h ⊢
    split at h
    · rename_i T a v heq
      split at h
      · rename_i hh
        rw [if_pos ⟨hh.1, atBox_sub (fun t c e hm => hn _ hm (mem_tmps (by rw [heq, e]; simp [Op.operands])) (by simp [ER.slot])) hh.2.1, hh.2.2⟩]; rfl
      · cases h
    · cases h
  case bsl d wd xs =>
    simp only [chk1] at h ⊢
    split at h
    · split at h
      · rename_i hh; rw [if_pos hh]; rfl
      · cases h
    · cases h
  case app d s col x wd bytes fz =>
    cases col with
    | some col => simp [fpo] at hf
    | none =>
      simp only [fpo, Option.some.injEq] at hf; subst hf
      simp only [chk1] at h ⊢
      split at h
      · rename_i a b T T2 heq
        split at h
        · rename_i hh
          rw [if_pos ⟨hh.1, isAls_sub (fun t e hm => hn _ hm (mem_tmps (by rw [heq, e]; simp [Op.operands, Call.operands])) (by simp [ER.slot])) hh.2.1, hh.2.2⟩]; rfl
        · cases h
      · cases h
  case apk d x wd bytes fz =>
    simp only [chk1] at h ⊢
    split at h
    · split at h
      · rename_i hh; rw [if_pos hh]; rfl
      · cases h
    · cases h
  case mvs d s =>
    simp only [chk1] at h ⊢
    split at h
    · split at h
      · rename_i hh; rw [if_pos hh]; rfl
      · cases h
    · split at h
      · rename_i hh; rw [if_pos hh]; rfl
      · cases h
    · cases h
  case ext d s i =>
    simp only [chk1] at h ⊢
    split at h
    · split at h
      · rename_i hh; rw [if_pos hh]; rfl
      · cases h
    · cases h

theorem fpo_dst {op : AOp} {f : FP} {d : Nat} (hf : fpo op = some f) (hd : op.dst = some d) : d ∈ f.wr := by
  cases op <;> first | (simp [fpo] at hf; done) | (simp [AOp.dst] at hd; done) | skip
  all_goals try (rename_i col _ _ _ _; cases col)
  all_goals first
    | (simp [fpo] at hf; done)
    | (simp only [fpo, Option.some.injEq] at hf; simp only [AOp.dst, Option.some.injEq] at hd; subst hf; subst hd; simp)

theorem newE_rd {op : AOp} {f : FP} {e : Nat × ER} (hf : fpo op = some f) (he : e ∈ newE op) : op.dst = some e.1 ∧ e.2.slot ∈ f.rd := by
  cases op <;> first | (simp [newE] at he; done) | (simp [fpo] at hf; done) | skip
  all_goals
    simp only [fpo, Option.some.injEq] at hf; subst hf
    simp only [newE, List.mem_singleton] at he; subst he
    simp [AOp.dst, ER.slot]

theorem kill_one {e : Nat × ER} {d : Nat} (h1 : e.1 ≠ d) (h2 : e.2.slot ≠ d) : kill [e] d = [e] := by simp [kill, h1, h2]
theorem killB_one {e : Nat × ER} {d : Nat} (h2 : e.2.slot ≠ d) : killB [e] d = [e] := by
  obtain ⟨t, r⟩ := e
  cases r <;> simp [killB]
  simpa [ER.slot] using h2

/-- what an operation does not write it keeps -/
theorem killOp_keep {op : AOp} {f : FP} {e : Nat × ER} (hf : fpo op = some f) (h1 : e.1 ∉ f.wr) (h2 : e.2.slot ∉ f.wr) : (killOp op [e]).isEmpty = false := by
  cases op <;> first | (simp [fpo] at hf; done) | skip
  case tc d f args gn m =>
    simp only [fpo, Option.some.injEq] at hf; subst hf
    simp only [List.mem_cons, not_or] at h1 h2
    cases gn with
    | none => simp only [killOp, AOp.dst]; rw [kill_one h1.1 h2.1]; rfl
    | some p =>
      obtain ⟨i, n⟩ := p
      simp [gvL] at h1 h2
      simp only [killOp]; rw [kill_one h1.1 h2.1, kill_one h1.2 h2.2]; rfl
  all_goals try (rename_i col _ _ _ _; cases col)
  all_goals first
    | (simp [fpo] at hf; done)
    | (simp only [fpo, Option.some.injEq] at hf; subst hf
       simp only [List.mem_cons, List.not_mem_nil, or_false, not_or] at h1 h2
       first
         | (simp only [killOp, AOp.dst]; rw [kill_one h1 h2]; rfl)
         | (simp only [killOp]; rw [killB_one h2]; rfl)
         | rfl
         | (simp only [killOp]; rw [kill_one h1.1 h2.1, kill_one h1.2 h2.2]; rfl))

/- guarded -/
theorem gcond_sub {GG BB : GEnv} {o : Oper} {a : GOp} {f : FP} (hf : fpo a.op = some f) (hn : ∀ e, e ∈ GG → (e.2 = none ∨ e.2 = a.g) → e.1.1 ∈ tmpsOf o → e.1.2.slot ∈ f.rd → e ∈ BB) (h : gcond P ops GG o a = true) : gcond P ops BB o a = true := by
  simp only [gcond, Bool.and_eq_true, Bool.or_eq_true] at h ⊢
  refine ⟨h.1, ?_⟩
  rcases h.2 with (h | h) | h
  · refine .inl (.inl ?_)
    obtain ⟨G', hG⟩ := Option.isSome_iff_exists.1 h
    refine chk1_sub (G := envOf GG a.g) hf (fun e hm h1 h2 => ?_) hG
    obtain ⟨e', m1, m2⟩ := List.mem_filterMap.1 hm
    split at m2
    · rename_i ht
      cases m2
      exact List.mem_filterMap.2 ⟨e', hn e' m1 ht h1 h2, by rw [if_pos ht]⟩
    · cases m2
  · exact .inl (.inr h)
  · refine .inr ?_
    cases hop : a.op <;> rw [hop] at h <;> first | exact h | (simp [chkCall] at h; done)

theorem chkG1_eq {GG GG' : GEnv} {o : Oper} {a : GOp} (h : chkG1 P ops GG o a = some GG') : gcond P ops GG o a = true ∧ GG' = (newE a.op).map (·, a.g) ++ keepG a.op GG := by
  unfold chkG1 at h
  split at h
  · rename_i hc; cases h; exact ⟨hc, rfl⟩
  · cases h
theorem chkG1_of {GG : GEnv} {o : Oper} {a : GOp} (h : gcond P ops GG o a = true) : chkG1 P ops GG o a = some ((newE a.op).map (·, a.g) ++ keepG a.op GG) := by
  unfold chkG1; rw [if_pos h]

def known (a : GOp) : Bool := (fpg a).isSome
/-- two operations may be done in either order -/
def apartG (ox : Oper) (x : GOp) (oy : Oper) (y : GOp) : Bool :=
  match fpg x, fpg y with
  | some fx, some fy => apart fx fy && disj fx.wr (tmpsOf oy) && disj fy.wr (tmpsOf ox)
  | _, _ => false

theorem fpg_fpo {a : GOp} {f : FP} (h : fpg a = some f) : ∃ f0, fpo a.op = some f0 ∧ f.wr = f0.wr ∧ (∀ n, n ∈ f0.rd → n ∈ f.rd) ∧ (∀ j w, a.g = some (j, w) → j ∈ f.rd) := by
  obtain ⟨g, op⟩ := a
  simp only [fpg] at h
  cases h0 : fpo op with
  | none => rw [h0] at h; cases h
  | some f0 =>
    rw [h0] at h
    cases g with
    | none => cases h; exact ⟨_, rfl, rfl, fun n hn => hn, fun j w e => by cases e⟩
    | some jw =>
      obtain ⟨j, w⟩ := jw
      simp only at h
      rcases Bool.eq_false_or_eq_true (dstIn op f0) with hd | hd
      · rw [if_pos hd] at h
        cases h
        exact ⟨f0, rfl, rfl, fun n hn => by simp [hn], fun j' w' e => by cases e; simp⟩
      · rw [if_neg (by rw [hd]; simp)] at h; cases h

theorem gOk_of {op : AOp} {f0 : FP} {t : Option (Nat × Bool)} (hf : fpo op = some f0) (ht : ∀ j w, t = some (j, w) → j ∉ f0.wr) : gOk op t = true := by
  cases t with
  | none => rfl
  | some jw =>
    obtain ⟨j, w⟩ := jw
    cases hd : op.dst with
    | none => simp [gOk, hd]
    | some d =>
      simp only [gOk, hd, bne_iff_ne, ne_eq]
      rintro rfl
      exact ht _ w rfl (fpo_dst hf hd)

theorem mem_keepG {op : AOp} {GG : GEnv} {e : (Nat × ER) × Option (Nat × Bool)} : e ∈ keepG op GG ↔ e ∈ GG ∧ (killOp op [e.1]).isEmpty = false ∧ gOk op e.2 = true := by
  simp only [keepG, List.mem_filter, Bool.and_eq_true, Bool.not_eq_true']

theorem chkOps_mono : ∀ (os : List Oper) (gs : List GOp) (GG BB : GEnv), (∀ a, a ∈ gs → known a = true) → (∀ e, e ∈ GG → e ∈ BB) → chkOps P ops GG os gs = true → chkOps P ops BB os gs = true
  | [], [], _, _, _, _, _ => rfl
  | [], _ :: _, _, _, _, _, h => by simp [chkOps] at h
  | _ :: _, [], _, _, _, _, h => by simp [chkOps] at h
  | o :: os, a :: gs, GG, BB, hk, hs, h => by
    simp only [chkOps] at h ⊢
    split at h
    · rename_i GG' hg
      obtain ⟨h1, rfl⟩ := chkG1_eq hg
      obtain ⟨f, hf⟩ := Option.isSome_iff_exists.1 (hk a (by simp))
      obtain ⟨f0, hf0, _⟩ := fpg_fpo hf
      rw [chkG1_of (gcond_sub hf0 (fun e he _ _ _ => hs e he) h1)]
      refine chkOps_mono os gs _ _ (fun a ha => hk a (List.mem_cons_of_mem _ ha)) (fun e he => ?_) h
      rcases List.mem_append.1 he with he | he
      · exact List.mem_append_left _ he
      · obtain ⟨m1, m2⟩ := mem_keepG.1 he
        exact List.mem_append_right _ (mem_keepG.2 ⟨hs e m1, m2⟩)
    · cases h

theorem chkOps_swap {ox oy : Oper} {x y : GOp} {os : List Oper} {gs : List GOp} {GG BB : GEnv} (hk : ∀ a, a ∈ gs → known a = true) (ha : apartG ox x oy y = true) (hs : ∀ e, e ∈ GG → e ∈ BB)
    (h : chkOps P ops GG (ox :: oy :: os) (x :: y :: gs) = true) : chkOps P ops BB (oy :: ox :: os) (y :: x :: gs) = true := by
  unfold apartG at ha
  split at ha
  · rename_i fx fy hfx hfy
    simp only [apart, Bool.and_eq_true, Bool.not_eq_true'] at ha
    obtain ⟨⟨⟨⟨⟨a1, a2⟩, _⟩, _⟩, a3⟩, a4⟩ := ha
    obtain ⟨x0, hx0, hxw, hxr, hxg⟩ := fpg_fpo hfx
    obtain ⟨y0, hy0, hyw, hyr, hyg⟩ := fpg_fpo hfy
    simp only [chkOps] at h ⊢
    split at h
    · rename_i G1 hg1
      obtain ⟨c1, rfl⟩ := chkG1_eq hg1
      split at h
      · rename_i G2 hg2
        obtain ⟨c2, rfl⟩ := chkG1_eq hg2
        -- what y looks at lies in BB
        have q1 : gcond P ops BB oy y = true := by
          refine gcond_sub hy0 (fun e he _ h1 h2 => ?_) c2
          rcases List.mem_append.1 he with he | he
          · obtain ⟨e', m1, rfl⟩ := List.mem_map.1 he
            obtain ⟨d1, _⟩ := newE_rd hx0 m1
            exact (disj_spec a3 h1 (hxw ▸ fpo_dst hx0 d1)).elim
          · exact hs e (mem_keepG.1 he).1
        rw [chkG1_of q1]
        simp only
        have q2 : gcond P ops ((newE y.op).map (·, y.g) ++ keepG y.op BB) ox x = true := by
          refine gcond_sub hx0 (fun e he ht h1 h2 => ?_) c1
          refine List.mem_append_right _ (mem_keepG.2 ⟨hs e he, killOp_keep hy0 ?_ ?_, gOk_of hy0 (fun j w e1 => ?_)⟩)
          · rw [← hyw]; exact disj_spec a4 h1
          · rw [← hyw]; exact disj_spec a2 (hxr _ h2)
          · rw [← hyw]
            rcases ht with ht | ht
            · rw [ht] at e1; cases e1
            · rw [ht] at e1; exact disj_spec a2 (hxg j w e1)
        rw [chkG1_of q2]
        refine chkOps_mono os gs _ _ hk (fun e he => ?_) h
        rcases List.mem_append.1 he with he | he
        · refine List.mem_append_right _ (mem_keepG.2 ⟨List.mem_append_left _ he, ?_, ?_⟩)
          · obtain ⟨e', m1, rfl⟩ := List.mem_map.1 he
            obtain ⟨d1, d2⟩ := newE_rd hy0 m1
            refine killOp_keep hx0 ?_ ?_
            · rw [← hxw]; exact disj_spec a1 (List.mem_append_right _ (hyw ▸ fpo_dst hy0 d1))
            · rw [← hxw]; exact disj_spec a1 (List.mem_append_left _ (hyr _ d2))
          · obtain ⟨e', m1, rfl⟩ := List.mem_map.1 he
            refine gOk_of hx0 (fun j w e1 => ?_)
            rw [← hxw]; exact disj_spec a1 (List.mem_append_left _ (hyg j w e1))
        · obtain ⟨m1, m2⟩ := mem_keepG.1 he
          rcases List.mem_append.1 m1 with m1 | m1
          · exact List.mem_append_left _ m1
          · obtain ⟨k1, k2⟩ := mem_keepG.1 m1
            exact List.mem_append_right _ (mem_keepG.2 ⟨List.mem_append_right _ (mem_keepG.2 ⟨hs e k1, m2⟩), k2⟩)
      · cases h
    · cases h
  · cases ha

/- to the front -/
abbrev Trip := Nat × Oper × GOp

theorem rwp_front {K : St → Prop} : ∀ (pre post : List Trip) (t : Trip) (st : St), (∀ x, x ∈ pre → apartG x.2.1 x.2.2 t.2.1 t.2.2 = true) → rwp P ((pre ++ t :: post).map (·.2.2)) K st → rwp P ((t :: (pre ++ post)).map (·.2.2)) K st
  | [], post, t, st, _, h => h
  | x :: pre, post, t, st, ha, h => by
    simp only [List.cons_append, List.map_cons, rwp] at h ⊢
    have h2 : gwp P x.2.2 (gwp P t.2.2 (rwp P ((pre ++ post).map (·.2.2)) K)) st := by
      refine gwp_mono (fun s hs => ?_) h
      exact rwp_front pre post t s (fun y hy => ha y (List.mem_cons_of_mem _ hy)) hs
    have hap := ha x (by simp)
    unfold apartG at hap
    split at hap
    · rename_i fx fy e1 e2
      simp only [Bool.and_eq_true] at hap
      exact gwp_swap e1 e2 hap.1.1 h2
    · cases hap

theorem chk_front : ∀ (pre post : List Trip) (t : Trip) (GG : GEnv), (∀ x, x ∈ pre ++ t :: post → known x.2.2 = true) → (∀ x, x ∈ pre → apartG x.2.1 x.2.2 t.2.1 t.2.2 = true) →
    chkOps P ops GG ((pre ++ t :: post).map (·.2.1)) ((pre ++ t :: post).map (·.2.2)) = true → chkOps P ops GG ((t :: (pre ++ post)).map (·.2.1)) ((t :: (pre ++ post)).map (·.2.2)) = true
  | [], post, t, GG, _, _, h => h
  | x :: pre, post, t, GG, hk, ha, h => by
    simp only [List.cons_append, List.map_cons] at h ⊢
    refine chkOps_swap (GG := GG) (fun a hm => ?_) (ha x (by simp)) (fun e he => he) ?_
    · obtain ⟨y, y1, rfl⟩ := List.mem_map.1 hm
      refine hk y (List.mem_cons_of_mem _ ?_)
      rcases List.mem_append.1 y1 with y1 | y1
      · exact List.mem_append_left _ y1
      · exact List.mem_append_right _ (List.mem_cons_of_mem _ y1)
    · rw [chkOps] at h ⊢
      split at h
      · rename_i G1 hg
        exact chk_front pre post t G1 (fun y hy => hk y (List.mem_cons_of_mem _ hy)) (fun y hy => ha y (List.mem_cons_of_mem _ hy)) h
      · cases h

/-- an edge that binds y behind the operation x -/
def edgeOn (x : Nat) (o : Oper) : Bool := o.after.any fun e => Region.binds .any e && e.on == x
/-- edges that bind, one behind the other, up to the operation x -/
def pathTo (ops : Array Oper) (x : Nat) : Nat → Oper → Bool
  | 0, _ => false
  | n + 1, o => o.after.any fun e => Region.binds .any e && (e.on == x || (match ops[e.on]? with | some o' => pathTo ops x n o' | none => false))
def pairOk (ops : Array Oper) (x y : Trip) : Bool := (edgeOn x.1 y.2.1 || apartG x.2.1 x.2.2 y.2.1 y.2.2) || pathTo ops x.1 4 y.2.1
def pairsOk (ops : Array Oper) : List Trip → Bool
  | [] => true
  | x :: r => r.all (fun y => pairOk ops x y && decide (x.1 < y.1)) && x.2.1.after.all (fun e => !Region.binds .any e || decide (e.on < x.1)) && known x.2.2 && pairsOk ops r
def trips (ops : Array Oper) (gs : List GOp) : List Trip := (List.range ops.size).zip (ops.toList.zip gs)
def chkD (P : Program) (ops : Array Oper) (gs : List GOp) : Bool := P.follows .mixedOrders && pairsOk ops (trips ops gs) && chkOps P ops [] ops.toList gs

theorem pairs_mem : ∀ {L : List Trip} (_ : pairsOk ops L = true) (x : Trip), x ∈ L → known x.2.2 = true ∧ ∀ e, e ∈ x.2.1.after → Region.binds .any e = true → e.on < x.1
  | [], _, x, hx => by cases hx
  | y :: r, h, x, hx => by
    simp only [pairsOk, Bool.and_eq_true] at h
    obtain ⟨⟨⟨h1, h2⟩, h3⟩, h4⟩ := h
    rcases List.mem_cons.1 hx with rfl | hx
    · refine ⟨h3, fun e he hb => ?_⟩
      have := Array.all_eq_true_iff_forall_mem.1 h2 e he
      simp [hb] at this; exact this
    · exact pairs_mem h4 x hx

theorem pairs_split : ∀ (pre post : List Trip) (t : Trip), pairsOk ops (pre ++ t :: post) = true → (∀ x, x ∈ pre → pairOk ops x t = true) ∧ pairsOk ops (pre ++ post) = true
  | [], post, t, h => by
    simp only [List.nil_append, pairsOk, Bool.and_eq_true] at h
    exact ⟨fun x hx => (by cases hx), h.2⟩
  | y :: pre, post, t, h => by
    simp only [List.cons_append, pairsOk, Bool.and_eq_true] at h
    obtain ⟨⟨⟨h1, h2⟩, h3⟩, h4⟩ := h
    obtain ⟨i1, i2⟩ := pairs_split pre post t h4
    simp only [List.all_eq_true, Bool.and_eq_true] at h1
    refine ⟨fun x hx => ?_, ?_⟩
    · rcases List.mem_cons.1 hx with rfl | hx
      · exact (h1 t (by simp)).1
      · exact i1 x hx
    · simp only [List.cons_append, pairsOk, Bool.and_eq_true, List.all_eq_true]
      refine ⟨⟨⟨fun z hz => h1 z ?_, h2⟩, h3⟩, i2⟩
      rcases List.mem_append.1 hz with hz | hz
      · exact List.mem_append_left _ hz
      · exact List.mem_append_right _ (List.mem_cons_of_mem _ hz)

theorem pairs_distinct : ∀ (pre post : List Trip) (t : Trip), pairsOk ops (pre ++ t :: post) = true → ∀ u, u ∈ pre ++ post → u.1 ≠ t.1
  | [], post, t, h, u, hu => by
    simp only [List.nil_append, pairsOk, Bool.and_eq_true, List.all_eq_true, decide_eq_true_eq] at h hu
    have := (h.1.1.1 u hu).2; omega
  | y :: pre, post, t, h, u, hu => by
    simp only [List.cons_append, pairsOk, Bool.and_eq_true, List.all_eq_true, decide_eq_true_eq] at h
    rcases List.mem_cons.1 hu with rfl | hu
    · have := (h.1.1.1 t (by simp)).2; omega
    · exact pairs_distinct pre post t h.2 u hu

end

section
variable {P : Program} {ops : Array Oper} {w0 : World} {g0 : Gh}

def Closed (ops : Array Oper) (listed : Array Bool) : Prop :=
  ∀ (j : Nat) (o : Oper), ops[j]? = some o → listed.getD j false = true → ∀ e, e ∈ o.after → Region.binds .any e = true → listed.getD e.on false = true
theorem path_listed {listed : Array Bool} (hc : Closed ops listed) {x : Nat} : ∀ (n : Nat) (o : Oper), (∀ e, e ∈ o.after → Region.binds .any e = true → listed.getD e.on false = true) → pathTo ops x n o = true → listed.getD x false = true
  | 0, o, _, h => by cases h
  | n + 1, o, hr, h => by
    simp only [pathTo] at h
    obtain ⟨e, he1, he2⟩ := Array.any_eq_true'.1 h
    simp only [Bool.and_eq_true, Bool.or_eq_true, beq_iff_eq] at he2
    obtain ⟨b1, b2⟩ := he2
    have hl := hr e he1 b1
    rcases b2 with rfl | b2
    · exact hl
    · split at b2
      · rename_i o' ho'
        exact path_listed hc n o' (hc e.on o' ho' hl) b2
      · cases b2

theorem closed_step {listed : Array Bool} {t : Nat} {o : Oper} (hc : Closed ops listed) (ho : ops[t]? = some o) (hm : ∀ e, e ∈ o.after → Region.binds .any e = true → listed.getD e.on false = true) : Closed ops (listed.setIfInBounds t true) := by
  intro j o' ho' hl e he hb
  by_cases htj : t = j
  · subst htj
    rw [ho] at ho'; cases ho'
    exact getD_set_true (hm e he hb)
  · rw [getD_set_ne false htj] at hl
    exact getD_set_true (hc j o' ho' hl e he hb)

/-- any order that the edges leave open -/
theorem any_sound {K : St → Prop} {Q : Exit → Act → World → Prop} (hQ : ∀ a w g st, a.defers = [] → StR w g a.tmps st → Stp w0 g0 w g NE → K st → Q .normal a w) :
    ∀ (n : Nat) (L : List Trip) (listed : Array Bool) (GG : GEnv) (a : Act) (w : World) (g : Gh) (st : St), L.length = n → listed.size = ops.size → (∀ t, t ∈ L → ops[t.1]? = some t.2.1) →
      (∀ j, j < ops.size → (listed.getD j true = false ↔ ∃ t, t ∈ L ∧ t.1 = j)) → Closed ops listed → pairsOk ops L = true →
      chkOps P ops GG (L.map (·.2.1)) (L.map (·.2.2)) = true → GEnvR w a.tmps st GG → a.defers = [] → StR w g a.tmps st → Stp w0 g0 w g NE → rwp P (L.map (·.2.2)) K st → wpAny P .any ops Q n listed a w := by
  intro n
  induction n with
  | zero =>
    intro L listed GG a w g st hn hsz hops hidx hcl hp hc he hd h s hr
    have hL : L = [] := List.length_eq_zero_iff.1 hn
    subst hL
    refine ⟨?_, hQ a w g st hd h s hr⟩
    refine List.eq_nil_iff_forall_not_mem.2 (fun j hj => ?_)
    obtain ⟨m1, o, m2, m3⟩ := mem_ready.1 hj
    have hlt : j < ops.size := (Array.getElem?_eq_some_iff.1 m2).1
    obtain ⟨t, ht, _⟩ := (hidx j hlt).1 m1
    cases ht
  | succ n ih =>
    intro L listed GG a w g st hn hsz hops hidx hcl hp hc he hd h s hr
    -- behind the edges
    have hready : ∀ t, t ∈ L → (∀ e, e ∈ t.2.1.after → Region.binds .any e = true → ∀ u, u ∈ L → u.1 ≠ e.on) → t.1 ∈ Region.ready .any ops listed := by
      intro t ht hno
      have hlt : t.1 < ops.size := (Array.getElem?_eq_some_iff.1 (hops t ht)).1
      refine mem_ready.2 ⟨(hidx _ hlt).2 ⟨t, ht, rfl⟩, t.2.1, hops t ht, fun e hm hb => ?_⟩
      have hon : e.on < t.1 := (pairs_mem hp t ht).2 e hm hb
      have hlt2 : e.on < ops.size := by omega
      have hl2 : e.on < listed.size := by omega
      cases hv : listed.getD e.on true with
      | true => simpa [Array.getD, hl2] using hv
      | false =>
        obtain ⟨u, u1, u2⟩ := (hidx _ hlt2).1 hv
        exact (hno e hm hb u u1 u2).elim
    refine ⟨fun hnil => ?_, fun i hi => ?_⟩
    · -- the first that is left is ready
      cases L with
      | nil => simp at hn
      | cons t r =>
        have : t.1 ∈ Region.ready .any ops listed := by
          refine hready t (by simp) (fun e hm hb u hu => ?_)
          have hon : e.on < t.1 := (pairs_mem hp t (by simp)).2 e hm hb
          simp only [pairsOk, Bool.and_eq_true, List.all_eq_true, decide_eq_true_eq] at hp
          rcases List.mem_cons.1 hu with rfl | hu
          · omega
          · have := (hp.1.1.1 u hu).2; omega
        rw [hnil] at this; cases this
    · obtain ⟨m1, o, m2, m3⟩ := mem_ready.1 hi
      have hlt : i < ops.size := (Array.getElem?_eq_some_iff.1 m2).1
      obtain ⟨t, ht, rfl⟩ := (hidx i hlt).1 m1
      obtain ⟨pre, post, rfl⟩ := List.append_of_mem ht
      obtain ⟨p1, p2⟩ := pairs_split pre post t hp
      have hot := hops t ht
      have hap : ∀ x, x ∈ pre → apartG x.2.1 x.2.2 t.2.1 t.2.2 = true := by
        intro x hx
        have hpk := p1 x hx
        simp only [pairOk, Bool.or_eq_true] at hpk
        rcases hpk with (hpk | hpk) | hpk
        rotate_left 2
        · have hxm : x ∈ pre ++ t :: post := List.mem_append_left _ hx
          have hxl : x.1 < ops.size := (Array.getElem?_eq_some_iff.1 (hops x hxm)).1
          have hun := (hidx x.1 hxl).2 ⟨x, hxm, rfl⟩
          rw [m2] at hot; cases hot
          have hl := path_listed hcl 4 _ m3 hpk
          have hl2 : x.1 < listed.size := by omega
          simp [Array.getD, hl2] at hun hl
          rw [hl] at hun; cases hun
        · obtain ⟨e, he1, he2⟩ := Array.any_eq_true'.1 hpk
          simp only [Bool.and_eq_true, beq_iff_eq] at he2
          have hxm : x ∈ pre ++ t :: post := List.mem_append_left _ hx
          have hxl : x.1 < ops.size := (Array.getElem?_eq_some_iff.1 (hops x hxm)).1
          have hun := (hidx x.1 hxl).2 ⟨x, hxm, rfl⟩
          rw [m2] at hot; cases hot
          have hl := m3 e he1 he2.1
          rw [he2.2] at hl
          have hl2 : x.1 < listed.size := by omega
          simp [Array.getD, hl2] at hun hl
          rw [hl] at hun; cases hun
        · exact hpk
      have hknown : ∀ x, x ∈ pre ++ t :: post → known x.2.2 = true := fun x hx => (pairs_mem hp x hx).1
      have hc2 := chk_front pre post t GG hknown hap hc
      have hr2 := rwp_front pre post t st hap hr
      simp only [List.map_cons, rwp] at hr2
      simp only [List.map_cons, chkOps] at hc2
      split at hc2
      · rename_i GG' hg
        obtain ⟨tmps, ds⟩ := a
        simp only at hd
        subst hd
        refine op_step hot hg he h hr2 (fun a' w' g' st' hd' h' s' he' hk => ?_)
        refine ih (pre ++ post) _ GG' a' w' g' st' (by simp at hn ⊢; omega) (by simpa using hsz) (fun u hu => hops u ?_) (fun j hj => ?_) (closed_step hcl m2 m3) p2 hc2 he' hd' h' (s.trans s' (fun _ h => h) (fun _ h => h) (fun h => h rfl)) hk
        · rcases List.mem_append.1 hu with hu | hu
          · exact List.mem_append_left _ hu
          · exact List.mem_append_right _ (List.mem_cons_of_mem _ hu)
        · -- what is left
          have hdist : ∀ u, u ∈ pre ++ post → u.1 ≠ t.1 := by
            intro u hu e
            have := pairs_distinct pre post t hp u hu
            exact this e
          by_cases hjt : t.1 = j
          · subst hjt
            have : (listed.setIfInBounds t.1 true).getD t.1 true = true := by simp [Array.getD]
            rw [this]
            constructor
            · intro h; cases h
            · rintro ⟨u, u1, u2⟩; exact (hdist u u1 u2).elim
          · rw [getD_set_ne true hjt, hidx j hj]
            constructor
            · rintro ⟨u, u1, u2⟩
              refine ⟨u, ?_, u2⟩
              rcases List.mem_append.1 u1 with u1 | u1
              · exact List.mem_append_left _ u1
              · rcases List.mem_cons.1 u1 with rfl | u1
                · exact (hjt u2).elim
                · exact List.mem_append_right _ u1
            · rintro ⟨u, u1, u2⟩
              refine ⟨u, ?_, u2⟩
              rcases List.mem_append.1 u1 with u1 | u1
              · exact List.mem_append_left _ u1
              · exact List.mem_append_right _ (List.mem_cons_of_mem _ u1)
      · cases hc2

theorem trips_get {gs : List GOp} {t : Trip} (h : t ∈ trips ops gs) : ops[t.1]? = some t.2.1 := by
  obtain ⟨k, hk⟩ := List.mem_iff_getElem?.1 h
  simp only [trips, List.getElem?_zip_eq_some] at hk
  obtain ⟨h1, h2, _⟩ := hk
  rw [List.getElem?_range (by
    rcases Nat.lt_or_ge k ops.size with h' | h'
    · exact h'
    · rw [List.getElem?_eq_none (by simpa using h')] at h1; cases h1)] at h1
  cases h1
  simpa using h2

theorem chkOps_len : ∀ (os : List Oper) (gs : List GOp) (GG : GEnv), chkOps P ops GG os gs = true → os.length = gs.length
  | [], [], _, _ => rfl
  | [], _ :: _, _, h => by simp [chkOps] at h
  | _ :: _, [], _, h => by simp [chkOps] at h
  | o :: os, a :: gs, GG, h => by
    simp only [chkOps] at h
    split at h
    · rename_i GG' hg
      simp [chkOps_len os gs GG' h]
    · cases h

theorem trips_maps {gs : List GOp} (h : ops.toList.length = gs.length) : (trips ops gs).map (·.2.1) = ops.toList ∧ (trips ops gs).map (·.2.2) = gs ∧ (trips ops gs).length = ops.size ∧ ∀ j, j < ops.size → ∃ t, t ∈ trips ops gs ∧ t.1 = j := by
  have e1 : (trips ops gs).map (·.2) = ops.toList.zip gs := List.map_snd_zip (by simp; simp at h; omega)
  have e0 : (trips ops gs).map (·.1) = List.range ops.size := List.map_fst_zip (by simp; simp at h; omega)
  refine ⟨?_, ?_, by simp [trips]; simp at h; omega, fun j hj => ?_⟩
  · have : (trips ops gs).map (·.2.1) = ((trips ops gs).map (·.2)).map (·.1) := by simp
    rw [this, e1]; exact List.map_fst_zip (by omega)
  · have : (trips ops gs).map (·.2.2) = ((trips ops gs).map (·.2)).map (·.2) := by simp
    rw [this, e1]; exact List.map_snd_zip (by omega)
  · have : j ∈ (trips ops gs).map (·.1) := by rw [e0]; simpa using hj
    obtain ⟨t, t1, t2⟩ := List.mem_map.1 this
    exact ⟨t, t1, t2⟩

theorem drw_sound {K : St → Prop} {Q : Exit → Act → World → Prop} (hQ : ∀ a w g st, a.defers = [] → StR w g a.tmps st → Stp w0 g0 w g NE → K st → Q .normal a w) {id : Nat} {gs : List GOp} {a : Act} {w : World} {g : Gh} {st : St}
    (hc : chkD P ops gs = true) (hd : a.defers = []) (h : StR w g a.tmps st) (s : Stp w0 g0 w g NE) (hr : rwp P gs K st) : (Code.region id ops true).wp P Q a w := by
  simp only [chkD, Bool.and_eq_true] at hc
  obtain ⟨⟨c1, c2⟩, c3⟩ := hc
  refine wp_region_any c1 ?_
  obtain ⟨m1, m2, m3, m4⟩ := trips_maps (chkOps_len _ _ _ c3)
  have sd : Stp w g w.drew g NE := Stp.drew w g NE (fun h => h rfl)
  have hd2 : StR w.drew g a.tmps st := ⟨h.len, fun n x v e1 e2 => (h.sl n x v e1 e2).step (Stp.drew w g Never (fun h => h)) (fun _ h => h), fun i b e => (h.hp i b e).step (Stp.drew w g Never (fun h => h)) (by rw [h.n]; exact (List.getElem?_eq_some_iff.1 e).1) (fun _ _ h => h), h.fz, h.om, h.n⟩
  refine any_sound hQ ops.size (trips ops gs) _ [] a _ g st m3 (by simp) (fun t ht => trips_get ht) (fun j hj => ?_) (fun j o _ h => by simp [Array.getD] at h) c2 (by rw [m1, m2]; exact c3) (fun e he => by cases he) hd hd2 (s.trans sd (fun _ h => h) (fun _ h => h) (fun h => h rfl)) (by rw [m2]; exact hr)
  constructor
  · intro _; exact m4 j hj
  · intro _; simp [Array.getD, hj]

end
end Go.Abs
