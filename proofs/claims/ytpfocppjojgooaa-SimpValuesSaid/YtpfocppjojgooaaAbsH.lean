/-
  Expressions, the rest: functions, interfaces, equality of structs; and all of them together. Program-independent.
-/
import Derived.Test.YtpfocppjojgooaaAbsG
set_option linter.unusedSimpArgs false
set_option linter.unusedVariables false
namespace Go.Abs

section
variable {P : Program} {w : World} {g : Gh} {tmps : Array Value} {st : St} {G : Env} {ds : List Deferred}

theorem evT_sound (h : StR w g tmps st) {a : Operand} {x : AO} {y : TV} (hc : opd a x = true) (hr : evT st x = some y) : TVR w g.Fz y (Act.eval { tmps, defers := ds } a) := by
  unfold evT at hr
  cases he : evO st x with
  | none => rw [he] at hr; cases hr
  | some e => rw [he] at hr; exact tE_sound hr (opd_sound (ds := ds) h hc he [])

theorem opds_length : ∀ {as : List Operand} {xs : List AO}, opds as xs = true → as.length = xs.length
  | [], [], _ => rfl
  | [], _ :: _, h => by simp [opds] at h
  | _ :: _, [], h => by simp [opds] at h
  | a :: as, x :: xs, h => by simp only [opds, Bool.and_eq_true] at h; simp [opds_length h.2]

theorem evTs_sound (h : StR w g tmps st) : ∀ {as : List Operand} {xs : List AO} {ys : List TV}, opds as xs = true → evTs st xs = some ys → as.length = ys.length ∧
    ∀ (j : Nat) (y : TV) (a : Operand), ys[j]? = some y → as[j]? = some a → TVR w g.Fz y (Act.eval { tmps, defers := ds } a)
  | [], [], ys, _, hr => by simp [evTs] at hr; subst hr; exact ⟨rfl, fun j y a e => by simp at e⟩
  | [], _ :: _, _, hc, _ => by simp [opds] at hc
  | _ :: _, [], _, hc, _ => by simp [opds] at hc
  | a :: as, x :: xs, ys, hc, hr => by
    simp only [opds, Bool.and_eq_true] at hc
    simp only [evTs] at hr
    split at hr
    · rename_i y l e1 e2
      cases hr
      obtain ⟨i1, i2⟩ := evTs_sound h hc.2 e2
      refine ⟨by simp [i1], fun j z b h1 h2 => ?_⟩
      cases j with
      | zero => simp at h1 h2; subst h1 h2; exact evT_sound h hc.1 e1
      | succ j => exact i2 j z b (by simpa using h1) (by simpa using h2)
    · cases hr

theorem evOs_sound (h : StR w g tmps st) : ∀ {as : List Operand} {xs : List AO} {ys : List EV}, opds as xs = true → evOs st xs = some ys → as.length = ys.length ∧
    ∀ (j : Nat) (y : EV) (a : Operand), ys[j]? = some y → as[j]? = some a → ∀ own, EVR w g own y (Act.eval { tmps, defers := ds } a)
  | [], [], ys, _, hr => by simp [evOs] at hr; subst hr; exact ⟨rfl, fun j y a e => by simp at e⟩
  | [], _ :: _, _, hc, _ => by simp [opds] at hc
  | _ :: _, [], _, hc, _ => by simp [opds] at hc
  | a :: as, x :: xs, ys, hc, hr => by
    simp only [opds, Bool.and_eq_true] at hc
    simp only [evOs] at hr
    split at hr
    · rename_i y l e1 e2
      cases hr
      obtain ⟨i1, i2⟩ := evOs_sound h hc.2 e2
      refine ⟨by simp [i1], fun j z b h1 h2 => ?_⟩
      cases j with
      | zero => simp at h1 h2; subst h1 h2; exact fun own => opd_sound h hc.1 e1 own
      | succ j => exact i2 j z b (by simpa using h1) (by simpa using h2)
    · cases hr

theorem aC_sound {e : EV} {x : AC} {v : Value} (hr : aC e = some x) (he : ∀ own, EVR w g own e v) (own : List Nat) : ACR w g own x v := by
  cases e with
  | c y => simp only [aC] at hr; cases hr; exact evr_c (he own)
  | ag ys =>
    simp only [aC] at hr
    cases hc : tCs ys with
    | none => rw [hc] at hr; cases hr
    | some l =>
      rw [hc] at hr; cases hr
      exact .t (tE_sound (x := .ag ys) (by simp [tE, hc]) (he []))

theorem aCs_sound : ∀ {es : List EV} {xs : List AC}, aCs es = some xs → es.length = xs.length ∧ ∀ (j : Nat) (x : AC), xs[j]? = some x → ∃ e, es[j]? = some e ∧ aC e = some x
  | [], xs, h => by simp [aCs] at h; subst h; exact ⟨rfl, fun j x e => by simp at e⟩
  | e :: es, xs, h => by
    simp only [aCs] at h
    split at h
    · rename_i a l h1 h2
      cases h
      obtain ⟨i1, i2⟩ := aCs_sound h2
      refine ⟨by simp [i1], fun j x hx => ?_⟩
      cases j with
      | zero => simp at hx; subst hx; exact ⟨e, rfl, h1⟩
      | succ j => obtain ⟨e', q1, q2⟩ := i2 j x (by simpa using hx); exact ⟨e', by simpa using q1, q2⟩
    · cases h

theorem val_mkf (h : StR w g tmps st) {o : Oper} {f : FuncId} {first caps : Array Operand} {xs : List AO} {e : EV} (ho : o.op = .makeFunc (.func f) first caps) (hf : first.isEmpty = true)
    (hc : opds caps.toList xs = true) (hx : evX st (.mkf f xs) = some e) : Val P w g o { tmps, defers := ds } e := by
  have hfe : first = #[] := by simpa using hf
  subst hfe
  have run : (execOp (Act.eval { tmps, defers := ds }) o).run P w = .ok (.value (.func (.func f) #[] (caps.map (Act.eval { tmps, defers := ds })))) w := by
    simp [execOp, ho, Instr.makeFunc]
  simp only [evX] at hx
  split at hx
  · rename_i l hl
    cases hx
    obtain ⟨i1, i2⟩ := evTs_sound (ds := ds) h hc hl
    refine ⟨_, run, fun own => .c (.t (.fn f l _ (by simpa using i1) (fun j x v e1 e2 => ?_)))⟩
    rw [Array.getElem?_map] at e2
    cases ha : caps[j]? with
    | none => rw [ha] at e2; cases e2
    | some a => rw [ha] at e2; cases e2; exact i2 j x a e1 (by simpa using ha)
  · split at hx
    · rename_i l hl
      cases hx
      cases hes : evOs st xs with
      | none => rw [hes] at hl; cases hl
      | some es =>
        rw [hes] at hl
        simp only [Option.bind_some] at hl
        obtain ⟨i1, i2⟩ := evOs_sound (ds := ds) h hc hes
        obtain ⟨k1, k2⟩ := aCs_sound hl
        refine ⟨_, run, fun own => .c (.fn f l _ (by simp; rw [← k1, ← i1]; simp) (fun j x v e1 e2 => ?_))⟩
        rw [Array.getElem?_map] at e2
        cases ha : caps[j]? with
        | none => rw [ha] at e2; cases e2
        | some a =>
          rw [ha] at e2; cases e2
          obtain ⟨e', q1, q2⟩ := k2 j x e1
          exact aC_sound q2 (i2 j e' a q1 (by simpa using ha)) []
    · cases hx

theorem val_mki (h : StR w g tmps st) {o : Oper} {T : TypeId} {a : Operand} {x : AO} {e : EV} (ho : o.op = .makeInterface T a) (hc : opd a x = true)
    (hT : (match P.underlying T with | some (.interface _) | none => false | _ => true) = true) (hx : evX st (.mki T x) = some e) : Val P w g o { tmps, defers := ds } e := by
  have run : (execOp (Act.eval { tmps, defers := ds }) o).run P w = .ok (.value (.iface T (Act.eval { tmps, defers := ds } a))) w := by
    cases hu : P.underlying T with
    | none => rw [hu] at hT; cases hT
    | some d =>
      rw [hu] at hT
      simp only [execOp, ho, Instr.makeInterface, Sem.run_bind, run_under hu, Result.andThen_ok]
      cases d <;> first | rfl | (simp at hT)
  simp only [evX] at hx
  split at hx
  · rename_i y hy
    cases hx
    exact ⟨_, run, fun own => .c (.t (.ifc T y _ (evT_sound h hc hy)))⟩
  · split at hx
    · rename_i y hy
      cases hx
      exact ⟨_, run, fun own => .c (.ifc T y _ (opd_c h hc hy []))⟩
    · cases hx

theorem basic_of {t k : Nat} (h : basicKind P t k = true) : (k = 0 ∧ P.underlying t = some .bool) ∨ (k = 1 ∧ ∃ i, P.underlying t = some (.int i)) ∨ (k = 2 ∧ P.underlying t = some .string) := by
  unfold basicKind at h
  split at h <;> first | (cases h; done) | simp_all

theorem sq1_sound (d : Nat) {t k : Nat} (hk : basicKind P t k = true) {x y : TV} {v u : Value} {r : Bool} (hx : TVR w g.Fz x v) (hy : TVR w g.Fz y u) (hr : sq1 k x y = some r) : (Op.equalIn (d + 1) t v u).run P w = .ok r w := by
  rcases basic_of hk with ⟨rfl, hu⟩ | ⟨rfl, i, hu⟩ | ⟨rfl, hu⟩
  · unfold sq1 at hr
    split at hr <;> first | (cases hr; done) | skip
    · cases hr
      rw [tvr_b hx, tvr_b hy]; exact Go.run_equalIn_bool' w d t _ _ hu
    all_goals (rename_i h0; cases h0)
  · unfold sq1 at hr
    split at hr <;> first | (cases hr; done) | skip
    all_goals first | (rename_i h0; cases h0; done) | skip
    split at hr
    · rename_i hkk; subst hkk; cases hr
      rw [tvr_i hx, tvr_i hy]; exact Go.run_equalIn_int w d t _ _ _ _ hu
    · cases hr
  · unfold sq1 at hr
    split at hr <;> first | (cases hr; done) | skip
    all_goals first | (rename_i h0; cases h0; done) | skip
    cases hr
    obtain ⟨a, ea, va⟩ := tvr_s hx
    obtain ⟨b, eb, vb⟩ := tvr_s hy
    rw [va, vb, Go.run_equalIn_string w d t _ _ hu, str_toList, str_toList, ea, eb]

theorem basic_agg {t k : Nat} (hk : basicKind P t k = true) : aggT P t = some false := by
  rcases basic_of hk with ⟨_, hu⟩ | ⟨_, i, hu⟩ | ⟨_, hu⟩ <;> simp [aggT, hu]

theorem sqs_sound (d : Nat) (xs ys : Array Value) (as bs : List TV) (hxs : ∀ (j : Nat) (x : TV) (v : Value), as[j]? = some x → xs[j]? = some v → TVR w g.Fz x v) (hys : ∀ (j : Nat) (x : TV) (v : Value), bs[j]? = some x → ys[j]? = some v → TVR w g.Fz x v)
    (hlx : xs.size = as.length) (hly : ys.size = bs.length) :
    ∀ (fs : List Field) (i : Nat) (kinds : List Nat) (r : Bool), fieldsBasic P fs i kinds = true → sqs kinds (as.drop i) (bs.drop i) = some r → (Op.eqFields (d + 1) xs ys fs).run P w = .ok r w
  | [], i, [], r, _, hr => by
    unfold sqs at hr
    split at hr <;> first | (cases hr; done) | skip
    · cases hr; rfl
    · rename_i h0 _ _; cases h0
  | [], _, _ :: _, _, hf, _ => by simp [fieldsBasic] at hf
  | _ :: _, _, [], _, hf, _ => by simp [fieldsBasic] at hf
  | f :: fs, i, k :: ks, r, hf, hr => by
    simp only [fieldsBasic, Bool.and_eq_true, beq_iff_eq, bne_iff_ne] at hf
    obtain ⟨⟨⟨f1, f2⟩, f3⟩, f4⟩ := hf
    obtain ⟨x, as', h1⟩ : ∃ x as', as.drop i = x :: as' := by
      cases h1 : as.drop i with
      | nil => rw [h1] at hr; simp [sqs] at hr
      | cons x as' => exact ⟨x, as', rfl⟩
    obtain ⟨y, bs', h2⟩ : ∃ y bs', bs.drop i = y :: bs' := by
      cases h2 : bs.drop i with
      | nil => rw [h2] at hr; simp [sqs] at hr
      | cons y bs' => exact ⟨y, bs', rfl⟩
    rw [h1, h2] at hr
    simp only [sqs] at hr
    have ex : as[i]? = some x := by have := congrArg (·[0]?) h1; simpa using this
    have ey : bs[i]? = some y := by have := congrArg (·[0]?) h2; simpa using this
    have hix : i < xs.size := by
      rw [hlx]; rcases Nat.lt_or_ge i as.length with h | h
      · exact h
      · rw [List.getElem?_eq_none h] at ex; cases ex
    have hiy : i < ys.size := by
      rw [hly]; rcases Nat.lt_or_ge i bs.length with h | h
      · exact h
      · rw [List.getElem?_eq_none h] at ey; cases ey
    have vx : xs[i]? = some xs[i] := by simp [hix]
    have vy : ys[i]? = some ys[i] := by simp [hiy]
    have px : ∀ w, (part f.type xs f.offset).run P w = .ok xs[i] w := fun w => by simp [part, run_agg (basic_agg f3), f1, vx]
    have py : ∀ w, (part f.type ys f.offset).run P w = .ok ys[i] w := fun w => by simp [part, run_agg (basic_agg f3), f1, vy]
    have hd1 : as.drop (i + 1) = as' := by have := congrArg List.tail h1; simpa using this
    have hd2 : bs.drop (i + 1) = bs' := by have := congrArg List.tail h2; simpa using this
    simp only [Op.eqFields, f2, ne_eq, not_false_eq_true, if_true, Sem.run_bind, px, py, Result.andThen_ok]
    split at hr
    · rename_i hq
      rw [sq1_sound d f3 (hxs i x _ ex vx) (hys i y _ ey vy) hq]
      simp only [Result.andThen_ok, Bool.not_true, Bool.false_eq_true, if_false]
      exact sqs_sound d xs ys as bs hxs hys hlx hly fs (i + 1) ks r f4 (by rw [hd1, hd2]; exact hr)
    · rename_i hq
      cases hr
      rw [sq1_sound d f3 (hxs i x _ ex vx) (hys i y _ ey vy) hq]
      simp
    · cases hr

theorem val_seq (h : StR w g tmps st) {o : Oper} {T yT : TypeId} {op : BinOp} {kinds : List Nat} {ng : Bool} {a b : Operand} {x y : AO} {e : EV} (ho : o.op = .binOp op T a b yT) (hop : op = if ng then .neq else .eql)
    (hs : structEq P T kinds = true) (h1 : opd a x = true) (h2 : opd b y = true) (hx : evX st (.seq kinds ng x y) = some e) : Val P w g o { tmps, defers := ds } e := by
  unfold structEq at hs
  split at hs
  · rename_i fs hu
    simp only [Bool.and_eq_true, Bool.not_eq_true'] at hs
    obtain ⟨⟨s1, s2⟩, s3⟩ := hs
    have hfo : P.fieldsOf T = fs := by simp [Program.fieldsOf, hu]
    simp only [evX] at hx
    split at hx
    · rename_i as bs e1 e2
      have va := evT_sound (ds := ds) h h1 e1
      have vb := evT_sound (ds := ds) h h2 e2
      generalize hea : Act.eval { tmps, defers := ds } a = v at va
      generalize heb : Act.eval { tmps, defers := ds } b = u at vb
      cases hr : sqs kinds as bs with
      | none => rw [hr] at hx; cases hx
      | some r =>
        rw [hr] at hx
        cases hx
        cases va with
        | ag as xa hsa h1a hra =>
          cases vb with
          | ag bs xb hsb h1b hrb =>
            have q : (Op.equalIn 10000 T (.agg xa) (.agg xb)).run P w = .ok r w := by
              have := Go.run_equalIn_struct (P := P) w 9999 T xa xb (by rw [hfo]; exact hu) s2
              rw [hfo] at this
              exact this.trans (sqs_sound (w := w) (g := g) 9998 xa xb as bs hra hrb hsa hsb fs.toList 0 kinds r s1 (by simpa using hr))
            have eg := Go.run_eqGuard_agg (P := P) w op T a b xa xb s3
            refine ⟨_, ?_, fun own => .c (.t (.b _))⟩
            cases ng <;> simp only [if_true, Bool.false_eq_true, if_false] at hop ⊢ <;> subst hop
            · simp only [execOp, ho, hea, heb, Sem.run_bind, eg, Result.andThen_ok, Go.run_eql_struct, q, Sem.run_pure]
            · simp only [execOp, ho, hea, heb, Sem.run_bind, eg, Result.andThen_ok, Go.run_neq_struct, q, Sem.run_pure]
    · cases hx
  · cases hs

theorem opds_two {args : Array Operand} {x y : AO} (h : opds args.toList [x, y] = true) : ∃ a b, args = #[a, b] ∧ opd a x = true ∧ opd b y = true := by
  have hl := opds_length h
  match hm : args.toList, hl with
  | [a, b], _ =>
    rw [hm] at h
    simp only [opds, Bool.and_true, Bool.and_eq_true] at h
    exact ⟨a, b, by rw [← Array.toArray_toList (xs := args), hm], h.1, h.2⟩

theorem beq_op {a b : BinOp} (h : (a == b) = true) : a = b := by cases a <;> cases b <;> first | rfl | (cases h)
theorem beq_uop {a b : UnOp} (h : (a == b) = true) : a = b := by cases a <;> cases b <;> first | rfl | (cases h)

/-- all expressions -/
theorem chkX_sound (h : StR w g tmps st) (he : EnvR w tmps st G) {o : Oper} {x : AX} {e : EV} (hc : chkX P G o.op x = true) (hx : evX st x = some e) : Val P w g o { tmps, defers := ds } e := by
  generalize ho : o.op = op at hc
  unfold chkX at hc
  split at hc
  · exact val_mov h (.inl ho) hc hx
  · exact val_mov h (.inr ho) hc hx
  · simp only [Bool.and_eq_true] at hc; exact val_pick h ho hc.1.1 hc.1.2 hc.2 hx
  · simp only [Bool.and_eq_true] at hc; exact val_ldb h he ho hc.1 hc.2 hx
  · simp only [Bool.and_eq_true] at hc; exact val_ld h ho hc.1 hc.2 hx
  · simp only [Bool.and_eq_true] at hc; exact val_fad h ho hc.1 hc.2 hx
  · simp only [Bool.and_eq_true] at hc; exact val_iad h ho hc.1.1 hc.1.2 hc.2 hx
  · simp only [Bool.and_eq_true] at hc; exact val_bin h ho (beq_op hc.1.1) hc.1.2 hc.2 hx
  · simp only [Bool.and_eq_true] at hc; exact val_beq h ho (beq_op hc.1.1.1) hc.1.1.2 hc.1.2 hc.2 hx
  · simp only [Bool.and_eq_true, Bool.or_eq_true] at hc; exact val_nleq h ho (beq_op hc.1.1) hc.1.2 hc.2 hx
  · simp only [Bool.and_eq_true] at hc; exact val_seq h ho (beq_op hc.1.1.1) hc.1.1.2 hc.1.2 hc.2 hx
  · simp only [Bool.and_eq_true] at hc; exact val_un h ho (beq_uop hc.1) hc.2 hx
  · rename_i args argTypes str x
    split at hc
    · rename_i a T h1 h2
      simp only [Bool.and_eq_true] at hc
      have e1 : args = #[a] := by rw [← Array.toArray_toList (xs := args), h1]
      have e2 : argTypes = #[T] := by rw [← Array.toArray_toList (xs := argTypes), h2]
      subst e1 e2
      exact val_len h ho hc.1 hc.2 hx
    · cases hc
  · rename_i args argTypes x y
    obtain ⟨a, b, e1, c1, c2⟩ := opds_two hc
    subst e1
    exact val_mm (isMax := false) h ho c1 c2 hx
  · rename_i args argTypes x y
    obtain ⟨a, b, e1, c1, c2⟩ := opds_two hc
    subst e1
    exact val_mm (isMax := true) h ho c1 c2 hx
  · simp only [Bool.and_eq_true] at hc; exact val_fld h ho hc.1 hc.2 hx
  · split at hc
    · rename_i fs hu
      simp only [Bool.and_eq_true] at hc
      exact val_bld h ho hu hc.1.1 hc.1.2 hc.2 hx
    · cases hc
  · simp only [Bool.and_eq_true] at hc
    obtain ⟨⟨c1, c2⟩, c3⟩ := hc
    split at c3
    · rename_i hu; exact val_six h ho c1 c2 hu hx
    · cases c3
  · simp only [Bool.and_eq_true] at hc; exact val_ssl h ho hc.1.1.1 hc.1.1.2 hc.1.2 hc.2 hx
  · simp only [Bool.and_eq_true] at hc
    obtain ⟨⟨c1, c2⟩, c3⟩ := hc
    split at c3
    · rename_i k hD
      have hk := eq_of_beq c3
      subst hk
      exact val_cnv h ho c2 hD c1 hx
    · cases c3
  · simp only [Bool.and_eq_true] at hc
    obtain ⟨⟨c1, c2⟩, c3⟩ := hc
    split at c3
    · rename_i hD; exact val_cvs h ho c2 hD c1 hx
    · cases c3
  · simp only [Bool.and_eq_true, beq_iff_eq] at hc
    obtain ⟨⟨rfl, c2⟩, c3⟩ := hc
    exact val_mkf h ho c2 c3 hx
  · simp only [Bool.and_eq_true, beq_iff_eq] at hc
    obtain ⟨⟨rfl, c2⟩, c3⟩ := hc
    exact val_mki h ho c2 c3 hx
  · cases hc

end
end Go.Abs
