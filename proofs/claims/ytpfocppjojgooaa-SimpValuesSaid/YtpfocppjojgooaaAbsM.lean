/-
  Appends, moves and parts of tuples as operations of a frame; every operation that calls nothing. Program-independent.
-/
import Derived.Test.YtpfocppjojgooaaAbsLe
set_option linter.unusedSimpArgs false
set_option linter.unusedVariables false
namespace Go.Abs

section
variable {P : Program} {w w' : World} {g g' : Gh} {tmps tmps' : Array Value} {st st' : St} {G G' : Env} {ds : List Deferred}

theorem run_append_op {o : Oper} {a b : Operand} {T T2 : TypeId} {u : Value} (ho : o.op = .call { callee := .builtin .append, args := ⟨[a, b]⟩, argTypes := ⟨[T, T2]⟩ }) (f : Operand → Value)
    (h : (Builtin.append_ #[T, T2] o.type #[f a, f b]).run P w = .ok u w') : (execOp f o).run P w = .ok (.value u) w' := by
  simp only [execOp, ho]
  simp [resolve, invoke, builtin, h]

theorem not_under_sub {s c n : Nat} (h : n ≠ s) (r : List Nat) : ¬ Under [0, s, c] ([0, n] ++ r) := by
  rintro ⟨q, hq⟩; simp at hq; exact h hq.1
theorem not_under_heap2 {s c : Nat} (j : Nat) (r : List Nat) : ¬ Under [0, s, c] ([1, j] ++ r) := by
  rintro ⟨q, hq⟩; simp at hq

theorem als_val (h : StR w g tmps st) (he : EnvR w tmps st G) {a : Operand} {s : Nat} (ha : isAls G a s = true) {v : Value} (hv : tmps[s]? = some v) : Act.eval { tmps, defers := ds } a = v := by
  unfold isAls at ha
  split at ha
  · rename_i t
    simp only [Bool.or_eq_true, beq_iff_eq] at ha
    rcases ha with rfl | hm
    · exact getD_of_get hv
    · obtain ⟨u, u1, u2⟩ := he t _ (by simpa using hm)
      rw [hv] at u1; cases u1
      exact getD_of_get u2
  · cases ha

theorem done_app {fz : Bool} (h : StR w g tmps st) (he : EnvR w tmps st G) {o : Oper} {d s T T2 wd bytes : Nat} {a b : Operand} {x : AO} {bs r : AC} {e : EV} (hd : o.dst = some d)
    (ho : o.op = .call { callee := .builtin .append, args := ⟨[a, b]⟩, argTypes := ⟨[T, T2]⟩ }) (ha : isAls G a s = true) (hb : opd b x = true) (hok : appOk P T T2 wd bytes = true)
    (hs : st.sl[s]? = some (.e (.c bs))) (hx : evO st x = some e) (hr : appd fz wd bytes bs e = some r) :
    Done P w g o { tmps, defers := ds } ((st.put s und).put d (.e (.c r))) (kill (kill G d) s) := by
  obtain ⟨v, v1, v2, v3⟩ := h.get hs
  have hav := als_val (ds := ds) h he ha v1
  have hbx := fun own => opd_sound (ds := ds) h hb hx own
  have hbs : ACR w g [0, s] bs v := by cases v3 with | e q => exact evr_c q
  obtain ⟨u, w', g', q1, q2, q3, q4, q5, q6⟩ := append_any (P := P) (ty := o.type) (p := [0, s]) (dst := [0, d]) (by simp) (by simp) hok hbs hbx hr h.fz h.om
  have run := run_append_op (P := P) (w := w) ho (Act.eval { tmps, defers := ds }) (by rw [hav]; exact q1)
  refine ⟨_, u, w', g', run, .inl rfl, ?_, ?_, q3.mono (fun o ho => by rintro rfl; exact q3.no ho) nn⟩
  · rw [hd]
    refine h.step q3 (fun n => n = s ∨ n = d) (by simp [St.put]) (by simp [act_put]) rfl q4 (fun n hn => ⟨?_, ?_, fun r => not_under_slot (fun e => hn (.inl e)) r⟩) ?_ (fun j r => not_under_heap j r) q5 q6
    · rw [put_other _ _ _ _ (fun e => hn (.inr e)), put_other _ _ _ _ (fun e => hn (.inl e))]
    · rw [act_put, setIf_other _ _ _ _ (fun e => hn (.inr e))]
    · intro n y z hn e1 e2
      by_cases hnd : n = d
      · subst hnd
        rw [act_put] at e2
        rw [put_same e1, setIf_same e2]
        exact .e (.c q2)
      · rw [put_other _ _ _ _ hnd] at e1
        have hns : n = s := hn.resolve_right hnd
        subst hns
        rw [put_same e1]
        exact SVR.und _ _ _ _
  · rw [hd]
    refine he.step h q3 (fun t r hr => ?_)
    obtain ⟨m1, m2, m3⟩ := mem_kill hr
    obtain ⟨k1, k2, k3⟩ := mem_kill m1
    refine ⟨k1, setIf_other _ _ _ _ k2, setIf_other _ _ _ _ k3, fun s' col e => ⟨fun ht => ?_, ?_⟩⟩
    · subst e
      obtain ⟨q, hq⟩ := ht
      simp at hq; exact m3 hq.1
    · subst e
      exact (put_other _ _ _ _ k3).trans (put_other _ _ _ _ m3)

theorem done_appb {fz : Bool} (h : StR w g tmps st) (he : EnvR w tmps st G) {o : Oper} {d s col T T2 wd bytes : Nat} {a b : Operand} {x : AO} {cs : List AC} {bs r : AC} {e : EV} (hd : o.dst = some d) (hds : d ≠ s)
    (ho : o.op = .call { callee := .builtin .append, args := ⟨[a, b]⟩, argTypes := ⟨[T, T2]⟩ }) (ha : isAlb G a s col = true) (hb : opd b x = true) (hok : appOk P T T2 wd bytes = true)
    (hs : st.sl[s]? = some (.bx cs)) (hcol : cs[col]? = some bs) (hx : evO st x = some e) (hr : appd fz wd bytes bs e = some r) :
    Done P w g o { tmps, defers := ds } ((st.put s (.bx (cs.set col .und))).put d (.e (.c r))) (killB (kill G d) s) := by
  obtain ⟨v, v1, v2, v3⟩ := h.get hs
  obtain ⟨c, arr, Ty, rfl, e1, e2, e3, e4⟩ := bx_get v3
  have hlt : col < arr.size := by rw [e4.1]; exact get_lt hcol
  have hcell : arr[col]? = some arr[col] := by simp [hlt]
  have hav : Act.eval { tmps, defers := ds } a = arr[col] := by
    unfold isAlb at ha
    split at ha
    · rename_i t
      obtain ⟨c', v', cs', k1, k2, k3, k4⟩ := he t _ (by simpa using ha)
      rw [v1] at k1; cases k1
      rw [cell_of_block e2, hcell] at k3; cases k3
      exact getD_of_get k4
    · cases ha
  have hbs : ACR w g [0, s, col] bs arr[col] := (e4.2 col bs _ hcol hcell).2
  have hbx := fun own => opd_sound (ds := ds) h hb hx own
  obtain ⟨u, w', g', q1, q2, q3, q4, q5, q6⟩ := append_any (P := P) (ty := o.type) (p := [0, s, col]) (dst := [0, d]) (by simp) (by simp) hok hbs hbx hr h.fz h.om
  have run := run_append_op (P := P) (w := w) ho (Act.eval { tmps, defers := ds }) (by rw [hav]; exact q1)
  have hnb : ¬ Under [0, s, col] (g.om c) := by rw [e1]; rintro ⟨q, hq⟩; simp at hq
  have hlc : c < w.heap.size := heap_lt e2
  have hb' : w'.heap[c]? = some (.cells arr Ty (0, 0)) := (q3.heap c hlc hnb).trans e2
  have ho' : g'.om c = [0, s] := (q3.om c hlc hnb).trans e1
  have hz' : ∀ o, ¬ g'.Fz c o := by
    intro o ho
    rcases q3.fznew c o ho with k | k | k
    · exact e3 o k
    · omega
    · exact hnb k
  have hcr : CellsR w' g' [0, s] (cs.set col .und) arr := by
    refine ⟨by rw [List.length_set]; exact e4.1, fun j y z k1 k2 => ?_⟩
    by_cases hj : j = col
    · subst hj
      rw [List.getElem?_set_self (get_lt hcol)] at k1
      cases k1
      exact ⟨(e4.2 j bs z hcol k2).1, .und⟩
    · rw [List.getElem?_set_ne (Ne.symm hj)] at k1
      obtain ⟨m1, m2⟩ := e4.2 j y z k1 k2
      exact ⟨m1, m2.step q3 (by rintro ⟨q, hq⟩; simp at hq; exact hj hq.1)⟩
  refine ⟨_, u, w', g', run, .inl rfl, ?_, ?_, q3.mono (fun o ho => by rintro rfl; exact q3.no ho) nn⟩
  · rw [hd]
    refine h.step q3 (fun n => n = s ∨ n = d) (by simp [St.put]) (by simp [act_put]) rfl q4 (fun n hn => ⟨?_, ?_, fun r => not_under_sub (fun e => hn (.inl e)) r⟩) ?_ (fun j r => not_under_heap2 j r) q5 q6
    · rw [put_other _ _ _ _ (fun e => hn (.inr e)), put_other _ _ _ _ (fun e => hn (.inl e))]
    · rw [act_put, setIf_other _ _ _ _ (fun e => hn (.inr e))]
    · intro n y z hn k1 k2
      by_cases hnd : n = d
      · subst hnd
        rw [act_put] at k2
        rw [put_same k1, setIf_same k2]
        exact .e (.c q2)
      · rw [put_other _ _ _ _ hnd] at k1
        have hns : n = s := hn.resolve_right hnd
        subst hns
        rw [act_put, setIf_other _ _ _ _ hnd, v1] at k2
        cases k2
        rw [put_same k1]
        exact .bx _ c arr Ty ho' (by simp) hb' hz' hcr
  · rw [hd]
    refine he.step h q3 (fun t r hr => ?_)
    obtain ⟨m1, m2⟩ := mem_killB hr
    obtain ⟨k1, k2, k3⟩ := mem_kill m1
    refine ⟨k1, setIf_other _ _ _ _ k2, setIf_other _ _ _ _ k3, fun s' col' e => ⟨fun ht => ?_, ?_⟩⟩
    · obtain ⟨q, hq⟩ := ht
      simp at hq
    · have := m2 s' col' e
      subst e
      exact (put_other _ _ _ _ k3).trans (put_other _ _ _ _ this)

theorem done_apk {fz : Bool} (h : StR w g tmps st) (he : EnvR w tmps st G) {o : Oper} {d T T2 wd bytes : Nat} {a b : Operand} {x : AO} {r : AC} {e : EV} (hd : o.dst = some d)
    (ho : o.op = .call { callee := .builtin .append, args := ⟨[a, b]⟩, argTypes := ⟨[T, T2]⟩ }) (ha : opd a (.k .ns) = true) (hb : opd b x = true) (hok : appOk P T T2 wd bytes = true)
    (hx : evO st x = some e) (hr : appd fz wd bytes (.t .ns) e = some r) : Done P w g o { tmps, defers := ds } (st.put d (.e (.c r))) (kill G d) := by
  have hbs : ACR w g [7] (.t .ns) (Act.eval { tmps, defers := ds } a) := evr_c (opd_sound (ds := ds) h ha (by rfl) [7])
  have hbx := fun own => opd_sound (ds := ds) h hb hx own
  obtain ⟨u, w', g', q1, q2, q3, q4, q5, q6⟩ := append_any (P := P) (ty := o.type) (p := [0, d]) (dst := [0, d]) (by simp) (by simp) hok
    (evr_c (opd_sound (ds := ds) h ha (by rfl) [0, d]) : ACR w g [0, d] (.t .ns) (Act.eval { tmps, defers := ds } a)) hbx hr h.fz h.om
  have run := run_append_op (P := P) (w := w) ho (Act.eval { tmps, defers := ds }) q1
  refine ⟨_, u, w', g', run, .inl rfl, ?_, ?_, q3.mono (fun o ho => by rintro rfl; exact q3.no ho) nn⟩
  · rw [hd]; exact h.put q3 d _ _ (fun _ h => h) q4 (.e (.c q2)) q5 q6
  · rw [hd]; exact he.killed h q3 d _ _ (fun _ h => h)

/- moves -/
theorem mv_om (h : StR w g tmps st) (a b : List Nat) (ha : a ≠ []) : ∀ c, (g.mv a b).om c ≠ [] → c < w.heap.size := by
  intro c hc
  by_cases hu : Under a (g.om c)
  · obtain ⟨r, hr⟩ := hu
    refine h.om c ?_
    rw [hr]; cases a with | nil => exact (ha rfl).elim | cons x l => simp
  · rw [Gh.mv_other _ _ _ _ hu] at hc; exact h.om c hc

theorem done_mvs (h : StR w g tmps st) (he : EnvR w tmps st G) {o : Oper} {d s : Nat} {x : SV} (hd : o.dst = some d) (hds : d ≠ s) (ho : o.op = .move (.tmp s) ∨ o.op = .assign (.tmp s)) (hs : st.sl[s]? = some x) :
    Done P w g o { tmps, defers := ds } ((st.put s und).put d x) (kill (kill G d) s) := by
  obtain ⟨v, v1, v2, hx⟩ := h.get hs
  have s1 : Stp w g w (g.mv [0, s] [0, d]) (Under [0, s]) := Stp.mv w g _ _ (by simp) _ not_under_nil (fun _ h => h)
  have hx' : SVR w (g.mv [0, s] [0, d]) [0, d] x v := hx.rename rfl (fun _ _ => rfl) (Nat.le_refl _) (by simp) (fun r c hc => Gh.mv_under g _ _ r c hc)
  have hev : Act.eval { tmps, defers := ds } (.tmp s) = v := v2
  refine ⟨.value v, v, w, g.mv [0, s] [0, d], by rcases ho with ho | ho <;> simp [execOp, ho, hev], .inl rfl, ?_, ?_, s1.mono (fun o ho => by rintro rfl; exact not_under_nil ho) nn⟩
  · rw [hd]
    refine h.step s1 (fun n => n = s ∨ n = d) (by simp [St.put]) (by simp [act_put]) rfl rfl (fun n hn => ⟨?_, ?_, fun r => not_under_slot (fun e => hn (.inl e)) r⟩) ?_ (fun j r => not_under_heap j r) h.fz (mv_om h _ _ (by simp))
    · rw [put_other _ _ _ _ (fun e => hn (.inr e)), put_other _ _ _ _ (fun e => hn (.inl e))]
    · rw [act_put, setIf_other _ _ _ _ (fun e => hn (.inr e))]
    · intro n y z hn e1 e2
      by_cases hnd : n = d
      · subst hnd
        rw [act_put] at e2
        rw [put_same e1, setIf_same e2]
        exact hx'
      · rw [put_other _ _ _ _ hnd] at e1
        have hns : n = s := hn.resolve_right hnd
        subst hns
        rw [put_same e1]
        exact SVR.und _ _ _ _
  · rw [hd]
    refine he.step h s1 (fun t r hr => ?_)
    obtain ⟨m1, m2, m3⟩ := mem_kill hr
    obtain ⟨k1, k2, k3⟩ := mem_kill m1
    refine ⟨k1, setIf_other _ _ _ _ k2, setIf_other _ _ _ _ k3, fun s' col e => ⟨fun ht => ?_, ?_⟩⟩
    · subst e
      obtain ⟨q, hq⟩ := ht
      simp at hq; exact m3 hq.1
    · subst e
      exact (put_other _ _ _ _ k3).trans (put_other _ _ _ _ m3)

theorem done_ext (h : StR w g tmps st) (he : EnvR w tmps st G) {o : Oper} {d s i : Nat} {xs : List EV} {x : EV} (hd : o.dst = some d) (hds : d ≠ s) (ho : o.op = .extract (.tmp s) i) (hs : st.sl[s]? = some (.tu xs)) (hi : xs[i]? = some x) :
    Done P w g o { tmps, defers := ds } ((st.put s (.tu (xs.set i (.c .und)))).put d (.e x)) (kill (kill G d) s) := by
  obtain ⟨v, v1, v2, v3⟩ := h.get hs
  cases v3 with
  | tu xs arr hsz hr =>
    have hlt : i < arr.size := by rw [hsz]; exact get_lt hi
    have hai : arr[i]? = some arr[i] := by simp [hlt]
    have hx := hr i x _ hi hai
    have s1 : Stp w g w (g.mv [0, s, i] [0, d]) (Under [0, s, i]) := Stp.mv w g _ _ (by simp) _ not_under_nil (fun _ h => h)
    have hx' : EVR w (g.mv [0, s, i] [0, d]) [0, d] x arr[i] := hx.rename rfl (fun _ _ => rfl) (Nat.le_refl _) (by simp) (fun r c hc => Gh.mv_under g _ _ r c hc)
    have hev : Act.eval { tmps, defers := ds } (.tmp s) = .tuple arr := v2
    refine ⟨.value arr[i], arr[i], w, g.mv [0, s, i] [0, d], by simp [execOp, ho, hev, Instr.extract, hlt], .inl rfl, ?_, ?_, s1.mono (fun o ho => by rintro rfl; exact not_under_nil ho) nn⟩
    · rw [hd]
      refine h.step s1 (fun n => n = s ∨ n = d) (by simp [St.put]) (by simp [act_put]) rfl rfl (fun n hn => ⟨?_, ?_, fun r => not_under_sub (fun e => hn (.inl e)) r⟩) ?_ (fun j r => not_under_heap2 j r) h.fz (mv_om h _ _ (by simp))
      · rw [put_other _ _ _ _ (fun e => hn (.inr e)), put_other _ _ _ _ (fun e => hn (.inl e))]
      · rw [act_put, setIf_other _ _ _ _ (fun e => hn (.inr e))]
      · intro n y z hn e1 e2
        by_cases hnd : n = d
        · subst hnd
          rw [act_put] at e2
          rw [put_same e1, setIf_same e2]
          exact .e hx'
        · rw [put_other _ _ _ _ hnd] at e1
          have hns : n = s := hn.resolve_right hnd
          subst hns
          rw [act_put, setIf_other _ _ _ _ hnd, v1] at e2
          cases e2
          rw [put_same e1]
          refine .tu _ arr (by rw [List.length_set]; exact hsz) (fun j y z k1 k2 => ?_)
          by_cases hj : j = i
          · subst hj
            rw [List.getElem?_set_self (get_lt hi)] at k1
            cases k1
            exact .c .und
          · rw [List.getElem?_set_ne (Ne.symm hj)] at k1
            exact (hr j y z k1 k2).step s1 (fun r => by rintro ⟨q, hq⟩; simp at hq; exact hj hq.1)
    · rw [hd]
      refine he.step h s1 (fun t r hr => ?_)
      obtain ⟨m1, m2, m3⟩ := mem_kill hr
      obtain ⟨k1, k2, k3⟩ := mem_kill m1
      refine ⟨k1, setIf_other _ _ _ _ k2, setIf_other _ _ _ _ k3, fun s' col e => ⟨fun ht => ?_, ?_⟩⟩
      · subst e
        obtain ⟨q, hq⟩ := ht
        simp at hq
      · subst e
        exact (put_other _ _ _ _ k3).trans (put_other _ _ _ _ m3)

theorem done_mvb (h : StR w g tmps st) (he : EnvR w tmps st G) {o : Oper} {s col d T : Nat} {a : Operand} {cs : List AC} {x : AC} (hd : o.dst = none) (hsd : s ≠ d) (ho : o.op = .store T a (.tmp d)) (ha : atBox G a s col = true)
    (hT : szT P T = some 1) (hs : st.sl[s]? = some (.bx cs)) (hx : st.sl[d]? = some (.e (.c x))) (h1 : x.one = true) (hcol : col < cs.length) :
    Done P w g o { tmps, defers := ds } ((st.put d und).put s (.bx (cs.set col x))) (killB (kill G d) s) := by
  obtain ⟨c, arr, Ty, e1, e2, e3, e4, e5, e6⟩ := atBox_eval (ds := ds) h he ha hs
  obtain ⟨v, v1, v2, v3⟩ := h.get hx
  have hxv : ACR w g [0, d] x v := by cases v3 with | e q => exact evr_c q
  have hev : Act.eval { tmps, defers := ds } (.tmp d) = v := v2
  have hone : v.oneCell' = true := by
    cases hxv with
    | t q => cases q <;> first | rfl | (simp [AC.one, TV.one] at h1)
    | und => cases h1
    | _ => rfl
  have hcells : v.cells = #[v] := by cases v <;> first | rfl | (simp [Value.oneCell'] at hone)
  have hlt : col < arr.size := by rw [e6.1]; exact hcol
  have hrun := storeAt_run (P := P) (w := w) (n := 1) (col := col) (v := v) hT (by rw [hcells]; rfl) e4 (by omega) (by rw [hcells]; simp [hone])
  rw [hcells] at hrun
  generalize harr : (arr.toList.take col ++ (#[v] : Array Value).toList ++ arr.toList.drop (col + (#[v] : Array Value).toList.length)).toArray = arr' at hrun
  have hget : ∀ j, arr'[j]? = if j = col then some v else arr[j]? := by
    intro j
    rw [← harr, splice_get arr [v] col j (by simp; omega)]
    by_cases hj : j = col
    · subst hj; simp
    · rw [if_neg (by simp; omega), if_neg hj]
  have hsz : arr'.size = arr.size := by rw [← harr]; exact splice_size arr [v] col (by simp; omega)
  have s1 : Stp w g (w.setRow c arr') g (fun o => o = [0, s]) := Stp.box e3 e4 e5
  have hdv : ¬ (fun o : List Nat => o = [0, s]) [0, d] := by simp; exact fun e => hsd e.symm
  have hx1 : ACR (w.setRow c arr') g [0, d] x v := hxv.step s1 hdv
  have s2 : Stp (w.setRow c arr') g (w.setRow c arr') (g.mv [0, d] [0, s, col]) (Under [0, d]) := Stp.mv _ g _ _ (by simp) _ not_under_nil (fun _ h => h)
  have hx2 : ACR (w.setRow c arr') (g.mv [0, d] [0, s, col]) [0, s, col] x v := hx1.rename rfl (fun _ _ => rfl) (Nat.le_refl _) (fun _ => ⟨by simp, fun c hc => by simpa using Gh.mv_under g [0, d] [0, s, col] [] c (by simpa using hc)⟩)
  have hno : ¬ (fun o : List Nat => o = [0, s] ∨ Under [0, d] o) [] := by
    intro e
    rcases e with e | e
    · cases e
    · exact not_under_nil e
  have stp : Stp w g (w.setRow c arr') (g.mv [0, d] [0, s, col]) (fun o => o = [0, s] ∨ Under [0, d] o) := s1.trans s2 (fun _ h => .inl h) (fun _ h => .inr h) hno
  have hnud : ∀ r, ¬ Under [0, d] ([0, s] ++ r) := fun r => not_under_slot hsd r
  have hcr : CellsR (w.setRow c arr') (g.mv [0, d] [0, s, col]) [0, s] (cs.set col x) arr' := by
    refine ⟨by rw [List.length_set, hsz, e6.1], fun j y z k1 k2 => ?_⟩
    rw [hget] at k2
    by_cases hj : j = col
    · subst hj
      rw [List.getElem?_set_self hcol] at k1
      cases k1
      rw [if_pos rfl] at k2; cases k2
      exact ⟨hone, hx2⟩
    · rw [List.getElem?_set_ne (Ne.symm hj)] at k1
      rw [if_neg hj] at k2
      obtain ⟨m1, m2⟩ := e6.2 j y z k1 k2
      exact ⟨m1, m2.step stp (fun e => by
        rcases e with e | e
        · simp at e
        · exact hnud [j] e)⟩
  have hom : (g.mv [0, d] [0, s, col]).om c = [0, s] := by rw [Gh.mv_other _ _ _ _ (by rw [e3]; simpa using hnud [])]; exact e3
  refine ⟨.skip, undef, w.setRow c arr', g.mv [0, d] [0, s, col], ?_, .inr ⟨rfl, rfl⟩, ?_, ?_, stp.mono (fun o ho => by rintro rfl; exact hno ho) nn⟩
  · simp only [execOp, ho, e1, hev, Sem.run_bind, hrun, Result.andThen_ok]; rfl
  · rw [hd]
    refine h.step stp (fun n => n = s ∨ n = d) (by simp [St.put]) rfl rfl rfl (fun n hn => ⟨?_, rfl, fun r => ?_⟩) ?_ (fun j r => ?_) (fun c o h' => by simpa using h.fz c o h') (fun c h' => by simpa using mv_om h _ _ (by simp) c h')
    · rw [put_other _ _ _ _ (fun e => hn (.inl e)), put_other _ _ _ _ (fun e => hn (.inr e))]
    · rintro (e | e)
      · simp at e; exact hn (.inl e.1)
      · exact not_under_slot (fun e => hn (.inr e)) r e
    · intro n y z hn k1 k2
      by_cases hns : n = s
      · subst hns
        rw [act_put0, e2] at k2
        cases k2
        rw [put_same k1]
        exact .bx _ c arr' Ty hom (by simp) (setRow_heap w c arr arr' Ty _ e4) e5 hcr
      · rw [put_other _ _ _ _ hns] at k1
        have hnd : n = d := hn.resolve_left hns
        subst hnd
        rw [put_same k1]
        exact SVR.und _ _ _ _
    · rintro (e | e)
      · simp at e
      · exact not_under_heap j r e
  · rw [hd]
    refine he.step h stp (fun t r hr => ?_)
    obtain ⟨m1, m2⟩ := mem_killB hr
    obtain ⟨k1, k2, k3⟩ := mem_kill m1
    refine ⟨k1, rfl, rfl, fun s' col' e => ⟨?_, ?_⟩⟩
    · have := m2 s' col' e
      subst e
      rintro (e | e)
      · simp at e; exact this e
      · obtain ⟨q, hq⟩ := e
        simp at hq; exact k3 hq.1
    · have := m2 s' col' e
      subst e
      exact (put_other _ _ _ _ this).trans (put_other _ _ _ _ k3)

/-- the operations that are handled so far -/
theorem op_done (h : StR w g tmps st) (he : EnvR w tmps st G) {o : Oper} {op : AOp} (hc : chk1 P G o op = some G') (hx : exop st op = some st') : Done P w g o { tmps, defers := ds } st' G' := by
  cases op with
  | set d x =>
    simp only [chk1] at hc
    split at hc
    · rename_i hh
      cases hc
      simp only [exop] at hx
      cases he' : evX st x with
      | none => rw [he'] at hx; cases hx
      | some e => rw [he'] at hx; cases hx; exact done_set h he hh.1 hh.2 he'
    · cases hc
  | fp d s col =>
    simp only [chk1] at hc
    split at hc
    · rename_i T t f ho
      split at hc
      · rename_i hh
        obtain ⟨h1, h2, hp⟩ := hh
        cases hc
        simp only [exop] at hx
        split at hx
        · rename_i cs hs
          split at hx
          · rename_i hdl
            cases hx
            exact done_fp h he h1 h2 ho hp hs hdl
          · cases hx
        · cases hx
      · cases hc
    · cases hc
  | als d s =>
    simp only [chk1] at hc
    split at hc
    · rename_i t ho
      split at hc
      · rename_i hh
        obtain ⟨h1, h2, rfl⟩ := hh
        cases hc
        simp only [exop] at hx
        split at hx
        · rename_i hl
          cases hx
          exact done_als h he h1 h2 ho hl.1 hl.2
        · cases hx
      · cases hc
    · cases hc
  | alb d s col =>
    simp only [chk1] at hc
    split at hc
    · rename_i T a ho
      split at hc
      · rename_i hh
        obtain ⟨h1, h2, h3, h4⟩ := hh
        cases hc
        simp only [exop] at hx
        split at hx
        · rename_i cs hs
          split at hx
          · rename_i hl
            cases hx
            exact done_alb h he h1 h2 ho h3 h4 hs hl.1 hl.2
          · cases hx
        · cases hx
      · cases hc
    · cases hc
  | bxn d zero =>
    simp only [chk1] at hc
    split at hc
    · rename_i T ho
      split at hc
      · rename_i hh
        cases hc
        simp only [exop] at hx
        cases hx
        exact done_bxn h he hh.1 ho hh.2
      · cases hc
    · cases hc
  | bxv d x =>
    simp only [chk1] at hc
    split at hc
    · rename_i T a ho
      split at hc
      · rename_i hh
        cases hc
        simp only [exop] at hx
        split at hx
        · rename_i l hl
          cases hx
          exact done_bxv h he hh.1 ho hh.2 hl
        · cases hx
      · cases hc
    · cases hc
  | stb s col n x =>
    simp only [chk1] at hc
    split at hc
    · rename_i T a v ho
      split at hc
      · rename_i hh
        obtain ⟨h1, h2, h3, h4⟩ := hh
        cases hc
        simp only [exop] at hx
        split at hx
        · rename_i cs l hs hl
          split at hx
          · rename_i hq
            cases hx
            exact done_stb h he h1 ho h2 h3 h4 hs hl hq.1 hq.2
          · cases hx
        · cases hx
      · cases hc
    · cases hc
  | bsl d wd xs =>
    simp only [chk1] at hc
    split at hc
    · rename_i T n parts ho
      split at hc
      · rename_i hh
        obtain ⟨h1, h2, h3⟩ := hh
        cases hc
        simp only [exop] at hx
        split at hx
        · rename_i rs hr
          cases hx
          exact done_bsl h he h1 ho h2 h3 hr
        · cases hx
      · cases hc
    · cases hc
  | app d s col x wd bytes fz =>
    cases col with
    | none =>
      simp only [chk1] at hc
      split at hc
      · rename_i a b T T2 ho
        split at hc
        · rename_i hh
          obtain ⟨h1, h2, h3, h4⟩ := hh
          cases hc
          simp only [exop] at hx
          split at hx
          · rename_i bs v hs hv
            cases hr : appd fz wd bytes bs v with
            | none => rw [hr] at hx; cases hx
            | some r => rw [hr] at hx; cases hx; exact done_app h he h1 ho h2 h3 h4 hs hv hr
          · cases hx
        · cases hc
      · cases hc
    | some col =>
      simp only [chk1] at hc
      split at hc
      · rename_i a b T T2 ho
        split at hc
        · rename_i hh
          obtain ⟨h1, h2, h3, h4, h5⟩ := hh
          cases hc
          simp only [exop] at hx
          split at hx
          · rename_i cs v hs hv
            split at hx
            · rename_i bs hb
              cases hr : appd fz wd bytes bs v with
              | none => rw [hr] at hx; cases hx
              | some r => rw [hr] at hx; cases hx; exact done_appb h he h1 h2 ho h3 h4 h5 hs hb hv hr
            · cases hx
          · cases hx
        · cases hc
      · cases hc
  | apk d x wd bytes fz =>
    simp only [chk1] at hc
    split at hc
    · rename_i a b T T2 ho
      split at hc
      · rename_i hh
        obtain ⟨h1, h2, h3, h4⟩ := hh
        cases hc
        simp only [exop] at hx
        split at hx
        · rename_i v hv
          cases hr : appd fz wd bytes (.t .ns) v with
          | none => rw [hr] at hx; cases hx
          | some r => rw [hr] at hx; cases hx; exact done_apk h he h1 ho h2 h3 h4 hv hr
        · cases hx
      · cases hc
    · cases hc
  | mvs d s =>
    simp only [chk1] at hc
    split at hc
    · rename_i t ho
      split at hc
      · rename_i hh
        obtain ⟨h1, h2, rfl⟩ := hh
        cases hc
        simp only [exop] at hx
        split at hx
        · rename_i x hs; cases hx; exact done_mvs h he h1 h2 (.inl ho) hs
        · cases hx
      · cases hc
    · rename_i t ho
      split at hc
      · rename_i hh
        obtain ⟨h1, h2, rfl⟩ := hh
        cases hc
        simp only [exop] at hx
        split at hx
        · rename_i x hs; cases hx; exact done_mvs h he h1 h2 (.inr ho) hs
        · cases hx
      · cases hc
    · cases hc
  | mvb s col d =>
    simp only [chk1] at hc
    split at hc
    · rename_i T a t ho
      split at hc
      · rename_i hh
        obtain ⟨h1, h2, h3, rfl⟩ := hh
        cases hc
        simp only [exop] at hx
        split at hx
        · rename_i cs x hs hd
          split at hx
          · rename_i hq
            obtain ⟨q1, q2, q3⟩ := hq
            cases hx
            exact done_mvb h he h1 q3 ho h2 h3 hs hd q1 q2
          · cases hx
        · cases hx
      · cases hc
    · cases hc
  | ext d s i =>
    simp only [chk1] at hc
    split at hc
    · rename_i t j ho
      split at hc
      · rename_i hh
        obtain ⟨h1, h2, rfl, rfl⟩ := hh
        cases hc
        simp only [exop] at hx
        split at hx
        · rename_i xs hs
          split at hx
          · rename_i x hi; cases hx; exact done_ext h he h1 h2 ho hs hi
          · cases hx
        · cases hx
      · cases hc
    · cases hc
  | _ => simp [chk1] at hc

end
end Go.Abs
