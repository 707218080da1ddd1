/-
  The operations that change slots and the memory of the frame's own. Program-independent.
-/
import Derived.Test.YtpfocppjojgooaaAbsH
set_option linter.unusedSimpArgs false
set_option linter.unusedVariables false
namespace Go.Abs

def kill (G : Env) (d : Nat) : Env := G.filter fun e => e.1 != d && e.2.slot != d
def killB (G : Env) (s : Nat) : Env := G.filter fun e => match e.2 with | .alb s' _ => s' != s | _ => true
def fpOk (P : Program) (G : Env) (T f t s col : Nat) : Bool :=
  (t == s && fieldOk P T f col) || (List.range (col + 1)).any fun c0 => G.contains (t, .ptr s c0) && fieldOk P T f (col - c0)
def isAls (G : Env) (a : Operand) (s : Nat) : Bool :=
  match a with
  | .tmp t => t == s || G.contains (t, .als s)
  | _ => false
def isAlb (G : Env) (a : Operand) (s col : Nat) : Bool :=
  match a with
  | .tmp t => G.contains (t, .alb s col)
  | _ => false
def bytesT (P : Program) (t : TypeId) : Option Nat := (P.info? t).map (·.bytes)
/-- append at a slice type: the element's cells and bytes; what is appended is a slice -/
def appOk (P : Program) (T T2 wd bytes : Nat) : Bool :=
  (match P.underlying T with | some (.slice e) => szT P e == some wd && bytesT P e == some bytes && ((P.info? e).bind (·.zero)).map (·.cells.size) == some wd | _ => false) &&
  (match P.underlying T2 with | some (.slice _) => true | _ => false)
def seqParts : Nat → List (Nat × Operand) → List AO → Bool
  | _, [], [] => true
  | i, (j, a) :: r, x :: xs => i == j && opd a x && seqParts (i + 1) r xs
  | _, _, _ => false
def bslOk (P : Program) (T n wd k : Nat) : Bool :=
  n == k && decide (n * wd ≤ 16777216) && (match P.underlying T with | some (.slice e) => szT P e == some wd && ((P.info? e).bind (·.zero)).isSome | _ => false)

def chk1 (P : Program) (G : Env) (o : Oper) : AOp → Option Env
  | .set d x => if o.dst = some d ∧ chkX P G o.op x = true then some (kill G d) else none
  | .fp d s col => match o.op with
    | .fieldAddr T (.tmp t) f => if o.dst = some d ∧ d ≠ s ∧ fpOk P G T f t s col = true then some ((d, .ptr s col) :: kill G d) else none
    | _ => none
  | .als d s => match o.op with
    | .move (.tmp t) => if o.dst = some d ∧ d ≠ s ∧ t = s then some ((d, .als s) :: kill G d) else none
    | _ => none
  | .alb d s col => match o.op with
    | .load T a => if o.dst = some d ∧ d ≠ s ∧ atBox G a s col = true ∧ shp P T 1 false = true then some ((d, .alb s col) :: kill G d) else none
    | _ => none
  | .bxn d zero => match o.op with
    | .alloc T => if o.dst = some d ∧ zeroIs P T zero = true then some (kill G d) else none
    | _ => none
  | .bxv d x => match o.op with
    | .box _ a => if o.dst = some d ∧ opd a x = true then some (kill G d) else none
    | _ => none
  | .stb s col n x => match o.op with
    | .store T a v => if o.dst = none ∧ atBox G a s col = true ∧ szT P T = some n ∧ opd v x = true then some (killB G s) else none
    | _ => none
  | .bsl d wd xs => match o.op with
    | .buildSlice T n parts => if o.dst = some d ∧ bslOk P T n wd xs.length = true ∧ seqParts 0 parts.toList xs = true then some (kill G d) else none
    | _ => none
  | .app d s none x wd bytes _ => match o.op with
    | .call { callee := .builtin .append, args := ⟨[a, b]⟩, argTypes := ⟨[T, T2]⟩ } =>
      if o.dst = some d ∧ isAls G a s = true ∧ opd b x = true ∧ appOk P T T2 wd bytes = true then some (kill (kill G d) s) else none
    | _ => none
  | .app d s (some col) x wd bytes _ => match o.op with
    | .call { callee := .builtin .append, args := ⟨[a, b]⟩, argTypes := ⟨[T, T2]⟩ } =>
      if o.dst = some d ∧ d ≠ s ∧ isAlb G a s col = true ∧ opd b x = true ∧ appOk P T T2 wd bytes = true then some (killB (kill G d) s) else none
    | _ => none
  | .apk d x wd bytes _ => match o.op with
    | .call { callee := .builtin .append, args := ⟨[a, b]⟩, argTypes := ⟨[T, T2]⟩ } =>
      if o.dst = some d ∧ opd a (.k .ns) = true ∧ opd b x = true ∧ appOk P T T2 wd bytes = true then some (kill G d) else none
    | _ => none
  | .mvs d s => match o.op with
    | .move (.tmp t) | .assign (.tmp t) => if o.dst = some d ∧ d ≠ s ∧ t = s then some (kill (kill G d) s) else none
    | _ => none
  | .mvb s col d => match o.op with
    | .store T a (.tmp t) => if o.dst = none ∧ atBox G a s col = true ∧ szT P T = some 1 ∧ t = d then some (killB (kill G d) s) else none
    | _ => none
  | .ext d s i => match o.op with
    | .extract (.tmp t) j => if o.dst = some d ∧ d ≠ s ∧ t = s ∧ i = j then some (kill (kill G d) s) else none
    | _ => none
  | _ => none

/-- what an operation leaves behind -/
def Done (P : Program) (w : World) (g : Gh) (o : Oper) (a : Act) (st' : St) (G' : Env) : Prop :=
  ∃ r v w' g', (execOp a.eval o).run P w = .ok r w' ∧ (r = .value v ∨ (r = .skip ∧ v = undef)) ∧ StR w' g' (a.put o.dst v).tmps st' ∧ EnvR w' (a.put o.dst v).tmps st' G' ∧ Stp w g w' g' (fun o => o ≠ [])

section
variable {P : Program} {w w' : World} {g g' : Gh} {tmps tmps' : Array Value} {st st' : St} {G G' : Env} {ds : List Deferred}

theorem EnvR.step {T : List Nat → Prop} (he : EnvR w tmps st G) (h : StR w g tmps st) (s : Stp w g w' g' T)
    (hk : ∀ t r, (t, r) ∈ G' → (t, r) ∈ G ∧ tmps'[t]? = tmps[t]? ∧ tmps'[r.slot]? = tmps[r.slot]? ∧ (∀ s col, r = .alb s col → ¬ T [0, s] ∧ st'.sl[s]? = st.sl[s]?)) : EnvR w' tmps' st' G' := by
  intro t r hr
  obtain ⟨h1, h2, h3, h4⟩ := hk t r hr
  have e := he t r h1
  cases r with
  | ptr s' col => obtain ⟨c, e1, e2⟩ := e; exact ⟨c, h3.trans e1, h2.trans e2⟩
  | als s' => obtain ⟨v, e1, e2⟩ := e; exact ⟨v, h3.trans e1, h2.trans e2⟩
  | alb s' col =>
    obtain ⟨c, v, cs, e1, e2, e3, e4⟩ := e
    obtain ⟨k1, k2⟩ := h4 s' col rfl
    refine ⟨c, v, cs, h3.trans e1, k2.trans e2, ?_, h2.trans e4⟩
    obtain ⟨u, u1, _, u3⟩ := h.get e2
    rw [e1] at u1; cases u1
    obtain ⟨c', arr, Ty, q1, q2, q3, q4, q5⟩ := bx_get u3
    cases q1
    rw [cell_of_block q3] at e3
    rw [cell_of_block ((s.heap c (heap_lt q3) (by rw [q2]; exact k1)).trans q3)]
    exact e3

theorem mem_kill {t d : Nat} {r : ER} (h : (t, r) ∈ kill G d) : (t, r) ∈ G ∧ t ≠ d ∧ r.slot ≠ d := by
  simp [kill] at h; exact ⟨h.1, h.2.1, h.2.2⟩
theorem mem_killB {t s : Nat} {r : ER} (h : (t, r) ∈ killB G s) : (t, r) ∈ G ∧ ∀ s' c, r = .alb s' c → s' ≠ s := by
  simp only [killB, List.mem_filter] at h
  refine ⟨h.1, fun s' c e => ?_⟩
  have := h.2
  subst e
  simpa using this

theorem EnvR.killed {T : List Nat → Prop} (he : EnvR w tmps st G) (h : StR w g tmps st) (s : Stp w g w' g' T) (d : Nat) (x : SV) (v : Value) (hT : ∀ o, T o → Under [0, d] o) :
    EnvR w' (tmps.setIfInBounds d v) (st.put d x) (kill G d) := by
  refine he.step h s (fun t r hr => ?_)
  obtain ⟨h1, h2, h3⟩ := mem_kill hr
  refine ⟨h1, setIf_other _ _ _ _ h2, setIf_other _ _ _ _ h3, fun s' col e => ⟨fun ht => ?_, put_other _ _ _ _ (by subst e; exact h3)⟩⟩
  subst e
  obtain ⟨q, hq⟩ := hT _ ht
  simp at hq
  exact h3 hq.1

theorem EnvR.add (he : EnvR w tmps st G) {d : Nat} {r : ER} (h : EntR w tmps st d r) : EnvR w tmps st ((d, r) :: G) := by
  intro t r' hr
  rcases List.mem_cons.1 hr with hr | hr
  · cases hr; exact h
  · exact he t r' hr

theorem act_put (d : Nat) (v : Value) : (Act.put { tmps, defers := ds } (some d) v).tmps = tmps.setIfInBounds d v := rfl
theorem act_put0 (v : Value) : (Act.put { tmps, defers := ds } none v).tmps = tmps := rfl

theorem nn : ¬ (fun o : List Nat => o ≠ []) [] := fun h => h rfl

/-- a value in a slot, the world as it was -/
theorem done_val (h : StR w g tmps st) (he : EnvR w tmps st G) {o : Oper} {d : Nat} (hd : o.dst = some d) {x : SV} {v : Value} (hr : (execOp (Act.eval { tmps, defers := ds }) o).run P w = .ok (.value v) w)
    (hx : SVR w g [0, d] x v) : Done P w g o { tmps, defers := ds } (st.put d x) (kill G d) := by
  refine ⟨_, v, w, g, hr, .inl rfl, ?_, ?_, Stp.refl w g _ nn⟩
  · rw [hd]; exact h.put0 d x v hx
  · rw [hd]; exact he.killed h (Stp.refl w g Never (fun h => h)) d x v (fun _ h => h.elim)

theorem done_set (h : StR w g tmps st) (he : EnvR w tmps st G) {o : Oper} {d : Nat} {x : AX} {e : EV} (hd : o.dst = some d) (hc : chkX P G o.op x = true) (hx : evX st x = some e) :
    Done P w g o { tmps, defers := ds } (st.put d (.e e)) (kill G d) := by
  obtain ⟨v, hr, hv⟩ := chkX_sound (ds := ds) h he hc hx
  exact done_val h he hd hr (.e (hv _))

theorem get_lt {α : Type} {l : List α} {n : Nat} {x : α} (h : l[n]? = some x) : n < l.length := by
  rcases Nat.lt_or_ge n l.length with h' | h'
  · exact h'
  · rw [List.getElem?_eq_none h'] at h; cases h

theorem done_fp (h : StR w g tmps st) (he : EnvR w tmps st G) {o : Oper} {d s col T t f : Nat} {cs : List AC} (hd : o.dst = some d) (hds : d ≠ s) (ho : o.op = .fieldAddr T (.tmp t) f) (hp : fpOk P G T f t s col = true)
    (hs : st.sl[s]? = some (.bx cs)) (hdl : d < st.sl.length) : Done P w g o { tmps, defers := ds } (st.put d und) ((d, .ptr s col) :: kill G d) := by
  obtain ⟨v, v1, v2, v3⟩ := h.get hs
  obtain ⟨c, arr, Ty, rfl, q2, q3, q4, q5⟩ := bx_get v3
  obtain ⟨c0, hcol, hf, ht⟩ : ∃ c0, c0 ≤ col ∧ fieldOk P T f (col - c0) = true ∧ tmps[t]? = some (.pointer (some ⟨c, c0, none⟩)) := by
    simp only [fpOk, Bool.or_eq_true, Bool.and_eq_true, beq_iff_eq, List.any_eq_true, List.mem_range] at hp
    rcases hp with ⟨rfl, hf⟩ | ⟨c0, hlt, hm, hf⟩
    · exact ⟨0, Nat.zero_le _, by simpa using hf, v1⟩
    · obtain ⟨c', e1, e2⟩ := he _ _ (List.contains_iff_mem.1 hm)
      rw [v1] at e1; cases e1
      exact ⟨c0, by omega, hf, e2⟩
  have hev : Act.eval { tmps, defers := ds } (.tmp t) = .pointer (some ⟨c, c0, none⟩) := getD_of_get ht
  have run : (execOp (Act.eval { tmps, defers := ds }) o).run P w = .ok (.value (.pointer (some ⟨c, col, none⟩))) w := by
    unfold fieldOk at hf
    split at hf
    · rename_i fs hu
      split at hf
      · rename_i fd hfd
        simp at hf
        obtain ⟨e1, hsz⟩ := hf
        split at hsz
        · rename_i k hk
          simp [execOp, ho, hev, Instr.fieldAt, run_under hu, hfd, Instr.sureAddr, fieldPlace, run_sz hk, addr_add, e1]
          omega
        · cases hsz
      · cases hf
    · cases hf
  refine ⟨_, _, w, g, run, .inl rfl, ?_, ?_, Stp.refl w g _ nn⟩
  · rw [hd]; exact h.put0 d _ _ (SVR.und _ _ _ _)
  · rw [hd]
    refine (he.killed h (Stp.refl w g Never (fun h => h)) d und _ (fun _ h => h.elim)).add ⟨c, ?_, ?_⟩
    · rw [setIf_other _ _ _ _ (Ne.symm hds)]; exact v1
    · have : d < tmps.size := by rw [← h.len]; exact hdl
      simp [this]

theorem done_als (h : StR w g tmps st) (he : EnvR w tmps st G) {o : Oper} {d s : Nat} (hd : o.dst = some d) (hds : d ≠ s) (ho : o.op = .move (.tmp s)) (hdl : d < st.sl.length) (hsl : s < st.sl.length) :
    Done P w g o { tmps, defers := ds } (st.put d und) ((d, .als s) :: kill G d) := by
  have l1 : s < tmps.size := by rw [← h.len]; exact hsl
  have l2 : d < tmps.size := by rw [← h.len]; exact hdl
  have hv : tmps[s]? = some tmps[s] := by simp [l1]
  have hev : Act.eval { tmps, defers := ds } (.tmp s) = tmps[s] := getD_of_get hv
  refine ⟨_, tmps[s], w, g, by simp only [execOp, ho, hev]; rfl, .inl rfl, ?_, ?_, Stp.refl w g _ nn⟩
  · rw [hd]; exact h.put0 d _ _ (SVR.und _ _ _ _)
  · rw [hd]
    refine (he.killed h (Stp.refl w g Never (fun h => h)) d und _ (fun _ h => h.elim)).add ⟨tmps[s], ?_, ?_⟩
    · rw [setIf_other _ _ _ _ (Ne.symm hds)]; exact hv
    · simp [l2]

theorem done_alb (h : StR w g tmps st) (he : EnvR w tmps st G) {o : Oper} {d s col T : Nat} {a : Operand} {cs : List AC} (hd : o.dst = some d) (hds : d ≠ s) (ho : o.op = .load T a) (ha : atBox G a s col = true)
    (hsh : shp P T 1 false = true) (hs : st.sl[s]? = some (.bx cs)) (hcol : col < cs.length) (hdl : d < st.sl.length) : Done P w g o { tmps, defers := ds } (st.put d und) ((d, .alb s col) :: kill G d) := by
  obtain ⟨c, arr, Ty, e1, e2, e3, e4, e5, e6⟩ := atBox_eval (ds := ds) h he ha hs
  have hlt : col < arr.size := by rw [e6.1]; exact hcol
  have hcell : w.cell? ⟨c, col, none⟩ = some arr[col] := by rw [cell_of_block e4]; simp [hlt]
  have run : (execOp (Act.eval { tmps, defers := ds }) o).run P w = .ok (.value arr[col]) w := by
    have := run_load_at (P := P) (w := w) hsh c col [arr[col]] rfl (fun j v e => by cases j <;> simp at e; subst e; exact hcell)
    simp only [execOp, ho, e1, Sem.run_bind, this, Result.andThen_ok]
    rfl
  refine ⟨_, arr[col], w, g, run, .inl rfl, ?_, ?_, Stp.refl w g _ nn⟩
  · rw [hd]; exact h.put0 d _ _ (SVR.und _ _ _ _)
  · rw [hd]
    refine (he.killed h (Stp.refl w g Never (fun h => h)) d und _ (fun _ h => h.elim)).add ⟨c, arr[col], cs, ?_, ?_, hcell, ?_⟩
    · rw [setIf_other _ _ _ _ (Ne.symm hds)]; exact e2
    · rw [put_other _ _ _ _ (Ne.symm hds)]; exact hs
    · have : d < tmps.size := by rw [← h.len]; exact hdl
      simp [this]

/- a new block -/
theorem add_fz (h : StR w g tmps st) (own : List Nat) (frz : Nat → Prop) (new : Bool) (o : Obj) : ∀ c i, (g.add w own frz new).Fz c i → c < (w.alloc o).heap.size := by
  intro c i hc
  rcases hc with hc | ⟨hc, _⟩
  · have := h.fz c i hc; simp; omega
  · simp; omega
theorem add_om (h : StR w g tmps st) (own : List Nat) (frz : Nat → Prop) (new : Bool) (o : Obj) : ∀ c, (g.add w own frz new).om c ≠ [] → c < (w.alloc o).heap.size := by
  intro c hc
  by_cases e : c = w.heap.size
  · simp; omega
  · simp [Gh.add, e] at hc
    have := h.om c hc; simp; omega

theorem Plain.step {T : List Nat → Prop} {cs : List AC} {a : Array Value} (h : Plain w g cs a) (s : Stp w g w' g' T) (hT : T = Never) : Plain w' g' cs a :=
  ⟨h.1, fun j x v e1 e2 => ⟨(h.2 j x v e1 e2).1, fun own => ((h.2 j x v e1 e2).2 own).step s (by rw [hT]; exact fun h => h)⟩⟩

theorem done_box (h : StR w g tmps st) (he : EnvR w tmps st G) {o : Oper} {d : Nat} {T : TypeId} {cs : List AC} {arr : Array Value} (hd : o.dst = some d) (hp : Plain w g cs arr)
    (run : (execOp (Act.eval { tmps, defers := ds }) o).run P w = .ok (.value (.pointer (some ⟨w.heap.size, 0, none⟩))) (w.alloc (.cells arr T (0, 0)))) :
    Done P w g o { tmps, defers := ds } (st.put d (.bx cs)) (kill G d) := by
  have s : Stp w g (w.alloc (.cells arr T (0, 0))) (g.add w [0, d] (fun _ => False) false) Never := Stp.alloc w g _ [0, d] (fun _ => False) false h.fz Never (fun h => h)
  have hx : SVR (w.alloc (.cells arr T (0, 0))) (g.add w [0, d] (fun _ => False) false) [0, d] (.bx cs) (.pointer (some ⟨w.heap.size, 0, none⟩)) := by
    refine .bx cs _ arr T (by simp [Gh.add]) (by simp) (alloc_get_new _ _) (fun i hi => ?_) ((hp.step s rfl).cells _)
    rcases hi with hi | ⟨_, hi⟩
    · have := h.fz _ _ hi; omega
    · exact hi
  refine ⟨_, _, _, _, run, .inl rfl, ?_, ?_, s.mono (fun _ h => h.elim) nn⟩
  · rw [hd]; exact h.put s d _ _ (fun _ h => h.elim) rfl hx (add_fz h _ _ _ _) (add_om h _ _ _ _)
  · rw [hd]; exact he.killed h s d _ _ (fun _ h => h.elim)

theorem run_newVar (w : World) (T : TypeId) (v : Value) : (newVar T v).run P w = .ok ⟨w.heap.size, 0, none⟩ (w.alloc (.cells v.cells T (0, 0))) := by
  simp [newVar, newRow]

theorem done_bxn (h : StR w g tmps st) (he : EnvR w tmps st G) {o : Oper} {d T : Nat} {zero : List TV} (hd : o.dst = some d) (ho : o.op = .alloc T) (hz : zeroIs P T zero = true) :
    Done P w g o { tmps, defers := ds } (st.put d (.bx (zero.map .t))) (kill G d) := by
  obtain ⟨z, z1, z2⟩ := zero_plain (w := w) (g := g) hz
  exact done_box h he hd z2 (T := T) (by simp [execOp, ho, Instr.alloc, z1, run_newVar])

theorem done_bxv (h : StR w g tmps st) (he : EnvR w tmps st G) {o : Oper} {d T : Nat} {a : Operand} {x : AO} {l : List AC} (hd : o.dst = some d) (ho : o.op = .box T a) (hc : opd a x = true)
    (hx : (evO st x).bind stored = some l) : Done P w g o { tmps, defers := ds } (st.put d (.bx l)) (kill G d) := by
  have hp := stored_sound (ds := ds) h hc hx
  exact done_box h he hd hp (T := T) (by simp [execOp, ho, Instr.box, run_newVar])

end
end Go.Abs
