/-
  Expressions have, in the model's run, the values that the abstract evaluator gives them. Program-independent.
-/
import Derived.Test.YtpfocppjojgooaaAbsE
import Derived.Laws.Strings
set_option linter.unusedSimpArgs false
set_option linter.unusedVariables false
namespace Go.Abs

def Val (P : Program) (w : World) (g : Gh) (o : Oper) (a : Act) (e : EV) : Prop :=
  ∃ v, (execOp a.eval o).run P w = .ok (.value v) w ∧ ∀ own, EVR w g own e v

section
variable {P : Program} {w : World} {g : Gh} {tmps : Array Value} {st : St} {G : Env} {ds : List Deferred}

theorem run_under {t : TypeId} {d : TypeDesc} (h : P.underlying t = some d) (w : World) : (underlying t).run P w = .ok d w := by simp [underlying, h]
theorem run_sz {t : TypeId} {n : Nat} (h : szT P t = some n) (w : World) : (sizeOf t).run P w = .ok n w := by
  unfold szT at h
  cases hi : P.info? t with
  | none => rw [hi] at h; cases h
  | some i => rw [hi] at h; cases h; simp [sizeOf, typeInfo, hi]
theorem run_agg {t : TypeId} {b : Bool} (h : aggT P t = some b) (w : World) : (isAgg t).run P w = .ok b w := by
  unfold aggT at h
  cases hi : P.underlying t with
  | none => rw [hi] at h; cases h
  | some d => rw [hi] at h; cases h; simp only [isAgg, Sem.run_bind, run_under hi, Result.andThen_ok]; cases d <;> rfl

theorem shp_sz {t n : Nat} {agg : Bool} (h : shp P t n agg = true) : szT P t = some n ∧ aggT P t = some agg ∧ (agg = false → n = 1) := by
  simp [shp] at h
  exact ⟨h.1.1, h.1.2, fun e => by simpa [e] using h.2⟩

theorem addr_add (c o n : Nat) : (⟨c, o, none⟩ : Addr).add n = ⟨c, o + n, none⟩ := by unfold Addr.add; split <;> simp_all

/-- a load reads the cells that lie there -/
theorem run_load_at {T n : Nat} {agg : Bool} (h : shp P T n agg = true) (c o : Nat) (vs : List Value) (hn : vs.length = n) (hv : ∀ j v, vs[j]? = some v → w.cell? ⟨c, o + j, none⟩ = some v) :
    (Instr.loadAt T (.pointer (some ⟨c, o, none⟩))).run P w = .ok (if agg then .agg vs.toArray else vs.getD 0 undef) w := by
  obtain ⟨h1, h2, h3⟩ := shp_sz h
  simp only [Instr.loadAt, Instr.sureAddr, pure_bind, loadVar, Sem.run_bind, run_agg h2, Result.andThen_ok]
  cases agg with
  | true =>
    simp only [if_true, Sem.run_bind, run_sz h1, Result.andThen_ok, Sem.run_pure]
    subst hn
    rw [run_loadCells_list w _ vs (fun j v e => by rw [addr_add]; exact hv j v e)]
    simp
  | false =>
    have hn1 := h3 rfl
    subst hn1
    match vs, hn with
    | [v], _ =>
      have := hv 0 v rfl
      simp only [Nat.add_zero] at this
      simp [this]

theorem ofCells {own : List Nat} {agg : Bool} {l : List AC} {vs : List Value} {e : EV} (hp : pack agg l = some e) (hl : vs.length = l.length) (hn : agg = false → vs.length = 1)
    (hr : ∀ (j : Nat) x v, l[j]? = some x → vs[j]? = some v → v.oneCell' = true ∧ ∀ own, ACR w g own x v) : EVR w g own e (if agg then .agg vs.toArray else vs.getD 0 undef) := by
  unfold pack at hp
  cases agg with
  | true =>
    simp at hp; subst hp
    exact .ag ⟨by simp [hl], fun j x v e1 e2 => ⟨(hr j x v e1 (by simpa using e2)).1, (hr j x v e1 (by simpa using e2)).2 _⟩⟩
  | false =>
    simp only [Bool.false_eq_true, if_false] at hp
    split at hp
    · rename_i x
      cases hp
      match vs, hl with
      | [v], _ => exact .c ((hr 0 x v rfl rfl).2 _)
    · cases hp

theorem map_get {α β : Type} {f : α → β} {l : List α} {j : Nat} {y : β} (h : (l.map f)[j]? = some y) : ∃ x, l[j]? = some x ∧ f x = y := by
  rw [List.getElem?_map] at h
  cases hx : l[j]? with
  | none => rw [hx] at h; cases h
  | some x => rw [hx] at h; exact ⟨x, rfl, by simpa using h⟩

theorem drop_take_get {α : Type} {l : List α} {a n j : Nat} {x : α} (h : ((l.drop a).take n)[j]? = some x) : l[a + j]? = some x ∧ j < n := by
  rw [List.getElem?_take] at h
  split at h
  · rename_i hj; rw [List.getElem?_drop] at h; exact ⟨h, hj⟩
  · cases h

/-- n cells from o on, as a list -/
theorem cells_list (c o n : Nat) (h : ∀ j, j < n → ∃ v, w.cell? ⟨c, o + j, none⟩ = some v) : ∃ vs : List Value, vs.length = n ∧ ∀ j v, vs[j]? = some v → w.cell? ⟨c, o + j, none⟩ = some v := by
  refine ⟨(List.range n).map fun j => (w.cell? ⟨c, o + j, none⟩).getD undef, by simp, fun j v e => ?_⟩
  obtain ⟨k, h1, h2⟩ := map_get e
  have hk : k = j ∧ j < n := by
    rcases Nat.lt_or_ge j n with hj | hj
    · simp [hj] at h1; exact ⟨h1.symm, hj⟩
    · simp [hj] at h1
  obtain ⟨rfl, hj⟩ := hk
  obtain ⟨u, hu⟩ := h k hj
  rw [hu] at h2 ⊢
  simp at h2; rw [h2]

theorem bx_get {own : List Nat} {cs : List AC} {v : Value} (h : SVR w g own (.bx cs) v) : ∃ c arr T, v = .pointer (some ⟨c, 0, none⟩) ∧ g.om c = own ∧ w.heap[c]? = some (.cells arr T (0, 0)) ∧
    (∀ o, ¬ g.Fz c o) ∧ CellsR w g own cs arr := by
  cases h with | bx cs c arr T ho hn hb hz hc => exact ⟨c, arr, T, rfl, ho, hb, hz, hc⟩

theorem atBox_eval (h : StR w g tmps st) (he : EnvR w tmps st G) {a : Operand} {s col : Nat} {cs : List AC} (hc : atBox G a s col = true) (hs : st.sl[s]? = some (.bx cs)) :
    ∃ c arr T, Act.eval { tmps, defers := ds } a = .pointer (some ⟨c, col, none⟩) ∧ tmps[s]? = some (.pointer (some ⟨c, 0, none⟩)) ∧ g.om c = [0, s] ∧ w.heap[c]? = some (.cells arr T (0, 0)) ∧
      (∀ o, ¬ g.Fz c o) ∧ CellsR w g [0, s] cs arr := by
  obtain ⟨v, h1, h2, h3⟩ := h.get hs
  obtain ⟨c, arr, T, rfl, e1, e2, e3, e4⟩ := bx_get h3
  refine ⟨c, arr, T, ?_, h1, e1, e2, e3, e4⟩
  unfold atBox at hc
  split at hc
  · rename_i t
    simp only [Bool.or_eq_true, Bool.and_eq_true, beq_iff_eq] at hc
    rcases hc with ⟨rfl, rfl⟩ | hm
    · simp [Act.eval, h2]
    · have := he t _ (by simpa using hm)
      obtain ⟨c', k1, k2⟩ := this
      rw [h1] at k1
      simp at k1; subst k1
      simp only [Act.eval]
      exact getD_of_get k2
  · cases hc

theorem val_ldb (h : StR w g tmps st) (he : EnvR w tmps st G) {o : Oper} {T : TypeId} {a : Operand} {s col n : Nat} {agg : Bool} {e : EV} (ho : o.op = .load T a)
    (hc : atBox G a s col = true) (hsh : shp P T n agg = true) (hx : evX st (.ldb s col n agg) = some e) : Val P w g o { tmps, defers := ds } e := by
  simp only [evX] at hx
  split at hx
  · rename_i cs hs
    split at hx
    · rename_i hle
      obtain ⟨c, arr, Ty, e1, e2, e3, e4, e5, e6⟩ := atBox_eval (ds := ds) h he hc hs
      have hcell : ∀ j v, ((arr.toList.drop col).take n)[j]? = some v → w.cell? ⟨c, col + j, none⟩ = some v := by
        intro j v hv
        obtain ⟨h1, h2⟩ := drop_take_get hv
        rw [cell_of_block e4]; simpa using h1
      have hl : ((arr.toList.drop col).take n).length = n := by simp [e6.1]; omega
      refine ⟨_, ?_, fun own => ofCells (w := w) (g := g) hx (vs := (arr.toList.drop col).take n) ?_ (fun ha => ?_) ?_⟩
      · simp only [execOp, ho, e1]
        simp only [Sem.run_bind, run_load_at hsh c col _ hl hcell, Result.andThen_ok, Sem.run_pure]
      · rw [hl]; simp; omega
      · rw [hl]; exact (shp_sz hsh).2.2 ha
      · intro j x v k1 k2
        obtain ⟨y, y1, y2⟩ := map_get k1
        obtain ⟨z1, z2⟩ := drop_take_get y1
        obtain ⟨u1, u2⟩ := drop_take_get k2
        have := e6.2 (col + j) y v z1 (by simpa using u1)
        subst y2
        exact ⟨this.1, fun own => this.2.read own⟩
    · cases hx
  · cases hx

theorem val_mov (h : StR w g tmps st) {o : Oper} {a : Operand} {x : AO} {e : EV} (ho : o.op = .move a ∨ o.op = .assign a) (hc : opd a x = true) (hx : evO st x = some e) :
    Val P w g o { tmps, defers := ds } e := by
  refine ⟨_, ?_, fun own => opd_sound (ds := ds) h hc hx own⟩
  rcases ho with ho | ho <;> simp [execOp, ho]

theorem evr_c {own : List Nat} {x : AC} {v : Value} (h : EVR w g own (.c x) v) : ACR w g own x v := by cases h with | c h => exact h
theorem acr_t {own : List Nat} {x : TV} {v : Value} (h : ACR w g own (.t x) v) : TVR w g.Fz x v := by cases h with | t h => exact h
theorem tvr_b {b : Bool} {v : Value} (h : TVR w g.Fz (.b b) v) : v = .bool b := by cases h; rfl
theorem tvr_i {k : IntKind} {n : Int} {v : Value} (h : TVR w g.Fz (.i k n) v) : v = .int k n := by cases h; rfl
theorem tvr_s {x : List UInt8} {v : Value} (h : TVR w g.Fz (.s x) v) : ∃ a : ByteArray, a.data.toList = x ∧ v = .string a := by cases h with | s a => exact ⟨a, rfl, rfl⟩
theorem evr_b {own : List Nat} {b : Bool} {v : Value} (h : EVR w g own (.c (.t (.b b))) v) : v = .bool b := tvr_b (acr_t (evr_c h))
theorem evr_i {own : List Nat} {k : IntKind} {n : Int} {v : Value} (h : EVR w g own (.c (.t (.i k n))) v) : v = .int k n := tvr_i (acr_t (evr_c h))
theorem evr_s {own : List Nat} {x : List UInt8} {v : Value} (h : EVR w g own (.c (.t (.s x))) v) : ∃ a : ByteArray, a.data.toList = x ∧ v = .string a := tvr_s (acr_t (evr_c h))

theorem val_pick (h : StR w g tmps st) {o : Oper} {c a b : Operand} {c' a' b' : AO} {e : EV} (ho : o.op = .pick c a b) (h1 : opd c c' = true) (h2 : opd a a' = true) (h3 : opd b b' = true)
    (hx : evX st (.pick c' a' b') = some e) : Val P w g o { tmps, defers := ds } e := by
  simp only [evX] at hx
  split at hx
  · rename_i x ea eb e1 e2 e3
    have hv := evr_b (opd_sound (ds := ds) h h1 e1 [])
    cases hx
    refine ⟨if x then Act.eval { tmps, defers := ds } a else Act.eval { tmps, defers := ds } b, ?_, fun own => ?_⟩
    · simp only [execOp, ho, hv, asBool, Sem.run_bind, Sem.run_pure, Result.andThen_ok]
    · cases x
      · exact opd_sound (ds := ds) h h3 e3 own
      · exact opd_sound (ds := ds) h h2 e2 own
  · cases hx

theorem val_ld (h : StR w g tmps st) {o : Oper} {T : TypeId} {a : Operand} {x : AO} {n : Nat} {agg : Bool} {e : EV} (ho : o.op = .load T a)
    (hc : opd a x = true) (hsh : shp P T n agg = true) (hx : evX st (.ld x n agg) = some e) : Val P w g o { tmps, defers := ds } e := by
  simp only [evX] at hx
  split at hx
  · rename_i row col hr
    have hv := evr_c (opd_sound (ds := ds) h hc hr [])
    split at hx
    · rename_i hle
      generalize hev : Act.eval { tmps, defers := ds } a = va at hv
      cases hv with
      | tp row col c oo u hcc =>
        have hex : ∀ j, j < n → ∃ v, w.cell? ⟨c, oo + col + j, none⟩ = some v := by
          intro j hj
          have : row[col + j]? = some row[col + j] := List.getElem?_eq_getElem (by omega)
          exact ⟨_, by rw [Nat.add_assoc]; exact (hcc _ _ this).2.1⟩
        obtain ⟨vs, hl, hvs⟩ := cells_list c (oo + col) n hex
        refine ⟨_, ?_, fun own => ofCells (w := w) (g := g) hx (vs := vs) ?_ (fun ha => ?_) ?_⟩
        · simp only [execOp, ho, hev, Sem.run_bind, run_load_at hsh c (oo + col) vs hl hvs, Result.andThen_ok, Sem.run_pure]
        · simp [hl]; omega
        · rw [hl]; exact (shp_sz hsh).2.2 ha
        · intro j y v k1 k2
          obtain ⟨z, z1, z2⟩ := map_get k1
          obtain ⟨q1, q2⟩ := drop_take_get z1
          obtain ⟨r1, r2, r3, r4⟩ := hcc _ _ q1
          have := hvs j v k2
          rw [Nat.add_assoc, r2] at this
          simp at this; subst this; subst z2
          exact ⟨r3, fun own => .t r4⟩
    · cases hx
  · rename_i blk wd r col hr
    have hv := evr_c (opd_sound (ds := ds) h hc hr [])
    split at hx
    · rename_i wd' rs hb
      split at hx
      · rename_i row hrow
        split at hx
        · rename_i hle
          obtain ⟨rfl, hle⟩ := hle
          obtain ⟨arr, Ty, b1, b2, b3, b4, b5, b6⟩ := h.hp blk _ hb
          generalize hev : Act.eval { tmps, defers := ds } a = va at hv
          cases hv with
          | p blk wd r col hn =>
            have hlen := b5 r row hrow
            have hin : ∀ j, j < row.length → ∃ y v, row[j]? = some y ∧ arr[r * wd + j]? = some v ∧ v.oneCell' = true ∧ ACR w g [1, blk, r * wd + j] y v := by
              intro j hj
              have e1 : row[j]? = some row[j] := by simp [hj]
              obtain ⟨v, c1, c2, c3⟩ := b6 r j row _ hrow e1
              exact ⟨_, v, e1, c1, c2, c3⟩
            have hex : ∀ j, j < n → ∃ v, w.cell? ⟨g.be blk, r * wd + col + j, none⟩ = some v := by
              intro j hj
              obtain ⟨y, v, _, c1, _⟩ := hin (col + j) (by omega)
              exact ⟨v, by rw [cell_of_block b1, Nat.add_assoc]; exact c1⟩
            obtain ⟨vs, hl, hvs⟩ := cells_list (g.be blk) (r * wd + col) n hex
            refine ⟨_, ?_, fun own => ofCells (w := w) (g := g) hx (vs := vs) ?_ (fun ha => ?_) ?_⟩
            · simp only [execOp, ho, hev, Sem.run_bind, run_load_at hsh _ _ vs hl hvs, Result.andThen_ok, Sem.run_pure]
            · simp [hl]; omega
            · rw [hl]; exact (shp_sz hsh).2.2 ha
            · intro j y v k1 k2
              obtain ⟨z, z1, z2⟩ := map_get k1
              obtain ⟨q1, q2⟩ := drop_take_get z1
              obtain ⟨y', v', c0, c1, c2, c3⟩ := hin (col + j) (by omega)
              have := hvs j v k2
              rw [cell_of_block b1, Nat.add_assoc, c1] at this
              simp at this; subst this; subst z2
              rw [q1] at c0; cases c0
              exact ⟨c2, fun own => c3.read own⟩
        · cases hx
      · cases hx
    · cases hx
  · cases hx

theorem val_fad (h : StR w g tmps st) {o : Oper} {T f : Nat} {a : Operand} {x : AO} {off : Nat} {e : EV} (ho : o.op = .fieldAddr T a f) (hc : opd a x = true) (hf : fieldOk P T f off = true)
    (hx : evX st (.fad x off) = some e) : Val P w g o { tmps, defers := ds } e := by
  unfold fieldOk at hf
  split at hf
  · rename_i fs hu
    split at hf
    · rename_i fd hfd
      simp at hf
      obtain ⟨rfl, hs⟩ := hf
      split at hs
      · rename_i k hk
        have run : ∀ c oo, (Instr.fieldAt T (.pointer (some ⟨c, oo, none⟩)) f).run P w = .ok (.pointer (some ⟨c, oo + fd.offset, none⟩)) w := by
          intro c oo
          simp [Instr.fieldAt, run_under hu, hfd, Instr.sureAddr, fieldPlace, run_sz hk, addr_add]
        simp only [evX] at hx
        split at hx
        · rename_i row col hr
          have hv := evr_c (opd_sound (ds := ds) h hc hr [])
          generalize hev : Act.eval { tmps, defers := ds } a = va at hv
          cases hx
          cases hv with
          | tp row col c oo u hcc =>
            refine ⟨_, by simp only [execOp, ho, hev, Sem.run_bind, run, Result.andThen_ok, Sem.run_pure]; rfl, fun own => ?_⟩
            rw [Nat.add_assoc]; exact .c (.tp row (col + fd.offset) c oo u hcc)
        · rename_i blk wd r col hr
          have hv := evr_c (opd_sound (ds := ds) h hc hr [])
          generalize hev : Act.eval { tmps, defers := ds } a = va at hv
          cases hx
          cases hv with
          | p blk wd r col hn =>
            refine ⟨_, by simp only [execOp, ho, hev, Sem.run_bind, run, Result.andThen_ok, Sem.run_pure]; rfl, fun own => ?_⟩
            rw [Nat.add_assoc]; exact .c (.p blk wd r (col + fd.offset) hn)
        · cases hx
      · cases hs
    · cases hf
  · cases hf

theorem evI_sound (h : StR w g tmps st) {a : Operand} {x : AO} {n : Int} (hc : opd a x = true) (hx : evI st x = some n) : ∃ k, Act.eval { tmps, defers := ds } a = .int k n := by
  unfold evI at hx
  split at hx
  · rename_i k m hr
    cases hx
    exact ⟨k, evr_i (opd_sound (ds := ds) h hc hr [])⟩
  · cases hx

theorem val_iad (h : StR w g tmps st) {o : Oper} {T : Nat} {a i : Operand} {x j : AO} {wd : Nat} {e : EV} (ho : o.op = .indexAddr T a i) (hc : opd a x = true) (hci : opd i j = true)
    (hs : sliceEl P T wd = true) (hx : evX st (.iad x j wd) = some e) : Val P w g o { tmps, defers := ds } e := by
  unfold sliceEl at hs
  split at hs
  · rename_i el hu
    simp at hs
    have run : ∀ (k : IntKind) (n : Int) (c oo len cap : Nat), 0 ≤ n → n < len →
        (Instr.indexAt T (.slice (some ⟨c, oo, none⟩) len cap) (.int k n)).run P w = .ok (.pointer (some ⟨c, oo + n.toNat * wd, none⟩)) w := by
      intro k n c oo len cap h0 h1
      simp [Instr.indexAt, asIntOf, run_under hu, run_sz hs, addr_add, h0, h1]
    simp only [evX] at hx
    split at hx
    · rename_i rows n hr hn
      obtain ⟨k, hk⟩ := evI_sound (ds := ds) h hci hn
      have hv := acr_t (evr_c (opd_sound (ds := ds) h hc hr []))
      generalize hev : Act.eval { tmps, defers := ds } a = va at hv
      split at hx
      · rename_i h0
        split at hx
        · rename_i row hrow
          split at hx
          · rename_i hw
            cases hx
            have hlt : n.toNat < rows.length := by
              rcases Nat.lt_or_ge n.toNat rows.length with h' | h'
              · exact h'
              · rw [List.getElem?_eq_none h'] at hrow; cases hrow
            cases hv with
            | ts0 => simp at hrow
            | tse a cap => simp at hrow
            | ts rows wd' c oo cap u hw' hcap hcc hrr h1 =>
              have : wd' = wd := by rw [← hw' _ _ hrow]; exact hw
              subst this
              refine ⟨_, by simp only [execOp, ho, hev, hk, Sem.run_bind, run k n c oo rows.length cap h0 (by omega), Result.andThen_ok, Sem.run_pure]; rfl, fun own => ?_⟩
              refine .c (.tp row 0 c (oo + n.toNat * wd') (u n.toNat) (fun j x e1 => ?_))
              obtain ⟨q1, q2⟩ := hcc _ _ _ _ hrow e1
              exact ⟨q1, q2, h1 _ _ _ _ hrow e1, hrr _ _ _ _ hrow e1⟩
          · cases hx
        · cases hx
      · cases hx
    · rename_i blk wd' r len n hr hn
      obtain ⟨k, hk⟩ := evI_sound (ds := ds) h hci hn
      have hv := evr_c (opd_sound (ds := ds) h hc hr [])
      generalize hev : Act.eval { tmps, defers := ds } a = va at hv
      split at hx
      · rename_i hh
        obtain ⟨h0, h1, rfl⟩ := hh
        cases hx
        cases hv with
        | sl blk wd r len cap off hcap hbn hoff =>
          have hoff' := hoff (by omega)
          subst hoff'
          refine ⟨_, by simp only [execOp, ho, hev, hk, Sem.run_bind, run k n _ _ len cap h0 h1, Result.andThen_ok, Sem.run_pure]; rfl, fun own => ?_⟩
          have : r * wd + n.toNat * wd = (r + n.toNat) * wd + 0 := by rw [Nat.add_mul]; rfl
          rw [this]
          exact .c (.p blk wd (r + n.toNat) 0 hbn)
      · cases hx
    · cases hx
  · cases hs

theorem str_toList (a : ByteArray) : a.toList = a.data.toList := by
  exact ByteArray.toList_eq a

theorem byteLess_eq : ∀ a b : List UInt8, Op.bytesLess a b = byteLess a b
  | _, [] => by simp [Op.bytesLess, byteLess]
  | [], _ :: _ => by simp [Op.bytesLess, byteLess]
  | a :: x, b :: y => by simp [Op.bytesLess, byteLess, byteLess_eq x y]

theorem val_bin (h : StR w g tmps st) {o : Oper} {T yT : TypeId} {op op' : BinOp} {a b : Operand} {x y : AO} {e : EV} (ho : o.op = .binOp op T a b yT) (hop : op = op')
    (h1 : opd a x = true) (h2 : opd b y = true) (hx : evX st (.bin op' x y) = some e) : Val P w g o { tmps, defers := ds } e := by
  subst hop
  simp only [evX] at hx
  split at hx
  · rename_i ta tb e1 e2
    have va := acr_t (evr_c (opd_sound (ds := ds) h h1 e1 []))
    have vb := acr_t (evr_c (opd_sound (ds := ds) h h2 e2 []))
    cases hr : bin2 op ta tb with
    | none => rw [hr] at hx; cases hx
    | some r =>
      rw [hr] at hx
      cases hx
      unfold bin2 at hr
      split at hr
      · rename_i k a1 k' b1
        split at hr
        · rename_i hk
          subst hk
          have ea := tvr_i va
          have eb := tvr_i vb
          split at hr <;> first
            | (cases hr; done)
            | (cases hr; refine ⟨_, ?_, fun own => .c (.t (.i _ _))⟩; simp [execOp, ho, ea, eb, eqGuard, binOp, Op.intArith, Op.intBits, Op.intCmp]; done)
            | (cases hr; refine ⟨_, ?_, fun own => .c (.t (.b _))⟩; simp [execOp, ho, ea, eb, eqGuard, binOp, Op.intArith, Op.intBits, Op.intCmp]; done)
            | (split at hr
               · cases hr
               · rename_i hb0
                 cases hr; refine ⟨_, ?_, fun own => .c (.t (.i _ _))⟩; simp [execOp, ho, ea, eb, eqGuard, binOp, Op.intDiv, hb0])
        · cases hr
      · rename_i a1 b1
        obtain ⟨ba, ea', ea⟩ := tvr_s va
        obtain ⟨bb, eb', eb⟩ := tvr_s vb
        subst ea' eb'
        split at hr <;> first
          | (cases hr; done)
          | (cases hr; refine ⟨_, ?_, fun own => .c (.t (.b _))⟩; simp [execOp, ho, ea, eb, eqGuard, binOp, Op.stringOp, str_toList, byteLess_eq, bne]; done)
          | (split at hr
             · rename_i hle
               cases hr
               have hle' : ¬ (((ba.size + bb.size : Nat) : Int) > IntKind.i64.max) := by
                 simp [IntKind.max, IntKind.bits, IntKind.signed]
                 have := ba.size_data; have := bb.size_data
                 simp at hle
                 omega
               refine ⟨.string (ba ++ bb), ?_, fun own => ?_⟩
               · simp only [execOp, ho, ea, eb, eqGuard, binOp, Op.stringOp, if_neg hle']
                 rfl
               · have := TVR.s (w := w) (Fz := g.Fz) (ba ++ bb)
                 rw [ByteArray.data_append, Array.toList_append] at this
                 exact .c (.t this)
             · cases hr)
      · cases hr
  · cases hx

theorem basic_bool {t : TypeId} (h : basicKind P t 0 = true) : P.underlying t = some .bool := by
  unfold basicKind at h
  split at h <;> first | (cases h; done) | skip
  all_goals first | assumption | (rename_i h1; exact absurd h1 (by decide))

theorem run_equalIn_bool (d : Nat) {T : TypeId} (hu : P.underlying T = some .bool) (p q : Bool) (w : World) : (Op.equalIn (d + 1) T (.bool p) (.bool q)).run P w = .ok (p == q) w := by
  simp only [Op.equalIn, Sem.run_bind, run_under hu, Result.andThen_ok]
  rfl
theorem run_equal_bool {T : TypeId} (hu : P.underlying T = some .bool) (p q : Bool) (w : World) : (Op.equal T (.bool p) (.bool q)).run P w = .ok (p == q) w :=
  run_equalIn_bool 9999 hu p q w

theorem val_beq (h : StR w g tmps st) {o : Oper} {T yT : TypeId} {op : BinOp} {ng : Bool} {a b : Operand} {x y : AO} {e : EV} (ho : o.op = .binOp op T a b yT) (hop : op = if ng then .neq else .eql)
    (hb : basicKind P T 0 = true) (h1 : opd a x = true) (h2 : opd b y = true) (hx : evX st (.beq ng x y) = some e) : Val P w g o { tmps, defers := ds } e := by
  have hu := basic_bool hb
  simp only [evX] at hx
  split at hx
  · rename_i p q e1 e2
    have va := evr_b (opd_sound (ds := ds) h h1 e1 [])
    have vb := evr_b (opd_sound (ds := ds) h h2 e2 [])
    cases hx
    refine ⟨_, ?_, fun own => .c (.t (.b _))⟩
    have hq := run_equal_bool hu p q w
    cases ng <;> simp only [if_true, Bool.false_eq_true, if_false] at hop ⊢ <;> subst hop
    · have hb : binOp .eql T (.bool p) (.bool q) = (do pure (.bool (← Op.equal T (.bool p) (.bool q)))) := rfl
      simp [execOp, ho, va, vb, eqGuard, hb, hq]
    · have hb : binOp .neq T (.bool p) (.bool q) = (do pure (.bool (!(← Op.equal T (.bool p) (.bool q))))) := rfl
      simp [execOp, ho, va, vb, eqGuard, hb, hq]
  · cases hx

theorem val_un (h : StR w g tmps st) {o : Oper} {T : TypeId} {op op' : UnOp} {a : Operand} {x : AO} {e : EV} (ho : o.op = .unOp op T a) (hop : op = op')
    (h1 : opd a x = true) (hx : evX st (.un op' x) = some e) : Val P w g o { tmps, defers := ds } e := by
  subst hop
  simp only [evX] at hx
  split at hx
  · rename_i b e1
    have va := evr_b (opd_sound (ds := ds) h h1 e1 [])
    cases hx
    exact ⟨_, by simp [execOp, ho, va, Op.unary], fun own => .c (.t (.b _))⟩
  · rename_i k n e1
    have va := evr_i (opd_sound (ds := ds) h h1 e1 [])
    cases hx
    exact ⟨_, by simp [execOp, ho, va, Op.unary, Op.intArith], fun own => .c (.t (.i _ _))⟩
  · cases hx

theorem val_cnv (h : StR w g tmps st) {o : Oper} {S D : TypeId} {k : IntKind} {a : Operand} {x : AO} {e : EV} (ho : o.op = .convert S D a) (hS : (P.underlying S).isSome = true) (hD : P.underlying D = some (.int k))
    (h1 : opd a x = true) (hx : evX st (.cnv k x) = some e) : Val P w g o { tmps, defers := ds } e := by
  simp only [evX] at hx
  split at hx
  · rename_i k' n e1
    have va := evr_i (opd_sound (ds := ds) h h1 e1 [])
    cases hx
    obtain ⟨dS, hS⟩ := Option.isSome_iff_exists.1 hS
    exact ⟨_, by simp [execOp, ho, va, convert, run_under hS, run_under hD, Conv.intToInt], fun own => .c (.t (.i _ _))⟩
  · cases hx

theorem val_cvs (h : StR w g tmps st) {o : Oper} {S D : TypeId} {a : Operand} {x : AO} {e : EV} (ho : o.op = .convert S D a) (hS : (P.underlying S).isSome = true) (hD : P.underlying D = some .string)
    (h1 : opd a x = true) (hx : evX st (.cvs x) = some e) : Val P w g o { tmps, defers := ds } e := by
  simp only [evX] at hx
  split at hx
  · rename_i s e1
    have hh := opd_sound (ds := ds) h h1 e1 []
    obtain ⟨ba, e2, va⟩ := evr_s hh
    cases hx
    subst e2
    obtain ⟨dS, hS⟩ := Option.isSome_iff_exists.1 hS
    exact ⟨.string ba, by simp [execOp, ho, va, convert, run_under hS, run_under hD], fun own => .c (.t (.s _))⟩
  · cases hx

theorem val_mm (h : StR w g tmps st) {o : Oper} {isMax : Bool} {ts : Array TypeId} {a b : Operand} {x y : AO} {e : EV} (ho : o.op = .call { callee := .builtin (if isMax then .max else .min), args := #[a, b], argTypes := ts })
    (h1 : opd a x = true) (h2 : opd b y = true) (hx : evX st (if isMax then .mx x y else .mn x y) = some e) : Val P w g o { tmps, defers := ds } e := by
  cases isMax <;> simp only [evX, if_true, Bool.false_eq_true, if_false] at hx
  · split at hx
    · rename_i k m k' n e1 e2
      have va := evr_i (opd_sound (ds := ds) h h1 e1 [])
      have vb := evr_i (opd_sound (ds := ds) h h2 e2 [])
      split at hx
      · rename_i hk
        subst hk
        cases hx
        exact ⟨_, by simp [execOp, ho, va, vb, resolve, invoke, builtin, Builtin.min_, Builtin.min2], fun own => .c (.t (.i _ _))⟩
      · cases hx
    · cases hx
  · split at hx
    · rename_i k m k' n e1 e2
      have va := evr_i (opd_sound (ds := ds) h h1 e1 [])
      have vb := evr_i (opd_sound (ds := ds) h h2 e2 [])
      split at hx
      · rename_i hk
        subst hk
        cases hx
        exact ⟨_, by simp [execOp, ho, va, vb, resolve, invoke, builtin, Builtin.max_, Builtin.max2], fun own => .c (.t (.i _ _))⟩
      · cases hx
    · cases hx

theorem val_len (h : StR w g tmps st) {o : Oper} {str : Bool} {T : TypeId} {a : Operand} {x : AO} {e : EV} (ho : o.op = .call { callee := .builtin .len, args := #[a], argTypes := #[T] })
    (h1 : opd a x = true) (hu : (match P.underlying T, str with | some .string, true => true | some (.slice _), false => true | _, _ => false) = true) (hx : evX st (.len str x) = some e) :
    Val P w g o { tmps, defers := ds } e := by
  simp only [evX] at hx
  split at hx
  · rename_i s e1
    obtain ⟨ba, e2, va⟩ := evr_s (opd_sound (ds := ds) h h1 e1 [])
    cases hx
    subst e2
    split at hu <;> first | (cases hu; done) | skip
    · rename_i hT _
      exact ⟨.int .i64 ba.data.toList.length, by simp [execOp, ho, va, resolve, invoke, builtin, Builtin.len_, run_under hT, goInt], fun own => .c (.t (.i _ _))⟩
    · rename_i hb; cases hb
  · rename_i rows e1
    have va := acr_t (evr_c (opd_sound (ds := ds) h h1 e1 []))
    generalize hev : Act.eval { tmps, defers := ds } a = v at va
    cases hx
    split at hu <;> first | (cases hu; done) | skip
    · rename_i hb; cases hb
    · rename_i el hT _
      cases va with
      | ts0 => exact ⟨_, by simp [execOp, ho, hev, resolve, invoke, builtin, Builtin.len_, run_under hT, goInt], fun own => .c (.t (.i _ _))⟩
      | tse a cap => exact ⟨_, by simp [execOp, ho, hev, resolve, invoke, builtin, Builtin.len_, run_under hT, goInt], fun own => .c (.t (.i _ _))⟩
      | ts rows wd c oo cap u hw hcap hc hr h1 => exact ⟨_, by simp [execOp, ho, hev, resolve, invoke, builtin, Builtin.len_, run_under hT, goInt], fun own => .c (.t (.i _ _))⟩
  · rename_i e1
    have va := acr_t (evr_c (opd_sound (ds := ds) h h1 e1 []))
    generalize hev : Act.eval { tmps, defers := ds } a = v at va
    cases hx
    cases va
    split at hu <;> first | (cases hu; done) | skip
    · rename_i hb; cases hb
    · rename_i el hT _
      exact ⟨_, by simp [execOp, ho, hev, resolve, invoke, builtin, Builtin.len_, run_under hT, goInt], fun own => .c (.t (.i _ _))⟩
  · rename_i blk wd r n e1
    have va := evr_c (opd_sound (ds := ds) h h1 e1 [])
    generalize hev : Act.eval { tmps, defers := ds } a = v at va
    cases hx
    cases va with
    | sl blk wd r n cap off hcap hn hoff =>
      split at hu <;> first | (cases hu; done) | skip
      · rename_i hb; cases hb
      · rename_i el hT _
        exact ⟨_, by simp [execOp, ho, hev, resolve, invoke, builtin, Builtin.len_, run_under hT, goInt], fun own => .c (.t (.i _ _))⟩
  · cases hx

/-- what a value looks like of which it is known whether it is nil -/
def NilShape (kind : Nat) (v : Value) (r : Bool) : Prop :=
  (kind = 0 ∧ ∃ b n c, v = .slice b n c ∧ b.isNone = r) ∨ (kind = 1 ∧ ∃ p, v = .pointer p ∧ p.isNone = r) ∨ (kind = 2 ∧ ∃ m, v = .map m ∧ m.isNone = r) ∨
  (kind = 3 ∧ ((v = .nilFunc ∧ r = true) ∨ ∃ a b c, v = .func a b c ∧ r = false)) ∨ (kind = 4 ∧ ((v = .nilIface ∧ r = true) ∨ ∃ t u, v = .iface t u ∧ r = false))

theorem isNil_shape {kind : Nat} {x : AC} {v : Value} {r : Bool} (hv : ACR w g [] x v) (hr : isNil kind x = some r) : NilShape kind v r := by
  unfold isNil at hr
  split at hr <;> first | (cases hr; done) | skip
  all_goals
    cases hr
    cases hv
    try (rename_i hv; cases hv)
    all_goals simp [NilShape]

theorem nilConst_shape {c : Operand} {kind : Nat} (hc : nilConst c kind = true) : ∃ u, c = .const u ∧ NilShape kind u true ∧ (∀ n m b, u = .slice b n m → n = 0 ∧ m = 0) := by
  unfold nilConst at hc
  split at hc <;> first | (cases hc; done) | exact ⟨_, rfl, by simp [NilShape], by simp⟩

theorem equalIn_nil (d : Nat) {T : TypeId} {kind : Nat} (hk : nilKind P T kind = true) {v u : Value} {r : Bool} (hv : NilShape kind v r) (hu : NilShape kind u true) :
    (Op.equalIn (d + 1) T v u).run P w = .ok r w ∧ (Op.equalIn (d + 1) T u v).run P w = .ok r w := by
  rcases hv with ⟨rfl, b, n, c, rfl, rfl⟩ | ⟨rfl, p, rfl, rfl⟩ | ⟨rfl, m, rfl, rfl⟩ | ⟨rfl, hv⟩ | ⟨rfl, hv⟩
  · simp [NilShape] at hu
    obtain ⟨n', c', rfl⟩ := hu
    unfold nilKind at hk
    split at hk <;> first | (cases hk; done) | skip
    all_goals rename_i h1 h2; first | (cases h2; done) | skip
    cases b <;> constructor <;> simp only [Op.equalIn, Sem.run_bind, run_under h1, Result.andThen_ok] <;> rfl
  · simp [NilShape] at hu
    subst hu
    unfold nilKind at hk
    split at hk <;> first | (cases hk; done) | skip
    all_goals rename_i h1 h2; first | (cases h2; done) | skip
    cases p <;> constructor <;> simp only [Op.equalIn, Sem.run_bind, run_under h1, Result.andThen_ok] <;> rfl
  · simp [NilShape] at hu
    subst hu
    unfold nilKind at hk
    split at hk <;> first | (cases hk; done) | skip
    all_goals rename_i h1 h2; first | (cases h2; done) | skip
    cases m <;> constructor <;> simp only [Op.equalIn, Sem.run_bind, run_under h1, Result.andThen_ok] <;> rfl
  · simp [NilShape] at hu
    subst hu
    unfold nilKind at hk
    split at hk <;> first | (cases hk; done) | skip
    all_goals rename_i h1 h2; first | (cases h2; done) | skip
    rcases hv with ⟨rfl, rfl⟩ | ⟨a, b, c, rfl, rfl⟩ <;> constructor <;> simp only [Op.equalIn, Sem.run_bind, run_under h1, Result.andThen_ok] <;> rfl
  · simp [NilShape] at hu
    subst hu
    unfold nilKind at hk
    split at hk <;> first | (cases hk; done) | skip
    all_goals rename_i h1 h2; first | (cases h2; done) | skip
    rcases hv with ⟨rfl, rfl⟩ | ⟨a, b, rfl, rfl⟩ <;> constructor <;> simp only [Op.equalIn, Sem.run_bind, run_under h1, Result.andThen_ok] <;> rfl

theorem eqGuard_nil {op : BinOp} {T : TypeId} {kind : Nat} {a b : Operand} {v u : Value} {r r' : Bool} (hk : nilConst a kind = true ∨ nilConst b kind = true) (hv : NilShape kind v r) (hu : NilShape kind u r') :
    (eqGuard op T a b v u).run P w = .ok () w := by
  rcases hk with hk | hk
  · obtain ⟨x, rfl, _⟩ := nilConst_shape hk
    cases op <;> (try rfl)
    all_goals
      unfold eqGuard
      simp only [Bool.not_true, Bool.false_eq_true, if_false]
      split
      · rfl
      · simp [NilShape] at hv
      · rfl
  · obtain ⟨x, rfl, _⟩ := nilConst_shape hk
    cases op <;> (try rfl)
    all_goals
      unfold eqGuard
      simp only [Bool.not_true, Bool.false_eq_true, if_false]
      split
      · simp
      · simp [NilShape] at hv
      · rfl

theorem binOp_nil {kind : Nat} {T : TypeId} {v u : Value} {r r' : Bool} (hv : NilShape kind v r) (hu : NilShape kind u r') :
    binOp .eql T v u = (do pure (.bool (← Op.equal T v u))) ∧ binOp .neq T v u = (do pure (.bool (!(← Op.equal T v u)))) := by
  rcases hv with ⟨rfl, b, n, c, rfl, rfl⟩ | ⟨rfl, p, rfl, rfl⟩ | ⟨rfl, m, rfl, rfl⟩ | ⟨rfl, hv⟩ | ⟨rfl, hv⟩
  · simp [NilShape] at hu; obtain ⟨b', ⟨n', c', rfl⟩, _⟩ := hu; exact ⟨rfl, rfl⟩
  · simp [NilShape] at hu; obtain ⟨p', rfl, _⟩ := hu; exact ⟨rfl, rfl⟩
  · simp [NilShape] at hu; obtain ⟨m', rfl, _⟩ := hu; exact ⟨rfl, rfl⟩
  · simp [NilShape] at hu
    rcases hv with ⟨rfl, rfl⟩ | ⟨a, b, c, rfl, rfl⟩ <;> rcases hu with ⟨rfl, _⟩ | ⟨⟨a', b', c', rfl⟩, _⟩ <;> exact ⟨rfl, rfl⟩
  · simp [NilShape] at hu
    rcases hv with ⟨rfl, rfl⟩ | ⟨a, b, rfl, rfl⟩ <;> rcases hu with ⟨rfl, _⟩ | ⟨⟨a', b', rfl⟩, _⟩ <;> exact ⟨rfl, rfl⟩

theorem val_nleq (h : StR w g tmps st) {o : Oper} {T yT : TypeId} {op : BinOp} {kind : Nat} {ng : Bool} {a b : Operand} {x : AO} {e : EV} (ho : o.op = .binOp op T a b yT) (hop : op = if ng then .neq else .eql)
    (hk : nilKind P T kind = true) (hab : (opd a x = true ∧ nilConst b kind = true) ∨ (opd b x = true ∧ nilConst a kind = true)) (hx : evX st (.nleq kind ng x) = some e) :
    Val P w g o { tmps, defers := ds } e := by
  simp only [evX] at hx
  split at hx
  · rename_i y e1
    cases hr : isNil kind y with
    | none => rw [hr] at hx; cases hx
    | some r =>
      rw [hr] at hx
      cases hx
      refine ⟨_, ?_, fun own => .c (.t (.b _))⟩
      rcases hab with ⟨hc, hn⟩ | ⟨hc, hn⟩
      · have va := isNil_shape (evr_c (opd_sound (ds := ds) h hc e1 [])) hr
        obtain ⟨u, hb, hu, _⟩ := nilConst_shape hn
        have ev : Act.eval { tmps, defers := ds } b = u := by rw [hb]; rfl
        have q : (Op.equal T (Act.eval { tmps, defers := ds } a) u).run P w = .ok r w := (equalIn_nil 9999 hk va hu).1
        obtain ⟨s1, s2⟩ := binOp_nil (T := T) va hu
        have eg := eqGuard_nil (P := P) (w := w) (op := op) (T := T) (.inr hn : nilConst a kind = true ∨ _) va hu
        cases ng <;> simp only [if_true, Bool.false_eq_true, if_false] at hop ⊢ <;> subst hop
        · simp [execOp, ho, ev, eg, s1, q]
        · simp [execOp, ho, ev, eg, s2, q]
      · have va := isNil_shape (evr_c (opd_sound (ds := ds) h hc e1 [])) hr
        obtain ⟨u, hb, hu, _⟩ := nilConst_shape hn
        have ev : Act.eval { tmps, defers := ds } a = u := by rw [hb]; rfl
        have q : (Op.equal T u (Act.eval { tmps, defers := ds } b)).run P w = .ok r w := (equalIn_nil 9999 hk va hu).2
        obtain ⟨s1, s2⟩ := binOp_nil (T := T) hu va
        have eg := eqGuard_nil (P := P) (w := w) (op := op) (T := T) (.inl hn : _ ∨ nilConst b kind = true) hu va
        cases ng <;> simp only [if_true, Bool.false_eq_true, if_false] at hop ⊢ <;> subst hop
        · simp [execOp, ho, ev, eg, s1, q]
        · simp [execOp, ho, ev, eg, s2, q]
  · cases hx

end
end Go.Abs
