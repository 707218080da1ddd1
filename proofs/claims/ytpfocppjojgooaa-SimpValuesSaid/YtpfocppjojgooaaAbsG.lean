/-
  Expressions, continued: fields, literals, strings, parts of slices, functions, interfaces, equality of structs. Program-independent.
-/
import Derived.Test.YtpfocppjojgooaaAbsF
import Derived.Laws.StructEq
set_option linter.unusedSimpArgs false
set_option linter.unusedVariables false
namespace Go.Abs

section
variable {P : Program} {w : World} {g : Gh} {tmps : Array Value} {st : St} {G : Env} {ds : List Deferred}

theorem evr_ag {own : List Nat} {cs : List AC} {v : Value} (h : EVR w g own (.ag cs) v) : ∃ arr, v = .agg arr ∧ CellsR w g own cs arr := by
  cases h with | ag h => exact ⟨_, rfl, h⟩

/-- what stands for a value under every owner owns nothing -/
theorem acr_any {x : AC} {v : Value} {j : Nat} (h : ∀ own, ACR w g (own ++ [j]) x v) (own : List Nat) : ACR w g own x v := by
  have h1 := h []
  have h2 := h [0]
  cases x with
  | os wd rows =>
    exfalso
    cases h1 with
    | os wd rows c cap arr T u ho => cases h2 with | os _ _ _ _ _ _ _ ho' => rw [ho] at ho'; simp at ho'
  | ex wd rows =>
    exfalso
    cases h1 with
    | ex wd rows c cap arr T u ho => cases h2 with | ex _ _ _ _ _ _ _ ho' => rw [ho] at ho'; simp at ho'
  | t x => exact h1.read own
  | und => exact h1.read own
  | tp a b => exact h1.read own
  | p a b c d => exact h1.read own
  | sl a b c d => exact h1.read own
  | m a => exact h1.read own
  | it a => exact h1.read own
  | fn a b => exact h1.read own
  | ifc a b => exact h1.read own

/-- the cells of a struct that was read -/
theorem opd_ag (h : StR w g tmps st) {a : Operand} {x : AO} {cs : List AC} (hc : opd a x = true) (hr : evO st x = some (.ag cs)) :
    ∃ arr, Act.eval { tmps, defers := ds } a = .agg arr ∧ arr.size = cs.length ∧ ∀ (j : Nat) (y : AC) (v : Value), cs[j]? = some y → arr[j]? = some v → v.oneCell' = true ∧ ∀ own, ACR w g own y v := by
  obtain ⟨arr, hv, hcr⟩ := evr_ag (opd_sound (ds := ds) h hc hr [])
  refine ⟨arr, hv, hcr.1, fun j y v e1 e2 => ⟨(hcr.2 j y v e1 e2).1, fun own => acr_any (j := j) (fun own => ?_) own⟩⟩
  obtain ⟨arr', hv', hc'⟩ := evr_ag (opd_sound (ds := ds) h hc hr own)
  rw [hv] at hv'; cases hv'
  exact (hc'.2 j y v e1 e2).2

theorem opd_c (h : StR w g tmps st) {a : Operand} {x : AO} {y : AC} (hc : opd a x = true) (hr : evO st x = some (.c y)) (own : List Nat) : ACR w g own y (Act.eval { tmps, defers := ds } a) :=
  evr_c (opd_sound (ds := ds) h hc hr own)

theorem val_fld (h : StR w g tmps st) {o : Oper} {T f : Nat} {a : Operand} {x : AO} {off n : Nat} {agg : Bool} {e : EV} (ho : o.op = .field T a f) (hc : opd a x = true) (hf : fieldIs P T f off n agg = true)
    (hx : evX st (.fld x off n agg) = some e) : Val P w g o { tmps, defers := ds } e := by
  unfold fieldIs at hf
  split at hf
  · rename_i fs hu
    split at hf
    · rename_i fd hfd
      simp only [Bool.and_eq_true, beq_iff_eq] at hf
      obtain ⟨rfl, hs⟩ := hf
      obtain ⟨s1, s2, s3⟩ := shp_sz hs
      simp only [evX] at hx
      split at hx
      · rename_i cs hr
        split at hx
        · rename_i hle
          obtain ⟨arr, hv, hz, hcr⟩ := opd_ag (ds := ds) h hc hr
          have hl : ((arr.toList.drop fd.offset).take n).length = n := by simp [hz]; omega
          refine ⟨_, ?_, fun own => ofCells (w := w) (g := g) hx (vs := (arr.toList.drop fd.offset).take n) ?_ (fun ha => by rw [hl]; exact s3 ha) ?_⟩
          · simp only [execOp, ho, hv, Instr.field, Sem.run_bind, run_under hu, Result.andThen_ok, hfd, asAgg, part, run_agg s2, Sem.run_pure, Sem.run_ite]
            cases agg with
            | true =>
              simp only [if_true, Sem.run_bind, run_sz s1, Result.andThen_ok, Sem.run_pure]
              congr 3
              apply Array.ext'
              simp [Array.toList_extract]
            | false =>
              have := s3 rfl; subst this
              simp only [Bool.false_eq_true, if_false]
              have hlt : fd.offset < arr.size := by omega
              have e1 : arr[fd.offset]? = some arr[fd.offset] := by simp [hlt]
              rw [e1]
              simp only [Sem.run_pure, Result.andThen_ok]
              congr 2
              simp [List.getD, List.getElem?_take, List.getElem?_drop, hlt]
          · rw [hl]; simp; omega
          · intro j y v k1 k2
            obtain ⟨q1, q2⟩ := drop_take_get k1
            obtain ⟨u1, u2⟩ := drop_take_get k2
            exact hcr _ y v q1 (by simpa using u1)
        · cases hx
      · cases hx
    · cases hf
  · cases hf

/- literals of structs -/
theorem putAt_length (xs : List AC) : ∀ (cs : List AC) (off : Nat), (putAt cs off xs).length = cs.length := by
  induction xs with
  | nil => intro cs off; rfl
  | cons x xs ih => intro cs off; simp [putAt, ih]

theorem putAt_get (xs : List AC) : ∀ (cs : List AC) (off j : Nat), off + xs.length ≤ cs.length → (putAt cs off xs)[j]? = if off ≤ j ∧ j < off + xs.length then xs[j - off]? else cs[j]? := by
  induction xs with
  | nil => intro cs off j _; simp only [putAt, List.length_nil]; rw [if_neg (by omega)]
  | cons x xs ih =>
    intro cs off j hl
    simp only [List.length_cons] at hl
    rw [putAt, ih _ _ _ (by simp; omega)]
    by_cases h1 : off + 1 ≤ j ∧ j < off + 1 + xs.length
    · rw [if_pos h1, if_pos (by simp; omega)]
      rw [show j - off = (j - (off + 1)) + 1 by omega, List.getElem?_cons_succ]
    · rw [if_neg h1]
      by_cases h2 : j = off
      · subst h2
        rw [if_pos (by simp), List.getElem?_set_self (by omega)]
        simp
      · rw [if_neg (by simp; omega), List.getElem?_set_ne (by omega)]

theorem fold_get (l : List Value) : ∀ (k off : Nat) (cs : Array Value), ((l.zipIdx k).foldl (fun cs (c, j) => cs.setIfInBounds (off + j) c) cs).size = cs.size ∧
    ∀ j, off + k + l.length ≤ cs.size → ((l.zipIdx k).foldl (fun cs (c, j) => cs.setIfInBounds (off + j) c) cs)[j]? = if off + k ≤ j ∧ j < off + k + l.length then l[j - (off + k)]? else cs[j]? := by
  induction l with
  | nil => intro k off cs; refine ⟨rfl, fun j _ => ?_⟩; simp only [List.zipIdx_nil, List.foldl_nil, List.length_nil]; rw [if_neg (by omega)]
  | cons v l ih =>
    intro k off cs
    obtain ⟨i1, i2⟩ := ih (k + 1) off (cs.setIfInBounds (off + k) v)
    simp only [List.zipIdx_cons, List.foldl_cons]
    refine ⟨by rw [i1]; simp, fun j hl => ?_⟩
    simp only [List.length_cons] at hl
    rw [i2 j (by simp; omega)]
    by_cases h1 : off + (k + 1) ≤ j ∧ j < off + (k + 1) + l.length
    · rw [if_pos h1, if_pos (by simp; omega)]
      rw [show j - (off + k) = (j - (off + (k + 1))) + 1 by omega, List.getElem?_cons_succ]
    · rw [if_neg h1]
      by_cases h2 : j = off + k
      · subst h2
        rw [if_pos (by simp)]
        simp [Array.getElem?_setIfInBounds]
        omega
      · rw [if_neg (by simp; omega), Array.getElem?_setIfInBounds, if_neg (by omega)]

/-- cells that own nothing -/
def Plain (w : World) (g : Gh) (cs : List AC) (a : Array Value) : Prop :=
  a.size = cs.length ∧ ∀ (j : Nat) (x : AC) (v : Value), cs[j]? = some x → a[j]? = some v → v.oneCell' = true ∧ ∀ own, ACR w g own x v

theorem Plain.cells {cs : List AC} {a : Array Value} (h : Plain w g cs a) (own : List Nat) : CellsR w g own cs a :=
  ⟨h.1, fun j x v e1 e2 => ⟨(h.2 j x v e1 e2).1, (h.2 j x v e1 e2).2 _⟩⟩

theorem one_cell {x : AC} {v : Value} (h1 : x.one = true) (h : ACR w g [] x v) : v.oneCell' = true := by
  cases h with
  | t h => cases h <;> first | rfl | (simp [AC.one, TV.one] at h1)
  | und => cases h1
  | _ => rfl

theorem stored_sound (h : StR w g tmps st) {a : Operand} {x : AO} {l : List AC} (hc : opd a x = true) (hr : (evO st x).bind stored = some l) : Plain w g l (Act.eval { tmps, defers := ds } a).cells := by
  cases he : evO st x with
  | none => rw [he] at hr; cases hr
  | some e =>
    rw [he] at hr
    simp only [Option.bind_some] at hr
    cases e with
    | c y =>
      simp only [stored] at hr
      split at hr
      · rename_i h1
        cases hr
        have hv := fun own => opd_c (ds := ds) h hc he own
        have h1' := one_cell h1 (hv [])
        have hcells : (Act.eval { tmps, defers := ds } a).cells = #[Act.eval { tmps, defers := ds } a] := by
          cases hev : Act.eval { tmps, defers := ds } a <;> first | rfl | (rw [hev] at h1'; cases h1')
        rw [hcells]
        refine ⟨rfl, fun j x v e1 e2 => ?_⟩
        cases j with
        | zero => simp at e1 e2; subst e1 e2; exact ⟨h1', hv⟩
        | succ j => simp at e1
      · cases hr
    | ag cs =>
      simp only [stored] at hr
      injection hr with hr
      subst hr
      obtain ⟨arr, hv, hz, hcr⟩ := opd_ag (ds := ds) h hc he
      rw [hv]
      exact ⟨hz, hcr⟩

theorem Plain.put {cs xs : List AC} {a : Array Value} {l : Array Value} {off : Nat} (h : Plain w g cs a) (hx : Plain w g xs l) (hl : off + xs.length ≤ cs.length) :
    Plain w g (putAt cs off xs) (l.zipIdx.foldl (fun cs (c, j) => cs.setIfInBounds (off + j) c) a) := by
  have e : l.zipIdx.foldl (fun cs (c, j) => cs.setIfInBounds (off + j) c) a = (l.toList.zipIdx 0).foldl (fun cs (c, j) => cs.setIfInBounds (off + j) c) a := by
    rw [← Array.foldl_toList, Array.toList_zipIdx]
  rw [e]
  obtain ⟨f1, f2⟩ := fold_get l.toList 0 off a
  have hll : l.toList.length = xs.length := by simpa using hx.1
  refine ⟨by rw [f1, h.1, putAt_length], fun j x v e1 e2 => ?_⟩
  rw [putAt_get _ _ _ _ hl] at e1
  rw [f2 j (by rw [hll, h.1]; omega), hll] at e2
  by_cases hj : off ≤ j ∧ j < off + xs.length
  · rw [if_pos hj] at e1
    rw [if_pos (by omega)] at e2
    exact hx.2 (j - off) x v e1 (by simpa using e2)
  · rw [if_neg hj] at e1
    rw [if_neg (by omega)] at e2
    exact h.2 j x v e1 e2

theorem fill_sound (h : StR w g tmps st) (fs : Array Field) (places : Nat → Option (Nat × Nat)) (hp : ∀ i f n, fs[i]? = some f → szT P f.type = some n → places i = some (f.offset, n)) :
    ∀ (parts : List (Nat × Operand)) (parts' : List (Nat × Nat × AO)) (cs cs' : List AC) (arr : Array Value), partsOk P fs parts parts' = true → bldE st cs parts' = some cs' → Plain w g cs arr →
      ∃ arr', Instr.fill places arr (parts.map fun p => (p.1, Act.eval { tmps, defers := ds } p.2)) = some arr' ∧ Plain w g cs' arr'
  | [], [], cs, cs', arr, _, hb, hc => by simp [bldE] at hb; subst hb; exact ⟨arr, rfl, hc⟩
  | [], _ :: _, _, _, _, hk, _, _ => by simp [partsOk] at hk
  | _ :: _, [], _, _, _, hk, _, _ => by simp [partsOk] at hk
  | (i, a) :: r, (off, size, x) :: r', cs, cs', arr, hk, hb, hc => by
    simp only [partsOk, Bool.and_eq_true] at hk
    obtain ⟨⟨k1, k2⟩, k3⟩ := hk
    split at k1
    · rename_i f hf
      simp only [Bool.and_eq_true, beq_iff_eq] at k1
      obtain ⟨rfl, k1⟩ := k1
      simp only [bldE] at hb
      split at hb
      · rename_i l hl
        split at hb
        · rename_i hsz
          have hpl := stored_sound (ds := ds) h k2 hl
          have hcell : (Act.eval { tmps, defers := ds } a).cells.size = size := by rw [hpl.1]; exact hsz.1
          obtain ⟨arr', e1, e2⟩ := fill_sound h fs places hp r r' _ cs' _ k3 hb (hc.put hpl hsz.2)
          refine ⟨arr', ?_, e2⟩
          simp only [List.map_cons, Instr.fill, hp i f size hf k1]
          have hle : ¬ (f.offset + size > arr.size) := by rw [hc.1]; omega
          have hcond : (decide ((Act.eval { tmps, defers := ds } a).cells.size ≠ size) || decide (f.offset + (Act.eval { tmps, defers := ds } a).cells.size > arr.size)) = false := by
            rw [hcell]; simp; omega
          simp only [hcond, Bool.false_eq_true, if_false]
          exact e1
        · cases hb
      · cases hb
    · cases k1

theorem csts_sound (own : List Nat) : ∀ (vs : List Value) (xs : List TV), csts vs xs = true → vs.length = xs.length ∧ ∀ (j : Nat) (x : TV) (v : Value), xs[j]? = some x → vs[j]? = some v → TVR w g.Fz x v ∧ v.oneCell' = true
  | [], [], _ => ⟨rfl, fun j x v e => by simp at e⟩
  | [], _ :: _, h => by simp [csts] at h
  | _ :: _, [], h => by simp [csts] at h
  | v :: vs, x :: xs, h => by
    simp only [csts, Bool.and_eq_true] at h
    obtain ⟨i1, i2⟩ := csts_sound own vs xs h.2
    refine ⟨by simp [i1], fun j y u e1 e2 => ?_⟩
    cases j with
    | zero =>
      simp at e1 e2; subst e1 e2
      refine ⟨cst_sound h.1, ?_⟩
      have := h.1
      unfold cst at this
      split at this <;> first | rfl | cases this
    | succ j => exact i2 j y u (by simpa using e1) (by simpa using e2)

theorem zero_plain {T : TypeId} {zero : List TV} (h : zeroIs P T zero = true) : ∃ z, (∀ w : World, (zeroValue T).run P w = .ok z w) ∧ Plain w g (zero.map .t) z.cells := by
  unfold zeroIs at h
  cases hi : P.info? T with
  | none => rw [hi] at h; simp at h
  | some i =>
    rw [hi] at h
    simp only [Option.bind_some] at h
    cases hz : i.zero with
    | none => rw [hz] at h; cases h
    | some z =>
      rw [hz] at h
      simp only at h
      obtain ⟨c1, c2⟩ := csts_sound (w := w) (g := g) [] _ _ h
      refine ⟨z, fun w => by simp [zeroValue, typeInfo, hi, hz], by rw [List.length_map, ← c1]; simp, fun j x v e1 e2 => ?_⟩
      obtain ⟨y, y1, y2⟩ := map_get e1
      subst y2
      have := c2 j y v y1 (by simpa using e2)
      exact ⟨this.2, fun own => .t this.1⟩

theorem run_mapM_sizes (fs : List Field) (hs : ∀ f ∈ fs, (szT P f.type).isSome = true) (w : World) :
    (fs.mapM fun f => do pure (f.offset, ← sizeOf f.type) : Sem (List (Nat × Nat))).run P w = .ok (fs.map fun f => (f.offset, (szT P f.type).getD 0)) w := by
  induction fs with
  | nil => simp
  | cons f fs ih =>
    obtain ⟨n, hn⟩ := Option.isSome_iff_exists.1 (hs f (by simp))
    simp only [List.mapM_cons, Sem.run_bind, run_sz hn, Result.andThen_ok, Sem.run_pure, ih (fun f hf => hs f (by simp [hf]))]
    simp [hn]

theorem val_bld (h : StR w g tmps st) {o : Oper} {T : TypeId} {parts : Array (Nat × Operand)} {zero : List TV} {parts' : List (Nat × Nat × AO)} {e : EV} (ho : o.op = .build T parts) {fs : Array Field}
    (hu : P.underlying T = some (.struct fs)) (hz : zeroIs P T zero = true) (hs : fs.toList.all (fun f => (szT P f.type).isSome) = true) (hp : partsOk P fs parts.toList parts' = true)
    (hx : evX st (.bld zero parts') = some e) : Val P w g o { tmps, defers := ds } e := by
  simp only [evX] at hx
  cases hb : bldE st (zero.map .t) parts' with
  | none => rw [hb] at hx; cases hx
  | some cs =>
    rw [hb] at hx
    cases hx
    obtain ⟨z, hz1, hz2⟩ := zero_plain (w := w) (g := g) hz
    have hs' : ∀ f ∈ fs.toList, (szT P f.type).isSome = true := fun f hf => by simpa using List.all_eq_true.1 hs f hf
    have hm := run_mapM_sizes (P := P) fs.toList hs' w
    have hm' : (fs.mapM fun f => do pure (f.offset, ← sizeOf f.type) : Sem (Array (Nat × Nat))).run P w = .ok (fs.toList.map fun f => (f.offset, (szT P f.type).getD 0)).toArray w := by
      rw [Array.mapM_eq_mapM_toList]
      simp only [Sem.run_map, hm, Result.andThen_ok]
    obtain ⟨arr', f1, f2⟩ := fill_sound (P := P) (ds := ds) h fs (fun i => (fs.toList.map fun f => (f.offset, (szT P f.type).getD 0)).toArray[i]?) (by
      intro i f n hf hn
      have hf' : fs.toList[i]? = some f := by simpa using hf
      simp [hf, hn]) parts.toList parts' _ cs _ hp hb hz2
    refine ⟨.agg arr', ?_, fun own => .ag (f2.cells own)⟩
    have hpl : (parts.map fun p => (p.1, Act.eval { tmps, defers := ds } p.2)).toList = parts.toList.map fun p => (p.1, Act.eval { tmps, defers := ds } p.2) := by simp
    simp only [execOp, ho, Instr.build, Sem.run_bind, hz1, Result.andThen_ok, run_under hu, hm']
    rw [hpl]
    simp only [f1]
    rfl

theorem get_byte (ba : ByteArray) (n : Nat) : ba[n]? = ba.data.toList[n]? := by
  by_cases hn : n < ba.size
  · rw [ByteArray.getElem?_lt' ba n hn]
    have : n < ba.data.toList.length := hn
    rw [List.getElem?_eq_getElem this]
    rfl
  · rw [ByteArray.getElem?_ge' ba n hn]
    rw [List.getElem?_eq_none]
    exact Nat.le_of_not_lt hn

theorem val_six (h : StR w g tmps st) {o : Oper} {T : Nat} {a i : Operand} {x j : AO} {e : EV} (ho : o.op = .index T a i) (hc : opd a x = true) (hci : opd i j = true)
    (hu : P.underlying T = some .string) (hx : evX st (.six x j) = some e) : Val P w g o { tmps, defers := ds } e := by
  simp only [evX] at hx
  split at hx
  · rename_i s n hr hn
    obtain ⟨k, hk⟩ := evI_sound (ds := ds) h hci hn
    obtain ⟨ba, e2, va⟩ := evr_s (opd_sound (ds := ds) h hc hr [])
    subst e2
    split at hx
    · rename_i h0
      cases hb : ba.data.toList[n.toNat]? with
      | none => rw [hb] at hx; cases hx
      | some b =>
        rw [hb] at hx
        cases hx
        refine ⟨_, ?_, fun own => .c (.t (.i _ _))⟩
        have : ba[n.toNat]? = some b := by rw [get_byte]; exact hb
        simp [execOp, ho, hk, va, Instr.index, asIntOf, run_under hu, h0, this]
    · cases hx
  · cases hx

theorem evIo_sound (h : StR w g tmps st) {a : Option Operand} {x : Option AO} {d : Nat} {n : Int} (hc : opdo a x = true) (hx : evIo st d x = some n) (y : Nat) (code : BoundsCode) (h0 : 0 ≤ n) (h1 : n ≤ y) :
    (match a.map (Act.eval { tmps, defers := ds }) with | some v => Instr.sliceBound v y code | none => pure d).run P w = .ok n.toNat w := by
  cases a with
  | none =>
    cases x with
    | none => simp only [evIo] at hx; cases hx; simp
    | some x => cases hc
  | some a =>
    cases x with
    | none => cases hc
    | some x =>
      obtain ⟨k, hk⟩ := evI_sound (ds := ds) h hc hx
      simp [hk, Instr.sliceBound, asIntOf, h0, h1]

theorem run_bounds (h : StR w g tmps st) {lo hi : Option Operand} {lo' hi' : Option AO} {l hh : Int} (isSlice : Bool) {len cap : Nat} (hl : opdo lo lo' = true) (hhi : opdo hi hi' = true)
    (el : evIo st 0 lo' = some l) (eh : evIo st len hi' = some hh) (h0 : 0 ≤ l) (h1 : l ≤ hh) (h2 : hh ≤ cap) :
    (Instr.sliceBounds isSlice len cap (lo.map (Act.eval { tmps, defers := ds })) (hi.map (Act.eval { tmps, defers := ds })) none).run P w = .ok (l.toNat, hh.toNat, cap) w := by
  have hb := evIo_sound (P := P) (ds := ds) h hhi eh cap (if isSlice then .sliceAcap else .sliceAlen) (by omega) h2
  have lb := evIo_sound (P := P) (ds := ds) h hl el hh.toNat .sliceB h0 (by omega)
  unfold Instr.sliceBounds
  simp only [Sem.run_bind, Sem.run_pure, Result.andThen_ok, Option.isSome_none, Bool.false_eq_true, if_false]
  cases hi with
  | none =>
    simp only [Option.map_none, Sem.run_pure] at hb ⊢
    have hlen : len = hh.toNat := by simpa using hb
    rw [hlen]
    cases lo with
    | none =>
      simp only [Option.map_none, Sem.run_pure] at lb ⊢
      have : 0 = l.toNat := by simpa using lb
      simp [← this]
    | some a =>
      simp only [Option.map_some] at lb ⊢
      simp only [Sem.run_bind, Sem.run_pure, Result.andThen_ok, lb]
  | some b =>
    simp only [Option.map_some] at hb ⊢
    simp only [Sem.run_bind, hb, Result.andThen_ok]
    cases lo with
    | none =>
      simp only [Option.map_none, Sem.run_pure] at lb ⊢
      have : 0 = l.toNat := by simpa using lb
      simp [← this]
    | some a =>
      simp only [Option.map_some] at lb ⊢
      simp only [Sem.run_bind, Sem.run_pure, Result.andThen_ok, lb]

theorem extract_data (ba : ByteArray) (l h : Nat) : (ba.extract l h).data.toList = (ba.data.toList.drop l).take (h - l) := by
  simp [ByteArray.data_extract, Array.toList_extract, List.extract]

theorem run_sliceAt_slice {T : TypeId} {el : TypeId} (hu : P.underlying T = some (.slice el)) (v : Value) (lo hi mx : Option Value) : (Instr.sliceAt T v lo hi mx).run P w = (Instr.slice T v lo hi mx).run P w := by
  simp [Instr.sliceAt, run_under hu]
theorem run_sliceAt_string {T : TypeId} (hu : P.underlying T = some .string) (v : Value) (lo hi mx : Option Value) : (Instr.sliceAt T v lo hi mx).run P w = (Instr.slice T v lo hi mx).run P w := by
  simp [Instr.sliceAt, run_under hu]

theorem val_ssl (h : StR w g tmps st) {o : Oper} {T : Nat} {a : Operand} {lo hi : Option Operand} {x : AO} {lo' hi' : Option AO} {str : Bool} {wd : Nat} {e : EV} (ho : o.op = .slice T a lo hi none)
    (hc : opd a x = true) (hl : opdo lo lo' = true) (hhi : opdo hi hi' = true) (hu : (if str then (match P.underlying T with | some .string => true | _ => false) else sliceEl P T wd) = true)
    (hx : evX st (.ssl str x lo' hi' wd) = some e) : Val P w g o { tmps, defers := ds } e := by
  simp only [evX] at hx
  split at hx
  · rename_i s hr
    simp only [if_true] at hu
    split at hu
    · rename_i hT
      obtain ⟨ba, e2, va⟩ := evr_s (opd_sound (ds := ds) h hc hr [])
      subst e2
      split at hx
      · rename_i l hh el eh
        split at hx
        · rename_i hb
          obtain ⟨b0, b1, b2⟩ := hb
          cases hx
          have hsz : ba.data.toList.length = ba.size := rfl
          rw [hsz] at eh b2
          refine ⟨.string (ba.extract l.toNat hh.toNat), ?_, fun own => ?_⟩
          · simp only [execOp, ho, va, Sem.run_bind, run_sliceAt_string hT, Option.map_none, Instr.slice, run_under hT, Result.andThen_ok, Option.isSome_none, Bool.false_eq_true, if_false,
              run_bounds (P := P) (ds := ds) h false (cap := ba.size) hl hhi el eh b0 b1 b2, Sem.run_pure]
          · rw [← extract_data]; exact .c (.t (.s _))
        · cases hx
      · cases hx
    · cases hu
  · rename_i rows hr
    simp only [Bool.false_eq_true, if_false] at hu
    unfold sliceEl at hu
    split at hu
    · rename_i elT hT
      simp only [beq_iff_eq] at hu
      have va := acr_t (evr_c (opd_sound (ds := ds) h hc hr []))
      generalize hev : Act.eval { tmps, defers := ds } a = v at va
      split at hx
      · rename_i l hh el eh
        split at hx
        · rename_i hb
          obtain ⟨b0, b1, b2, b3⟩ := hb
          cases hx
          cases va with
          | ts0 =>
            simp at b2
            have hh0 : hh = 0 := by omega
            have l0 : l = 0 := by omega
            subst hh0 l0
            refine ⟨.slice none 0 0, ?_, fun own => .c (.t (by simpa using TVR.ts0))⟩
            simp only [execOp, ho, hev, Sem.run_bind, run_sliceAt_slice hT, Option.map_none, Instr.slice, run_under hT, Result.andThen_ok,
              run_bounds (P := P) (ds := ds) h true (len := 0) (cap := 0) hl hhi el eh b0 b1 (by omega), Sem.run_pure, run_sz hu]
            simp
          | tse a0 cap =>
            simp at b2
            have hh0 : hh = 0 := by omega
            have l0 : l = 0 := by omega
            subst hh0 l0
            refine ⟨.slice (some a0) 0 cap, ?_, fun own => .c (.t (by simpa using TVR.tse a0 cap))⟩
            simp only [execOp, ho, hev, Sem.run_bind, run_sliceAt_slice hT, Option.map_none, Instr.slice, run_under hT, Result.andThen_ok,
              run_bounds (P := P) (ds := ds) h true (len := 0) (cap := cap) hl hhi el eh b0 b1 (by omega), Sem.run_pure, run_sz hu]
            by_cases hm : cap = 0
            · simp [hm]
            · simp [hm, Addr.add]
          | ts rows wd' c oo cap u hw hcap hcc hrr h1 =>
            have hb2 : hh ≤ cap := by omega
            by_cases hne : l.toNat < hh.toNat
            · have hlt : l.toNat < rows.length := by omega
              have erow : rows[l.toNat]? = some rows[l.toNat] := by simp [hlt]
              have hwd : wd' = wd := by
                rw [← hw _ _ erow]
                have := List.all_eq_true.1 b3 rows[l.toNat] (List.getElem_mem hlt)
                simpa using this
              subst hwd
              have hlen : ((rows.drop l.toNat).take (hh.toNat - l.toNat)).length = hh.toNat - l.toNat := by simp; omega
              refine ⟨.slice (some ⟨c, oo + l.toNat * wd', none⟩) ((rows.drop l.toNat).take (hh.toNat - l.toNat)).length (cap - l.toNat), ?_, fun own => ?_⟩
              · simp only [execOp, ho, hev, Sem.run_bind, run_sliceAt_slice hT, Option.map_none, Instr.slice, run_under hT, Result.andThen_ok,
                  run_bounds (P := P) (ds := ds) h true (len := rows.length) (cap := cap) hl hhi el eh b0 b1 hb2, Sem.run_pure, run_sz hu, hlen]
                rw [if_neg (by omega)]
                simp [addr_add]
              · refine .c (.t (.ts _ wd' c _ _ (fun i j => u (l.toNat + i) j) (fun i row e1 => hw _ _ (drop_take_get e1).1) (by rw [hlen]; omega) (fun i j row y e1 e2 => ?_)
                  (fun i j row y e1 e2 => hrr _ _ _ _ (drop_take_get e1).1 e2) (fun i j row y e1 e2 => h1 _ _ _ _ (drop_take_get e1).1 e2)))
                have := hcc _ _ _ _ (drop_take_get e1).1 e2
                rw [show oo + l.toNat * wd' + i * wd' + j = oo + (l.toNat + i) * wd' + j by rw [Nat.add_mul]; omega]
                exact this
            · have hz : hh.toNat - l.toNat = 0 := by omega
              rw [hz]
              simp only [List.take_zero]
              by_cases hm : cap = l.toNat
              · refine ⟨.slice (some ⟨c, oo, none⟩) 0 0, ?_, fun own => .c (.t (.ts [] 0 c oo 0 u (fun i row e => by simp at e) (Nat.le_refl _) (fun i j row x e => by simp at e) (fun i j row x e => by simp at e) (fun i j row x e => by simp at e)))⟩
                simp only [execOp, ho, hev, Sem.run_bind, run_sliceAt_slice hT, Option.map_none, Instr.slice, run_under hT, Result.andThen_ok,
                  run_bounds (P := P) (ds := ds) h true (len := rows.length) (cap := cap) hl hhi el eh b0 b1 hb2, Sem.run_pure, run_sz hu, hz]
                rw [if_pos hm]
                simp [hm]
              · refine ⟨.slice (some ⟨c, oo + l.toNat * wd, none⟩) 0 (cap - l.toNat), ?_, fun own => .c (.t (.ts [] 0 c _ _ u (fun i row e => by simp at e) (Nat.zero_le _) (fun i j row x e => by simp at e) (fun i j row x e => by simp at e) (fun i j row x e => by simp at e)))⟩
                simp only [execOp, ho, hev, Sem.run_bind, run_sliceAt_slice hT, Option.map_none, Instr.slice, run_under hT, Result.andThen_ok,
                  run_bounds (P := P) (ds := ds) h true (len := rows.length) (cap := cap) hl hhi el eh b0 b1 hb2, Sem.run_pure, run_sz hu, hz]
                rw [if_neg hm]
                simp [addr_add]
        · cases hx
      · cases hx
    · cases hu
  · rename_i blk wd' r len hr
    simp only [Bool.false_eq_true, if_false] at hu
    unfold sliceEl at hu
    split at hu
    · rename_i elT hT
      simp only [beq_iff_eq] at hu
      have va := evr_c (opd_sound (ds := ds) h hc hr [])
      generalize hev : Act.eval { tmps, defers := ds } a = v at va
      split at hx
      · rename_i l hh el eh
        split at hx
        · rename_i hb
          obtain ⟨b0, b1, b2, rfl⟩ := hb
          cases hx
          cases va with
          | sl blk wd r len cap off hcap hbn hoff =>
            by_cases hm : cap = l.toNat
            · refine ⟨.slice (some ⟨g.be blk, off, none⟩) (hh.toNat - l.toNat) (cap - l.toNat), ?_, fun own => .c (.sl blk wd (r + l.toNat) _ _ _ (by omega) hbn (fun h => by omega))⟩
              simp only [execOp, ho, hev, Sem.run_bind, run_sliceAt_slice hT, Option.map_none, Instr.slice, run_under hT, Result.andThen_ok,
                run_bounds (P := P) (ds := ds) h true (len := len) (cap := cap) hl hhi el eh b0 b1 (by omega), Sem.run_pure, run_sz hu]
              rw [if_pos hm]
            · refine ⟨.slice (some ⟨g.be blk, off + l.toNat * wd, none⟩) (hh.toNat - l.toNat) (cap - l.toNat), ?_, fun own => .c (.sl blk wd (r + l.toNat) _ _ _ (by omega) hbn (fun h => ?_))⟩
              · simp only [execOp, ho, hev, Sem.run_bind, run_sliceAt_slice hT, Option.map_none, Instr.slice, run_under hT, Result.andThen_ok,
                  run_bounds (P := P) (ds := ds) h true (len := len) (cap := cap) hl hhi el eh b0 b1 (by omega), Sem.run_pure, run_sz hu]
                rw [if_neg hm]
                simp [addr_add]
              · rw [hoff (by omega), Nat.add_mul]
        · cases hx
      · cases hx
    · cases hu
  · cases hx

end
end Go.Abs
