/-
  The rest of the expressions: parts of structs and arrays, literals, strings, slices, functions, interfaces. Program-independent.
-/
import Derived.Test.YtagogibgoknncaaGreatDoorBD
set_option linter.unusedSectionVars false
set_option linter.unusedVariables false
set_option linter.unusedSimpArgs false
namespace Go.B
variable [iok : OkC]
theorem al2 (xs : List V) : ∀ (cs : List V) (off : Nat), (putAt cs off xs).length = cs.length := by
 induction xs with
 | nil => intro cs off; rfl
 | cons x xs ih => intro cs off; simp [putAt, ih]
theorem ba1 (xs : List V) : ∀ (cs : List V) (off j : Nat), off + xs.length ≤ cs.length → (putAt cs off xs)[j]? = if off ≤ j ∧ j < off + xs.length then xs[j - off]? else cs[j]? := by
 induction xs with
 | nil => intro cs off j _; simp only [putAt, List.length_nil]; rw [if_neg (by omega)]
 | cons x xs ih =>
   intro cs off j hl
   simp only [List.length_cons] at hl
   rw [putAt, ih _ _ _ (by simp; omega)]
   by_cases h1 : off + 1 ≤ j ∧ j < off + 1 + xs.length
   ·rw [if_pos h1, if_pos (by simp; omega)]
    rw [show j - off = (j - (off + 1)) + 1 by omega, List.getElem?_cons_succ]
   ·rw [if_neg h1]
    by_cases h2 : j = off
    ·subst h2
     rw [if_pos (by simp), List.getElem?_set_self (by omega)]
     simp
    ·rw [if_neg (by simp; omega), List.getElem?_set_ne (by omega)]
theorem fold_get (l : List Value) : ∀ (k off : Nat) (cs : Array Value), ((l.zipIdx k).foldl (fun cs (c, j) => cs.setIfInBounds (off + j) c) cs).size = cs.size ∧
  ∀ j, off + k + l.length ≤ cs.size → ((l.zipIdx k).foldl (fun cs (c, j) => cs.setIfInBounds (off + j) c) cs)[j]? = if off + k ≤ j ∧ j < off + k + l.length then l[j - (off + k)]? else cs[j]? := by
 induction l with
 | nil => intro k off cs; refine ⟨rfl, fun j _ => ?_⟩; simp only [List.zipIdx_nil, List.foldl_nil, List.length_nil]; rw [if_neg (by omega)]
 | cons v l ih =>
   intro k off cs
   obtain ⟨i1, i2⟩ := ih (k + 1) off (cs.setIfInBounds (off + k) v)
   simp only [List.zipIdx_cons, List.foldl_cons]
   refine ⟨by rw [i1]; simp, fun j hl => ?_⟩
   simp only [List.length_cons] at hl
   rw [i2 j (by simp; omega)]
   by_cases h1 : off + (k + 1) ≤ j ∧ j < off + (k + 1) + l.length
   ·rw [if_pos h1, if_pos (by simp; omega)]
    rw [show j - (off + k) = (j - (off + (k + 1))) + 1 by omega, List.getElem?_cons_succ]
   ·rw [if_neg h1]
    by_cases h2 : j = off + k
    ·subst h2
     rw [if_pos (by simp)]
     simp [Array.getElem?_setIfInBounds]
     omega
    ·rw [if_neg (by simp; omega), Array.getElem?_setIfInBounds, if_neg (by omega)]
section
variable {P : Program} {w : World} {g : G} {H : Hp} {nx : Nat} {tmps : Array Value} {sl : Nat → V} {ds : List Deferred}
def Plain (g : G) (cs : List V) (a : Array Value) : Prop :=
 a.size = cs.length ∧ ∀ (j : Nat) (x : V) (v : Value), cs[j]? = some x → a[j]? = some v → v.oneCell' = true ∧ VR g x v
theorem Plain.ag {cs : List V} {a : Array Value} (h : Plain g cs a) : VR g (.ag cs) (.agg a) :=
 .ag cs a h.1 (fun j v e => by
  have hj : j < cs.length := by rw [← h.1]; exact (Array.getElem?_eq_some_iff.1 e).1
  exact (h.2 j cs[j] v (List.getElem?_eq_getElem hj) e).1) (fun j x v e1 e2 => (h.2 j x v e1 e2).2)
theorem val_fld (h : SlR g tmps sl) {o : Oper} {T f : Nat} {a : Operand} {x : AO} {off n : Nat} {agg : Bool} {e : V} (ho : o.op = .field T a f) (hc : opd a x = true) (hf : fieldIs P T f off n agg = true)
  (hx : evX sl H (.fld x off n agg) = some e) : Val P w g o { tmps, defers := ds } e := by
 unfold fieldIs at hf
 split at hf
 ·rename_i fs hu
  split at hf
  ·rename_i fd hfd
   simp only [Bool.and_eq_true, beq_iff_eq] at hf
   obtain ⟨rfl, hs⟩ := hf
   obtain ⟨s1, s2, s3⟩ := shp_sz hs
   simp only [evX] at hx
   split at hx
   ·rename_i cs hr
    split at hx
    ·rename_i hle
     obtain ⟨arr, hv, hz, hone, hcr⟩ := vr_ag (hr ▸ e9 (ds := ds) h hc)
     have hl : ((arr.toList.drop fd.offset).take n).length = n := by simp [hz]; omega
     refine ⟨_, ?_, ofCells (g := g) hx (vs := (arr.toList.drop fd.offset).take n) ?_ (fun ha => by rw [hl]; exact s3 ha) ?_⟩
     ·simp only [execOp, ho, hv, Instr.field, Sem.run_bind, f0 hu, Result.andThen_ok, hfd, asAgg, part, at6 s2, Sem.run_pure, Sem.run_ite]
      cases agg with
      | true =>
        simp only [if_true, Sem.run_bind, t7 s1, Result.andThen_ok, Sem.run_pure]
        congr 3
        apply Array.ext'
        simp [Array.toList_extract]
      | false =>
        have := s3 rfl; subst this
        simp only [Bool.false_eq_true, if_false]
        have hlt : fd.offset < arr.size := by omega
        have e1 : arr[fd.offset]? = some arr[fd.offset] := by simp [hlt]
        rw [e1]
        simp only [Sem.run_pure, Result.andThen_ok]
        congr 2
        simp [List.getD, List.getElem?_take, List.getElem?_drop, hlt]
     ·rw [hl]; simp; omega
     ·intro j y v k1 k2
      obtain ⟨q1, q2⟩ := p9 k1
      obtain ⟨u1, u2⟩ := p9 k2
      exact ⟨hone _ v (by simpa using u1), hcr _ y v q1 (by simpa using u1)⟩
    ·cases hx
   ·cases hx
  ·cases hf
 ·cases hf
theorem one_cell {x : V} {v : Value} (h1 : x.one = true) (h : VR g x v) : v.oneCell' = true := by
 cases h <;> first | rfl | (simp [V.one] at h1)
theorem ab5 {x : V} {v : Value} (hv : VR g x v) {l : List V} (hr : stored x = some l) : Plain g l v.cells := by
 have base : x.one = true → l = [x] → Plain g l v.cells := by
  rintro h1 rfl
  have h1' := one_cell h1 hv
  have hcells : v.cells = #[v] := by cases v <;> first | rfl | cases h1'
  rw [hcells]
  refine ⟨rfl, fun j y u e1 e2 => ?_⟩
  cases j with
  | zero => simp at e1 e2; subst e1 e2; exact ⟨h1', hv⟩
  | succ j => simp at e1
 cases x <;> simp only [stored, reduceCtorEq, Option.some.injEq] at hr <;> first | exact base rfl hr.symm | skip
 subst hr
 obtain ⟨arr, rfl, hz, hone, hcr⟩ := vr_ag hv
 exact ⟨hz, fun j x v e1 e2 => ⟨hone j v e2, hcr j x v e1 e2⟩⟩
theorem Plain.put {cs xs : List V} {a : Array Value} {l : Array Value} {off : Nat} (h : Plain g cs a) (hx : Plain g xs l) (hl : off + xs.length ≤ cs.length) :
  Plain g (putAt cs off xs) (l.zipIdx.foldl (fun cs (c, j) => cs.setIfInBounds (off + j) c) a) := by
 have e : l.zipIdx.foldl (fun cs (c, j) => cs.setIfInBounds (off + j) c) a = (l.toList.zipIdx 0).foldl (fun cs (c, j) => cs.setIfInBounds (off + j) c) a := by
  rw [← Array.foldl_toList, Array.toList_zipIdx]
 rw [e]
 obtain ⟨f1, f2⟩ := fold_get l.toList 0 off a
 have hll : l.toList.length = xs.length := by simpa using hx.1
 refine ⟨by rw [f1, h.1, al2], fun j x v e1 e2 => ?_⟩
 rw [ba1 _ _ _ _ hl] at e1
 rw [f2 j (by rw [hll, h.1]; omega), hll] at e2
 by_cases hj : off ≤ j ∧ j < off + xs.length
 ·rw [if_pos hj] at e1
  rw [if_pos (by omega)] at e2
  exact hx.2 (j - off) x v e1 (by simpa using e2)
 ·rw [if_neg hj] at e1
  rw [if_neg (by omega)] at e2
  exact h.2 j x v e1 e2
theorem bh1 (h : SlR g tmps sl) (fs : Array Field) (places : Nat → Option (Nat × Nat)) (hp : ∀ i f n, fs[i]? = some f → szT P f.type = some n → places i = some (f.offset, n)) :
  ∀ (parts : List (Nat × Operand)) (parts' : List (Nat × Nat × AO)) (cs cs' : List V) (arr : Array Value), ap0 P fs parts parts' = true → bldE sl cs parts' = some cs' → Plain g cs arr →
   ∃ arr', Instr.fill places arr (parts.map fun p => (p.1, Act.eval { tmps, defers := ds } p.2)) = some arr' ∧ Plain g cs' arr'
 | [], [], cs, cs', arr, _, hb, hc => by simp [bldE] at hb; subst hb; exact ⟨arr, rfl, hc⟩
 | [], _ :: _, _, _, _, hk, _, _ => by simp [ap0] at hk
 | _ :: _, [], _, _, _, hk, _, _ => by simp [ap0] at hk
 | (i, a) :: r, (off, size, x) :: r', cs, cs', arr, hk, hb, hc => by
   simp only [ap0, Bool.and_eq_true] at hk
   obtain ⟨⟨k1, k2⟩, k3⟩ := hk
   split at k1
   ·rename_i f hf
    simp only [Bool.and_eq_true, beq_iff_eq] at k1
    obtain ⟨rfl, k1⟩ := k1
    simp only [bldE] at hb
    split at hb
    ·rename_i l hl
     split at hb
     ·rename_i hsz
      have hpl := ab5 (e9 (ds := ds) h k2) hl
      have hcell : (Act.eval { tmps, defers := ds } a).cells.size = size := by rw [hpl.1]; exact hsz.1
      obtain ⟨arr', e1, e2⟩ := bh1 h fs places hp r r' _ cs' _ k3 hb (hc.put hpl (by rw [hsz.1]; exact hsz.2))
      refine ⟨arr', ?_, e2⟩
      simp only [List.map_cons, Instr.fill, hp i f size hf k1]
      have hle : ¬ (f.offset + size > arr.size) := by rw [hc.1]; omega
      have hcond : (decide ((Act.eval { tmps, defers := ds } a).cells.size ≠ size) || decide (f.offset + (Act.eval { tmps, defers := ds } a).cells.size > arr.size)) = false := by
       rw [hcell]; simp; omega
      simp only [hcond, Bool.false_eq_true, if_false]
      exact e1
     ·cases hb
    ·cases hb
   ·cases k1
theorem bc0 (h : SlR g tmps sl) (n : Nat) :
  ∀ (parts : List (Nat × Operand)) (parts' : List (Nat × Nat × AO)) (cs cs' : List V) (arr : Array Value), ap1 n parts parts' = true → bldE sl cs parts' = some cs' → Plain g cs arr →
   ∃ arr', Instr.fill (fun i => some (i * n, n)) arr (parts.map fun p => (p.1, Act.eval { tmps, defers := ds } p.2)) = some arr' ∧ Plain g cs' arr'
 | [], [], cs, cs', arr, _, hb, hc => by simp [bldE] at hb; subst hb; exact ⟨arr, rfl, hc⟩
 | [], _ :: _, _, _, _, hk, _, _ => by simp [ap1] at hk
 | _ :: _, [], _, _, _, hk, _, _ => by simp [ap1] at hk
 | (i, a) :: r, (off, size, x) :: r', cs, cs', arr, hk, hb, hc => by
   simp only [ap1, Bool.and_eq_true, beq_iff_eq] at hk
   obtain ⟨⟨⟨rfl, rfl⟩, k2⟩, k3⟩ := hk
   simp only [bldE] at hb
   split at hb
   ·rename_i l hl
    split at hb
    ·rename_i hsz
     have hpl := ab5 (e9 (ds := ds) h k2) hl
     have hcell : (Act.eval { tmps, defers := ds } a).cells.size = size := by rw [hpl.1]; exact hsz.1
     obtain ⟨arr', e1, e2⟩ := bc0 h size r r' _ cs' _ k3 hb (hc.put hpl (by rw [hsz.1]; exact hsz.2))
     refine ⟨arr', ?_, e2⟩
     simp only [List.map_cons, Instr.fill]
     have hle : ¬ (i * size + size > arr.size) := by rw [hc.1]; omega
     have hcond : (decide ((Act.eval { tmps, defers := ds } a).cells.size ≠ size) || decide (i * size + (Act.eval { tmps, defers := ds } a).cells.size > arr.size)) = false := by
      rw [hcell]; simp; omega
     simp only [hcond, Bool.false_eq_true, if_false]
     exact e1
    ·cases hb
   ·cases hb
theorem bh5 : ∀ (vs : List Value) (xs : List V), csts vs xs = true → vs.length = xs.length ∧ ∀ (j : Nat) (x : V) (v : Value), xs[j]? = some x → vs[j]? = some v → VR g x v ∧ v.oneCell' = true
 | [], [], _ => ⟨rfl, fun j x v e => by simp at e⟩
 | [], _ :: _, h => by simp [csts] at h
 | _ :: _, [], h => by simp [csts] at h
 | v :: vs, x :: xs, h => by
   simp only [csts, Bool.and_eq_true] at h
   obtain ⟨i1, i2⟩ := bh5 vs xs h.2
   refine ⟨by simp [i1], fun j y u e1 e2 => ?_⟩
   cases j with
   | zero =>
     simp at e1 e2; subst e1 e2
     refine ⟨cst_sound h.1, ?_⟩
     have := h.1
     unfold cst at this
     split at this <;> first | rfl | cases this
   | succ j => exact i2 j y u (by simpa using e1) (by simpa using e2)
theorem aa3 {T : TypeId} {zero : List V} (h : ad9 P T zero = true) : ∃ z, (∀ w : World, (zeroValue T).run P w = .ok z w) ∧ Plain g zero z.cells := by
 unfold ad9 at h
 cases hi : P.info? T with
 | none => rw [hi] at h; simp at h
 | some i =>
   rw [hi] at h
   simp only [Option.bind_some] at h
   cases hz : i.zero with
   | none => rw [hz] at h; cases h
   | some z =>
     rw [hz] at h
     simp only at h
     obtain ⟨c1, c2⟩ := bh5 (g := g) _ _ h
     refine ⟨z, fun w => by simp [zeroValue, typeInfo, hi, hz], by rw [← c1]; simp, fun j x v e1 e2 => ?_⟩
     have := c2 j x v e1 (by simpa using e2)
     exact ⟨this.2, this.1⟩
theorem be6 (fs : List Field) (hs : ∀ f ∈ fs, (szT P f.type).isSome = true) (w : World) :
  (fs.mapM fun f => do pure (f.offset, ← sizeOf f.type) : Sem (List (Nat × Nat))).run P w = .ok (fs.map fun f => (f.offset, (szT P f.type).getD 0)) w := by
 induction fs with
 | nil => simp
 | cons f fs ih =>
   obtain ⟨n, hn⟩ := Option.isSome_iff_exists.1 (hs f (by simp))
   simp only [List.mapM_cons, Sem.run_bind, t7 hn, Result.andThen_ok, Sem.run_pure, ih (fun f hf => hs f (by simp [hf]))]
   simp [hn]
theorem val_bld (h : SlR g tmps sl) {o : Oper} {T : TypeId} {parts : Array (Nat × Operand)} {zero : List V} {parts' : List (Nat × Nat × AO)} {e : V} (ho : o.op = .build T parts) {fs : Array Field}
  (hu : P.underlying T = some (.struct fs)) (hz : ad9 P T zero = true) (hs : fs.toList.all (fun f => (szT P f.type).isSome) = true) (hp : ap0 P fs parts.toList parts' = true)
  (hx : evX sl H (.bld zero parts') = some e) : Val P w g o { tmps, defers := ds } e := by
 simp only [evX] at hx
 cases hb : bldE sl zero parts' with
 | none => rw [hb] at hx; cases hx
 | some cs =>
   rw [hb] at hx
   cases hx
   obtain ⟨z, hz1, hz2⟩ := aa3 (g := g) hz
   have hs' : ∀ f ∈ fs.toList, (szT P f.type).isSome = true := fun f hf => by simpa using List.all_eq_true.1 hs f hf
   have hm := be6 (P := P) fs.toList hs' w
   have hm' : (fs.mapM fun f => do pure (f.offset, ← sizeOf f.type) : Sem (Array (Nat × Nat))).run P w = .ok (fs.toList.map fun f => (f.offset, (szT P f.type).getD 0)).toArray w := by
    rw [Array.mapM_eq_mapM_toList]
    simp only [Sem.run_map, hm, Result.andThen_ok]
   obtain ⟨arr', f1, f2⟩ := bh1 (P := P) (ds := ds) h fs (fun i => (fs.toList.map fun f => (f.offset, (szT P f.type).getD 0)).toArray[i]?) (by
    intro i f n hf hn
    have hf' : fs.toList[i]? = some f := by simpa using hf
    simp [hf, hn]) parts.toList parts' _ cs _ hp hb hz2
   refine ⟨.agg arr', ?_, f2.ag⟩
   have hpl : (parts.map fun p => (p.1, Act.eval { tmps, defers := ds } p.2)).toList = parts.toList.map fun p => (p.1, Act.eval { tmps, defers := ds } p.2) := by simp
   simp only [execOp, ho, Instr.build, Sem.run_bind, hz1, Result.andThen_ok, f0 hu, hm']
   rw [hpl]
   simp only [f1]
   rfl
theorem val_blda (h : SlR g tmps sl) {o : Oper} {T : TypeId} {parts : Array (Nat × Operand)} {zero : List V} {parts' : List (Nat × Nat × AO)} {e : V} (ho : o.op = .build T parts) {len el n : Nat}
  (hu : P.underlying T = some (.array len el)) (hs : szT P el = some n) (hz : ad9 P T zero = true) (hp : ap1 n parts.toList parts' = true)
  (hx : evX sl H (.bld zero parts') = some e) : Val P w g o { tmps, defers := ds } e := by
 simp only [evX] at hx
 cases hb : bldE sl zero parts' with
 | none => rw [hb] at hx; cases hx
 | some cs =>
   rw [hb] at hx
   cases hx
   obtain ⟨z, hz1, hz2⟩ := aa3 (g := g) hz
   obtain ⟨arr', f1, f2⟩ := bc0 (ds := ds) h n parts.toList parts' _ cs _ hp hb hz2
   refine ⟨.agg arr', ?_, f2.ag⟩
   have hpl : (parts.map fun p => (p.1, Act.eval { tmps, defers := ds } p.2)).toList = parts.toList.map fun p => (p.1, Act.eval { tmps, defers := ds } p.2) := by simp
   simp only [execOp, ho, Instr.build, Sem.run_bind, hz1, Result.andThen_ok, f0 hu, t7 hs]
   rw [hpl]
   simp only [f1]
   rfl
theorem val_aix (h : SlR g tmps sl) {o : Oper} {T : TypeId} {a i : Operand} {x j : AO} {len el n : Nat} {agg : Bool} {e : V} (ho : o.op = .index T a i) (hc : opd a x = true) (hci : opd i j = true)
  (hu : P.underlying T = some (.array len el)) (hs : shp P el n agg = true) (hx : evX sl H (.aix x j len n agg) = some e) : Val P w g o { tmps, defers := ds } e := by
 obtain ⟨s1, s2, s3⟩ := shp_sz hs
 simp only [evX] at hx
 split at hx
 ·rename_i cs kd k hr hn
  have hk := ay5 (hn ▸ e9 (ds := ds) h hci)
  split at hx
  ·rename_i hle
   obtain ⟨h0, h1, h2⟩ := hle
   obtain ⟨arr, hv, hz, hone, hcr⟩ := vr_ag (hr ▸ e9 (ds := ds) h hc)
   have hl : ((arr.toList.drop (k.toNat * n)).take n).length = n := by simp [hz]; omega
   refine ⟨_, ?_, ofCells (g := g) hx (vs := (arr.toList.drop (k.toNat * n)).take n) ?_ (fun ha => by rw [hl]; exact s3 ha) ?_⟩
   ·simp only [execOp, ho, hv, hk, Instr.index, asIntOf, Sem.run_bind, f0 hu, Result.andThen_ok, part, at6 s2, t7 s1, Sem.run_pure, Sem.run_ite]
    rw [if_pos ⟨h0, h1⟩]
    cases agg with
    | true =>
      simp only [if_true, Sem.run_bind, t7 s1, Result.andThen_ok, Sem.run_pure]
      congr 3
      apply Array.ext'
      simp [Array.toList_extract]
    | false =>
      have := s3 rfl; subst this
      simp only [Bool.false_eq_true, if_false]
      have hlt : k.toNat * 1 < arr.size := by omega
      have e1 : arr[k.toNat * 1]? = some arr[k.toNat * 1] := by simp [hlt]
      rw [e1]
      simp only [Sem.run_pure, Result.andThen_ok]
      congr 2
      simp [List.getD, List.getElem?_take, List.getElem?_drop, hlt]
      rw [Array.getElem?_eq_getElem (by omega)]; rfl
   ·rw [hl]; simp; omega
   ·intro j y v k1 k2
    obtain ⟨q1, q2⟩ := p9 k1
    obtain ⟨u1, u2⟩ := p9 k2
    exact ⟨hone _ v (by simpa using u1), hcr _ y v q1 (by simpa using u1)⟩
  ·cases hx
 ·cases hx
theorem get_byte (ba : ByteArray) (n : Nat) : ba[n]? = ba.data.toList[n]? := by
 by_cases hn : n < ba.size
 ·rw [ByteArray.getElem?_lt' ba n hn]
  have : n < ba.data.toList.length := hn
  rw [List.getElem?_eq_getElem this]
  rfl
 ·rw [ByteArray.getElem?_ge' ba n hn]
  rw [List.getElem?_eq_none]
  exact Nat.le_of_not_lt hn
theorem val_six (h : SlR g tmps sl) {o : Oper} {T : Nat} {a i : Operand} {x j : AO} {e : V} (ho : o.op = .index T a i) (hc : opd a x = true) (hci : opd i j = true)
  (hu : P.underlying T = some .string) (hx : evX sl H (.six x j) = some e) : Val P w g o { tmps, defers := ds } e := by
 simp only [evX] at hx
 split at hx
 ·rename_i l s k n hr hn
  have hk := ay5 (hn ▸ e9 (ds := ds) h hci)
  obtain ⟨ba, e1, e2, va⟩ := vr_s (hr ▸ e9 (ds := ds) h hc)
  subst e1 e2
  split at hx
  ·rename_i h0
   obtain ⟨h0, h1⟩ := h0
   have hlt : n.toNat < ba.data.toList.length := by omega
   have hb : ba.data.toList[n.toNat]? = some ba.data.toList[n.toNat] := List.getElem?_eq_getElem hlt
   cases hx
   rw [← enc_at _ _ _ hb]
   refine ⟨_, ?_, .i _ _⟩
   have : ba[n.toNat]? = some ba.data.toList[n.toNat] := by rw [get_byte]; exact hb
   simp [execOp, ho, hk, va, Instr.index, asIntOf, f0 hu, h0, this]
  ·cases hx
 ·cases hx
theorem ai5 (h : SlR g tmps sl) {a : Option Operand} {x : Option AO} {d : Nat} {n : Int} (hc : opdo a x = true) (hx : evIo sl d x = some n) (y : Nat) (code : BoundsCode) (h0 : 0 ≤ n) (h1 : n ≤ y) :
  (match a.map (Act.eval { tmps, defers := ds }) with | some v => Instr.sliceBound v y code | none => pure d).run P w = .ok n.toNat w := by
 cases a with
 | none =>
   cases x with
   | none => simp only [evIo] at hx; cases hx; simp
   | some x => cases hc
 | some a =>
   cases x with
   | none => cases hc
   | some x =>
     simp only [evIo] at hx
     have hv := e9 (ds := ds) h (show opd a x = true from hc)
     generalize evO sl x = y at hx hv
     cases y <;> simp only [vI, reduceCtorEq, Option.some.injEq] at hx
     subst hx
     simp [ay5 hv, Instr.sliceBound, asIntOf, h0, h1]
theorem u7 (h : SlR g tmps sl) {lo hi : Option Operand} {lo' hi' : Option AO} {l hh : Int} (isSlice : Bool) {len cap : Nat} (hl : opdo lo lo' = true) (hhi : opdo hi hi' = true)
  (el : evIo sl 0 lo' = some l) (eh : evIo sl len hi' = some hh) (h0 : 0 ≤ l) (h1 : l ≤ hh) (h2 : hh ≤ cap) :
  (Instr.sliceBounds isSlice len cap (lo.map (Act.eval { tmps, defers := ds })) (hi.map (Act.eval { tmps, defers := ds })) none).run P w = .ok (l.toNat, hh.toNat, cap) w := by
 have hb := ai5 (P := P) (w := w) (ds := ds) h hhi eh cap (if isSlice then .sliceAcap else .sliceAlen) (by omega) h2
 have lb := ai5 (P := P) (w := w) (ds := ds) h hl el hh.toNat .sliceB h0 (by omega)
 unfold Instr.sliceBounds
 simp only [Sem.run_bind, Sem.run_pure, Result.andThen_ok, Option.isSome_none, Bool.false_eq_true, if_false]
 cases hi with
 | none =>
   simp only [Option.map_none, Sem.run_pure] at hb ⊢
   have hlen : len = hh.toNat := by simpa using hb
   rw [hlen]
   cases lo with
   | none =>
     simp only [Option.map_none, Sem.run_pure] at lb ⊢
     have : 0 = l.toNat := by simpa using lb
     simp [← this]
   | some a =>
     simp only [Option.map_some] at lb ⊢
     simp only [Sem.run_bind, Sem.run_pure, Result.andThen_ok, lb]
 | some b =>
   simp only [Option.map_some] at hb ⊢
   simp only [Sem.run_bind, hb, Result.andThen_ok]
   cases lo with
   | none =>
     simp only [Option.map_none, Sem.run_pure] at lb ⊢
     have : 0 = l.toNat := by simpa using lb
     simp [← this]
   | some a =>
     simp only [Option.map_some] at lb ⊢
     simp only [Sem.run_bind, Sem.run_pure, Result.andThen_ok, lb]
theorem extract_data (ba : ByteArray) (l h : Nat) : (ba.extract l h).data.toList = (ba.data.toList.drop l).take (h - l) := by
 simp [ByteArray.data_extract, Array.toList_extract, List.extract]
theorem j8 {T : TypeId} {el : TypeId} (hu : P.underlying T = some (.slice el)) (v : Value) (lo hi mx : Option Value) : (Instr.sliceAt T v lo hi mx).run P w = (Instr.slice T v lo hi mx).run P w := by
 simp [Instr.sliceAt, f0 hu]
theorem aq7 {T : TypeId} (hu : P.underlying T = some .string) (v : Value) (lo hi mx : Option Value) : (Instr.sliceAt T v lo hi mx).run P w = (Instr.slice T v lo hi mx).run P w := by
 simp [Instr.sliceAt, f0 hu]
theorem val_str (h : SlR g tmps sl) {o : Oper} {T : Nat} {a : Operand} {lo hi : Option Operand} {x : AO} {lo' hi' : Option AO} {e : V} (ho : o.op = .slice T a lo hi none)
  (hc : opd a x = true) (hl : opdo lo lo' = true) (hhi : opdo hi hi' = true) (hT : P.underlying T = some .string) (hx : evX sl H (.str x lo' hi') = some e) : Val P w g o { tmps, defers := ds } e := by
 simp only [evX] at hx
 split at hx
 ·rename_i len n hr
  obtain ⟨ba, e1, e2, va⟩ := vr_s (hr ▸ e9 (ds := ds) h hc)
  subst e1 e2
  split at hx
  ·rename_i l hh el eh
   split at hx
   ·rename_i hb
    obtain ⟨b0, b1, b2⟩ := hb
    cases hx
    refine ⟨.string (ba.extract l.toNat hh.toNat), ?_, ?_⟩
    ·have hsz : ba.data.toList.length = ba.size := rfl
     rw [hsz] at eh b2
     simp only [execOp, ho, va, Sem.run_bind, aq7 hT, Option.map_none, Instr.slice, f0 hT, Result.andThen_ok, Option.isSome_none, Bool.false_eq_true, if_false,
      u7 (P := P) (ds := ds) h false (cap := ba.size) hl hhi el eh b0 b1 b2, Sem.run_pure]
    ·have := VR.s (g := g) (ba.extract l.toNat hh.toNat)
     rw [extract_data] at this
     have hlen : ((ba.data.toList.drop l.toNat).take (hh.toNat - l.toNat)).length = hh.toNat - l.toNat := by simp only [List.length_take, List.length_drop]; omega
     rw [hlen, enc_cut _ _ _ (by omega) (by omega)] at this
     exact this
   ·cases hx
  ·cases hx
 ·cases hx
theorem run_bounds3 (h : SlR g tmps sl) {lo hi : Option Operand} {lo' hi' : Option AO} {mo : Operand} {mo' : AO} {l hh m : Int} {len cap : Nat} (hl : opdo lo lo' = true) (hhi : opdo hi hi' = true) (hm : opd mo mo' = true) (his : hi.isSome = true)
  (el : evIo sl 0 lo' = some l) (eh : evIo sl len hi' = some hh) (em : vI (evO sl mo') = some m) (h0 : 0 ≤ l) (h1 : l ≤ hh) (h2 : hh ≤ m) (h3 : m ≤ cap) :
  (Instr.sliceBounds true len cap (lo.map (Act.eval { tmps, defers := ds })) (hi.map (Act.eval { tmps, defers := ds })) (some (Act.eval { tmps, defers := ds } mo))).run P w = .ok (l.toNat, hh.toNat, m.toNat) w := by
 have mb := ai5 (P := P) (w := w) (ds := ds) (a := some mo) (x := some mo') (d := 0) h hm em cap .slice3Acap (by omega) h3
 have hb := ai5 (P := P) (w := w) (ds := ds) h hhi eh m.toNat .slice3B (by omega) (by omega)
 have lb := ai5 (P := P) (w := w) (ds := ds) h hl el hh.toNat .slice3C h0 (by omega)
 unfold Instr.sliceBounds
 cases hi with
 | none => cases his
 | some b =>
   simp only [Option.map_some] at hb mb ⊢
   simp only [Sem.run_bind, Sem.run_pure, Result.andThen_ok, Option.isSome_some, if_true, mb, hb]
   cases lo with
   | none =>
     simp only [Option.map_none, Sem.run_pure] at lb ⊢
     have : 0 = l.toNat := by simpa using lb
     simp [← this]
   | some a =>
     simp only [Option.map_some] at lb ⊢
     simp only [Sem.run_bind, Sem.run_pure, Result.andThen_ok, lb]
theorem val_ssx (hh : HR w g H nx) (h : SlR g tmps sl) {o : Oper} {T : Nat} {a : Operand} {lo hi : Option Operand} {x lo' hi' : AO} {wd : Nat} {e : V} (ho : o.op = .slice T a lo hi none)
  (hc : opd a x = true) (hl : opdo lo (some lo') = true) (hhi : opdo hi (some hi') = true) (hu : aj1 P T wd = true)
  (hx : evX sl H (.ssx x lo' hi' wd) = some e) : Val P w g o { tmps, defers := ds } e := by
 unfold aj1 at hu
 split at hu
 ·rename_i elT hT
  simp only [beq_iff_eq] at hu
  simp only [evX] at hx
  have va := e9 (ds := ds) h hc
  generalize hev : Act.eval { tmps, defers := ds } a = v at va
  unfold ssxV at hx
  split at hx
  ·rename_i b off wd' len l q hr el eh
   rw [hr] at va
   split at hx
   ·rename_i gr cs hb
    split at hx
    ·rename_i hcnd
     obtain ⟨b0, b1, rfl, b3, b4⟩ := hcnd
     cases hx
     have hob := hh.ob b
     rw [hb] at hob
     obtain ⟨arr, T', k1, k2, k3, _, _⟩ := hob
     cases va with
     | sl b off wd len cp cap oo hd hle hoo hcp =>
       simp only at hcp
       have hq : q.toNat ≤ cap := by
        have h1 : q.toNat * wd ≤ cap * wd := by omega
        exact Nat.le_of_mul_le_mul_right h1 (Nat.pos_of_ne_zero b3)
       have hcp' : off + l.toNat * wd + (cap - l.toNat) * wd = (g.cz b).1 := by
        rw [← hcp, Nat.add_assoc, ← Nat.add_mul, Nat.add_sub_cancel' (by omega)]
       have el' : evIo sl 0 (some lo') = some l := el
       have eh' : evIo sl len (some hi') = some q := eh
       by_cases hm : cap = l.toNat
       ·refine ⟨.slice (some ⟨g.be b, oo, none⟩) (q.toNat - l.toNat) (cap - l.toNat), ?_, .sl b _ wd _ none _ oo hd (by omega) (fun h => absurd (by omega) h) hcp'⟩
        simp only [execOp, ho, hev, Sem.run_bind, j8 hT, Option.map_none, Instr.slice, f0 hT, Result.andThen_ok,
         u7 (P := P) (ds := ds) h true (len := len) (cap := cap) hl hhi el' eh' b0 b1 (by omega), Sem.run_pure, t7 hu]
        rw [if_pos hm]
       ·have e1 := hoo (by omega)
        refine ⟨.slice (some ⟨g.be b, oo + l.toNat * wd, none⟩) (q.toNat - l.toNat) (cap - l.toNat), ?_, .sl b _ wd _ none _ _ hd (by omega) (fun _ => by omega) hcp'⟩
        simp only [execOp, ho, hev, Sem.run_bind, j8 hT, Option.map_none, Instr.slice, f0 hT, Result.andThen_ok,
         u7 (P := P) (ds := ds) h true (len := len) (cap := cap) hl hhi el' eh' b0 b1 (by omega), Sem.run_pure, t7 hu]
        rw [if_neg hm]
        simp [aa4]
    ·cases hx
   ·cases hx
  ·cases hx
 ·cases hu
theorem val_ssl (h : SlR g tmps sl) {o : Oper} {T : Nat} {a : Operand} {lo hi mx : Option Operand} {x : AO} {lo' hi' mx' : Option AO} {wd : Nat} {e : V} (ho : o.op = .slice T a lo hi mx)
  (hc : opd a x = true) (hl : opdo lo lo' = true) (hhi : opdo hi hi' = true) (hmx : opdo mx mx' = true) (hu : aj1 P T wd = true) (his : (mx.isNone || hi.isSome) = true)
  (hx : evX sl H (.ssl x lo' hi' mx' wd) = some e) : Val P w g o { tmps, defers := ds } e := by
 unfold aj1 at hu
 split at hu
 ·rename_i elT hT
  simp only [beq_iff_eq] at hu
  simp only [evX] at hx
  have va := e9 (ds := ds) h hc
  generalize hev : Act.eval { tmps, defers := ds } a = v at va
  split at hx
  ·rename_i hr
   rw [hr] at va
   cases va
   split at hx
   ·rename_i l hh el eh
    have hmn : mx = none := by cases mx with | none => rfl | some _ => cases hmx
    subst hmn
    split at hx
    ·rename_i hb
     obtain ⟨rfl, rfl⟩ := hb
     cases hx
     refine ⟨.slice none 0 0, ?_, .ns⟩
     simp only [execOp, ho, hev, Sem.run_bind, j8 hT, Option.map_none, Instr.slice, f0 hT, Result.andThen_ok,
      u7 (P := P) (ds := ds) h true (len := 0) (cap := 0) hl hhi el eh (by omega) (by omega) (by omega), Sem.run_pure, t7 hu]
     simp
    ·cases hx
   ·cases hx
  ·rename_i rows hr
   rw [hr] at va
   split at hx
   ·rename_i l hh el eh
    have hmn : mx = none := by cases mx with | none => rfl | some _ => cases hmx
    subst hmn
    split at hx
    ·rename_i hb
     obtain ⟨b0, b1, b2, b3⟩ := hb
     cases hx
     cases va with
     | ts0 =>
       simp at b2
       have hh0 : hh = 0 := by omega
       have l0 : l = 0 := by omega
       subst hh0 l0
       refine ⟨.slice none 0 0, ?_, by simpa using VR.ts0⟩
       simp only [execOp, ho, hev, Sem.run_bind, j8 hT, Option.map_none, Instr.slice, f0 hT, Result.andThen_ok,
        u7 (P := P) (ds := ds) h true (len := 0) (cap := 0) hl hhi el eh b0 b1 (by omega), Sem.run_pure, t7 hu]
       simp
     | tse a0 cap =>
       simp at b2
       have hh0 : hh = 0 := by omega
       have l0 : l = 0 := by omega
       subst hh0 l0
       refine ⟨.slice (some a0) 0 cap, ?_, by simpa using VR.tse a0 cap⟩
       simp only [execOp, ho, hev, Sem.run_bind, j8 hT, Option.map_none, Instr.slice, f0 hT, Result.andThen_ok,
        u7 (P := P) (ds := ds) h true (len := 0) (cap := cap) hl hhi el eh b0 b1 (by omega), Sem.run_pure, t7 hu]
       by_cases hm : cap = 0
       ·simp [hm]
       ·simp [hm, Addr.add]
     | ts rows wd' c oo cap u hw hcap hcc hrr =>
       have hb2 : hh ≤ cap := by omega
       by_cases hne : l.toNat < hh.toNat
       ·have hlt : l.toNat < rows.length := by omega
        have ag2 : rows[l.toNat]? = some rows[l.toNat] := by simp [hlt]
        have hwd : wd' = wd := by
         rw [← hw _ _ ag2]
         have := List.all_eq_true.1 b3 rows[l.toNat] (List.getElem_mem hlt)
         simpa using this
        subst hwd
        have hlen : ((rows.drop l.toNat).take (hh.toNat - l.toNat)).length = hh.toNat - l.toNat := by simp; omega
        refine ⟨.slice (some ⟨c, oo + l.toNat * wd', none⟩) ((rows.drop l.toNat).take (hh.toNat - l.toNat)).length (cap - l.toNat), ?_, ?_⟩
        ·simp only [execOp, ho, hev, Sem.run_bind, j8 hT, Option.map_none, Instr.slice, f0 hT, Result.andThen_ok,
          u7 (P := P) (ds := ds) h true (len := rows.length) (cap := cap) hl hhi el eh b0 b1 hb2, Sem.run_pure, t7 hu, hlen]
         rw [if_neg (by omega)]
         simp [aa4]
        ·refine .ts _ wd' c _ _ (fun i j => u (l.toNat + i) j) (fun i row e1 => hw _ _ (p9 e1).1) (by rw [hlen]; omega) (fun i j row y e1 e2 => ?_)
          (fun i j row y e1 e2 => hrr _ _ _ _ (p9 e1).1 e2)
         have := hcc _ _ _ _ (p9 e1).1 e2
         rw [show oo + l.toNat * wd' + i * wd' + j = oo + (l.toNat + i) * wd' + j by rw [Nat.add_mul]; omega]
         exact this
       ·have hz : hh.toNat - l.toNat = 0 := by omega
        rw [hz]
        simp only [List.take_zero]
        by_cases hm : cap = l.toNat
        ·refine ⟨.slice (some ⟨c, oo, none⟩) 0 0, ?_, .tse _ _⟩
         simp only [execOp, ho, hev, Sem.run_bind, j8 hT, Option.map_none, Instr.slice, f0 hT, Result.andThen_ok,
          u7 (P := P) (ds := ds) h true (len := rows.length) (cap := cap) hl hhi el eh b0 b1 hb2, Sem.run_pure, t7 hu, hz]
         rw [if_pos hm]
         simp [hm]
        ·refine ⟨.slice (some ⟨c, oo + l.toNat * wd, none⟩) 0 (cap - l.toNat), ?_, .tse _ _⟩
         simp only [execOp, ho, hev, Sem.run_bind, j8 hT, Option.map_none, Instr.slice, f0 hT, Result.andThen_ok,
          u7 (P := P) (ds := ds) h true (len := rows.length) (cap := cap) hl hhi el eh b0 b1 hb2, Sem.run_pure, t7 hu, hz]
         rw [if_neg hm]
         simp [aa4]
    ·cases hx
   ·cases hx
  ·rename_i b off wd' len cp hr
   rw [hr] at va
   split at hx
   ·rename_i l hh el eh
    have hmn : mx = none := by cases mx with | none => rfl | some _ => cases hmx
    subst hmn
    split at hx
    ·rename_i hb
     obtain ⟨b0, b1, b2, rfl⟩ := hb
     cases hx
     cases va with
     | sl b off wd len cp cap oo hd hle hoo hcp =>
       have hcp' : match (cp.map fun c => c - l.toNat : Option Nat) with | some c => cap - l.toNat = c | none => off + l.toNat * wd + (cap - l.toNat) * wd = (g.cz b).1 := by
        cases cp with
        | some c => simp only at hcp; subst hcp; rfl
        | none =>
          simp only at hcp
          show off + l.toNat * wd + (cap - l.toNat) * wd = (g.cz b).1
          rw [← hcp, Nat.add_assoc, ← Nat.add_mul, Nat.add_sub_cancel' (by omega)]
       by_cases hm : cap = l.toNat
       ·refine ⟨.slice (some ⟨g.be b, oo, none⟩) (hh.toNat - l.toNat) (cap - l.toNat), ?_, .sl b _ wd _ _ _ oo hd (by omega) (fun h => absurd (by omega) h) hcp'⟩
        simp only [execOp, ho, hev, Sem.run_bind, j8 hT, Option.map_none, Instr.slice, f0 hT, Result.andThen_ok,
         u7 (P := P) (ds := ds) h true (len := len) (cap := cap) hl hhi el eh b0 b1 (by omega), Sem.run_pure, t7 hu]
        rw [if_pos hm]
       ·have e1 := hoo (by omega)
        refine ⟨.slice (some ⟨g.be b, oo + l.toNat * wd, none⟩) (hh.toNat - l.toNat) (cap - l.toNat), ?_, .sl b _ wd _ _ _ _ hd (by omega) (fun _ => by omega) hcp'⟩
        simp only [execOp, ho, hev, Sem.run_bind, j8 hT, Option.map_none, Instr.slice, f0 hT, Result.andThen_ok,
         u7 (P := P) (ds := ds) h true (len := len) (cap := cap) hl hhi el eh b0 b1 (by omega), Sem.run_pure, t7 hu]
        rw [if_neg hm]
        simp [aa4]
    ·cases hx
   ·rename_i l hh mo' el eh
    obtain ⟨mo, rfl, hmo⟩ : ∃ mo, mx = some mo ∧ opd mo mo' = true := by cases mx with | none => cases hmx | some mo => exact ⟨mo, rfl, hmx⟩
    have his' : hi.isSome = true := by simpa using his
    split at hx
    ·rename_i m em
     split at hx
     ·rename_i hb
      obtain ⟨b0, b1, b2, b3, rfl⟩ := hb
      cases hx
      cases va with
      | sl b off wd len cp cap oo hd hle hoo hcp =>
        have q := run_bounds3 (P := P) (w := w) (ds := ds) h (len := len) (cap := cap) hl hhi hmo his' el eh em b0 b1 b2 (by omega)
        by_cases hm : m.toNat = l.toNat
        ·refine ⟨.slice (some ⟨g.be b, oo, none⟩) (hh.toNat - l.toNat) (m.toNat - l.toNat), ?_, .sl b _ wd _ _ _ oo hd (by omega) (fun h => absurd (by omega) h) rfl⟩
         simp only [execOp, ho, hev, Sem.run_bind, j8 hT, Option.map_some, Instr.slice, f0 hT, Result.andThen_ok, q, Sem.run_pure, t7 hu]
         rw [if_pos hm]
        ·by_cases hc0 : cap = 0
         ·omega
         have e1 := hoo hc0
         refine ⟨.slice (some ⟨g.be b, oo + l.toNat * wd, none⟩) (hh.toNat - l.toNat) (m.toNat - l.toNat), ?_, .sl b _ wd _ _ _ _ hd (by omega) (fun _ => by omega) rfl⟩
         simp only [execOp, ho, hev, Sem.run_bind, j8 hT, Option.map_some, Instr.slice, f0 hT, Result.andThen_ok, q, Sem.run_pure, t7 hu]
         rw [if_neg hm]
         simp [aa4]
     ·cases hx
    ·cases hx
   ·cases hx
  ·cases hx
 ·cases hu
theorem aj3 : ∀ {as : List Operand} {xs : List AO}, ba5 as xs = true → as.length = xs.length
 | [], [], _ => rfl
 | [], _ :: _, h => by simp [ba5] at h
 | _ :: _, [], h => by simp [ba5] at h
 | a :: as, x :: xs, h => by simp only [ba5, Bool.and_eq_true] at h; simp [aj3 h.2]
theorem au6 (h : SlR g tmps sl) : ∀ {as : List Operand} {xs : List AO}, ba5 as xs = true → ∀ (j : Nat) (y : V) (a : Operand), (ae5 sl xs)[j]? = some y → as[j]? = some a → VR g y (Act.eval { tmps, defers := ds } a)
 | [], [], _, j, y, a, e1, _ => by simp [ae5] at e1
 | [], _ :: _, h, _, _, _, _, _ => by simp [ba5] at h
 | _ :: _, [], h, _, _, _, _, _ => by simp [ba5] at h
 | a :: as, x :: xs, hc, j, y, b, e1, e2 => by
   simp only [ba5, Bool.and_eq_true] at hc
   cases j with
   | zero => simp [ae5] at e1 e2; subst e1 e2; exact e9 h hc.1
   | succ j => exact au6 h hc.2 j y b (by simpa [ae5] using e1) (by simpa using e2)
theorem as4 (h : SlR g tmps sl) {as : Array Operand} {xs : List AO} (hc : ba5 as.toList xs = true) : VRs g (ae5 sl xs) (as.map (Act.eval { tmps, defers := ds })) := by
 refine ⟨by have := aj3 hc; simp [ae5] at this ⊢; exact this, fun j x v e1 e2 => ?_⟩
 rw [Array.getElem?_map] at e2
 cases ha : as[j]? with
 | none => rw [ha] at e2; cases e2
 | some a => rw [ha] at e2; cases e2; exact au6 h hc j x a e1 (by simpa using ha)
theorem val_mkf (h : SlR g tmps sl) {o : Oper} {f : FuncId} {first caps : Array Operand} {xs ys : List AO} (ho : o.op = .makeFunc (.func f) first caps)
  (hc : ba5 first.toList xs = true) (hd : ba5 caps.toList ys = true) : Val P w g o { tmps, defers := ds } (.fn f (ae5 sl xs) (ae5 sl ys)) := by
 refine ⟨.func (.func f) (first.map (Act.eval { tmps, defers := ds })) (caps.map (Act.eval { tmps, defers := ds })), by simp [execOp, ho, Instr.makeFunc], ?_⟩
 have a := as4 (ds := ds) h hc
 have b := as4 (ds := ds) h hd
 exact .fn f _ _ _ _ a.1 b.1 a.2 b.2
theorem noIf_run {T : TypeId} (hT : noIf P T = true) : ∃ d, P.underlying T = some d ∧ ∀ l, d ≠ .interface l := by
 unfold noIf at hT
 split at hT <;> first | (cases hT; done) | skip
 rename_i h1 h2
 cases hu : P.underlying T with
 | none => exact (h2 hu).elim
 | some d => exact ⟨d, rfl, fun l e => h1 l (by rw [hu, e])⟩
theorem val_mki (h : SlR g tmps sl) {o : Oper} {T : TypeId} {a : Operand} {x : AO} (ho : o.op = .makeInterface T a) (hc : opd a x = true) (hT : noIf P T = true) : Val P w g o { tmps, defers := ds } (.ifc T (evO sl x)) := by
 obtain ⟨d, hu, hd⟩ := noIf_run hT
 refine ⟨.iface T (Act.eval { tmps, defers := ds } a), ?_, .ifc _ _ _ (e9 h hc)⟩
 simp only [execOp, ho, Instr.makeInterface, Sem.run_bind, f0 hu, Result.andThen_ok]
 cases d <;> first | rfl | exact (hd _ rfl).elim
theorem val_nck (h : SlR g tmps sl) {o : Oper} {a : Operand} {x : AO} {e : V} (ho : o.op = .nilCheck a) (hc : opd a x = true) (hx : evX sl H (.nck x) = some e) : Val P w g o { tmps, defers := ds } e := by
 simp only [evX] at hx
 split at hx
 ·rename_i hok
  cases hx
  refine ⟨Act.eval { tmps, defers := ds } a, ?_, e9 (ds := ds) h hc⟩
  have hv := e9 (ds := ds) h hc
  simp only [execOp, ho]
  generalize Act.eval { tmps, defers := ds } a = va at hv ⊢
  generalize evO sl x = y at hv hok
  cases hv <;> first | (cases hok; done) | rfl
 ·cases hx
theorem val_tas (h : SlR g tmps sl) {o : Oper} {S T : TypeId} {a : Operand} {x : AO} {e : V} (ho : o.op = .typeAssert a S T false) (hc : opd a x = true) (hT : noIf P T = true) (hx : evX sl H (.tas T x) = some e) :
  Val P w g o { tmps, defers := ds } e := by
 obtain ⟨d, hu, hd⟩ := noIf_run hT
 simp only [evX] at hx
 split at hx
 ·rename_i t' y hr
  split at hx
  ·rename_i ht
   subst ht
   cases hx
   have hv := hr ▸ e9 (ds := ds) h hc
   generalize hev : Act.eval { tmps, defers := ds } a = va at hv
   cases hv with
   | ifc _ _ v hr2 =>
     refine ⟨v, ?_, hr2⟩
     simp only [execOp, ho, hev, Instr.typeAssert, Sem.run_bind, f0 hu, Result.andThen_ok]
     cases d <;> first | (simp; done) | exact (hd _ rfl).elim
  ·cases hx
 ·cases hx
theorem val_ext (h : SlR g tmps sl) {o : Oper} {i : Nat} {a : Operand} {x : AO} {e : V} (ho : o.op = .extract a i) (hc : opd a x = true) (hx : evX sl H (.ext x i) = some e) : Val P w g o { tmps, defers := ds } e := by
 simp only [evX] at hx
 split at hx
 ·rename_i vs hr
  have hv := hr ▸ e9 (ds := ds) h hc
  generalize hev : Act.eval { tmps, defers := ds } a = va at hv
  cases hv with
  | tu vs a hs hvr =>
    have hlt : i < a.size := by rw [hs]; exact ai4 hx
    have e1 : a[i]? = some a[i] := by simp [hlt]
    exact ⟨a[i], by simp [execOp, ho, hev, Instr.extract, e1, hlt], hvr i e _ hx e1⟩
 ·cases hx
theorem sq1_sound (d : Nat) {t k : Nat} (hk : aa2 P t k = true) {x y : V} {v u : Value} {r : Bool} (hx : VR g x v) (hy : VR g y u) (hr : sq1 k x y = some r) : (Op.equalIn (d + 1) t v u).run P w = .ok r w := by
 rcases basic_of hk with ⟨rfl, hu⟩ | ⟨rfl, i, hu⟩ | ⟨rfl, hu⟩
 ·unfold sq1 at hr
  split at hr <;> first | (cases hr; done) | skip
  ·cases hr
   rw [vr_b hx, vr_b hy]; exact Go.run_equalIn_bool' w d t _ _ hu
  all_goals (rename_i h0; cases h0)
 ·unfold sq1 at hr
  split at hr <;> first | (cases hr; done) | skip
  all_goals first | (rename_i h0; cases h0; done) | skip
  split at hr
  ·rename_i hkk; subst hkk; cases hr
   rw [ay5 hx, ay5 hy]; exact Go.run_equalIn_int w d t _ _ _ _ hu
  ·cases hr
 ·unfold sq1 at hr
  split at hr <;> first | (cases hr; done) | skip
  all_goals first | (rename_i h0; cases h0; done) | skip
  cases hr
  obtain ⟨a, ea, eb, va⟩ := vr_s hx
  obtain ⟨b, ec, ed, vb⟩ := vr_s hy
  subst ea eb ec ed
  rw [va, vb, Go.run_equalIn_string w d t _ _ hu, str_eq]
theorem bd6 {t k : Nat} (hk : aa2 P t k = true) : aggT P t = some false := by
 rcases basic_of hk with ⟨_, hu⟩ | ⟨_, i, hu⟩ | ⟨_, hu⟩ <;> simp [aggT, hu]
theorem ay7 (d : Nat) (xs ys : Array Value) (as bs : List V) (hxs : ∀ (j : Nat) (x : V) (v : Value), as[j]? = some x → xs[j]? = some v → VR g x v) (hys : ∀ (j : Nat) (x : V) (v : Value), bs[j]? = some x → ys[j]? = some v → VR g x v)
  (hlx : xs.size = as.length) (hly : ys.size = bs.length) :
  ∀ (fs : List Field) (i : Nat) (kinds : List Nat) (r : Bool), aa0 P fs i kinds = true → sqs kinds (as.drop i) (bs.drop i) = some r → (Op.eqFields (d + 1) xs ys fs).run P w = .ok r w
 | [], i, [], r, _, hr => by
   unfold sqs at hr
   split at hr <;> first | (cases hr; done) | skip
   ·cases hr; rfl
   ·rename_i h0 _ _; cases h0
 | [], _, _ :: _, _, hf, _ => by simp [aa0] at hf
 | _ :: _, _, [], _, hf, _ => by simp [aa0] at hf
 | f :: fs, i, k :: ks, r, hf, hr => by
   simp only [aa0, Bool.and_eq_true, beq_iff_eq, bne_iff_ne] at hf
   obtain ⟨⟨⟨f1, f2⟩, f3⟩, f4⟩ := hf
   obtain ⟨x, as', h1⟩ : ∃ x as', as.drop i = x :: as' := by
    cases h1 : as.drop i with
    | nil => rw [h1] at hr; simp [sqs] at hr
    | cons x as' => exact ⟨x, as', rfl⟩
   obtain ⟨y, bs', h2⟩ : ∃ y bs', bs.drop i = y :: bs' := by
    cases h2 : bs.drop i with
    | nil => rw [h2] at hr; simp [sqs] at hr
    | cons y bs' => exact ⟨y, bs', rfl⟩
   rw [h1, h2] at hr
   simp only [sqs] at hr
   have ex : as[i]? = some x := by have := congrArg (·[0]?) h1; simpa using this
   have ey : bs[i]? = some y := by have := congrArg (·[0]?) h2; simpa using this
   have hix : i < xs.size := by
    rw [hlx]; rcases Nat.lt_or_ge i as.length with h | h
    ·exact h
    ·rw [List.getElem?_eq_none h] at ex; cases ex
   have hiy : i < ys.size := by
    rw [hly]; rcases Nat.lt_or_ge i bs.length with h | h
    ·exact h
    ·rw [List.getElem?_eq_none h] at ey; cases ey
   have vx : xs[i]? = some xs[i] := by simp [hix]
   have vy : ys[i]? = some ys[i] := by simp [hiy]
   have px : ∀ w, (part f.type xs f.offset).run P w = .ok xs[i] w := fun w => by simp [part, at6 (bd6 f3), f1, vx]
   have py : ∀ w, (part f.type ys f.offset).run P w = .ok ys[i] w := fun w => by simp [part, at6 (bd6 f3), f1, vy]
   have hd1 : as.drop (i + 1) = as' := by have := congrArg List.tail h1; simpa using this
   have hd2 : bs.drop (i + 1) = bs' := by have := congrArg List.tail h2; simpa using this
   simp only [Op.eqFields, f2, ne_eq, not_false_eq_true, if_true, Sem.run_bind, px, py, Result.andThen_ok]
   split at hr
   ·rename_i hq
    rw [sq1_sound d f3 (hxs i x _ ex vx) (hys i y _ ey vy) hq]
    simp only [Result.andThen_ok, Bool.not_true, Bool.false_eq_true, if_false]
    exact ay7 d xs ys as bs hxs hys hlx hly fs (i + 1) ks r f4 (by rw [hd1, hd2]; exact hr)
   ·rename_i hq
    cases hr
    rw [sq1_sound d f3 (hxs i x _ ex vx) (hys i y _ ey vy) hq]
    simp
   ·cases hr
theorem val_seq (h : SlR g tmps sl) {o : Oper} {T yT : TypeId} {op : BinOp} {kinds : List Nat} {ng : Bool} {a b : Operand} {x y : AO} {e : V} (ho : o.op = .binOp op T a b yT) (hop : op = if ng then .neq else .eql)
  (hs : structEq P T kinds = true) (h1 : opd a x = true) (h2 : opd b y = true) (hx : evX sl H (.seq kinds ng x y) = some e) : Val P w g o { tmps, defers := ds } e := by
 unfold structEq at hs
 split at hs
 ·rename_i fs hu
  simp only [Bool.and_eq_true, Bool.not_eq_true'] at hs
  obtain ⟨⟨s1, s2⟩, s3⟩ := hs
  have hfo : P.fieldsOf T = fs := by simp [Program.fieldsOf, hu]
  simp only [evX] at hx
  split at hx
  ·rename_i as bs e1 e2
   have va := e1 ▸ e9 (ds := ds) h h1
   have vb := e2 ▸ e9 (ds := ds) h h2
   generalize hea : Act.eval { tmps, defers := ds } a = v at va
   generalize heb : Act.eval { tmps, defers := ds } b = u at vb
   cases hr : sqs kinds as bs with
   | none => rw [hr] at hx; cases hx
   | some r =>
     rw [hr] at hx
     cases hx
     cases va with
     | ag as xa hsa h1a hra =>
       cases vb with
       | ag bs xb hsb h1b hrb =>
         have q : (Op.equalIn 10000 T (.agg xa) (.agg xb)).run P w = .ok r w := by
          have := Go.run_equalIn_struct (P := P) w 9999 T xa xb (by rw [hfo]; exact hu) s2
          rw [hfo] at this
          exact this.trans (ay7 (w := w) (g := g) 9998 xa xb as bs hra hrb hsa hsb fs.toList 0 kinds r s1 (by simpa using hr))
         have eg := Go.run_eqGuard_agg (P := P) w op T a b xa xb s3
         refine ⟨_, ?_, .b _⟩
         cases ng <;> simp only [if_true, Bool.false_eq_true, if_false] at hop ⊢ <;> subst hop
         ·simp only [execOp, ho, hea, heb, Sem.run_bind, eg, Result.andThen_ok, Go.run_eql_struct, q, Sem.run_pure]
         ·simp only [execOp, ho, hea, heb, Sem.run_bind, eg, Result.andThen_ok, Go.run_neq_struct, q, Sem.run_pure]
  ·cases hx
 ·cases hs
end
end Go.B
