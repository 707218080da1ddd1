/-
  Stores into a frame's own boxes, literals of slices, moves of owned slices. Program-independent.
-/
import Derived.Test.YtpfocppjojgooaaAbsI
set_option linter.unusedSimpArgs false
set_option linter.unusedVariables false
namespace Go.Abs

section
variable {P : Program} {w w' : World} {g g' : Gh} {tmps tmps' : Array Value} {st st' : St} {G G' : Env} {ds : List Deferred}

theorem splice_get (arr : Array Value) (vs : List Value) (col j : Nat) (hl : col + vs.length ≤ arr.size) :
    (arr.toList.take col ++ vs ++ arr.toList.drop (col + vs.length)).toArray[j]? = if col ≤ j ∧ j < col + vs.length then vs[j - col]? else arr[j]? := by
  simp only [List.getElem?_toArray]
  have hlen : (arr.toList.take col).length = col := by simp; omega
  by_cases h1 : j < col
  · rw [if_neg (by omega), List.append_assoc, List.getElem?_append_left (by omega), List.getElem?_take, if_pos h1]; simp
  · by_cases h2 : j < col + vs.length
    · rw [if_pos (by omega), List.append_assoc, List.getElem?_append_right (by omega), hlen, List.getElem?_append_left (by omega)]
    · rw [if_neg (by omega), List.getElem?_append_right (by simp; omega)]
      simp only [List.length_append, hlen, List.getElem?_drop]
      rw [show col + vs.length + (j - (col + vs.length)) = j by omega]
      simp

theorem splice_size (arr : Array Value) (vs : List Value) (col : Nat) (hl : col + vs.length ≤ arr.size) : (arr.toList.take col ++ vs ++ arr.toList.drop (col + vs.length)).toArray.size = arr.size := by
  simp; omega

theorem setIf_none (a : Act) (v : Value) : (a.put none v) = a := rfl

theorem not_box (s : Nat) : ¬ (fun o : List Nat => o = [0, s]) [] := by simp

/-- the block of a box is written -/
theorem Stp.box {c s : Nat} {arr arr' : Array Value} {T : TypeId} (ho : g.om c = [0, s]) (hb : w.heap[c]? = some (.cells arr T (0, 0))) (hz : ∀ o, ¬ g.Fz c o) :
    Stp w g (w.setRow c arr') g (fun o => o = [0, s]) :=
  Stp.write w _ g c _ (not_box s) ho (by simp) (fun d hd => setRow_other w c d arr' hd) (fun o h => (hz o h).elim) rfl rfl

theorem storeAt_run {T n c col : Nat} {arr : Array Value} {Ty : TypeId} {v : Value} (hs : szT P T = some n) (hv : v.cells.size = n) (hb : w.heap[c]? = some (.cells arr Ty (0, 0))) (hl : col + n ≤ arr.size)
    (h1 : ∀ u ∈ v.cells.toList, u.oneCell' = true) :
    (Instr.storeAt T (.pointer (some ⟨c, col, none⟩)) v).run P w = .ok () (w.setRow c (arr.toList.take col ++ v.cells.toList ++ arr.toList.drop (col + v.cells.toList.length)).toArray) := by
  have hr := run_storeCells_at P c col Ty v.cells.toList 0 arr w hb (by simp; omega) h1
  simp only [Nat.add_zero] at hr
  simp only [Instr.storeAt, Instr.sureAddr, pure_bind, storeVar, Sem.run_bind, run_sz hs, Result.andThen_ok, hv]
  simp [hr]

theorem plain_one {cs : List AC} {a : Array Value} (h : Plain w g cs a) : ∀ u ∈ a.toList, u.oneCell' = true := by
  intro u hu
  obtain ⟨j, hj, rfl⟩ := List.getElem_of_mem hu
  have h1 : j < cs.length := by rw [← h.1]; simpa using hj
  exact (h.2 j cs[j] _ (by simp [h1]) (by simp)).1

theorem slot_lt (h : StR w g tmps st) {s : Nat} {x : SV} (hs : st.sl[s]? = some x) : s < tmps.size := by rw [← h.len]; exact get_lt hs

/-- one slot's abstract content is given anew, its value in the frame is as it was -/
theorem StR.turn {T : List Nat → Prop} (h : StR w g tmps st) (s : Stp w g w' g' T) (d : Nat) (x : SV) (hT : ∀ o, T o → Under [0, d] o) (hn : g'.n = g.n)
    (hx : ∀ v, tmps[d]? = some v → SVR w' g' [0, d] x v) (fz : ∀ c o, g'.Fz c o → c < w'.heap.size) (om : ∀ c, g'.om c ≠ [] → c < w'.heap.size) : StR w' g' tmps (st.put d x) := by
  refine h.step s (fun n => n = d) (put_len _ _ _) rfl rfl hn (fun n hd => ⟨put_other _ _ _ _ hd, rfl, fun r ht => not_under_slot hd r (hT _ ht)⟩) ?_
    (fun j r ht => not_under_heap j r (hT _ ht)) fz om
  intro n y u hd e1 e2
  subst hd
  rw [put_same e1]
  exact hx u e2

theorem done_stb (h : StR w g tmps st) (he : EnvR w tmps st G) {o : Oper} {s col n T : Nat} {a b : Operand} {x : AO} {cs l : List AC} (hd : o.dst = none) (ho : o.op = .store T a b) (ha : atBox G a s col = true)
    (hT : szT P T = some n) (hb : opd b x = true) (hs : st.sl[s]? = some (.bx cs)) (hx : (evO st x).bind stored = some l) (hl : l.length = n) (hle : col + n ≤ cs.length) :
    Done P w g o { tmps, defers := ds } (st.put s (.bx (putAt cs col l))) (killB G s) := by
  obtain ⟨c, arr, Ty, e1, e2, e3, e4, e5, e6⟩ := atBox_eval (ds := ds) h he ha hs
  have hp := stored_sound (ds := ds) h hb hx
  generalize hv : Act.eval { tmps, defers := ds } b = v at hp
  have hsz : v.cells.size = n := by rw [hp.1, hl]
  have hrun := storeAt_run (P := P) (w := w) hT hsz e4 (by rw [e6.1]; exact hle) (plain_one hp)
  generalize harr : (arr.toList.take col ++ v.cells.toList ++ arr.toList.drop (col + v.cells.toList.length)).toArray = arr' at hrun
  have s1 : Stp w g (w.setRow c arr') g (fun o => o = [0, s]) := Stp.box e3 e4 e5
  have hvl : v.cells.toList.length = n := by simpa using hsz
  have hget : ∀ j, arr'[j]? = if col ≤ j ∧ j < col + n then v.cells.toList[j - col]? else arr[j]? := by
    intro j; rw [← harr, splice_get arr _ col j (by rw [hvl, e6.1]; exact hle), hvl]
  have hcell : CellsR (w.setRow c arr') g [0, s] (putAt cs col l) arr' := by
    refine ⟨by rw [← harr, splice_size _ _ _ (by rw [hvl, e6.1]; exact hle), putAt_length, e6.1], fun j y u q1 q2 => ?_⟩
    rw [putAt_get _ _ _ _ (by rw [hl]; exact hle), hl] at q1
    rw [hget] at q2
    by_cases hj : col ≤ j ∧ j < col + n
    · rw [if_pos hj] at q1 q2
      obtain ⟨k1, k2⟩ := hp.2 (j - col) y u q1 (by simpa using q2)
      exact ⟨k1, (k2 _).step s1 (by simp)⟩
    · rw [if_neg hj] at q1 q2
      obtain ⟨k1, k2⟩ := e6.2 j y u q1 q2
      exact ⟨k1, k2.step s1 (by simp)⟩
  refine ⟨.skip, undef, w.setRow c arr', g, ?_, .inr ⟨rfl, rfl⟩, ?_, ?_, s1.mono (fun o e => by subst e; simp) nn⟩
  · simp only [execOp, ho, e1, hv, Sem.run_bind, hrun, Result.andThen_ok]; rfl
  · rw [hd]
    refine h.turn s1 s _ (fun o e => ⟨[], by simp [e]⟩) rfl (fun u hu => ?_) (fun c o h' => by simpa using h.fz c o h') (fun c h' => by simpa using h.om c h')
    rw [e2] at hu; cases hu
    exact .bx _ c arr' Ty e3 (by simp) (setRow_heap w c arr arr' Ty _ e4) e5 hcell
  · rw [hd]
    refine he.step h s1 (fun t r hr => ?_)
    obtain ⟨m1, m2⟩ := mem_killB hr
    refine ⟨m1, rfl, rfl, fun s' c' e => ⟨fun ht => ?_, put_other _ _ _ _ (m2 s' c' e)⟩⟩
    exact m2 s' c' e (by simpa using ht)

/- a slice literal: a new block, frozen at once -/
theorem seq_sound (h : StR w g tmps st) : ∀ (i : Nat) (parts : List (Nat × Operand)) (xs : List AO), seqParts i parts xs = true → parts.map (·.1) = List.range' i xs.length ∧ opds (parts.map (·.2)) xs = true
  | i, [], [], _ => ⟨rfl, rfl⟩
  | i, [], _ :: _, hc => by simp [seqParts] at hc
  | i, _ :: _, [], hc => by simp [seqParts] at hc
  | i, (j, a) :: r, x :: xs, hc => by
    simp only [seqParts, Bool.and_eq_true, beq_iff_eq] at hc
    obtain ⟨⟨rfl, c2⟩, c3⟩ := hc
    obtain ⟨i1, i2⟩ := seq_sound h (i + 1) r xs c3
    exact ⟨by simp [List.range'_succ, i1], by simp [opds, c2, i2]⟩

theorem rowsOf_sound {wd : Nat} : ∀ {ys : List TV} {rs : List (List TV)}, rowsOf wd ys = some rs → rs.length = ys.length ∧ ∀ (j : Nat) (y : TV), ys[j]? = some y → ∃ r, rs[j]? = some r ∧ rowOf y = some r ∧ r.length = wd
  | [], rs, h => by simp [rowsOf] at h; subst h; exact ⟨rfl, fun j y e => by simp at e⟩
  | y :: ys, rs, h => by
    simp only [rowsOf] at h
    split at h
    · rename_i r rs' h1 h2
      split at h
      · rename_i hl
        cases h
        obtain ⟨i1, i2⟩ := rowsOf_sound h2
        refine ⟨by simp [i1], fun j z hz => ?_⟩
        cases j with
        | zero => simp at hz; subst hz; exact ⟨r, rfl, h1, hl⟩
        | succ j => obtain ⟨r', q1, q2⟩ := i2 j z (by simpa using hz); exact ⟨r', by simpa using q1, q2⟩
      · cases h
    · cases h

theorem rowOf_sound {y : TV} {r : List TV} {v : Value} (hr : rowOf y = some r) (hy : TVR w g.Fz y v) : v.cells.size = r.length ∧ ∀ (j : Nat) (x : TV) (u : Value), r[j]? = some x → v.cells[j]? = some u → TVR w g.Fz x u ∧ u.oneCell' = true := by
  cases y with
  | ag cs =>
    simp only [rowOf] at hr
    cases hr
    cases hy with | ag cs a hs h1 hrr => exact ⟨hs, fun j x u e1 e2 => ⟨hrr j x u e1 e2, h1 j x u e1 e2⟩⟩
  | _ =>
    simp only [rowOf] at hr
    split at hr
    · rename_i h1
      cases hr
      have hone : v.oneCell' = true := by cases hy <;> first | rfl | cases h1
      have hc : v.cells = #[v] := by cases v <;> first | rfl | (simp [Value.oneCell'] at hone)
      rw [hc]
      refine ⟨rfl, fun j x u e1 e2 => ?_⟩
      cases j with
      | zero => simp at e1 e2; subst e1 e2; exact ⟨hy, hone⟩
      | succ j => simp at e1
    · cases hr

/-- filling whole elements, one after the other -/
theorem fill_rows (wd : Nat) : ∀ (vs : List Value) (i : Nat) (cells : Array Value), (∀ v ∈ vs, v.cells.size = wd) → (i + vs.length) * wd ≤ cells.size →
    ∃ cells', Instr.fill (fun i => some (i * wd, wd)) cells ((List.range' i vs.length).zip vs) = some cells' ∧ cells'.size = cells.size ∧
      (∀ j, j < i * wd → cells'[j]? = cells[j]?) ∧ ∀ k j v, vs[k]? = some v → j < wd → cells'[(i + k) * wd + j]? = v.cells[j]?
  | [], i, cells, _, _ => ⟨cells, rfl, rfl, fun _ _ => rfl, fun k j v e => by simp at e⟩
  | v :: vs, i, cells, hs, hl => by
    have hv : v.cells.size = wd := hs v (by simp)
    simp only [List.length_cons] at hl
    have hl0 : i * wd + wd ≤ cells.size := by
      have : (i + 1) * wd ≤ (i + (vs.length + 1)) * wd := Nat.mul_le_mul_right wd (by omega)
      rw [Nat.add_mul, Nat.one_mul] at this; omega
    have hfold : v.cells.zipIdx.foldl (fun cs (c, j) => cs.setIfInBounds (i * wd + j) c) cells = (v.cells.toList.zipIdx 0).foldl (fun cs (c, j) => cs.setIfInBounds (i * wd + j) c) cells := by
      rw [← Array.foldl_toList, Array.toList_zipIdx]
    obtain ⟨f1, f2⟩ := fold_get v.cells.toList 0 (i * wd) cells
    have hvl : v.cells.toList.length = wd := by simpa using hv
    obtain ⟨cells', c1, c2, c3, c4⟩ := fill_rows wd vs (i + 1) _ (fun u hu => hs u (by simp [hu])) (by rw [f1]; rw [show i + 1 + vs.length = i + (vs.length + 1) by omega]; exact hl)
    refine ⟨cells', ?_, by rw [c2, f1], fun j hj => ?_, fun k j u hk hj => ?_⟩
    · simp only [List.length_cons, List.range'_succ, List.zip_cons_cons, Instr.fill]
      have hcond : (decide (v.cells.size ≠ wd) || decide (i * wd + v.cells.size > cells.size)) = false := by rw [hv]; simp; omega
      simp only [hcond, Bool.false_eq_true, if_false]
      rw [hfold]; exact c1
    · have hj' : j < (i + 1) * wd := by rw [Nat.add_mul]; omega
      rw [c3 j hj', f2 j (by rw [hvl]; omega), if_neg (by omega)]
    · cases k with
      | zero =>
        simp at hk; subst hk
        have hj' : i * wd + j < (i + 1) * wd := by rw [Nat.add_mul]; omega
        rw [Nat.add_zero, c3 _ hj', f2 _ (by rw [hvl]; omega), if_pos (by rw [hvl]; omega)]
        rw [show i * wd + j - (i * wd + 0) = j by omega]; simp
      | succ k =>
        rw [show i + (k + 1) = i + 1 + k by omega]
        exact c4 k j u (by simpa using hk) hj

theorem idx_lt {i j wd n : Nat} (hi : i < n) (hj : j < wd) : i * wd + j < n * wd := by
  have : (i + 1) * wd ≤ n * wd := Nat.mul_le_mul_right wd hi
  rw [Nat.add_mul] at this; omega

theorem zip_parts {parts : List (Nat × Operand)} {n : Nat} (h : parts.map (·.1) = List.range' 0 n) (f : Operand → Value) :
    parts.map (fun p => (p.1, f p.2)) = (List.range' 0 (parts.map fun p => f p.2).length).zip (parts.map fun p => f p.2) := by
  have hl : parts.length = n := by have := congrArg List.length h; simpa using this
  rw [List.length_map, hl, ← h]
  clear h hl
  induction parts with
  | nil => rfl
  | cons p ps ih => simp [ih]

theorem done_bsl (h : StR w g tmps st) (he : EnvR w tmps st G) {o : Oper} {d wd T n : Nat} {parts : Array (Nat × Operand)} {xs : List AO} {rs : List (List TV)} (hd : o.dst = some d) (ho : o.op = .buildSlice T n parts)
    (hb : bslOk P T n wd xs.length = true) (hp : seqParts 0 parts.toList xs = true) (hx : (evTs st xs).bind (rowsOf wd) = some rs) :
    Done P w g o { tmps, defers := ds } (st.put d (.e (.c (.t (.ts rs))))) (kill G d) := by
  simp only [bslOk, Bool.and_eq_true, beq_iff_eq, decide_eq_true_eq] at hb
  obtain ⟨⟨rfl, b2⟩, b3⟩ := hb
  split at b3
  · rename_i el hu
    simp only [Bool.and_eq_true, beq_iff_eq] at b3
    obtain ⟨b3, b4⟩ := b3
    cases hy : evTs st xs with
    | none => rw [hy] at hx; cases hx
    | some ys =>
      rw [hy] at hx
      simp only [Option.bind_some] at hx
      obtain ⟨p1, p2⟩ := seq_sound h 0 parts.toList xs hp
      obtain ⟨y1, y2⟩ := evTs_sound (ds := ds) h p2 hy
      obtain ⟨r1, r2⟩ := rowsOf_sound hx
      let ev := Act.eval { tmps, defers := ds }
      generalize hvs : (parts.toList.map fun p => ev p.2) = vs
      have hvl : vs.length = rs.length := by rw [← hvs, r1, ← y1]; simp
      have hxl : xs.length = rs.length := by rw [← opds_length p2, y1, r1]
      have hrel : ∀ (k : Nat) (v : Value), vs[k]? = some v → ∃ y r, ys[k]? = some y ∧ rs[k]? = some r ∧ rowOf y = some r ∧ r.length = wd ∧ TVR w g.Fz y v := by
        intro k v hv
        rw [← hvs] at hv
        obtain ⟨p, q1, q2⟩ := map_get hv
        have hk : k < ys.length := by
          have := get_lt q1; rw [← y1]; simpa using this
        have ey : ys[k]? = some ys[k] := by simp [hk]
        obtain ⟨r, e1, e2, e3⟩ := r2 k _ ey
        have ea : (parts.toList.map (·.2))[k]? = some p.2 := by rw [List.getElem?_map, q1]; rfl
        exact ⟨_, r, ey, e1, e2, e3, by rw [← q2]; exact y2 k _ _ ey ea⟩
      have hsz : ∀ v ∈ vs, v.cells.size = wd := by
        intro v hv
        obtain ⟨k, hk, rfl⟩ := List.getElem_of_mem hv
        obtain ⟨y, r, _, _, e3, e4, e5⟩ := hrel k vs[k] (by simp [hk])
        rw [(rowOf_sound e3 e5).1, e4]
      obtain ⟨z, hz⟩ : ∃ z, ∀ w : World, (zeroValue el).run P w = .ok z w := by
        cases hi : P.info? el with
        | none => rw [hi] at b4; cases b4
        | some i =>
          rw [hi] at b4
          simp only [Option.bind_some] at b4
          obtain ⟨z, hz⟩ := Option.isSome_iff_exists.1 b4
          exact ⟨z, fun w => by simp [zeroValue, typeInfo, hi, hz]⟩
      have key : ∀ zero : Array Value, ∃ cells', Instr.fill (fun i => some (i * wd, wd)) ((Array.range (xs.length * wd)).map (zero[· % zero.size]!)) (parts.map fun (i, x) => (i, ev x)).toList = some cells' ∧
          cells'.size = rs.length * wd ∧ ∀ (k j : Nat) (v : Value), vs[k]? = some v → j < wd → cells'[k * wd + j]? = v.cells[j]? := by
        intro zero
        obtain ⟨cells', c1, c2, c3, c4⟩ := fill_rows wd vs 0 ((Array.range (xs.length * wd)).map (zero[· % zero.size]!)) hsz (by simp [hvl, hxl])
        refine ⟨cells', ?_, by rw [c2]; simp [hxl], fun k j v hk hj => by have := c4 k j v hk hj; rwa [Nat.zero_add] at this⟩
        have : (parts.map fun (i, x) => (i, ev x)).toList = (List.range' 0 vs.length).zip vs := by
          rw [← hvs, ← zip_parts p1 ev]; simp
        rw [this]; exact c1
      obtain ⟨cells', hrun, hcs, hcg⟩ : ∃ cells', (Instr.buildSlice T xs.length (parts.map fun (i, x) => (i, ev x))).run P w = .ok (.slice (some ⟨w.heap.size, 0, none⟩) xs.length xs.length) (w.alloc (.cells cells' el (0, 0))) ∧
          cells'.size = rs.length * wd ∧ ∀ (k j : Nat) (v : Value), vs[k]? = some v → j < wd → cells'[k * wd + j]? = v.cells[j]? := by
        have hle : ¬ (xs.length * wd > 2 ^ 24) := by simp; omega
        by_cases h0 : xs.length * wd = 0
        · obtain ⟨cells', c1, c2, c3⟩ := key #[]
          refine ⟨cells', ?_, c2, c3⟩
          simp only [Instr.buildSlice, Sem.run_bind, run_under hu, Result.andThen_ok, run_sz b3, if_neg hle, h0, if_true, Sem.run_pure, Sem.run_ite]
          rw [h0] at c1
          simp only [c1]
          simp [newRow]
        · obtain ⟨cells', c1, c2, c3⟩ := key z.cells
          refine ⟨cells', ?_, c2, c3⟩
          simp only [Instr.buildSlice, Sem.run_bind, run_under hu, Result.andThen_ok, run_sz b3, if_neg hle, if_neg h0, Sem.run_pure, Sem.run_ite, hz]
          simp only [c1]
          simp [newRow]
      have s : Stp w g (w.alloc (.cells cells' el (0, 0))) (g.add w [] (fun _ => True) false) Never := Stp.alloc w g _ [] (fun _ => True) false h.fz Never (fun h => h)
      have hx' : SVR (w.alloc (.cells cells' el (0, 0))) (g.add w [] (fun _ => True) false) [0, d] (.e (.c (.t (.ts rs)))) (.slice (some ⟨w.heap.size, 0, none⟩) xs.length xs.length) := by
        rw [hxl]
        have hrow : ∀ (i : Nat) (row : List TV), rs[i]? = some row → ∃ v y, vs[i]? = some v ∧ rowOf y = some row ∧ row.length = wd ∧ TVR w g.Fz y v := by
          intro i row hi
          have hk : i < vs.length := by rw [hvl]; exact get_lt hi
          obtain ⟨y, r, _, e2, e3, e4, e5⟩ := hrel i vs[i] (by simp [hk])
          rw [hi] at e2; cases e2
          exact ⟨vs[i], y, by simp [hk], e3, e4, e5⟩
        have hcell : ∀ (i j : Nat) (row : List TV) (x : TV), rs[i]? = some row → row[j]? = some x → ∃ u, cells'[i * wd + j]? = some u ∧ TVR w g.Fz x u ∧ u.oneCell' = true := by
          intro i j row x e1 e2
          obtain ⟨v, y, q1, q2, q3, q4⟩ := hrow i row e1
          have hj : j < wd := by rw [← q3]; exact get_lt e2
          obtain ⟨k1, k2⟩ := rowOf_sound q2 q4
          have hjv : j < v.cells.size := by rw [k1, q3]; exact hj
          have ev' : v.cells[j]? = some v.cells[j] := by simp [hjv]
          exact ⟨_, (hcg i j v q1 hj).trans ev', k2 j x _ e2 ev'⟩
        refine .e (.c (.t (.ts rs wd w.heap.size 0 rs.length (fun i j => (cells'[i * wd + j]?).getD undef) (fun i row e => by obtain ⟨_, _, _, _, q, _⟩ := hrow i row e; exact q) (Nat.le_refl _)
          (fun i j row x e1 e2 => ?_) (fun i j row x e1 e2 => ?_) (fun i j row x e1 e2 => ?_))))
        · obtain ⟨u, u1, u2, u3⟩ := hcell i j row x e1 e2
          refine ⟨.inr ⟨rfl, trivial⟩, ?_⟩
          rw [cell_of_block (alloc_get_new _ _), Nat.zero_add, u1]; rfl
        · obtain ⟨u, u1, u2, u3⟩ := hcell i j row x e1 e2
          simp only [u1, Option.getD_some]
          exact u2.mono s.fz
        · obtain ⟨u, u1, u2, u3⟩ := hcell i j row x e1 e2
          simp only [u1, Option.getD_some]
          exact u3
      have hrun' : (Instr.buildSlice T xs.length (parts.map fun x => (x.fst, Act.eval { tmps, defers := ds } x.snd))).run P w = .ok (.slice (some ⟨w.heap.size, 0, none⟩) xs.length xs.length) (w.alloc (.cells cells' el (0, 0))) := hrun
      refine ⟨_, _, _, _, by simp only [execOp, ho]; simp only [Sem.run_bind, hrun', Result.andThen_ok]; rfl, .inl rfl, ?_, ?_, s.mono (fun _ h => h.elim) nn⟩
      · rw [hd]; exact h.put s d _ _ (fun _ h => h.elim) rfl hx' (add_fz h _ _ _ _) (add_om h _ _ _ _)
      · rw [hd]; exact he.killed h s d _ _ (fun _ h => h.elim)
  · cases b3

end
end Go.Abs
