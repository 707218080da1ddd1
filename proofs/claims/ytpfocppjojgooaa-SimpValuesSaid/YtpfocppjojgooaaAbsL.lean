/-
  Appends that make a new block; appends, moves and parts of tuples as operations. Program-independent.
-/
import Derived.Test.YtpfocppjojgooaaAbsK
set_option linter.unusedSimpArgs false
set_option linter.unusedVariables false
namespace Go.Abs

section
variable {P : Program} {w w' : World} {g g' : Gh} {tmps tmps' : Array Value} {st st' : St} {G G' : Env} {ds : List Deferred}

/-- a new block that holds the rows of two lists -/
theorem own_new {dst : List Nat} {frz : Bool} {wd cap : Nat} {rows rs : List (List TV)} {old new rest : Array Value} {el : TypeId} (hz : ∀ c o, g.Fz c o → c < w.heap.size)
    (ho : old.size = rows.length * wd) (hn : new.size = rs.length * wd) (hr : rest.size = (cap - (rows.length + rs.length)) * wd) (hle : rows.length + rs.length ≤ cap)
    (w1 : ∀ r ∈ rows, r.length = wd) (w2 : ∀ r ∈ rs, r.length = wd)
    (c1 : ∀ (i j : Nat) (row : List TV) (x : TV), rows[i]? = some row → row[j]? = some x → ∃ u, old[i * wd + j]? = some u ∧ u.oneCell' = true ∧ TVR w g.Fz x u)
    (c2 : ∀ (i j : Nat) (row : List TV) (x : TV), rs[i]? = some row → row[j]? = some x → ∃ u, new[i * wd + j]? = some u ∧ TVR w g.Fz x u ∧ u.oneCell' = true) :
    Own (w.drew.alloc (.cells (old ++ new ++ rest) el (0, 0))) (g.add w dst (fun o => frz = true ∧ o < (rows ++ rs).length * wd) false) dst frz wd (rows ++ rs) w.heap.size cap (old ++ new ++ rest) el := by
  have s : Stp w.drew g (w.drew.alloc (.cells (old ++ new ++ rest) el (0, 0))) (g.add w dst (fun o => frz = true ∧ o < (rows ++ rs).length * wd) false) Never := Stp.alloc w.drew g _ dst _ false hz Never (fun h => h)
  have hlen : (rows ++ rs).length = rows.length + rs.length := List.length_append
  have hwd : ∀ (i : Nat) (row : List TV), (rows ++ rs)[i]? = some row → row.length = wd := by
    intro i row e
    rcases app_get e with ⟨_, e⟩ | ⟨_, e⟩
    · exact w1 row (List.mem_of_getElem? e)
    · exact w2 row (List.mem_of_getElem? e)
  refine ⟨by simp [Gh.add], alloc_get_new _ _, ?_, by rw [hlen]; exact hle, hwd, fun i j row x e1 e2 => ?_, fun hf i j row x e1 e2 => .inr ⟨rfl, hf, idx_lt (get_lt e1) (by rw [← hwd i row e1]; exact get_lt e2)⟩, fun o h => ?_⟩
  · simp only [Array.size_append, ho, hn, hr]
    rw [← Nat.add_mul, ← Nat.add_mul]; congr 1; omega
  · rcases app_get e1 with ⟨hi, e1⟩ | ⟨hi, e1⟩
    · obtain ⟨u, u1, u2, u3⟩ := c1 i j row x e1 e2
      have hj : j < wd := by rw [← w1 row (List.mem_of_getElem? e1)]; exact get_lt e2
      have hlt : i * wd + j < old.size := by rw [ho]; exact idx_lt hi hj
      refine ⟨u, ?_, u2, u3.mono s.fz⟩
      rw [Array.getElem?_append_left (by rw [Array.size_append]; omega), Array.getElem?_append_left hlt]; exact u1
    · obtain ⟨u, u1, u2, u3⟩ := c2 _ j row x e1 e2
      have hj : j < wd := by rw [← w2 row (List.mem_of_getElem? e1)]; exact get_lt e2
      have hlt := idx_lt (get_lt e1) hj
      have he : i * wd + j = rows.length * wd + ((i - rows.length) * wd + j) := by
        rw [← Nat.add_assoc, ← Nat.add_mul]; congr 2; omega
      refine ⟨u, ?_, u3, u2.mono s.fz⟩
      rw [he, Array.getElem?_append_left (by rw [Array.size_append, ho, hn]; omega), Array.getElem?_append_right (by omega)]
      rw [show rows.length * wd + ((i - rows.length) * wd + j) - old.size = (i - rows.length) * wd + j by omega]
      exact u1
  · rcases h with h | ⟨_, h⟩
    · have := hz _ _ h; omega
    · exact h

theorem drew_tvr {x : TV} {v : Value} (h : TVR w g.Fz x v) : TVR w.drew g.Fz x v := h.mono fun _ _ h => ⟨h, rfl⟩

theorem append_owned {T T2 ty wd bytes : Nat} {p dst : List Nat} {frz : Bool} {rows rs : List (List TV)} {v x : Value} (hp : p ≠ []) (hd : dst ≠ []) (hok : appOk P T T2 wd bytes = true)
    (h : ACR w g p (ownC frz wd rows) v) (hx : TVR w g.Fz (.ts rs) x) (hw : ∀ r ∈ rs, r.length = wd) (hroom : rs = [] ∨ room (rows.length + rs.length) bytes = true) (hfz : ∀ c o, g.Fz c o → c < w.heap.size)
    (hom : ∀ c, g.om c ≠ [] → c < w.heap.size) :
    ∃ u w' g', (Builtin.append_ #[T, T2] ty #[v, x]).run P w = .ok u w' ∧ ACR w' g' dst (ownC frz wd (rows ++ rs)) u ∧ Stp w g w' g' (Under p) ∧ g'.n = g.n ∧
      (∀ c o, g'.Fz c o → c < w'.heap.size) ∧ (∀ c, g'.om c ≠ [] → c < w'.heap.size) := by
  obtain ⟨c, cap, arr, Ty, rfl, _, ho⟩ := Own.of h
  by_cases hle : rows.length + rs.length ≤ cap
  · exact append_in_place hp hd hok ho hx hw hle hfz hom
  · have hroom' : room (rows.length + rs.length) bytes = true := by
      rcases hroom with e | e
      · subst e; have := ho.jcap; simp at hle; omega
      · exact e
    obtain ⟨new, f1, f2, f3, f4⟩ := first_run (P := P) (w := w) hx hw
    obtain ⟨new', f1', f2', f3', f4'⟩ := first_run (P := P) (w := w.drew) (drew_tvr hx) hw
    have hold : (Builtin.firstCells wd rows.length (.slice (some ⟨c, 0, none⟩) rows.length cap)).run P w.drew = .ok (arr.toList.take (rows.length * wd)).toArray w.drew := by
      have hl : (arr.toList.take (rows.length * wd)).length = rows.length * wd := by
        simp; rw [ho.jsz]; exact Nat.min_eq_left (Nat.mul_le_mul_right wd ho.jcap)
      have := run_loadCells_list (P := P) w.drew ⟨c, 0, none⟩ (arr.toList.take (rows.length * wd)) (fun j v e => by
        rw [addr_add, Nat.zero_add]
        show w.cell? _ = _
        rw [cell_of_block ho.jhb]
        have hj := get_lt e
        rw [List.getElem?_take, if_pos (by rw [hl] at hj; exact hj)] at e
        simpa using e)
      rw [hl] at this
      simp [Builtin.firstCells, this]
    obtain ⟨newCap, rest, el, g1, g2, g3⟩ := append_grow (P := P) (w := w) (ty := ty) hok f2 hold f1' (by omega) hroom'
    have hdst : dst ≠ [] := hd
    have own := own_new (w := w) (g := g) (dst := dst) (frz := frz) (wd := wd) (cap := newCap) (rows := rows) (rs := rs) (old := (arr.toList.take (rows.length * wd)).toArray) (new := new') (rest := rest) (el := el) hfz
      (by simp; rw [ho.jsz]; exact Nat.min_eq_left (Nat.mul_le_mul_right wd ho.jcap)) f3' g2 g1 (fun r hr => by obtain ⟨i, hi, rfl⟩ := List.getElem_of_mem hr; exact ho.jwd i _ (by simp [hi])) hw
      (fun i j row x e1 e2 => by
        obtain ⟨u, u1, u2, u3⟩ := ho.jct i j row x e1 e2
        have hj : j < wd := by rw [← ho.jwd i row e1]; exact get_lt e2
        refine ⟨u, ?_, u2, u3⟩
        rw [List.getElem?_toArray, List.getElem?_take, if_pos (idx_lt (get_lt e1) hj)]; simpa using u1)
      (fun i j row x e1 e2 => by obtain ⟨u, u1, u2, u3⟩ := f4' i j row x e1 e2; exact ⟨u, u1, u2.mono fun _ _ h => ⟨h, rfl⟩, u3⟩)
    have s0 : Stp w g w.drew g (Under p) := Stp.drew w g _ (by rintro ⟨r, hr⟩; cases p with | nil => exact hp rfl | cons a l => cases hr)
    have s1 := Stp.alloc w.drew g (.cells ((arr.toList.take (rows.length * wd)).toArray ++ new' ++ rest) el (0, 0)) dst (fun o => frz = true ∧ o < (rows ++ rs).length * wd) false hfz (Under p) s0.no
    refine ⟨_, _, _, g3, ?_, s0.trans s1 (fun _ h => h) (fun _ h => h) s0.no, rfl, fun d o hd => ?_, fun d hd => ?_⟩
    · have := own.acr hdst
      have hlen : (rows ++ rs).length = rows.length + rs.length := List.length_append
      rw [← hlen]
      exact this
    · rcases hd with hd | ⟨hd, _⟩
      · have := hfz d o hd; simp; omega
      · simp at hd ⊢; omega
    · by_cases e : d = w.heap.size
      · simp; omega
      · simp [Gh.add, e] at hd; have := hom d hd; simp; omega

theorem append_nil (fz : Bool) {T T2 ty wd bytes : Nat} {dst : List Nat} {rs : List (List TV)} {x : Value} (hd : dst ≠ []) (hok : appOk P T T2 wd bytes = true)
    (hx : TVR w g.Fz (.ts rs) x) (hw : ∀ r ∈ rs, r.length = wd) (hroom : rs = [] ∨ room rs.length bytes = true) (hfz : ∀ c o, g.Fz c o → c < w.heap.size)
    (hom : ∀ c, g.om c ≠ [] → c < w.heap.size) (T0 : List Nat → Prop) (hT0 : ¬ T0 []) :
    ∃ u w' g', (Builtin.append_ #[T, T2] ty #[.slice none 0 0, x]).run P w = .ok u w' ∧ ((rs = [] ∧ u = .slice none 0 0) ∨ ACR w' g' dst (ownC fz wd rs) u) ∧ Stp w g w' g' T0 ∧ g'.n = g.n ∧
      (∀ c o, g'.Fz c o → c < w'.heap.size) ∧ (∀ c, g'.om c ≠ [] → c < w'.heap.size) := by
  obtain ⟨new, f1, f2, f3, f4⟩ := first_run (P := P) (w := w) hx hw
  by_cases he : rs = []
  · subst he
    have := append_room (P := P) (w := w) (w' := w) (ty := ty) (base := none) (sLen := 0) (sCap := 0) hok f2 f1 (by simp) (by simp)
    exact ⟨_, w, g, this, .inl ⟨rfl, rfl⟩, Stp.refl w g _ hT0, rfl, hfz, hom⟩
  · have hroom' : room (0 + rs.length) bytes = true := by rw [Nat.zero_add]; exact hroom.resolve_left he
    obtain ⟨new', f1', f2', f3', f4'⟩ := first_run (P := P) (w := w.drew) (drew_tvr hx) hw
    have hpos : 0 < rs.length := by cases rs with | nil => exact (he rfl).elim | cons a l => simp
    obtain ⟨newCap, rest, el, g1, g2, g3⟩ := append_grow (P := P) (w := w) (ty := ty) (base := none) (sLen := 0) (sCap := 0) (old := #[]) hok f2 (by simp [Builtin.firstCells]) f1' (by omega) hroom'
    have own := own_new (w := w) (g := g) (dst := dst) (frz := fz) (wd := wd) (cap := newCap) (rows := []) (rs := rs) (old := #[]) (new := new') (rest := rest) (el := el) hfz
      (by simp) f3' (by simpa using g2) (by simpa using g1) (fun r hr => by simp at hr) hw (fun i j row x e1 e2 => by simp at e1)
      (fun i j row x e1 e2 => by obtain ⟨u, u1, u2, u3⟩ := f4' i j row x e1 e2; exact ⟨u, u1, u2.mono fun _ _ h => ⟨h, rfl⟩, u3⟩)
    have s0 : Stp w g w.drew g T0 := Stp.drew w g _ hT0
    have s1 := Stp.alloc w.drew g (.cells (#[] ++ new' ++ rest) el (0, 0)) dst (fun o => fz = true ∧ o < ([] ++ rs).length * wd) false hfz T0 hT0
    refine ⟨_, _, _, g3, .inr ?_, s0.trans s1 (fun _ h => h) (fun _ h => h) hT0, rfl, fun d o hd => ?_, fun d hd => ?_⟩
    · have := own.acr hd
      have hlen : ([] ++ rs).length = 0 + rs.length := by simp
      rw [← hlen]
      exact this
    · rcases hd with hd | ⟨hd, _⟩
      · have := hfz d o hd; simp; omega
      · simp at hd ⊢; omega
    · by_cases e : d = w.heap.size
      · simp; omega
      · simp [Gh.add, e] at hd; have := hom d hd; simp; omega

/-- what append does to a place that owns what is appended to -/
theorem append_any {fz : Bool} {T T2 ty wd bytes : Nat} {p dst : List Nat} {b r : AC} {v x : Value} {e : EV} (hp : p ≠ []) (hd : dst ≠ []) (hok : appOk P T T2 wd bytes = true)
    (hb : ACR w g p b v) (hx : ∀ own, EVR w g own e x) (hr : appd fz wd bytes b e = some r) (hfz : ∀ c o, g.Fz c o → c < w.heap.size) (hom : ∀ c, g.om c ≠ [] → c < w.heap.size) :
    ∃ u w' g', (Builtin.append_ #[T, T2] ty #[v, x]).run P w = .ok u w' ∧ ACR w' g' dst r u ∧ Stp w g w' g' (Under p) ∧ g'.n = g.n ∧
      (∀ c o, g'.Fz c o → c < w'.heap.size) ∧ (∀ c, g'.om c ≠ [] → c < w'.heap.size) := by
  have hnu : ¬ Under p [] := by rintro ⟨q, hq⟩; cases p with | nil => exact hp rfl | cons a l => cases hq
  unfold appd at hr
  split at hr
  · -- nil is appended
    have hv := acr_t (evr_c (hx []))
    cases hv
    have hts : TVR w g.Fz (.ts []) (.slice none 0 0) := .ts0
    split at hr
    · cases hr
      have hv := acr_t hb
      cases hv
      obtain ⟨u, w', g', q1, q2, q3, q4, q5, q6⟩ := append_nil fz (P := P) (ty := ty) hd hok hts (by simp) (.inl rfl) hfz hom (Under p) hnu
      refine ⟨u, w', g', q1, ?_, q3, q4, q5, q6⟩
      rcases q2 with ⟨_, rfl⟩ | q2
      · exact .t .ns
      · have q1' := q1
        obtain ⟨new, f1, f2, f3, f4⟩ := first_run (P := P) (w := w) (wd := wd) hts (by simp)
        have := append_room (P := P) (w := w) (w' := w) (ty := ty) (base := none) (sLen := 0) (sCap := 0) hok f2 f1 (by simp) (by simp)
        rw [this] at q1'
        cases q1'
        exact .t .ns
    · rename_i wd' r'
      split at hr
      · rename_i hc
        subst hc
        cases hr
        have := append_owned (P := P) (ty := ty) (frz := true) (rs := []) hp hd hok hb hts (by simp) (.inl rfl) hfz hom
        rw [List.append_nil] at this
        exact this
      · cases hr
    · rename_i wd' r'
      split at hr
      · rename_i hc
        subst hc
        cases hr
        have := append_owned (P := P) (ty := ty) (frz := false) (rs := []) hp hd hok hb hts (by simp) (.inl rfl) hfz hom
        rw [List.append_nil] at this
        exact this
      · cases hr
    · cases hr
  · rename_i rs
    have hv := acr_t (evr_c (hx []))
    split at hr
    · rename_i hall
      have hw : ∀ r ∈ rs, r.length = wd := fun r hr => by simpa using List.all_eq_true.1 hall r hr
      split at hr
      · have hb' := acr_t hb
        cases hb'
        split at hr
        · rename_i he
          cases hr
          have he' : rs = [] := by simpa using he
          subst he'
          obtain ⟨new, f1, f2, f3, f4⟩ := first_run (P := P) (w := w) (wd := wd) hv (by simp)
          have := append_room (P := P) (w := w) (w' := w) (ty := ty) (base := none) (sLen := 0) (sCap := 0) hok f2 f1 (by simp) (by simp)
          exact ⟨_, w, g, this, .t .ns, Stp.refl w g _ hnu, rfl, hfz, hom⟩
        · rename_i he
          split at hr
          · rename_i hrm
            cases hr
            obtain ⟨u, w', g', q1, q2, q3, q4, q5, q6⟩ := append_nil fz (P := P) (ty := ty) hd hok hv hw (.inr hrm) hfz hom (Under p) hnu
            refine ⟨u, w', g', q1, ?_, q3, q4, q5, q6⟩
            rcases q2 with ⟨e, _⟩ | q2
            · subst e; simp at he
            · exact q2
          · cases hr
      · rename_i wd' r'
        split at hr
        · rename_i hc
          obtain ⟨rfl, hrm⟩ := hc
          cases hr
          exact append_owned (frz := true) hp hd hok hb hv hw (.inr hrm) hfz hom
        · cases hr
      · rename_i wd' r'
        split at hr
        · rename_i hc
          obtain ⟨rfl, hrm⟩ := hc
          cases hr
          exact append_owned (frz := false) hp hd hok hb hv hw (.inr hrm) hfz hom
        · cases hr
      · cases hr
    · cases hr
  · cases hr

end
end Go.Abs
