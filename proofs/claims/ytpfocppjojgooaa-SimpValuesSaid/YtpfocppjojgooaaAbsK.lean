/-
  Appends to owned slices. Program-independent.
-/
import Derived.Test.YtpfocppjojgooaaAbsJ
set_option linter.unusedSimpArgs false
set_option linter.unusedVariables false
namespace Go.Abs

section
variable {P : Program} {w w' : World} {g g' : Gh} {tmps tmps' : Array Value} {st st' : St} {G G' : Env} {ds : List Deferred}

theorem growBy_le (n : Nat) : ∀ (k c : Nat), Builtin.growBy n k c ≤ max c (2 * n + 256)
  | 0, c => by simp [Builtin.growBy]; omega
  | k + 1, c => by
    simp only [Builtin.growBy]
    split
    · omega
    · have := growBy_le n k (c + (c + 768) / 4); omega

theorem nextcap_le (n c : Nat) (h : c < n) : Builtin.nextslicecap n c ≤ 2 * n + 256 := by
  unfold Builtin.nextslicecap
  split
  · omega
  · split
    · omega
    · have := growBy_le n 4 c; omega

/-- the rows of what is appended, loaded -/
theorem first_run {Fz : Nat → Nat → Prop} {rs : List (List TV)} {v : Value} {wd : Nat} (h : TVR w Fz (.ts rs) v) (hw : ∀ r ∈ rs, r.length = wd) :
    ∃ new : Array Value, (Builtin.firstCells wd rs.length v).run P w = .ok new w ∧ (Builtin.lenOf v).run P w = .ok rs.length w ∧ new.size = rs.length * wd ∧
      ∀ (i j : Nat) (row : List TV) (x : TV), rs[i]? = some row → row[j]? = some x → ∃ u, new[i * wd + j]? = some u ∧ TVR w Fz x u ∧ u.oneCell' = true := by
  cases h with
  | ts0 => exact ⟨#[], by simp [Builtin.firstCells], by simp [Builtin.lenOf], by simp, fun i j row x e => by simp at e⟩
  | tse a cap => exact ⟨#[], by simpa [Builtin.firstCells] using run_loadCells_list (P := P) w a [] (fun j v e => by simp at e), by simp [Builtin.lenOf], by simp, fun i j row x e => by simp at e⟩
  | ts rows wd' c o cap u hw' hcap hc hr h1 =>
    by_cases hne : rs = []
    · subst hne
      refine ⟨#[], ?_, by simp [Builtin.lenOf], by simp, fun i j row x e => by simp at e⟩
      simp [Builtin.firstCells, loadCells, loadCellsFrom]
    · have hwd : wd' = wd := by
        obtain ⟨r, hr0⟩ : ∃ r, rs[0]? = some r := by
          cases rs with
          | nil => exact (hne rfl).elim
          | cons r rs => exact ⟨r, rfl⟩
        rw [← hw' 0 r hr0]; exact hw r (List.mem_of_getElem? hr0)
      subst hwd
      have hcell : ∀ k, k < rs.length * wd' → ∃ v, w.cell? ⟨c, o + k, none⟩ = some v := by
        intro k hk
        have hpos : 0 < wd' := by rcases Nat.eq_zero_or_pos wd' with h | h; · rw [h] at hk; simp at hk
                                  · exact h
        have hi : k / wd' < rs.length := Nat.div_lt_of_lt_mul (by rw [Nat.mul_comm]; exact hk)
        have er : rs[k / wd']? = some rs[k / wd'] := by simp [hi]
        have hj : k % wd' < (rs[k / wd']).length := by rw [hw' _ _ er]; exact Nat.mod_lt _ hpos
        have ex : (rs[k / wd'])[k % wd']? = some (rs[k / wd'])[k % wd'] := by simp [hj]
        have := (hc _ _ _ _ er ex).2
        rw [show o + k / wd' * wd' + k % wd' = o + k by rw [Nat.add_assoc, Nat.div_add_mod']] at this
        exact ⟨_, this⟩
      obtain ⟨vs, hl, hvs⟩ := cells_list c o (rs.length * wd') hcell
      refine ⟨vs.toArray, ?_, by simp [Builtin.lenOf], by simp [hl], fun i j row x e1 e2 => ?_⟩
      · have := run_loadCells_list (P := P) w ⟨c, o, none⟩ vs (fun j v e => by rw [addr_add]; exact hvs j v e)
        rw [hl] at this
        simp [Builtin.firstCells, this]
      · have hj : j < wd' := by rw [← hw' i row e1]; exact get_lt e2
        have hlt : i * wd' + j < vs.length := by rw [hl]; exact idx_lt (get_lt e1) hj
        have := hvs (i * wd' + j) vs[i * wd' + j] (by simp [hlt])
        have q := (hc i j row x e1 e2).2
        rw [← Nat.add_assoc, q] at this
        have e3 := Option.some.inj this
        exact ⟨u i j, by rw [e3]; simp [hlt], hr i j row x e1 e2, h1 i j row x e1 e2⟩

theorem flat_one {rs : List (List TV)} {wd : Nat} {new : Array Value} (hw : ∀ r ∈ rs, r.length = wd) (hs : new.size = rs.length * wd)
    (hr : ∀ (i j : Nat) (row : List TV) (x : TV), rs[i]? = some row → row[j]? = some x → ∃ u, new[i * wd + j]? = some u ∧ u.oneCell' = true) : ∀ u ∈ new.toList, u.oneCell' = true := by
  intro u hu
  obtain ⟨k, hk, rfl⟩ := List.getElem_of_mem hu
  have hk' : k < rs.length * wd := by rw [← hs]; simpa using hk
  have hpos : 0 < wd := by rcases Nat.eq_zero_or_pos wd with h | h; · rw [h] at hk'; simp at hk'
                           · exact h
  have hi : k / wd < rs.length := Nat.div_lt_of_lt_mul (by rw [Nat.mul_comm]; exact hk')
  have er : rs[k / wd]? = some rs[k / wd] := by simp [hi]
  have hj : k % wd < (rs[k / wd]).length := by rw [hw _ (List.getElem_mem hi)]; exact Nat.mod_lt _ hpos
  have ex : (rs[k / wd])[k % wd]? = some (rs[k / wd])[k % wd] := by simp [hj]
  obtain ⟨v, e1, e2⟩ := hr _ _ _ _ er ex
  rw [Nat.div_add_mod'] at e1
  have : v = new.toList[k] := by
    have h2 : new[k]? = some new.toList[k] := by rw [← Array.getElem?_toList]; simp [hk]
    rw [h2] at e1; exact (Option.some.inj e1).symm
  rw [← this]; exact e2

theorem idx_eq {i j i' j' wd : Nat} (hj : j < wd) (hj' : j' < wd) (h : i * wd + j = i' * wd + j') : i = i' ∧ j = j' := by
  have h1 : (i * wd + j) / wd = i := by rw [Nat.mul_comm, Nat.mul_add_div (by omega), Nat.div_eq_of_lt hj]; omega
  have h2 : (i' * wd + j') / wd = i' := by rw [Nat.mul_comm, Nat.mul_add_div (by omega), Nat.div_eq_of_lt hj']; omega
  have : i = i' := by rw [← h1, ← h2, h]
  subst this; omega

theorem appOk_parts {T T2 wd bytes : Nat} (h : appOk P T T2 wd bytes = true) : ∃ el e2 z i, P.underlying T = some (.slice el) ∧ P.underlying T2 = some (.slice e2) ∧ szT P el = some wd ∧ P.info? el = some i ∧ i.bytes = bytes ∧
    i.zero = some z ∧ z.cells.size = wd := by
  simp only [appOk, Bool.and_eq_true] at h
  obtain ⟨h1, h2⟩ := h
  split at h1
  · rename_i el hu
    split at h2
    · rename_i e2 hu2
      simp only [Bool.and_eq_true, beq_iff_eq] at h1
      obtain ⟨⟨a, b⟩, c⟩ := h1
      cases hi : P.info? el with
      | none => rw [hi] at c; simp at c
      | some i =>
        rw [hi] at c
        simp only [Option.bind_some] at c
        cases hz : i.zero with
        | none => rw [hz] at c; simp at c
        | some z =>
          rw [hz] at c
          simp only [bytesT, hi, Option.map_some, Option.some.injEq] at b c
          exact ⟨el, e2, z, i, hu, hu2, a, hi, b, hz, c⟩
    · cases h2
  · cases h1

/-- an append that finds room -/
theorem append_room {T T2 ty wd bytes n sLen sCap : Nat} {base : Option Addr} {x : Value} {new : Array Value} (hok : appOk P T T2 wd bytes = true) (hn : (Builtin.lenOf x).run P w = .ok n w)
    (hnew : (Builtin.firstCells wd n x).run P w = .ok new w) (hle : sLen + n ≤ sCap)
    (hst : (match base with | some a => storeCells (a.add (sLen * wd)) new.toList | none => pure ()).run P w = .ok () w') :
    (Builtin.append_ #[T, T2] ty #[.slice base sLen sCap, x]).run P w = .ok (.slice base (sLen + n) sCap) w' := by
  obtain ⟨el, e2, z, i, u1, u2, h1, h2, h3, h4, h5⟩ := appOk_parts hok
  simp only [Builtin.append_, Array.getElem?_eq_getElem, List.getElem?_toArray]
  simp [run_under u1, run_under u2, run_sz h1, hn, hle, hnew]
  cases base with
  | none => simp at hst; subst hst; rfl
  | some a => simp at hst; simp [hst]

/-- an append that makes a new block -/
theorem append_grow {T T2 ty wd bytes n sLen sCap : Nat} {base : Option Addr} {x : Value} {old new : Array Value} (hok : appOk P T T2 wd bytes = true) (hn : (Builtin.lenOf x).run P w = .ok n w)
    (hold : (Builtin.firstCells wd sLen (.slice base sLen sCap)).run P w.drew = .ok old w.drew) (hnew : (Builtin.firstCells wd n x).run P w.drew = .ok new w.drew) (hgt : sCap < sLen + n) (hroom : room (sLen + n) bytes = true) :
    ∃ newCap rest el, sLen + n ≤ newCap ∧ rest.size = (newCap - (sLen + n)) * wd ∧
      (Builtin.append_ #[T, T2] ty #[.slice base sLen sCap, x]).run P w = .ok (.slice (some ⟨w.heap.size, 0, none⟩) (sLen + n) newCap) (w.drew.alloc (.cells (old ++ new ++ rest) el (0, 0))) := by
  obtain ⟨el, e2, z, i, u1, u2, h1, h2, h3, h4, h5⟩ := appOk_parts hok
  have hroom' : (2 * (sLen + n) + 256) * (bytes + 1) ≤ 281474976710656 := of_decide_eq_true hroom
  have hnext := nextcap_le (sLen + n) sCap hgt
  have hb : Builtin.nextslicecap (sLen + n) sCap * bytes ≤ 281474976710656 := by
    refine Nat.le_trans (Nat.mul_le_mul hnext (Nat.le_succ bytes)) hroom'
  have hneed : sLen + n ≤ 281474976710656 := by
    have : (2 * (sLen + n) + 256) * 1 ≤ (2 * (sLen + n) + 256) * (bytes + 1) := Nat.mul_le_mul_left _ (by omega)
    omega
  generalize hq : Question.cut (.appendCap (sLen + n) sCap el) (w.tape w.drawn (.appendCap (sLen + n) sCap el)) = newCap
  have hcap : sLen + n ≤ newCap := by rw [← hq]; simp [Question.cut]
  refine ⟨newCap, Builtin.zeroCells z.cells (newCap - (sLen + n)), el, hcap, by simp [Builtin.zeroCells, h5], ?_⟩
  have t1 : ∀ w : World, (typeInfo el).run P w = .ok i w := fun w => by simp [typeInfo, h2]
  have z1 : ∀ w : World, (zeroValue el).run P w = .ok z w := fun w => by simp [zeroValue, typeInfo, h2, h4]
  have c1 : ¬ ((sLen + n : Nat) : Int) > IntKind.i64.max := by simp [IntKind.max, IntKind.bits, IntKind.signed]; omega
  have c2 : ¬ Builtin.nextslicecap (sLen + n) sCap * i.bytes > 281474976710656 := by rw [h3]; omega
  have hgt' : ¬ (sLen + n ≤ sCap) := by omega
  have hdr : ({ w with drawn := w.drawn + 1 } : World) = w.drew := rfl
  simp only [Builtin.append_, Array.getElem?_eq_getElem, List.getElem?_toArray]
  simp [run_under u1, run_under u2, run_sz h1, hn, hgt', t1, c2, hold, hnew, z1, newRow, Question.forced, hq, hdr]
  omega

/-- an owned slice, as its parts: frozen (frz) or not -/
structure Own (w : World) (g : Gh) (own : List Nat) (frz : Bool) (wd : Nat) (rows : List (List TV)) (c cap : Nat) (arr : Array Value) (T : TypeId) : Prop where
  jom : g.om c = own
  jhb : w.heap[c]? = some (.cells arr T (0, 0))
  jsz : arr.size = cap * wd
  jcap : rows.length ≤ cap
  jwd : ∀ (i : Nat) (row : List TV), rows[i]? = some row → row.length = wd
  jct : ∀ (i j : Nat) (row : List TV) (x : TV), rows[i]? = some row → row[j]? = some x → ∃ u, arr[i * wd + j]? = some u ∧ u.oneCell' = true ∧ TVR w g.Fz x u
  jfz : frz = true → ∀ (i j : Nat) (row : List TV) (x : TV), rows[i]? = some row → row[j]? = some x → g.Fz c (i * wd + j)
  jlim : ∀ o, g.Fz c o → frz = true ∧ o < rows.length * wd


theorem Own.of {own : List Nat} {frz : Bool} {wd : Nat} {rows : List (List TV)} {v : Value} (h : ACR w g own (ownC frz wd rows) v) :
    ∃ c cap arr T, v = .slice (some ⟨c, 0, none⟩) rows.length cap ∧ own ≠ [] ∧ Own w g own frz wd rows c cap arr T := by
  cases frz with
  | true =>
    cases h with
    | os wd rows c cap arr T u ho hn hb hsz hcap hw hc hz =>
      exact ⟨c, cap, arr, T, rfl, hn, ho, hb, hsz, hcap, hw, fun i j row x e1 e2 => ⟨_, (hc i j row x e1 e2).2.1, (hc i j row x e1 e2).2.2.1, (hc i j row x e1 e2).2.2.2⟩, fun _ i j row x e1 e2 => (hc i j row x e1 e2).1, fun o ho => ⟨rfl, hz o ho⟩⟩
  | false =>
    cases h with
    | ex wd rows c cap arr T u ho hn hb hsz hcap hw hc hz =>
      exact ⟨c, cap, arr, T, rfl, hn, ho, hb, hsz, hcap, hw, fun i j row x e1 e2 => ⟨_, (hc i j row x e1 e2).1, (hc i j row x e1 e2).2.1, (hc i j row x e1 e2).2.2⟩, fun h => (by cases h), fun o ho => (hz o ho).elim⟩

theorem Own.acr {own : List Nat} {frz : Bool} {wd : Nat} {rows : List (List TV)} {c cap : Nat} {arr : Array Value} {T : TypeId} (h : Own w g own frz wd rows c cap arr T) (hn : own ≠ []) :
    ACR w g own (ownC frz wd rows) (.slice (some ⟨c, 0, none⟩) rows.length cap) := by
  have key : ∀ (i j : Nat) (row : List TV) (x : TV), rows[i]? = some row → row[j]? = some x →
      arr[i * wd + j]? = some ((arr[i * wd + j]?).getD undef) ∧ ((arr[i * wd + j]?).getD undef).oneCell' = true ∧ TVR w g.Fz x ((arr[i * wd + j]?).getD undef) := by
    intro i j row x e1 e2
    obtain ⟨u, u1, u2, u3⟩ := h.jct i j row x e1 e2
    rw [u1]; exact ⟨rfl, u2, u3⟩
  cases frz with
  | true =>
    exact .os wd rows c cap arr T (fun i j => (arr[i * wd + j]?).getD undef) h.jom hn h.jhb h.jsz h.jcap h.jwd (fun i j row x e1 e2 => ⟨h.jfz rfl i j row x e1 e2, key i j row x e1 e2⟩) (fun o ho => (h.jlim o ho).2)
  | false =>
    exact .ex wd rows c cap arr T (fun i j => (arr[i * wd + j]?).getD undef) h.jom hn h.jhb h.jsz h.jcap h.jwd key (fun o ho => by have := (h.jlim o ho).1; cases this)

theorem app_get {α : Type} {a b : List α} {i : Nat} {x : α} (h : (a ++ b)[i]? = some x) : (i < a.length ∧ a[i]? = some x) ∨ (a.length ≤ i ∧ b[i - a.length]? = some x) := by
  rcases Nat.lt_or_ge i a.length with hi | hi
  · rw [List.getElem?_append_left hi] at h; exact .inl ⟨hi, h⟩
  · rw [List.getElem?_append_right hi] at h; exact .inr ⟨hi, h⟩

/-- what freezing a range of one block's cells does -/
def Gh.fr (g : Gh) (c lo hi : Nat) : Gh := { g with Fz := fun d o => g.Fz d o ∨ (d = c ∧ lo ≤ o ∧ o < hi) }

theorem append_in_place {T T2 ty wd bytes : Nat} {p dst : List Nat} {frz : Bool} {rows rs : List (List TV)} {c cap : Nat} {arr : Array Value} {Ty : TypeId} {x : Value} (hp : p ≠ []) (hd : dst ≠ [])
    (hok : appOk P T T2 wd bytes = true) (h : Own w g p frz wd rows c cap arr Ty) (hx : TVR w g.Fz (.ts rs) x) (hw : ∀ r ∈ rs, r.length = wd) (hle : rows.length + rs.length ≤ cap) (hfz : ∀ c o, g.Fz c o → c < w.heap.size)
    (hom : ∀ c, g.om c ≠ [] → c < w.heap.size) :
    ∃ v w' g', (Builtin.append_ #[T, T2] ty #[.slice (some ⟨c, 0, none⟩) rows.length cap, x]).run P w = .ok v w' ∧ ACR w' g' dst (ownC frz wd (rows ++ rs)) v ∧ Stp w g w' g' (Under p) ∧ g'.n = g.n ∧
      (∀ c o, g'.Fz c o → c < w'.heap.size) ∧ (∀ c, g'.om c ≠ [] → c < w'.heap.size) := by
  obtain ⟨new, f1, f2, f3, f4⟩ := first_run hx hw
  have hone := flat_one hw f3 (fun i j row x e1 e2 => by obtain ⟨u, u1, _, u3⟩ := f4 i j row x e1 e2; exact ⟨u, u1, u3⟩)
  have hpos : rows.length * wd + new.toList.length ≤ arr.size := by
    have e1 : new.toList.length = rs.length * wd := by simpa using f3
    rw [e1, h.jsz, ← Nat.add_mul]; exact Nat.mul_le_mul_right wd hle
  have hst := run_storeCells_at P c (rows.length * wd) Ty new.toList 0 arr w h.jhb (by simpa using hpos) hone
  simp only [Nat.add_zero] at hst
  generalize harr : (arr.toList.take (rows.length * wd) ++ new.toList ++ arr.toList.drop (rows.length * wd + new.toList.length)).toArray = arr' at hst
  have hget : ∀ j, arr'[j]? = if rows.length * wd ≤ j ∧ j < rows.length * wd + new.toList.length then new.toList[j - rows.length * wd]? else arr[j]? := fun j => by rw [← harr]; exact splice_get _ _ _ _ hpos
  have hsz : arr'.size = arr.size := by rw [← harr]; exact splice_size _ _ _ hpos
  have hrun := append_room (P := P) (w := w) (ty := ty) (base := some ⟨c, 0, none⟩) hok f2 f1 hle (w' := w.setRow c arr') (by simp only [addr_add, Nat.zero_add]; exact hst)
  have hnl : new.toList.length = rs.length * wd := by simpa using f3
  have hlow : ∀ o, o < rows.length * wd → arr'[o]? = arr[o]? := fun o ho => by rw [hget, if_neg (by omega)]
  -- the world: one block is written
  have s1 : Stp w g (w.setRow c arr') g (Under p) := by
    refine Stp.write w _ g c _ (by rintro ⟨r, hr⟩; cases p with | nil => exact hp rfl | cons a l => cases hr) ⟨[], by simp [h.jom]⟩ (by simp) (fun d hd => setRow_other w c d arr' hd) (fun o ho => ?_) rfl rfl
    rw [cell_of_block h.jhb, cell_of_block (setRow_heap w c arr arr' Ty _ h.jhb)]
    exact hlow o (h.jlim o ho).2
  -- what is new is frozen, if the slice is
  have hcl : c < w.heap.size := heap_lt h.jhb
  let g1 : Gh := if frz then g.fr c (rows.length * wd) ((rows ++ rs).length * wd) else g
  have hg1F : ∀ d o, g1.Fz d o ↔ (g.Fz d o ∨ (frz = true ∧ d = c ∧ rows.length * wd ≤ o ∧ o < (rows ++ rs).length * wd)) := by
    intro d o
    cases frz <;> simp [g1, Gh.fr]
  have hg1om : g1.om = g.om := by cases frz <;> rfl
  have hg1be : g1.be = g.be := by cases frz <;> rfl
  have hg1n : g1.n = g.n := by cases frz <;> rfl
  have s2 : Stp (w.setRow c arr') g (w.setRow c arr') g1 (Under p) := by
    refine ⟨Nat.le_refl _, fun _ _ _ => rfl, fun d o hd => ⟨(hg1F d o).2 (.inl hd), rfl⟩, fun d o hd => ?_, fun d _ _ => by rw [hg1om], fun d hd => by rw [hg1om] at hd; exact .inr hd, fun i _ => by rw [hg1be], by rw [hg1n]; exact Nat.le_refl _, rfl, rfl, s1.no⟩
    rcases (hg1F d o).1 hd with hd | ⟨_, rfl, _⟩
    · exact .inl hd
    · exact .inr (.inr ⟨[], by simp [h.jom]⟩)
  have s3 : Stp (w.setRow c arr') g1 (w.setRow c arr') (g1.mv p dst) (Under p) := Stp.mv _ _ p dst hp _ s1.no (fun _ h => h)
  have s12 := s1.trans s2 (fun _ h => h) (fun _ h => h) s1.no
  have s := s12.trans s3 (fun _ h => h) (fun _ h => h) s1.no
  have hFz : (g1.mv p dst).Fz = g1.Fz := rfl
  refine ⟨_, w.setRow c arr', g1.mv p dst, hrun, ?_, s, hg1n, fun d o hd => ?_, fun d hd => ?_⟩
  · have hlen : (rows ++ rs).length = rows.length + rs.length := List.length_append
    rw [← hlen]
    refine Own.acr (c := c) (arr := arr') (T := Ty) ⟨?_, setRow_heap w c arr arr' Ty _ h.jhb, by rw [hsz, h.jsz], by rw [hlen]; exact hle, fun i row e => ?_, fun i j row y e1 e2 => ?_, fun hf i j row y e1 e2 => ?_, fun o ho => ?_⟩ hd
    · have := Gh.mv_under g1 p dst [] c (by rw [hg1om, h.jom]; simp)
      simpa using this
    · rcases app_get e with ⟨_, e⟩ | ⟨_, e⟩
      · exact h.jwd i row e
      · exact hw row (List.mem_of_getElem? e)
    · rcases app_get e1 with ⟨hi, e1⟩ | ⟨hi, e1⟩
      · obtain ⟨u, u1, u2, u3⟩ := h.jct i j row y e1 e2
        have hj : j < wd := by rw [← h.jwd i row e1]; exact get_lt e2
        exact ⟨u, (hlow _ (idx_lt hi hj)).trans u1, u2, u3.mono s.fz⟩
      · obtain ⟨u, u1, u2, u3⟩ := f4 _ j row y e1 e2
        have hj : j < wd := by rw [← hw row (List.mem_of_getElem? e1)]; exact get_lt e2
        have hlt := idx_lt (get_lt e1) hj
        have he : i * wd + j = rows.length * wd + ((i - rows.length) * wd + j) := by
          rw [← Nat.add_assoc, ← Nat.add_mul]; congr 2; omega
        refine ⟨u, ?_, u3, u2.mono s.fz⟩
        rw [hget, he, if_pos (by rw [hnl]; omega), show rows.length * wd + ((i - rows.length) * wd + j) - rows.length * wd = (i - rows.length) * wd + j by omega]
        rw [Array.getElem?_toList]; exact u1
    · rw [hFz, hg1F]
      rcases app_get e1 with ⟨hi, e1'⟩ | ⟨hi, e1'⟩
      · exact .inl (h.jfz hf i j row y e1' e2)
      · have hj : j < wd := by rw [← hw row (List.mem_of_getElem? e1')]; exact get_lt e2
        refine .inr ⟨hf, rfl, ?_, idx_lt (get_lt e1) hj⟩
        exact Nat.le_trans (Nat.mul_le_mul_right wd hi) (Nat.le_add_right _ _)
    · rw [hFz, hg1F] at ho
      rcases ho with ho | ⟨hf, _, _, ho⟩
      · obtain ⟨a, b⟩ := h.jlim o ho
        refine ⟨a, Nat.lt_of_lt_of_le b (Nat.mul_le_mul_right wd ?_)⟩
        rw [hlen]; omega
      · exact ⟨hf, ho⟩
  · rw [hFz, hg1F] at hd
    rcases hd with hd | ⟨_, rfl, _⟩
    · simpa using hfz d o hd
    · simpa using hcl
  · by_cases hu : Under p (g1.om d)
    · rw [hg1om] at hu
      have : g.om d ≠ [] := by
        obtain ⟨r, hr⟩ := hu
        rw [hr]; cases p with | nil => exact (hp rfl).elim | cons a l => simp
      simpa using hom d this
    · rw [Gh.mv_other _ _ _ _ hu, hg1om] at hd
      simpa using hom d hd

end
end Go.Abs
