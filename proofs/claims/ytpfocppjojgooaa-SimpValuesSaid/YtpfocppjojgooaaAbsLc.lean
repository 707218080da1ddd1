/-
  Iterators over maps. Program-independent.
-/
import Derived.Test.YtpfocppjojgooaaAbsLb
set_option linter.unusedSimpArgs false
set_option linter.unusedVariables false
namespace Go.Abs

section
variable {P : Program} {w w' : World} {g g' : Gh} {tmps tmps' : Array Value} {st st' : St} {G G' : Env} {ds : List Deferred}

theorem range_gets {α : Type} (a : Array α) (n : Nat) (hn : a.size = n) : (List.range n).map (fun i => a[i]?) = a.toList.map some := by
  subst hn
  apply List.ext_getElem?
  intro j
  by_cases hj : j < a.size
  · simp [hj]
  · rw [List.getElem?_eq_none (by simpa using Nat.le_of_not_lt hj), List.getElem?_eq_none (by simpa using Nat.le_of_not_lt hj)]

def isMapT (P : Program) (T : TypeId) : Bool := match P.underlying T with | some (.map _ _) => true | _ => false

theorem done_rng (h : StR w g tmps st) (he : EnvR w tmps st G) {o : Oper} {d T : Nat} {a : Operand} {m : AO} (hd : o.dst = some d) (ho : o.op = .range T a) (ha : opd a m = true) (ht : isMapT P T = true) (hx : exop st (.rng d m) = some st') :
    Done P w g o { tmps, defers := ds } st' (kill G d) := by
  simp only [exop] at hx
  split at hx
  · rename_i blk e1
    split at hx
    · rename_i es e4
      cases hx
      have hm := opd_c (ds := ds) h ha e1 []
      generalize hva : Act.eval { tmps, defers := ds } a = va at hm
      cases hm with
      | m _ hlt =>
      obtain ⟨ents, clock, b1, b2, bz, b3, b4, b5, b6⟩ := h.hp blk _ e4
      unfold isMapT at ht
      split at ht
      · rename_i kT eT hu
        generalize hg : g.add w [1, g.n] (fun _ => False) true = g1
        generalize hob : Obj.mapIter (some (g.be blk)) clock #[] clock = ob
        have s : Stp w g (w.alloc ob) g1 Never := hg ▸ Stp.alloc w g _ [1, g.n] (fun _ => False) true h.fz Never (fun h => h)
        have hbe : g1.be g.n = w.heap.size := hg ▸ new_be w g _ _
        have hnn : g1.n = g.n + 1 := hg ▸ new_n w g _ _
        have hom : g1.om w.heap.size = [1, g.n] := by rw [← hg]; simp [Gh.add]
        have hz : ∀ i, ¬ g1.Fz w.heap.size i := by
          intro i hi
          rw [← hg] at hi
          rcases hi with hi | ⟨_, hi⟩
          · have := h.fz _ _ hi; omega
          · exact hi
        have hxx : SVR (w.alloc ob) g1 [0, d] (.e (.c (.it st.h.length))) (.pointer (some ⟨w.heap.size, 0, none⟩)) := by
          have := ACR.it (w := w.alloc ob) (g := g1) (own := [0, d]) st.h.length (by rw [hnn, h.n]; omega)
          rw [← h.n, hbe] at this
          rw [← h.n]
          exact .e (.c this)
        have hb : HBR (w.alloc ob) g1 st.h.length (.iter blk (List.range es.length) none) := by
          rw [← h.n]
          have hsb : g1.be blk = g.be blk := s.be blk hlt
          refine ⟨by omega, clock, #[], ents, clock, by rw [hbe, hsb, hob]; exact alloc_get_new _ _, by rw [hbe]; exact hom, by rw [hbe]; exact hz, by rw [hsb, alloc_get_old _ _ (heap_lt b1)]; exact b1,
            by rw [hsb, s.om _ (heap_lt b1) (fun h => h)]; exact b2, b4, Nat.le_refl _, b5, ?_, fun k q => by cases q⟩
          rw [range_gets ents _ b3]
          congr 1
          have : ents.toList.filter (fun e => !(#[] : Array Nat).contains e.born) = ents.toList := List.filter_eq_self.2 (fun e _ => by simp)
          simp only [LeftOf, Array.toList_filter]
          exact this.symm
        refine ⟨.value (.pointer (some ⟨w.heap.size, 0, none⟩)), _, _, g1, ?_, .inl rfl, ?_, ?_, s.mono (fun _ h => h.elim) nn⟩
        · simp [execOp, ho, hva, Instr.range, run_under hu, MapKept.run_getObj_map b1, Result.andThen, hob]
        · rw [hd]; exact h.grow s d _ _ _ hnn hxx hb (hg ▸ add_fz h _ _ _ _) (hg ▸ add_om h _ _ _ _)
        · rw [hd]; exact he.grow h s d _ _ _
      · cases ht
    · cases hx
  · cases hx

theorem find_born {ents : Array MapEntry} (hu : ∀ (k l : Nat) (e e' : MapEntry), ents[k]? = some e → ents[l]? = some e' → e.born = e'.born → k = l) {k : Nat} {e : MapEntry} (hk : ents[k]? = some e) : ents.find? (fun x => x.born == e.born) = some e := by
  cases hf : ents.find? (fun x => x.born == e.born) with
  | none =>
    rw [Array.find?_eq_none] at hf
    exact (hf e (Array.mem_of_getElem? hk) (by simp)).elim
  | some e' =>
    have h1 := Array.find?_some hf
    obtain ⟨l, hl⟩ := Array.mem_iff_getElem?.1 (Array.mem_of_find?_eq_some hf)
    simp only [beq_iff_eq] at h1
    have := hu l k e' e hl hk h1
    subst this
    rw [hk] at hl; exact hl.symm

theorem run_getIt {m : Option Nat} {a c : Nat} {b : Array Nat} {r : Nat} (hb : w.heap[r]? = some (.mapIter m a b c)) : (getObj r).run P w = .ok (.mapIter m a b c) w := by simp [getObj, Sem.run, hb]

theorem done_ent (h : StR w g tmps st) (he : EnvR w tmps st G) {o : Oper} {d : Nat} {a : Operand} {it : AO} (hd : o.dst = some d) (ho : o.op = .entry a) (ha : opd a it = true) (hx : exop st (.ent d it) = some st') :
    Done P w g o { tmps, defers := ds } st' (kill G d) := by
  simp only [exop] at hx
  split at hx
  · rename_i i e1
    split at hx
    · rename_i mp left k e2
      split at hx
      · rename_i es e3
        split at hx
        · rename_i key v e4
          cases hx
          have hm := opd_c (ds := ds) h ha e1 []
          generalize hva : Act.eval { tmps, defers := ds } a = va at hm
          cases hm with
          | it _ hlt =>
          obtain ⟨hmp, since, seen, ents, clock, c1, c2, cz, c3, c4, c5, c6, b5, c7, c8⟩ := h.hp i _ e2
          obtain ⟨ents', clock', b1, b2, bz, b3, b4, _, b6⟩ := h.hp mp _ e3
          rw [c3] at b1
          cases b1
          obtain ⟨e, q1, q2⟩ := c8 k rfl
          obtain ⟨r1, r2⟩ := b6 k _ e e4 q1
          refine done_val h he hd (v := .tuple #[e.key, e.val]) ?_ ?_
          · simp [execOp, ho, hva, Instr.entry, run_getIt c1, q2, MapKept.run_getObj_map c3, find_born b5 q1, Result.andThen]
          · refine .tu _ _ rfl (fun j y u p1 p2 => ?_)
            match j with
            | 0 => simp at p1 p2; subst p1 p2; exact EVR.ofT r1 _
            | 1 => simp at p1 p2; subst p1 p2; exact r2.read _
            | j + 2 => simp at p1
        · cases hx
      · cases hx
    · cases hx
  · cases hx

/- a step of an iterator -/
theorem erase_born : ∀ (L : List MapEntry) (j : Nat) (e : MapEntry), (L.map (·.born)).Nodup → L[j]? = some e → L.filter (fun x => x.born != e.born) = L.eraseIdx j
  | [], j, e, _, h => by simp at h
  | x :: L, 0, e, hn, h => by
    simp only [List.getElem?_cons_zero, Option.some.injEq] at h
    subst h
    simp only [List.map_cons, List.nodup_cons] at hn
    simp only [List.eraseIdx_cons_zero, List.filter_cons, bne_self_eq_false, Bool.false_eq_true, if_false]
    refine List.filter_eq_self.2 (fun y hy => ?_)
    simp only [bne_iff_ne, ne_eq]
    intro he
    exact hn.1 (he ▸ List.mem_map.2 ⟨y, hy, rfl⟩)
  | x :: L, j + 1, e, hn, h => by
    simp only [List.getElem?_cons_succ] at h
    simp only [List.map_cons, List.nodup_cons] at hn
    have hne : x.born ≠ e.born := fun he => hn.1 (he ▸ List.mem_map.2 ⟨e, List.mem_of_getElem? h, rfl⟩)
    have ih := erase_born L j e hn.2 h
    simp [List.filter_cons, hne, ih]

theorem map_erase {α β : Type} (f : α → β) : ∀ (l : List α) (j : Nat), (l.eraseIdx j).map f = (l.map f).eraseIdx j
  | [], j => by simp
  | x :: l, 0 => rfl
  | x :: l, j + 1 => by simp [map_erase f l j]

theorem nodup_born {ents : Array MapEntry} (hu : ∀ (k l : Nat) (e e' : MapEntry), ents[k]? = some e → ents[l]? = some e' → e.born = e'.born → k = l) : (ents.toList.map (·.born)).Nodup := by
  rw [List.nodup_iff_pairwise_ne, List.pairwise_iff_getElem]
  intro i j hi hj hij he
  simp only [List.length_map, Array.length_toList] at hi hj
  have h1 : ents[i]? = some ents[i] := by simp [hi]
  have h2 : ents[j]? = some ents[j] := by simp [hj]
  have := hu i j _ _ h1 h2 (by simpa using he)
  omega

theorem left_push (ents : Array MapEntry) (seen : Array Nat) (b : Nat) : LeftOf ents (seen.push b) = (LeftOf ents seen).filter (fun x => x.born != b) := by
  simp only [LeftOf, Array.toList_filter, List.filter_filter]
  congr 1
  funext x
  simp [Array.contains_push, Bool.and_comm, bne, Nat.beq_eq_true_eq]
  by_cases hx : x.born = b
  · simp [hx]
  · simp [hx, beq_eq_false_iff_ne.2 hx]

theorem choose_next (n : Nat) (hn : 0 < n) : ∃ (j : Nat) (w1 : World), j < n ∧ (w1 = w ∨ w1 = w.drew) ∧ (choose (Question.mapNext n)).run P w = .ok j w1 := by
  by_cases hf : n ≤ 1
  · exact ⟨0, w, by omega, .inl rfl, by simp [choose, Sem.run, Question.forced, hf]⟩
  · exact ⟨_, w.drew, Nat.mod_lt _ (by omega), .inr rfl, by
      simp only [choose, Sem.run, Question.forced, decide_eq_true_eq, hf, if_false, Question.cut]
      rfl⟩

theorem next_run {r m since clock T : Nat} {seen : Array Nat} {ents L : Array MapEntry} (c1 : w.heap[r]? = some (.mapIter (some m) since seen clock)) (c3 : w.heap[m]? = some (.map ents clock))
    (hgate : (!seen.isEmpty && !ents.isEmpty && ents.all (fun e => decide (e.born ≥ clock))) = false) (hL : (ents.filter fun e => !seen.contains e.born) = L) (hold : L.filter (fun e => decide (e.born < since)) = L)
    (hnew : L.filter (fun e => decide (e.born ≥ since)) = #[]) :
    (Instr.next (.pointer (some ⟨r, 0, none⟩)) false T).run P w = ((choose (.mapNext ((if L.isEmpty then #[none] else #[]) ++ L.map some).size)).run P w).andThen (fun j w1 =>
      (match ((if L.isEmpty then #[none] else #[]) ++ L.map some)[j]? with
        | some (some e) => (do setObj r (.mapIter (some m) since (seen.push e.born) clock); pure (.tuple #[.bool true, e.key, e.val]) : Sem Value)
        | some none => pure (.tuple #[.bool false])
        | none => stuck "Next: no such candidate").run P w1) := by
  simp only [Instr.next, Sem.run_bind, run_getIt c1, Result.andThen_ok, MapKept.run_getObj_map c3, hgate, Bool.false_eq_true, if_false, Sem.run_pure, hL, hold, hnew, Array.append_empty]
  rfl

theorem done_nxt (h : StR w g tmps st) (he : EnvR w tmps st G) {o : Oper} {d : Nat} {a : Operand} {it : AO} {l : List St} (hd : o.dst = some d) (ho : o.op = .next a false) (ha : opd a it = true) (hx : nxts st d it = some l) :
    ∃ st', st' ∈ l ∧ Done P w g o { tmps, defers := ds } st' (kill G d) := by
  simp only [nxts] at hx
  split at hx
  · rename_i i e1
    split at hx
    · rename_i mp left cur e2
      have hm := opd_c (ds := ds) h ha e1 []
      generalize hva : Act.eval { tmps, defers := ds } a = va at hm
      cases hm with
      | it _ hlt =>
      obtain ⟨hmp, since, seen, ents, clock, c1, c2, cz, c3, c4, c5, c6, b5, c7, c8⟩ := h.hp i _ e2
      have hold : (ents.filter fun e => !seen.contains e.born).filter (fun e => decide (e.born < since)) = ents.filter fun e => !seen.contains e.born := by
        apply Array.filter_eq_self.2
        intro e hm
        obtain ⟨k, hk⟩ := Array.mem_iff_getElem?.1 (Array.mem_filter.1 hm).1
        simpa using c5 k e hk
      have hnew : (ents.filter fun e => !seen.contains e.born).filter (fun e => decide (e.born ≥ since)) = #[] := by
        apply Array.filter_eq_empty_iff.2
        intro e hm
        obtain ⟨k, hk⟩ := Array.mem_iff_getElem?.1 (Array.mem_filter.1 hm).1
        have := c5 k e hk
        simp; omega
      have hgate : (!seen.isEmpty && !ents.isEmpty && ents.all (fun e => decide (e.born ≥ clock))) = false := by
        cases hne : ents.isEmpty with
        | true => simp
        | false =>
          have hsz : 0 < ents.size := by
            rcases Nat.eq_zero_or_pos ents.size with h0 | h0
            · simp [Array.isEmpty, h0] at hne
            · exact h0
          have h0 := c5 0 ents[0] (by simp [hsz])
          have : ents.all (fun e => decide (e.born ≥ clock)) = false := by
            rw [Array.all_eq_false]
            exact ⟨0, hsz, by simp; omega⟩
          simp [this]
      have hlist : (ents.filter fun e => !seen.contains e.born).toList = LeftOf ents seen := rfl
      have hnr := fun T => next_run (P := P) (T := T) c1 c3 hgate rfl hold hnew
      generalize hL : (ents.filter fun e => !seen.contains e.born) = L at hnr hlist
      split at hx
      · cases hx
        have hLe : L = #[] := by
          apply Array.toList_inj.1
          rw [hlist]
          simp at c7
          simpa using c7
        subst hLe
        refine ⟨_, List.mem_singleton.2 rfl, done_val h he hd (v := .tuple #[.bool false]) ?_ ?_⟩
        · simp only [execOp, ho, hva, Sem.run_bind, hnr]
          simp [choose, Sem.run, Question.forced, Result.andThen]
        · refine .tu _ _ rfl (fun j y u p1 p2 => ?_)
          match j with
          | 0 => simp at p1 p2; subst p1 p2; exact .c (.t (.b false))
          | j + 1 => simp at p1
      · rename_i hne
        cases hx
        have hlen : left.length = L.size := by
          have := congrArg List.length c7
          rw [← hlist] at this
          simpa using this
        have hpos : 0 < L.size := by
          rw [← hlen]
          cases left with
          | nil => exact (hne rfl).elim
          | cons => simp
        have hemp : L.isEmpty = false := by
          cases hq : L.isEmpty with
          | false => rfl
          | true => rw [Array.isEmpty_iff] at hq; subst hq; simp at hpos
        obtain ⟨j, w1, hj, hw1, hch⟩ := choose_next (P := P) (w := w) L.size hpos
        have hwh : w1.heap = w.heap ∧ w1.output = w.output ∧ w1.os = w.os := by
          rcases hw1 with rfl | rfl
          · exact ⟨rfl, rfl, rfl⟩
          · exact ⟨rfl, rfl, rfl⟩
        have hLj : L.toList[j]? = some L[j] := by simp [hj]
        generalize hee : L[j] = e at hLj
        -- the entry, and its index
        have hlj : ∃ k, left[j]? = some k ∧ ents[k]? = some e := by
          have h1 : (left.map (fun k => ents[k]?))[j]? = some (some e) := by rw [c7, ← hlist, List.getElem?_map, hLj]; rfl
          obtain ⟨k, k1, k2⟩ := map_get h1
          exact ⟨k, k1, k2⟩
        obtain ⟨k, k1, k2⟩ := hlj
        obtain ⟨o2, ho2⟩ : ∃ o2, Obj.mapIter (some (g.be mp)) since (seen.push e.born) clock = o2 := ⟨_, rfl⟩
        obtain ⟨w2, hw2⟩ : ∃ w2 : World, w2 = { w1 with heap := w1.heap.setIfInBounds (g.be i) o2 } := ⟨_, rfl⟩
        have hs2 : w2.heap = w1.heap.setIfInBounds (g.be i) o2 := by rw [hw2]
        have hb1 : w1.heap[g.be i]? = some (.mapIter (some (g.be mp)) since seen clock) := by rw [hwh.1]; exact c1
        have hset := MapKept.heap_set (o' := o2) hb1
        rw [← hs2] at hset
        have s1 : Stp w g w2 g (atBlk i) := by
          refine Stp.write w w2 g (g.be i) _ (by simp [atBlk]) c2 (by rw [hs2]; simp [hwh.1]) (fun r hr => ?_) (fun o ho => (cz o ho).elim) (by rw [hw2]; exact hwh.2.1) (by rw [hw2]; exact hwh.2.2)
          rw [hset.2 r hr, hwh.1]
        have hmi : mp ≠ i := by
          rintro rfl
          rw [c3] at c1; cases c1
        have hbe : g.be mp ≠ g.be i := by
          intro q
          rw [q, c1] at c3; cases c3
        have hb' : HBR w2 g i (.iter mp (left.eraseIdx j) (left[j]?)) := by
          refine ⟨hmp, since, seen.push e.born, ents, clock, by rw [ho2]; exact hset.1, c2, cz, by rw [hset.2 _ hbe, hwh.1]; exact c3, c4, c5, c6, b5, ?_, fun k' q => ?_⟩
          · have hnd : ((LeftOf ents seen).map (·.born)).Nodup := by
              refine List.Sublist.nodup ?_ (nodup_born b5)
              rw [← hlist, ← hL, Array.toList_filter]
              exact List.filter_sublist.map _
            rw [left_push, erase_born _ j e hnd (by rw [← hlist]; exact hLj), map_erase, map_erase, c7]
          · rw [k1] at q; cases q
            exact ⟨e, k2, by simp⟩
        refine ⟨_, List.mem_map.2 ⟨j, by simp [hlen, hj], rfl⟩, .value (.tuple #[.bool true, e.key, e.val]), _, w2, g, ?_, .inl rfl, ?_, ?_, s1.mono (fun o e => by rw [e]; simp) nn⟩
        · simp only [execOp, ho, hva, Sem.run_bind, hnr, hemp, Bool.false_eq_true, if_false, Array.empty_append, Array.size_map, hch, Result.andThen_ok, Array.getElem?_map]
          rw [show L[j]? = some e by rw [← hee]; simp [hj]]
          have hso : (setObj (g.be i) (.mapIter (some (g.be mp)) since (seen.push e.born) clock)).run P w1 = .ok () w2 := by
            rw [hw2, ← ho2]
            simp [setObj, Sem.run, hb1]
          simp only [Option.map_some, Sem.run_bind, hso, Result.andThen_ok, Sem.run_pure]
        · rw [hd]
          refine (h.chg s1 rfl (fun i' l' c' q => ?_) _ hb' (fun c o h' => ?_) (fun c h' => ?_)).put0 d _ _ ?_
          · obtain ⟨_, _, _, _, _, _, _, _, r3, _⟩ := h.hp i' _ q
            rw [c1] at r3; cases r3
          · rw [hs2]; simpa [hwh.1] using h.fz c o h'
          · rw [hs2]; simpa [hwh.1] using h.om c h'
          · refine .tu _ _ rfl (fun j y u p1 p2 => ?_)
            match j with
            | 0 => simp at p1 p2; subst p1 p2; exact .c (.t (.b true))
            | 1 => simp at p1 p2; subst p1 p2; exact .c .und
            | 2 => simp at p1 p2; subst p1 p2; exact .c .und
            | j + 3 => simp at p1
        · rw [hd]
          refine he.step h s1 (fun t r hr => ?_)
          obtain ⟨m1, m2, m3⟩ := mem_kill hr
          exact ⟨m1, setIf_other _ _ _ _ m2, setIf_other _ _ _ _ m3, fun s col e => ⟨by simp [atBlk], put_other st d s _ (by rw [e] at m3; exact m3)⟩⟩
    · cases hx
  · cases hx

end
end Go.Abs
