/-
  Operations on blocks that several values may refer to. Program-independent.
-/
import Derived.Test.YtpfocppjojgooaaAbsL
import Derived.MapKept
set_option linter.unusedSimpArgs false
set_option linter.unusedVariables false
namespace Go.Abs

section
variable {P : Program} {w w' : World} {g g' : Gh} {tmps tmps' : Array Value} {st st' : St} {G G' : Env} {ds : List Deferred}

theorem set_get {α : Type} {l : List α} {r i : Nat} {x y : α} (h : (l.set r x)[i]? = some y) : (i = r ∧ y = x) ∨ (i ≠ r ∧ l[i]? = some y) := by
  by_cases hr : r = i
  · subst hr
    have hlt : r < l.length := by have := get_lt h; simpa using this
    rw [List.getElem?_set_self hlt] at h
    exact .inl ⟨rfl, by simpa using h.symm⟩
  · rw [List.getElem?_set_ne hr] at h
    exact .inr ⟨fun e => hr e.symm, h⟩

/-- a new block, and a slot that refers to it -/
theorem StR.grow (h : StR w g tmps st) (s : Stp w g w' g' Never) (d : Nat) (x : SV) (v : Value) (b : HB) (hn : g'.n = g.n + 1) (hx : SVR w' g' [0, d] x v) (hb : HBR w' g' st.h.length b)
    (fz : ∀ c o, g'.Fz c o → c < w'.heap.size) (om : ∀ c, g'.om c ≠ [] → c < w'.heap.size) : StR w' g' (tmps.setIfInBounds d v) { sl := st.sl.set d x, h := st.h ++ [b] } := by
  refine ⟨by simp [h.len], fun n y u e1 e2 => ?_, fun i c e => ?_, fz, om, by simp [hn, h.n]⟩
  · by_cases hd : n = d
    · subst hd
      have : y = x := put_same (st := st) e1
      rw [this, setIf_same e2]; exact hx
    · have e1' : st.sl[n]? = some y := by rw [← put_other st d n x hd]; exact e1
      rw [setIf_other _ _ _ _ hd] at e2
      exact (h.sl n y u e1' e2).step s (fun _ h => h)
  · have e : (st.h ++ [b])[i]? = some c := e
    rw [List.getElem?_append] at e
    split at e
    · rename_i hi
      exact (h.hp i c e).step s (by rw [h.n]; exact hi) (fun _ _ h => h)
    · rename_i hi
      have hi2 : i = st.h.length := by
        have := get_lt e
        simp at this; omega
      subst hi2
      simp at e
      subst e
      exact hb

def atBlk (blk : Nat) : List Nat → Prop := fun o => o = [1, blk]

/-- one block is changed -/
theorem StR.chg (h : StR w g tmps st) {blk : Nat} (s : Stp w g w' g' (atBlk blk)) (hn : g'.n = g.n) (hit : ∀ i l c, st.h[i]? = some (.iter blk l c) → i = blk) (b : HB) (hb : HBR w' g' blk b)
    (fz : ∀ c o, g'.Fz c o → c < w'.heap.size) (om : ∀ c, g'.om c ≠ [] → c < w'.heap.size) : StR w' g' tmps { st with h := st.h.set blk b } := by
  refine ⟨h.len, fun n y u e1 e2 => (h.sl n y u e1 e2).step s (fun r hr => by simp [atBlk] at hr), fun i c e => ?_, fz, om, by simp [hn, h.n]⟩
  rcases set_get (l := st.h) e with ⟨rfl, rfl⟩ | ⟨hi, e2⟩
  · exact hb
  · clear e
    refine (h.hp i c e2).step' s (by rw [h.n]; exact get_lt e2) (fun r hr => ?_) (fun mp l c' hc hr => ?_)
    · simp [atBlk] at hr; exact hi hr.1
    · simp [atBlk] at hr
      subst hc
      subst hr
      exact hi (hit i l c' e2)

theorem EnvR.chg (he : EnvR w tmps st G) (h : StR w g tmps st) {blk : Nat} (s : Stp w g w' g' (atBlk blk)) (hh : List HB) : EnvR w' tmps { st with h := hh } G :=
  he.step h s (fun t r hr => ⟨hr, rfl, rfl, fun s col e => ⟨by simp [atBlk], rfl⟩⟩)
theorem EnvR.grow (he : EnvR w tmps st G) (h : StR w g tmps st) (s : Stp w g w' g' Never) (d : Nat) (x : SV) (v : Value) (hh : List HB) : EnvR w' (tmps.setIfInBounds d v) { sl := st.sl.set d x, h := hh } (kill G d) := by
  refine he.step h s (fun t r hr => ?_)
  obtain ⟨h1, h2, h3⟩ := mem_kill hr
  exact ⟨h1, setIf_other _ _ _ _ h2, setIf_other _ _ _ _ h3, fun s col e => ⟨fun h => h, put_other st d s x (by rw [e] at h3; exact h3)⟩⟩

theorem new_be (w : World) (g : Gh) (own : List Nat) (frz : Nat → Prop) : (g.add w own frz true).be g.n = w.heap.size := by simp [Gh.add]
theorem new_n (w : World) (g : Gh) (own : List Nat) (frz : Nat → Prop) : (g.add w own frz true).n = g.n + 1 := by simp [Gh.add]

theorem done_hp (h : StR w g tmps st) (he : EnvR w tmps st G) {o : Oper} {d : Nat} {T : TypeId} {cs : List AC} {arr : Array Value} (hd : o.dst = some d) (hp : Plain w g cs arr)
    (run : (execOp (Act.eval { tmps, defers := ds }) o).run P w = .ok (.value (.pointer (some ⟨w.heap.size, 0, none⟩))) (w.alloc (.cells arr T (0, 0)))) :
    Done P w g o { tmps, defers := ds } { sl := st.sl.set d (.e (.c (.p st.h.length cs.length 0 0))), h := st.h ++ [.rows cs.length [cs]] } (kill G d) := by
  generalize hg : g.add w [1, g.n] (fun _ => False) true = g1
  have s : Stp w g (w.alloc (.cells arr T (0, 0))) g1 Never := hg ▸ Stp.alloc w g _ [1, g.n] (fun _ => False) true h.fz Never (fun h => h)
  have hbe : g1.be g.n = w.heap.size := hg ▸ new_be w g _ _
  have hnn : g1.n = g.n + 1 := hg ▸ new_n w g _ _
  have hom : g1.om w.heap.size = [1, g.n] := by rw [← hg]; simp [Gh.add]
  have hz : ∀ i, ¬ g1.Fz w.heap.size i := by
    intro i hi
    rw [← hg] at hi
    rcases hi with hi | ⟨_, hi⟩
    · have := h.fz _ _ hi; omega
    · exact hi
  have hx : SVR (w.alloc (.cells arr T (0, 0))) g1 [0, d] (.e (.c (.p st.h.length cs.length 0 0))) (.pointer (some ⟨w.heap.size, 0, none⟩)) := by
    have := ACR.p (w := w.alloc (.cells arr T (0, 0))) (g := g1) (own := [0, d]) st.h.length cs.length 0 0 (by rw [hnn, h.n]; omega)
    rw [← h.n, hbe] at this
    rw [← h.n]
    exact .e (.c (by simpa using this))
  have hb : HBR (w.alloc (.cells arr T (0, 0))) g1 st.h.length (.rows cs.length [cs]) := by
    rw [← h.n]
    refine ⟨arr, T, by rw [hbe]; exact alloc_get_new _ _, by rw [hbe]; exact hom, by rw [hbe]; exact hz, by simp [hp.1], fun r row e => ?_, fun r j row x e1 e2 => ?_⟩
    · cases r with
      | zero => simp at e; rw [← e]
      | succ r => simp at e
    · cases r with
      | zero =>
        simp at e1; subst e1
        have hj : j < arr.size := by rw [hp.1]; exact get_lt e2
        have ha : arr[j]? = some arr[j] := by simp [hj]
        obtain ⟨k1, k2⟩ := (hp.step s rfl).2 j x _ e2 ha
        exact ⟨_, (by rw [Nat.zero_mul, Nat.zero_add]; exact ha), k1, k2 _⟩
      | succ r => simp at e1
  refine ⟨_, _, _, g1, run, .inl rfl, ?_, ?_, s.mono (fun _ h => h.elim) nn⟩
  · rw [hd]; exact h.grow s d _ _ _ hnn hx hb (hg ▸ add_fz h _ _ _ _) (hg ▸ add_om h _ _ _ _)
  · rw [hd]; exact he.grow h s d _ _ _

theorem done_hpn (h : StR w g tmps st) (he : EnvR w tmps st G) {o : Oper} {d T : Nat} {zero : List TV} (hd : o.dst = some d) (ho : o.op = .alloc T) (hz : zeroIs P T zero = true) (hx : exop st (.hpn d zero) = some st') :
    Done P w g o { tmps, defers := ds } st' (kill G d) := by
  obtain ⟨z, z1, z2⟩ := zero_plain (w := w) (g := g) hz
  simp only [exop, Option.some.injEq] at hx
  subst hx
  have := done_hp (ds := ds) h he hd z2 (T := T) (P := P) (by simp [execOp, ho, Instr.alloc, z1, run_newVar])
  simpa using this

theorem done_hpv (h : StR w g tmps st) (he : EnvR w tmps st G) {o : Oper} {d T : Nat} {a : Operand} {x : AO} (hd : o.dst = some d) (ho : o.op = .box T a) (hc : opd a x = true)
    (hx : exop st (.hpv d x) = some st') : Done P w g o { tmps, defers := ds } st' (kill G d) := by
  simp only [exop] at hx
  split at hx
  · rename_i l hl
    cases hx
    have hp := stored_sound (ds := ds) h hc hl
    exact done_hp h he hd hp (T := T) (by simp [execOp, ho, Instr.box, run_newVar])
  · cases hx

/-- no iterator runs over rows -/
theorem rows_noIt (h : StR w g tmps st) {blk wd : Nat} {rs : List (List AC)} (hb : st.h[blk]? = some (.rows wd rs)) : ∀ i l c, st.h[i]? = some (.iter blk l c) → i = blk := by
  intro i l c e
  obtain ⟨arr, Ty, h1, _⟩ := h.hp blk _ hb
  obtain ⟨_, since, seen, ents, clock, _, _, _, h3, _⟩ := h.hp i _ e
  rw [h1] at h3; cases h3

theorem done_stp (h : StR w g tmps st) (he : EnvR w tmps st G) {o : Oper} {n T : Nat} {a b : Operand} {xa x : AO} (hd : o.dst = none) (ho : o.op = .store T a b) (ha : opd a xa = true)
    (hT : szT P T = some n) (hb : opd b x = true) (hx : exop st (.stp xa n x) = some st') : Done P w g o { tmps, defers := ds } st' G := by
  simp only [exop] at hx
  split at hx
  · rename_i blk wd r col l e1 e2
    split at hx
    · rename_i wd' rs e3
      split at hx
      · rename_i row e4
        split at hx
        · rename_i hh
          obtain ⟨rfl, hl, hle⟩ := hh
          cases hx
          have hp := stored_sound (ds := ds) h hb e2
          have hptr := opd_c (ds := ds) h ha e1 []
          generalize hv : Act.eval { tmps, defers := ds } b = v at hp
          generalize hv2 : Act.eval { tmps, defers := ds } a = va at hptr
          cases hptr with
          | p _ _ _ _ hlt =>
          obtain ⟨arr, Ty, f1, f2, f3, f4, f5, f6⟩ := h.hp blk _ e3
          have hsz : v.cells.size = n := by rw [hp.1, hl]
          have hr : r < rs.length := get_lt e4
          have hrow : row.length = wd := f5 r row e4
          have hbound : r * wd + wd ≤ rs.length * wd := by
            have := Nat.mul_le_mul_right wd (Nat.succ_le_of_lt hr)
            rw [Nat.succ_mul] at this; exact this
          have hcol : r * wd + col + n ≤ arr.size := by omega
          have hrun := storeAt_run (P := P) (w := w) hT hsz f1 hcol (plain_one hp)
          generalize harr : (arr.toList.take (r * wd + col) ++ v.cells.toList ++ arr.toList.drop (r * wd + col + v.cells.toList.length)).toArray = arr' at hrun
          have s1 : Stp w g (w.setRow (g.be blk) arr') g (atBlk blk) :=
            Stp.write w _ g (g.be blk) _ (by simp [atBlk]) f2 (by simp) (fun d hd => setRow_other w _ d arr' hd) (fun o h => (f3 o h).elim) rfl rfl
          have hvl : v.cells.toList.length = n := by simpa using hsz
          have hget : ∀ j, arr'[j]? = if r * wd + col ≤ j ∧ j < r * wd + col + n then v.cells.toList[j - (r * wd + col)]? else arr[j]? := by
            intro j; rw [← harr, splice_get arr _ _ j (by rw [hvl]; exact hcol), hvl]
          have hb' : HBR (w.setRow (g.be blk) arr') g blk (.rows wd (rs.set r (putAt row col l))) := by
            refine ⟨arr', Ty, setRow_heap w _ arr arr' Ty _ f1, f2, f3, ?_, fun r' row' q => ?_, fun r' j row' y q1 q2 => ?_⟩
            · rw [← harr, splice_size _ _ _ (by rw [hvl]; exact hcol), List.length_set]; exact f4
            · rcases set_get q with ⟨rfl, rfl⟩ | ⟨_, q⟩
              · rw [putAt_length]; exact hrow
              · exact f5 r' row' q
            · rw [hget]
              rcases set_get q1 with ⟨rfl, rfl⟩ | ⟨hrr, q1⟩
              · rw [putAt_get _ _ _ _ (by rw [hl]; exact hle), hl] at q2
                by_cases hj : col ≤ j ∧ j < col + n
                · rw [if_pos hj] at q2
                  rw [if_pos (by omega)]
                  have hjl : j - col < v.cells.toList.length := by omega
                  refine ⟨v.cells.toList[j - col], ?_, ?_⟩
                  · rw [show r' * wd + j - (r' * wd + col) = j - col by omega]; simp only [List.getElem?_eq_getElem hjl]
                  · obtain ⟨k1, k2⟩ := hp.2 (j - col) y _ q2 (by rw [← Array.getElem?_toList]; exact List.getElem?_eq_getElem hjl)
                    exact ⟨k1, (k2 _).step s1 (by simp [atBlk])⟩
                · rw [if_neg hj] at q2
                  rw [if_neg (by omega)]
                  obtain ⟨u, u1, u2, u3⟩ := f6 r' j row y e4 q2
                  exact ⟨u, u1, u2, u3.step s1 (by simp [atBlk])⟩
              · obtain ⟨u, u1, u2, u3⟩ := f6 r' j row' y q1 q2
                have hj : j < wd := by rw [← f5 r' row' q1]; exact get_lt q2
                have hnot : ¬ (r * wd + col ≤ r' * wd + j ∧ r' * wd + j < r * wd + col + n) := by
                  rintro ⟨a1, a2⟩
                  rcases Nat.lt_or_gt_of_ne (Ne.symm hrr) with hlt | hgt
                  · have := Nat.mul_le_mul_right wd (Nat.succ_le_of_lt hlt)
                    rw [Nat.succ_mul] at this; omega
                  · have := Nat.mul_le_mul_right wd (Nat.succ_le_of_lt hgt)
                    rw [Nat.succ_mul] at this; omega
                rw [if_neg hnot]
                exact ⟨u, u1, u2, u3.step s1 (by simp [atBlk])⟩
          refine ⟨.skip, undef, w.setRow (g.be blk) arr', g, ?_, .inr ⟨rfl, rfl⟩, ?_, ?_, s1.mono (fun o e => by rw [e]; simp) nn⟩
          · simp only [execOp, ho, hv2, hv, Sem.run_bind, hrun, Result.andThen_ok]; rfl
          · rw [hd]
            exact h.chg s1 rfl (rows_noIt h e3) _ hb' (fun c o h' => by simpa using h.fz c o h') (fun c h' => by simpa using h.om c h')
          · rw [hd]; exact he.chg h s1 _
        · cases hx
      · cases hx
    · cases hx
  · cases hx

end
end Go.Abs
