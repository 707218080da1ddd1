/-
  What stands for a value goes on standing for it: over steps of the world, and under other owners' names. Program-independent.
-/
import Derived.Test.YtpfocppjojgooaaAbsB
namespace Go.Abs

theorem TVR.mono {w w' : World} {Fz Fz' : Nat → Nat → Prop} {x : TV} {v : Value} (h : TVR w Fz x v)
    (hz : ∀ c o, Fz c o → Fz' c o ∧ w'.cell? ⟨c, o, none⟩ = w.cell? ⟨c, o, none⟩) : TVR w' Fz' x v := by
  induction h with
  | b x => exact .b x
  | i k n => exact .i k n
  | s a => exact .s a
  | nl => exact .nl
  | ns => exact .ns
  | nm => exact .nm
  | nf => exact .nf
  | ni => exact .ni
  | ts0 => exact .ts0
  | tse a cap => exact .tse a cap
  | ts rows wd c o cap u hw hcap hc hr h1 ih =>
    refine .ts rows wd c o cap u hw hcap (fun i j row x e1 e2 => ?_) ih h1
    obtain ⟨a, b⟩ := hc i j row x e1 e2
    obtain ⟨a', b'⟩ := hz _ _ a
    exact ⟨a', b'.trans b⟩
  | ag cs a hs h1 hr ih => exact .ag cs a hs h1 ih
  | tu vs a hs hr ih => exact .tu vs a hs ih
  | fn f caps a hs hr ih => exact .fn f caps a hs ih
  | ifc t x v hr ih => exact .ifc t x v ih

theorem block_of_cell {w : World} {c o : Nat} {v : Value} (h : w.cell? ⟨c, o, none⟩ = some v) : c < w.heap.size := World.block_lt_of_cell? w _ h
theorem heap_lt {w : World} {c : Nat} {o : Obj} (h : w.heap[c]? = some o) : c < w.heap.size := by
  rcases Nat.lt_or_ge c w.heap.size with h' | h'
  · exact h'
  · rw [Array.getElem?_eq_none h'] at h; cases h

theorem ACR.step {w w' : World} {g g' : Gh} {T : List Nat → Prop} {own : List Nat} {x : AC} {v : Value} (h : ACR w g own x v) (s : Stp w g w' g' T) (ht : ¬ T own) : ACR w' g' own x v := by
  induction h with
  | t h => exact .t (h.mono s.fz)
  | und => exact .und
  | os wd rows c cap arr Ty u ho hn hb hsz hcap hw hc hz =>
    have hlt := heap_lt hb
    have ht' : ¬ T (g.om c) := by rw [ho]; exact ht
    refine .os wd rows c cap arr Ty u ((s.om c hlt ht').trans ho) hn ((s.heap c hlt ht').trans hb) hsz hcap hw (fun i j row x e1 e2 => ?_) (fun o ho' => ?_)
    · obtain ⟨a, b, d, e⟩ := hc i j row x e1 e2
      exact ⟨(s.fz _ _ a).1, b, d, e.mono s.fz⟩
    · rcases s.fznew c o ho' with h | h | h
      · exact hz o h
      · omega
      · exact (ht' h).elim
  | ex wd rows c cap arr Ty u ho hn hb hsz hcap hw hc hz =>
    have hlt := heap_lt hb
    have ht' : ¬ T (g.om c) := by rw [ho]; exact ht
    refine .ex wd rows c cap arr Ty u ((s.om c hlt ht').trans ho) hn ((s.heap c hlt ht').trans hb) hsz hcap hw (fun i j row x e1 e2 => ?_) (fun o ho' => ?_)
    · obtain ⟨b, d, e⟩ := hc i j row x e1 e2
      exact ⟨b, d, e.mono s.fz⟩
    · rcases s.fznew c o ho' with h | h | h
      · exact hz o h
      · omega
      · exact (ht' h).elim
  | tp row col c o u hc =>
    refine .tp row col c o u (fun j x e => ?_)
    obtain ⟨a, b, d, e⟩ := hc j x e
    exact ⟨(s.fz _ _ a).1, (s.fz _ _ a).2.trans b, d, e.mono s.fz⟩
  | p blk wd row col hn => rw [← s.be blk hn]; exact .p blk wd row col (Nat.lt_of_lt_of_le hn s.n)
  | sl blk wd row len cap off hcap hn ho => rw [← s.be blk hn]; exact .sl blk wd row len cap off hcap (Nat.lt_of_lt_of_le hn s.n) ho
  | m blk hn => rw [← s.be blk hn]; exact .m blk (Nat.lt_of_lt_of_le hn s.n)
  | it blk hn => rw [← s.be blk hn]; exact .it blk (Nat.lt_of_lt_of_le hn s.n)
  | fn f caps a hs hr ih => exact .fn f caps a hs (fun j x v e1 e2 => ih j x v e1 e2 s.no)
  | ifc t x v hr ih => exact .ifc t x v (ih s.no)

theorem CellsR.step {w w' : World} {g g' : Gh} {T : List Nat → Prop} {own : List Nat} {cs : List AC} {a : Array Value} (h : CellsR w g own cs a) (s : Stp w g w' g' T)
    (ht : ∀ r, ¬ T (own ++ r)) : CellsR w' g' own cs a :=
  ⟨h.1, fun j x v e1 e2 => ⟨(h.2 j x v e1 e2).1, (h.2 j x v e1 e2).2.step s (ht [j])⟩⟩

theorem EVR.step {w w' : World} {g g' : Gh} {T : List Nat → Prop} {own : List Nat} {x : EV} {v : Value} (h : EVR w g own x v) (s : Stp w g w' g' T)
    (ht : ∀ r, ¬ T (own ++ r)) : EVR w' g' own x v := by
  cases h with
  | c h => exact .c (h.step s (by simpa using ht []))
  | ag h => exact .ag (h.step s ht)

theorem SVR.step {w w' : World} {g g' : Gh} {T : List Nat → Prop} {own : List Nat} {x : SV} {v : Value} (h : SVR w g own x v) (s : Stp w g w' g' T)
    (ht : ∀ r, ¬ T (own ++ r)) : SVR w' g' own x v := by
  cases h with
  | e h => exact .e (h.step s ht)
  | tu xs a hs hr => exact .tu xs a hs (fun j x v e1 e2 => (hr j x v e1 e2).step s (fun r => by rw [List.append_assoc]; exact ht _))
  | bx cs c arr Ty ho hn hb hz hc =>
    have hlt := heap_lt hb
    have ht' : ¬ T (g.om c) := by rw [ho]; simpa using ht []
    refine .bx cs c arr Ty ((s.om c hlt ht').trans ho) hn ((s.heap c hlt ht').trans hb) (fun o ho' => ?_) (hc.step s ht)
    rcases s.fznew c o ho' with h | h | h
    · exact hz o h
    · omega
    · exact ht' h

theorem HBR.step' {w w' : World} {g g' : Gh} {T : List Nat → Prop} {i : Nat} {b : HB} (h : HBR w g i b) (s : Stp w g w' g' T) (hi : i < g.n)
    (ht : ∀ r, ¬ T ([1, i] ++ r)) (ht2 : ∀ mp l c, b = .iter mp l c → ¬ T [1, mp]) : HBR w' g' i b := by
  have hbe := s.be i hi
  have keep : ∀ j o, ¬ T [1, j] → g.om (g.be j) = [1, j] → w.heap[g.be j]? = some o → w'.heap[g.be j]? = some o ∧ g'.om (g.be j) = [1, j] := by
    intro j o hj h1 h2
    have hT : ¬ T (g.om (g.be j)) := by rw [h1]; exact hj
    exact ⟨(s.heap _ (heap_lt h2) hT).trans h2, (s.om _ (heap_lt h2) hT).trans h1⟩
  have ht0 : ¬ T [1, i] := by simpa using ht []
  have nofz : ∀ o, w.heap[g.be i]? = some o → g.om (g.be i) = [1, i] → (∀ o, ¬ g.Fz (g.be i) o) → ∀ o, ¬ g'.Fz (g'.be i) o := by
    intro ob h1 h2 hz o ho
    rw [hbe] at ho
    rcases s.fznew _ o ho with h | h | h
    · exact hz o h
    · have := heap_lt h1; omega
    · rw [h2] at h; exact ht0 h
  cases b with
  | gone => trivial
  | rows wd rs =>
    obtain ⟨arr, Ty, h1, h2, h3, h4, h5, h6⟩ := h
    obtain ⟨k1, k2⟩ := keep i _ ht0 h2 h1
    refine ⟨arr, Ty, by rw [hbe]; exact k1, by rw [hbe]; exact k2, fun o ho => ?_, h4, h5, fun r j row x e1 e2 => ?_⟩
    · rw [hbe] at ho
      rcases s.fznew _ o ho with h | h | h
      · exact h3 o h
      · have := heap_lt h1; omega
      · rw [h2] at h; exact ht0 h
    · obtain ⟨v, a, b, c⟩ := h6 r j row x e1 e2
      exact ⟨v, a, b, c.step s (by simpa using ht [r * wd + j])⟩
  | map es =>
    obtain ⟨ents, clock, h1, h2, hz, h3, h4, h5, h6⟩ := h
    obtain ⟨k1, k2⟩ := keep i _ ht0 h2 h1
    refine ⟨ents, clock, by rw [hbe]; exact k1, by rw [hbe]; exact k2, nofz _ h1 h2 hz, h3, h4, h5, fun k x e e1 e2 => ?_⟩
    obtain ⟨a, b⟩ := h6 k x e e1 e2
    exact ⟨a.mono s.fz, b.step s (fun r => by simpa using ht (0 :: r))⟩
  | iter mp left cur =>
    obtain ⟨hm, since, seen, ents, clock, h1, h2, hz, h3, h4, h5⟩ := h
    obtain ⟨k1, k2⟩ := keep i _ ht0 h2 h1
    obtain ⟨k3, k4⟩ := keep mp _ (ht2 mp left cur rfl) h4 h3
    have hmp := s.be mp hm
    exact ⟨Nat.lt_of_lt_of_le hm s.n, since, seen, ents, clock, by rw [hbe, hmp]; exact k1, by rw [hbe]; exact k2, nofz _ h1 h2 hz, by rw [hmp]; exact k3, by rw [hmp]; exact k4, h5⟩
theorem HBR.step {w w' : World} {g g' : Gh} {T : List Nat → Prop} {i : Nat} {b : HB} (h : HBR w g i b) (s : Stp w g w' g' T) (hi : i < g.n)
    (ht : ∀ j r, ¬ T ([1, j] ++ r)) : HBR w' g' i b := h.step' s hi (ht i) (fun mp _ _ _ => by simpa using ht mp [])

/- other owners' names -/
theorem ACR.rename {w : World} {g g2 : Gh} {own own2 : List Nat} {x : AC} {v : Value} (h : ACR w g own x v) (hF : g2.Fz = g.Fz) (hb : ∀ i, i < g.n → g2.be i = g.be i) (hn : g.n ≤ g2.n)
    (ho : own ≠ [] → own2 ≠ [] ∧ ∀ c, g.om c = own → g2.om c = own2) : ACR w g2 own2 x v := by
  induction h generalizing own2 with
  | t h => exact .t (hF ▸ h)
  | und => exact .und
  | os wd rows c cap arr Ty u hom hne hbk hsz hcap hw hc hz =>
    obtain ⟨a, b⟩ := ho hne
    exact .os wd rows c cap arr Ty u (b c hom) a hbk hsz hcap hw (hF ▸ hc) (hF ▸ hz)
  | ex wd rows c cap arr Ty u hom hne hbk hsz hcap hw hc hz =>
    obtain ⟨a, b⟩ := ho hne
    exact .ex wd rows c cap arr Ty u (b c hom) a hbk hsz hcap hw (hF ▸ hc) (hF ▸ hz)
  | tp row col c o u hc => exact .tp row col c o u (hF ▸ hc)
  | p blk wd row col h => rw [← hb blk h]; exact .p blk wd row col (Nat.lt_of_lt_of_le h hn)
  | sl blk wd row len cap off hcap h hof => rw [← hb blk h]; exact .sl blk wd row len cap off hcap (Nat.lt_of_lt_of_le h hn) hof
  | m blk h => rw [← hb blk h]; exact .m blk (Nat.lt_of_lt_of_le h hn)
  | it blk h => rw [← hb blk h]; exact .it blk (Nat.lt_of_lt_of_le h hn)
  | fn f caps a hs hr ih => exact .fn f caps a hs (fun j x v e1 e2 => ih j x v e1 e2 (fun h => (h rfl).elim))
  | ifc t x v hr ih => exact .ifc t x v (ih (fun h => (h rfl).elim))

theorem CellsR.rename {w : World} {g g2 : Gh} {own own2 : List Nat} {cs : List AC} {a : Array Value} (h : CellsR w g own cs a) (hF : g2.Fz = g.Fz) (hb : ∀ i, i < g.n → g2.be i = g.be i) (hn : g.n ≤ g2.n)
    (ho : ∀ r c, g.om c = own ++ r → g2.om c = own2 ++ r) : CellsR w g2 own2 cs a :=
  ⟨h.1, fun j x v e1 e2 => ⟨(h.2 j x v e1 e2).1, (h.2 j x v e1 e2).2.rename hF hb hn (fun _ => ⟨by simp, fun c hc => ho [j] c hc⟩)⟩⟩

theorem EVR.rename {w : World} {g g2 : Gh} {own own2 : List Nat} {x : EV} {v : Value} (h : EVR w g own x v) (hF : g2.Fz = g.Fz) (hb : ∀ i, i < g.n → g2.be i = g.be i) (hn : g.n ≤ g2.n)
    (h2 : own2 ≠ []) (ho : ∀ r c, g.om c = own ++ r → g2.om c = own2 ++ r) : EVR w g2 own2 x v := by
  cases h with
  | c h => exact .c (h.rename hF hb hn (fun _ => ⟨h2, fun c hc => by simpa using ho [] c (by simpa using hc)⟩))
  | ag h => exact .ag (h.rename hF hb hn ho)

theorem SVR.rename {w : World} {g g2 : Gh} {own own2 : List Nat} {x : SV} {v : Value} (h : SVR w g own x v) (hF : g2.Fz = g.Fz) (hb : ∀ i, i < g.n → g2.be i = g.be i) (hn : g.n ≤ g2.n)
    (h2 : own2 ≠ []) (ho : ∀ r c, g.om c = own ++ r → g2.om c = own2 ++ r) : SVR w g2 own2 x v := by
  cases h with
  | e h => exact .e (h.rename hF hb hn h2 ho)
  | tu xs a hs hr => exact .tu xs a hs (fun j x v e1 e2 => (hr j x v e1 e2).rename hF hb hn (by simp) (fun r c hc => by rw [List.append_assoc] at hc ⊢; exact ho _ c hc))
  | bx cs c arr Ty hom hne hbk hz hc =>
    exact .bx cs c arr Ty (by simpa using ho [] c (by simpa using hom)) h2 hbk (hF ▸ hz) (hc.rename hF hb hn ho)

/-- a block is as it was, where only others than the blocks' own got other owners -/
theorem HBR.rename {w : World} {g g2 : Gh} {i : Nat} {b : HB} (h : HBR w g i b) (hi : i < g.n) (hF : g2.Fz = g.Fz) (hb : ∀ i, i < g.n → g2.be i = g.be i) (hn : g.n ≤ g2.n)
    (ho : ∀ r c, g.om c = 1 :: r → g2.om c = 1 :: r) : HBR w g2 i b := by
  cases b with
  | gone => trivial
  | rows wd rs =>
    obtain ⟨arr, Ty, h1, h2, h3, h4, h5, h6⟩ := h
    refine ⟨arr, Ty, by rw [hb i hi]; exact h1, by rw [hb i hi]; exact ho _ _ h2, by rw [hb i hi, hF]; exact h3, h4, h5, fun r j row x e1 e2 => ?_⟩
    obtain ⟨v, a, b, c⟩ := h6 r j row x e1 e2
    exact ⟨v, a, b, c.rename hF hb hn (fun _ => ⟨by simp, fun c hc => ho _ c hc⟩)⟩
  | map es =>
    obtain ⟨ents, clock, h1, h2, hz, h3, h4, h5, h6⟩ := h
    refine ⟨ents, clock, by rw [hb i hi]; exact h1, by rw [hb i hi]; exact ho _ _ h2, by rw [hb i hi, hF]; exact hz, h3, h4, h5, fun k x e e1 e2 => ?_⟩
    obtain ⟨a, b⟩ := h6 k x e e1 e2
    exact ⟨hF ▸ a, b.rename hF hb hn (by simp) (fun r c hc => ho _ c hc)⟩
  | iter mp left cur =>
    obtain ⟨hm, since, seen, ents, clock, h1, h2, hz, h3, h4, h5⟩ := h
    exact ⟨Nat.lt_of_lt_of_le hm hn, since, seen, ents, clock, by rw [hb i hi, hb mp hm]; exact h1, by rw [hb i hi]; exact ho _ _ h2, by rw [hb i hi, hF]; exact hz, by rw [hb mp hm]; exact h3, by rw [hb mp hm]; exact ho _ _ h4, h5⟩

/- reading: what is read owns nothing -/
theorem cell_of_block {w : World} {c o : Nat} {arr : Array Value} {T : TypeId} {fz : Nat × Nat} (h : w.heap[c]? = some (.cells arr T fz)) : w.cell? ⟨c, o, none⟩ = arr[o]? := by
  simp [World.cell?, h]

theorem ACR.read {w : World} {g : Gh} {own : List Nat} {x : AC} {v : Value} (h : ACR w g own x v) (own2 : List Nat) : ACR w g own2 (rdC x) v := by
  cases h with
  | t h => exact .t h
  | und => exact .und
  | os wd rows c cap arr Ty u hom hne hbk hsz hcap hw hc hz =>
    refine .t (.ts rows wd c 0 cap u hw hcap (fun i j row x e1 e2 => ?_) (fun i j row x e1 e2 => (hc i j row x e1 e2).2.2.2) (fun i j row x e1 e2 => (hc i j row x e1 e2).2.2.1))
    have := hc i j row x e1 e2
    rw [cell_of_block hbk, Nat.zero_add]
    exact ⟨this.1, this.2.1⟩
  | ex => exact .und
  | tp row col c o u hc => exact .tp row col c o u hc
  | p blk wd row col h => exact .p blk wd row col h
  | sl blk wd row len cap off hcap h ho => exact .sl blk wd row len cap off hcap h ho
  | m blk h => exact .m blk h
  | it blk h => exact .it blk h
  | fn f caps a hs hr => exact .fn f caps a hs hr
  | ifc t x v hr => exact .ifc t x v hr

theorem CellsR.read {w : World} {g : Gh} {own : List Nat} {cs : List AC} {a : Array Value} (h : CellsR w g own cs a) (own2 : List Nat) : CellsR w g own2 (cs.map rdC) a := by
  refine ⟨by rw [h.1, List.length_map], fun j x v e1 e2 => ?_⟩
  rw [List.getElem?_map] at e1
  cases hx : cs[j]? with
  | none => rw [hx] at e1; cases e1
  | some y =>
    rw [hx] at e1
    cases e1
    exact ⟨(h.2 j y v hx e2).1, (h.2 j y v hx e2).2.read _⟩

theorem EVR.read {w : World} {g : Gh} {own : List Nat} {x : EV} {v : Value} (h : EVR w g own x v) (own2 : List Nat) : EVR w g own2 (rdE x) v := by
  cases h with
  | c h => exact .c (h.read _)
  | ag h => exact .ag (h.read _)

theorem EVR.ofT {w : World} {g : Gh} {x : TV} {v : Value} (h : TVR w g.Fz x v) (own : List Nat) : EVR w g own (.ofT x) v := by
  cases h with
  | ag cs a hs h1 hr =>
    refine .ag ⟨by rw [hs, List.length_map], fun j x v e1 e2 => ?_⟩
    rw [List.getElem?_map] at e1
    cases hx : cs[j]? with
    | none => rw [hx] at e1; cases e1
    | some y => rw [hx] at e1; cases e1; exact ⟨h1 j y v hx e2, .t (hr j y v hx e2)⟩
  | b x => exact .c (.t (.b x))
  | i k n => exact .c (.t (.i k n))
  | s a => exact .c (.t (.s a))
  | nl => exact .c (.t .nl)
  | ns => exact .c (.t .ns)
  | nm => exact .c (.t .nm)
  | nf => exact .c (.t .nf)
  | ni => exact .c (.t .ni)
  | ts0 => exact .c (.t .ts0)
  | tse a cap => exact .c (.t (.tse a cap))
  | ts rows wd c o cap u hw hcap hc hr h1 => exact .c (.t (.ts rows wd c o cap u hw hcap hc hr h1))
  | tu vs a hs hr => exact .c (.t (.tu vs a hs hr))
  | fn f caps a hs hr => exact .c (.t (.fn f caps a hs hr))
  | ifc t x v hr => exact .c (.t (.ifc t x v hr))

theorem tC_sound {w : World} {g : Gh} {own : List Nat} {x : AC} {y : TV} {v : Value} (h : tC x = some y) (hx : ACR w g own x v) : TVR w g.Fz y v := by
  cases x <;> simp [tC] at h
  subst h
  cases hx with | t h => exact h

theorem tCs_length {xs : List AC} {ys : List TV} (h : tCs xs = some ys) : ys.length = xs.length := by
  induction xs generalizing ys with
  | nil => simp [tCs] at h; subst h; rfl
  | cons x xs ih =>
    simp only [tCs] at h
    split at h
    · rename_i a as h1 h2
      simp at h; subst h; simp [ih h2]
    · cases h

theorem tCs_get {xs : List AC} {ys : List TV} (h : tCs xs = some ys) (j : Nat) (y : TV) (hy : ys[j]? = some y) : ∃ x, xs[j]? = some x ∧ tC x = some y := by
  induction xs generalizing ys j with
  | nil => simp [tCs] at h; subst h; simp at hy
  | cons x xs ih =>
    simp only [tCs] at h
    split at h
    · rename_i a as h1 h2
      simp at h; subst h
      cases j with
      | zero => simp at hy; subst hy; exact ⟨x, rfl, h1⟩
      | succ j => simp at hy; obtain ⟨z, e1, e2⟩ := ih h2 j hy; exact ⟨z, by simpa using e1, e2⟩
    · cases h

theorem tE_sound {w : World} {g : Gh} {own : List Nat} {x : EV} {y : TV} {v : Value} (h : tE x = some y) (hx : EVR w g own x v) : TVR w g.Fz y v := by
  cases hx with
  | c hx => exact tC_sound h hx
  | ag hx =>
    rename_i xs a
    simp only [tE] at h
    cases hc : tCs xs with
    | none => rw [hc] at h; cases h
    | some ys =>
      rw [hc] at h; cases h
      refine .ag ys a (by rw [hx.1, tCs_length hc]) (fun j x v e1 e2 => ?_) (fun j x v e1 e2 => ?_)
      · obtain ⟨z, z1, z2⟩ := tCs_get hc j x e1; exact (hx.2 j z v z1 e2).1
      · obtain ⟨z, z1, z2⟩ := tCs_get hc j x e1; exact tC_sound z2 (hx.2 j z v z1 e2).2

end Go.Abs
