/-
  Steps of the world: nothing, a new block, a store into an owned block, a change of owner. The state behind a step. Program-independent.
-/
import Derived.Test.YtpfocppjojgooaaAbsC
namespace Go.Abs

def Under (a o : List Nat) : Prop := ∃ r, o = a ++ r
def Never : List Nat → Prop := fun _ => False

theorem Stp.refl (w : World) (g : Gh) (T : List Nat → Prop) (hT : ¬ T []) : Stp w g w g T :=
  ⟨Nat.le_refl _, fun _ _ _ => rfl, fun _ _ h => ⟨h, rfl⟩, fun _ _ h => .inl h, fun _ _ _ => rfl, fun _ h => .inr h, fun _ _ => rfl, Nat.le_refl _, rfl, rfl, hT⟩

theorem Stp.mono {w w' : World} {g g' : Gh} {T T' : List Nat → Prop} (s : Stp w g w' g' T) (h : ∀ o, T o → T' o) (hn : ¬ T' []) : Stp w g w' g' T' :=
  ⟨s.size, fun c hc ht => s.heap c hc (fun x => ht (h _ x)), s.fz, fun c o hz => (s.fznew c o hz).imp id (Or.imp id (h _)), fun c hc ht => s.om c hc (fun x => ht (h _ x)), s.omnew, s.be, s.n, s.out, s.os, hn⟩

theorem Stp.trans {w w1 w2 : World} {g g1 g2 : Gh} {T T' T'' : List Nat → Prop} (s : Stp w g w1 g1 T) (s' : Stp w1 g1 w2 g2 T') (h : ∀ o, T o → T'' o) (h' : ∀ o, T' o → T'' o) (hn : ¬ T'' []) :
    Stp w g w2 g2 T'' := by
  refine ⟨Nat.le_trans s.size s'.size, fun c hc ht => ?_, fun c o hz => ?_, fun c o hz => ?_, fun c hc ht => ?_, fun c hc => ?_, fun i hi => ?_, Nat.le_trans s.n s'.n, s'.out.trans s.out, s'.os.trans s.os, hn⟩
  · have e := s.om c hc (fun x => ht (h _ x))
    rw [s'.heap c (Nat.lt_of_lt_of_le hc s.size) (by rw [e]; exact fun x => ht (h' _ x)), s.heap c hc (fun x => ht (h _ x))]
  · obtain ⟨a, b⟩ := s.fz c o hz
    obtain ⟨a', b'⟩ := s'.fz c o a
    exact ⟨a', b'.trans b⟩
  · rcases s'.fznew c o hz with hz | hz | hz
    · exact (s.fznew c o hz).imp id (Or.imp id (h _))
    · exact .inr (.inl (Nat.le_trans s.size hz))
    · by_cases hc : c < w.heap.size
      · by_cases ht : T (g.om c)
        · exact .inr (.inr (h _ ht))
        · rw [s.om c hc ht] at hz; exact .inr (.inr (h' _ hz))
      · exact .inr (.inl (by omega))
  · have e := s.om c hc (fun x => ht (h _ x))
    rw [s'.om c (Nat.lt_of_lt_of_le hc s.size) (by rw [e]; exact fun x => ht (h' _ x)), e]
  · rcases s'.omnew c hc with hc | hc
    · exact .inl (Nat.le_trans s.size hc)
    · exact s.omnew c hc
  · rw [s'.be i (Nat.lt_of_lt_of_le hi s.n), s.be i hi]

theorem Stp.drew (w : World) (g : Gh) (T : List Nat → Prop) (hT : ¬ T []) : Stp w g w.drew g T :=
  ⟨Nat.le_refl _, fun _ _ _ => rfl, fun _ _ h => ⟨h, rfl⟩, fun _ _ h => .inl h, fun _ _ _ => rfl, fun _ h => .inr h, fun _ _ => rfl, Nat.le_refl _, rfl, rfl, hT⟩

/-- a new block, under an owner; frozen or not; perhaps as a new abstract block -/
def Gh.add (w : World) (g : Gh) (own : List Nat) (frz : Nat → Prop) (new : Bool) : Gh :=
  { Fz := fun c o => g.Fz c o ∨ (c = w.heap.size ∧ frz o), om := fun c => if c = w.heap.size then own else g.om c,
    be := fun i => if new = true ∧ i = g.n then w.heap.size else g.be i, n := if new then g.n + 1 else g.n }

theorem alloc_get_old (w : World) (o : Obj) {c : Nat} (h : c < w.heap.size) : (w.alloc o).heap[c]? = w.heap[c]? := by
  show (w.heap.push o)[c]? = _
  rw [Array.getElem?_push, if_neg (Nat.ne_of_lt h)]
theorem alloc_get_new (w : World) (o : Obj) : (w.alloc o).heap[w.heap.size]? = some o := by
  show (w.heap.push o)[w.heap.size]? = _
  simp

theorem Stp.alloc (w : World) (g : Gh) (o : Obj) (own : List Nat) (frz : Nat → Prop) (new : Bool) (hz : ∀ c o, g.Fz c o → c < w.heap.size) (T : List Nat → Prop) (hT : ¬ T []) :
    Stp w g (w.alloc o) (g.add w own frz new) T := by
  refine ⟨by simp, fun c hc _ => alloc_get_old w o hc, fun c i h => ⟨.inl h, ?_⟩, fun c i h => ?_, fun c hc _ => ?_, fun c h => ?_, fun i hi => ?_, ?_, rfl, rfl, hT⟩
  · exact World.cell?_alloc_lt w o _ (hz c i h)
  · rcases h with h | ⟨h, _⟩
    · exact .inl h
    · exact .inr (.inl (by omega))
  · simp [Gh.add, Nat.ne_of_lt hc]
  · by_cases hc : c = w.heap.size
    · exact .inl (by omega)
    · simp [Gh.add, hc] at h; exact .inr h
  · simp [Gh.add]; intro _ h; omega
  · simp only [Gh.add]; split <;> omega

/-- a change of one owned block -/
theorem Stp.write (w w' : World) (g : Gh) (c : Nat) (T : List Nat → Prop) (hT : ¬ T []) (hc : T (g.om c)) (hs : w'.heap.size = w.heap.size) (hh : ∀ d, d ≠ c → w'.heap[d]? = w.heap[d]?)
    (hz : ∀ o, g.Fz c o → w'.cell? ⟨c, o, none⟩ = w.cell? ⟨c, o, none⟩) (ho : w'.output = w.output) (hos : w'.os = w.os) : Stp w g w' g T := by
  refine ⟨by omega, fun d _ ht => hh d (fun e => ht (e ▸ hc)), fun d o h => ⟨h, ?_⟩, fun _ _ h => .inl h, fun _ _ _ => rfl, fun _ h => .inr h, fun _ _ => rfl, Nat.le_refl _, ho, hos, hT⟩
  by_cases hd : d = c
  · subst hd; exact hz o h
  · simp [World.cell?, hh d hd]

/-- owners under 'a' become owners under 'b' -/
def Gh.mv (g : Gh) (a b : List Nat) : Gh :=
  { g with om := fun c => if (g.om c).take a.length = a then b ++ (g.om c).drop a.length else g.om c }

theorem Gh.mv_under (g : Gh) (a b r : List Nat) (c : Nat) (h : g.om c = a ++ r) : (g.mv a b).om c = b ++ r := by
  simp [Gh.mv, h]
theorem under_take {a o : List Nat} (h : o.take a.length = a) : Under a o :=
  ⟨o.drop a.length, by have := List.take_append_drop a.length o; rw [h] at this; exact this.symm⟩
theorem Gh.mv_other (g : Gh) (a b : List Nat) (c : Nat) (h : ¬ Under a (g.om c)) : (g.mv a b).om c = g.om c := by
  simp only [Gh.mv]
  rw [if_neg (fun e => h (under_take e))]

theorem Stp.mv (w : World) (g : Gh) (a b : List Nat) (ha : a ≠ []) (T : List Nat → Prop) (hT : ¬ T []) (h : ∀ o, Under a o → T o) : Stp w g w (g.mv a b) T := by
  refine ⟨Nat.le_refl _, fun _ _ _ => rfl, fun _ _ h => ⟨h, rfl⟩, fun _ _ h => .inl h, fun c _ ht => Gh.mv_other g a b c (fun x => ht (h _ x)), fun c hc => ?_, fun _ _ => rfl, Nat.le_refl _, rfl, rfl, hT⟩
  refine .inr (fun e => ?_)
  rw [Gh.mv_other g a b c (by rw [e]; rintro ⟨r, hr⟩; cases a with | nil => exact ha rfl | cons x xs => cases hr)] at hc
  exact hc e

theorem not_under_slot {s t : Nat} (h : s ≠ t) (r : List Nat) : ¬ Under [0, t] ([0, s] ++ r) := by
  rintro ⟨q, hq⟩; simp at hq; exact h hq.1
theorem not_under_heap {t : Nat} (j : Nat) (r : List Nat) : ¬ Under [0, t] ([1, j] ++ r) := by
  rintro ⟨q, hq⟩; simp at hq
theorem not_under_nil {k : Nat} {l : List Nat} : ¬ Under (k :: l) [] := by
  rintro ⟨q, hq⟩; simp at hq

/- the state behind a step -/
theorem getD_of_get {a : Array Value} {n : Nat} {v : Value} (h : a[n]? = some v) : a.getD n undef = v := by
  simp [Array.getD_eq_getD_getElem?, h]

theorem StR.get {w : World} {g : Gh} {tmps : Array Value} {st : St} (h : StR w g tmps st) {n : Nat} {x : SV} (e : st.sl[n]? = some x) : ∃ v, tmps[n]? = some v ∧ tmps.getD n undef = v ∧ SVR w g [0, n] x v := by
  have hlt : n < tmps.size := by
    rw [← h.len]
    rcases Nat.lt_or_ge n st.sl.length with h' | h'
    · exact h'
    · rw [List.getElem?_eq_none h'] at e; cases e
  refine ⟨tmps[n], by simp [hlt], by simp [Array.getD, hlt], h.sl n x _ e (by simp [hlt])⟩

/-- slots outside D keep what they hold; those in D are given anew -/
theorem StR.step {w w' : World} {g g' : Gh} {tmps tmps' : Array Value} {st st' : St} {T : List Nat → Prop} (h : StR w g tmps st) (s : Stp w g w' g' T) (D : Nat → Prop)
    (hl : st'.sl.length = st.sl.length) (hs : tmps'.size = tmps.size) (hh : st'.h = st.h) (hn : g'.n = g.n)
    (keep : ∀ n, ¬ D n → (st'.sl[n]? = st.sl[n]? ∧ tmps'[n]? = tmps[n]? ∧ ∀ r, ¬ T ([0, n] ++ r)))
    (new : ∀ n x v, D n → st'.sl[n]? = some x → tmps'[n]? = some v → SVR w' g' [0, n] x v)
    (hT : ∀ j r, ¬ T ([1, j] ++ r)) (fz : ∀ c o, g'.Fz c o → c < w'.heap.size) (om : ∀ c, g'.om c ≠ [] → c < w'.heap.size) : StR w' g' tmps' st' := by
  refine ⟨by rw [hl, hs]; exact h.len, fun n x v e1 e2 => ?_, fun i b e => ?_, fz, om, by rw [hn, hh]; exact h.n⟩
  · by_cases hd : D n
    · exact new n x v hd e1 e2
    · obtain ⟨k1, k2, k3⟩ := keep n hd
      rw [k1] at e1; rw [k2] at e2
      exact (h.sl n x v e1 e2).step s k3
  · rw [hh] at e
    have hi : i < g.n := by
      rw [h.n]
      rcases Nat.lt_or_ge i st.h.length with h' | h'
      · exact h'
      · rw [List.getElem?_eq_none h'] at e; cases e
    exact (h.hp i b e).step s hi hT

theorem put_len (st : St) (d : Nat) (x : SV) : (st.put d x).sl.length = st.sl.length := by simp [St.put]
theorem put_h (st : St) (d : Nat) (x : SV) : (st.put d x).h = st.h := rfl
theorem put_other (st : St) (d n : Nat) (x : SV) (h : n ≠ d) : (st.put d x).sl[n]? = st.sl[n]? := by
  simp [St.put, List.getElem?_set_ne (Ne.symm h)]
theorem put_same {st : St} {d : Nat} {x y : SV} (h : (st.put d x).sl[d]? = some y) : y = x := by
  simp only [St.put] at h
  rw [List.getElem?_set] at h
  simp at h
  exact h.2.symm
theorem setIf_other (a : Array Value) (d n : Nat) (v : Value) (h : n ≠ d) : (a.setIfInBounds d v)[n]? = a[n]? := by
  simp [Ne.symm h]
theorem setIf_same {a : Array Value} {d : Nat} {v u : Value} (h : (a.setIfInBounds d v)[d]? = some u) : u = v := by
  simp [Array.getElem?_setIfInBounds] at h
  exact h.2.symm

/-- one slot is given anew; the world has gone one step that touches at most that slot -/
theorem StR.put {w w' : World} {g g' : Gh} {tmps : Array Value} {st : St} {T : List Nat → Prop} (h : StR w g tmps st) (s : Stp w g w' g' T) (d : Nat) (x : SV) (v : Value)
    (hT : ∀ o, T o → Under [0, d] o) (hn : g'.n = g.n) (hx : SVR w' g' [0, d] x v) (fz : ∀ c o, g'.Fz c o → c < w'.heap.size) (om : ∀ c, g'.om c ≠ [] → c < w'.heap.size) :
    StR w' g' (tmps.setIfInBounds d v) (st.put d x) := by
  refine h.step s (fun n => n = d) (put_len _ _ _) (by simp) rfl hn (fun n hd => ⟨put_other _ _ _ _ hd, setIf_other _ _ _ _ hd, fun r ht => not_under_slot hd r (hT _ ht)⟩) ?_
    (fun j r ht => not_under_heap j r (hT _ ht)) fz om
  intro n y u hd e1 e2
  subst hd
  rw [put_same e1, setIf_same e2]
  exact hx

theorem StR.put0 {w : World} {g : Gh} {tmps : Array Value} {st : St} (h : StR w g tmps st) (d : Nat) (x : SV) (v : Value) (hx : SVR w g [0, d] x v) : StR w g (tmps.setIfInBounds d v) (st.put d x) :=
  h.put (Stp.refl w g Never (fun h => h)) d x v (fun _ h => h.elim) rfl hx h.fz h.om

theorem SVR.und (w : World) (g : Gh) (own : List Nat) (v : Value) : SVR w g own und v := .e (.c .und)

end Go.Abs
