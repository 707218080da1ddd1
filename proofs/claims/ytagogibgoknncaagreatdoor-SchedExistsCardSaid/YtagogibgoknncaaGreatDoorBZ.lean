/-
  Objects that nobody writes any more are seen as trees: at a call, at a return. Program-independent.
-/
import Derived.Test.YtagogibgoknncaaGreatDoorBS
set_option linter.unusedSectionVars false
set_option linter.unusedVariables false
set_option linter.unusedSimpArgs false
namespace Go.B
variable [iok : OkC]
open Classical
inductive Se (h : Hp) (D : Nat → Prop) : V → V → Prop
 | same (x : V) : Se h D x x
 | nil : Se h D .ns (.ts [])
 | sl (a off wd len : Nat) (cp : Option Nat) (gr : Bool) (cs : List V) (rows : List (List V)) (ha : h a = .c gr cs) (hD : D a) (hl : rows.length = len) (hb : off + len * wd ≤ cs.length) (hw : ∀ (i : Nat) (row : List V), rows[i]? = some row → row.length = wd)
    (hr : ∀ (i j : Nat) (row : List V) (y x : V), rows[i]? = some row → row[j]? = some y → cs[off + i * wd + j]? = some x → Se h D x y) : Se h D (.sl a off wd len cp) (.ts rows)
 | ag (xs ys : List V) (hl : xs.length = ys.length) (hr : ∀ (j : Nat) (x y : V), xs[j]? = some x → ys[j]? = some y → Se h D x y) : Se h D (.ag xs) (.ag ys)
 | tu (xs ys : List V) (hl : xs.length = ys.length) (hr : ∀ (j : Nat) (x y : V), xs[j]? = some x → ys[j]? = some y → Se h D x y) : Se h D (.tu xs) (.tu ys)
theorem as0 {wd : Nat} : ∀ {rows : List (List V)}, (∀ r, r ∈ rows → r.length = wd) → rows.flatten.length = rows.length * wd
 | [], _ => by simp
 | r :: rows, h => by
   rw [List.flatten_cons, List.length_append, h r (List.mem_cons_self ..), as0 (fun x hx => h x (List.mem_cons_of_mem _ hx)), List.length_cons, Nat.add_mul, Nat.one_mul, Nat.add_comm]
theorem bb9 {wd : Nat} : ∀ {rows : List (List V)} {i j : Nat} {row : List V} {y : V}, (∀ r, r ∈ rows → r.length = wd) → rows[i]? = some row → row[j]? = some y → rows.flatten[i * wd + j]? = some y
 | r :: rows, 0, j, row, y, h, e1, e2 => by
   simp only [List.getElem?_cons_zero, Option.some.injEq] at e1
   subst e1
   rw [List.flatten_cons, Nat.zero_mul, Nat.zero_add, List.getElem?_append_left (List.getElem?_eq_some_iff.1 e2).1]
   exact e2
 | r :: rows, i + 1, j, row, y, h, e1, e2 => by
   simp only [List.getElem?_cons_succ] at e1
   have hr := h r (List.mem_cons_self ..)
   have e : (i + 1) * wd + j = r.length + (i * wd + j) := by rw [Nat.add_mul, Nat.one_mul, hr]; omega
   rw [List.flatten_cons, e, List.getElem?_append_right (by omega)]
   have := bb9 (fun x hx => h x (List.mem_cons_of_mem _ hx)) e1 e2
   simpa using this
theorem Se.rows {h : Hp} {D : Nat → Prop} {a wd : Nat} {cp : Option Nat} {gr : Bool} {rs ys : List (List V)} (ha : h a = .c gr rs.flatten) (hD : D a) (hl : rs.length = ys.length) (hw : ∀ r, r ∈ rs → r.length = wd) (hw' : ∀ r, r ∈ ys → r.length = wd)
  (hr : ∀ (i j : Nat) (r r' : List V) (x y : V), rs[i]? = some r → ys[i]? = some r' → r[j]? = some x → r'[j]? = some y → Se h D x y) : Se h D (.sl a 0 wd rs.length cp) (.ts ys) := by
 refine .sl a 0 wd _ cp gr rs.flatten ys ha hD hl.symm (by rw [as0 hw]; omega) (fun i row e => hw' row (List.mem_of_getElem? e)) (fun i j row y x e1 e2 e3 => ?_)
 have hi : i < rs.length := by rw [hl]; exact (List.getElem?_eq_some_iff.1 e1).1
 have er : rs[i]? = some rs[i] := by simp [hi]
 have hj : j < rs[i].length := by
  rw [hw _ (List.getElem_mem hi), ← hw' row (List.mem_of_getElem? e1)]
  exact (List.getElem?_eq_some_iff.1 e2).1
 have ej : (rs[i])[j]? = some ((rs[i])[j]) := by simp [hj]
 rw [Nat.zero_add, bb9 hw er ej] at e3
 cases e3
 exact hr i j _ row _ y er e1 ej e2
theorem Se.flat {h : Hp} {D : Nat → Prop} {a wd : Nat} {cp : Option Nat} {gr : Bool} {rs : List (List V)} (ha : h a = .c gr rs.flatten) (hD : D a) (hw : ∀ r, r ∈ rs → r.length = wd) : Se h D (.sl a 0 wd rs.length cp) (.ts rs) :=
 .rows ha hD rfl hw hw (fun i j r r' x y e1 e2 e3 e4 => by rw [e1] at e2; cases e2; rw [e3] at e4; cases e4; exact .same _)
noncomputable def frz (w : World) (g : G) (h : Hp) (D : Nat → Prop) : G := { g with fz := fun c o => if (∃ a, D a ∧ (h a).live = true ∧ g.be a = c) then w.cell? ⟨c, o, none⟩ else g.fz c o }
noncomputable def bc5 (h : Hp) (D : Nat → Prop) : Hp := fun a => if D a then .gone else h a
section
variable {P : Program} {w w' : World} {g g' : G} {h h' : Hp} {D : Nat → Prop} {nx nx' : Nat}
theorem ar9 (hH : HR w g h nx) : Le g (frz w g h D) := by
 refine ⟨fun a ha => ⟨ha, rfl, rfl⟩, fun c o v hz => ?_⟩
 show (if _ then _ else _) = _
 split
 ·rename_i hc
  obtain ⟨a, _, hl, rfl⟩ := hc
  exact ((hH.fz _ o v hz).2 a hl rfl).elim
 ·exact hz
theorem frz_at {a o : Nat} (hD : D a) (hl : (h a).live = true) : (frz w g h D).fz (g.be a) o = w.cell? ⟨g.be a, o, none⟩ := if_pos ⟨a, hD, hl, rfl⟩
theorem frz_out {c o : Nat} {v : Value} (hz : (frz w g h D).fz c o = some v) : g.fz c o = some v ∨ ∃ a, (h a).live = true ∧ g.be a = c := by
 change (if _ then _ else _) = _ at hz
 split at hz
 ·rename_i hc
  obtain ⟨a, _, hl, e⟩ := hc
  exact .inr ⟨a, hl, e⟩
 ·exact .inl hz
theorem ad1 {a : Nat} (hl : (bc5 h D a).live = true) : ¬ D a ∧ bc5 h D a = h a ∧ (h a).live = true := by
 unfold bc5 at hl ⊢
 split at hl
 ·cases hl
 ·rename_i hd; rw [if_neg hd]; exact ⟨hd, rfl, hl⟩
theorem HR.drop (hH : HR w g h nx) : HR w (frz w g h D) (bc5 h D) nx := by
 refine ⟨fun a => ?_, fun a ha => hH.dm a (ad1 ha).2.2, fun a b ha hb e => hH.inj a b (ad1 ha).2.2 (ad1 hb).2.2 e, hH.nx, hH.lt, fun c o v hz => ?_⟩
 ·unfold bc5
  split
  ·trivial
  ·exact (hH.ob a).mono (ar9 hH) (hH.dm a) (fun _ => rfl)
 ·change (if _ then _ else _) = _ at hz
  split at hz
  ·rename_i hc
   obtain ⟨b, hb, hl, rfl⟩ := hc
   refine ⟨hz, fun a ha e => ?_⟩
   obtain ⟨q1, q2, q3⟩ := ad1 ha
   have := hH.inj a b q3 hl e
   subst this
   exact q1 hb
  ·exact ⟨(hH.fz c o v hz).1, fun a ha e => (hH.fz c o v hz).2 a (ad1 ha).2.2 e⟩
theorem Se.vr (hH : HR w g h nx) {x y : V} (ht : Se h D x y) : ∀ v, VR g x v → VR (frz w g h D) y v := by
 induction ht with
 | same x => intro v hv; exact hv.mono (ar9 hH)
 | nil => intro v hv; cases hv; exact .ts0
 | sl a off wd len cp gr cs rows ha hD hl hb hw hr ih =>
   intro v hv
   cases hv with
   | sl _ _ _ _ _ cap o hd hle ho hc =>
   have hob := hH.ob a
   rw [ha] at hob
   obtain ⟨arr, T, k1, k2, k3, k4, k5⟩ := hob
   have hlv : (h a).live = true := by rw [ha]; rfl
   by_cases h0 : len = 0
   ·subst h0
    have : rows = [] := List.length_eq_zero_iff.1 hl
    subst this
    exact .tse _ cap
   have ho := ho (by omega)
   have key : ∀ (i j : Nat) (row : List V) (y : V), rows[i]? = some row → row[j]? = some y → ∃ x u, cs[off + i * wd + j]? = some x ∧ arr[o + i * wd + j]? = some u ∧ u.oneCell' = true ∧ VR g x u := by
    intro i j row y e1 e2
    have hi : i < len := by rw [← hl]; exact (List.getElem?_eq_some_iff.1 e1).1
    have hj : j < wd := by rw [← hw i row e1]; exact (List.getElem?_eq_some_iff.1 e2).1
    have hlt : off + i * wd + j < cs.length := by
     have h1 : i * wd + wd ≤ len * wd := by
      have : (i + 1) * wd ≤ len * wd := Nat.mul_le_mul_right _ hi
      rw [Nat.add_mul, Nat.one_mul] at this; exact this
     omega
    have e3 : cs[off + i * wd + j]? = some (cs[off + i * wd + j]'hlt) := by simp [hlt]
    obtain ⟨u, u1, u2, u3⟩ := k5 _ _ e3
    exact ⟨_, u, e3, by rw [← u1]; congr 1; omega, u2, u3⟩
   have hres : VR (frz w g h D) (.ts rows) (.slice (some ⟨g.be a, o, none⟩) rows.length cap) := by
    refine .ts rows wd (g.be a) o cap (fun i j => (arr[o + i * wd + j]?).getD undef) hw (by omega) (fun i j row y e1 e2 => ?_) (fun i j row y e1 e2 => ?_)
    ·obtain ⟨x, u, q1, q2, q3, q4⟩ := key i j row y e1 e2
     have hcell : w.cell? ⟨g.be a, o + i * wd + j, none⟩ = some u := by rw [ak4 k1]; exact q2
     show (frz w g h D).fz (g.be a) (o + i * wd + j) = some ((arr[o + i * wd + j]?).getD undef) ∧ ((arr[o + i * wd + j]?).getD undef).oneCell' = true
     rw [frz_at hD hlv, q2]; exact ⟨hcell, q3⟩
    ·obtain ⟨x, u, q1, q2, q3, q4⟩ := key i j row y e1 e2
     show VR _ y ((arr[o + i * wd + j]?).getD undef)
     rw [q2]; exact ih i j row y x e1 e2 q1 u q4
   rw [hl] at hres
   exact hres
 | ag xs ys hl hr ih =>
   intro v hv
   cases hv with
   | ag _ a hs h1 hrr =>
   refine .ag ys a (by rw [hs, hl]) h1 (fun j y u e1 e2 => ?_)
   have hj : j < xs.length := by rw [hl]; exact (List.getElem?_eq_some_iff.1 e1).1
   have e3 : xs[j]? = some xs[j] := by simp [hj]
   exact ih j _ y e3 e1 u (hrr j _ u e3 e2)
 | tu xs ys hl hr ih =>
   intro v hv
   cases hv with
   | tu _ a hs hrr =>
   refine .tu ys a (by rw [hs, hl]) (fun j y u e1 e2 => ?_)
   have hj : j < xs.length := by rw [hl]; exact (List.getElem?_eq_some_iff.1 e1).1
   have e3 : xs[j]? = some xs[j] := by simp [hj]
   exact ih j _ y e3 e1 u (hrr j _ u e3 e2)
theorem PC.frz {f : FuncId} {xs ys : List V} {r : V} (hp : PC P f ys r) (hl : xs.length = ys.length) (ht : ∀ (j : Nat) (x y : V), xs[j]? = some x → ys[j]? = some y → Se h D x y) (hx : clL ys = true) (hr : r.cl = true) : ACalls P f xs h nx r (bc5 h D) nx := by
 have hc := hp.at hx hr (bc5 h D) nx
 refine ⟨hc.1, fun w g vs hH hv => (hc.2 w (B.frz w g h D) vs hH.drop ⟨by rw [hv.1, hl], fun j y v e1 e2 => ?_⟩).mono ?_⟩
 ·have hj : j < xs.length := by rw [hl]; exact (List.getElem?_eq_some_iff.1 e1).1
  have e3 : xs[j]? = some xs[j] := by simp [hj]
  exact (ht j _ y e3 e1).vr hH v (hv.2 j _ v e3 e2)
 ·rintro e w' ⟨v, g', rfl, q1, q2, s, q4⟩
  refine ⟨v, g', rfl, q1, q2, ⟨(ar9 hH).trans s.le, s.size, fun c hc hn => s.keep c hc (fun a ha => hn a (ad1 ha).2.2), fun a ha => (s.own a ha).imp id (fun ⟨b, hb, e⟩ => ⟨b, (ad1 hb).2.2, e⟩), s.dom, fun c o u hz => ?_, s.out, s.os⟩, q4⟩
  rcases s.fzn c o u hz with q | q | ⟨b, hb, e⟩
  ·rcases frz_out q with q | q
   ·exact .inl q
   ·exact .inr (.inr q)
  ·exact .inr (.inl q)
  ·exact .inr (.inr ⟨b, (ad1 hb).2.2, e⟩)
theorem APost.frz {x y : V} {e : Ending} {H : Hp} (hp : APost w g H nx x h nx' e w') (ht : Se h (fun _ => True) x y) : APost w g H nx y (fun _ => .no) nx' e w' := by
 obtain ⟨v, g', rfl, q1, q2, s, q4⟩ := hp
 have hd : HR w' (B.frz w' g' h fun _ => True) (fun _ => .no) nx' := by
  have := q2.drop (D := fun _ => True)
  exact ⟨fun _ => trivial, fun a ha => (by cases ha), fun a b ha => (by cases ha), this.nx, this.lt, fun c o v hz => ⟨(this.fz c o v hz).1, fun a ha => (by cases ha)⟩⟩
 refine ⟨v, B.frz w' g' h fun _ => True, rfl, ht.vr q2 v q1, hd, ⟨s.le.trans (ar9 q2), s.size, s.keep, fun a ha => (by cases ha), s.dom, fun c o u hz => ?_, s.out, s.os⟩, q4⟩
 rcases frz_out hz with q | ⟨a, ha, e⟩
 ·exact s.fzn c o u q
 ·rcases s.own a ha with q | ⟨b, hb, q⟩
  ·exact .inr (.inl (by rw [← e]; exact q))
  ·exact .inr (.inr ⟨b, hb, q.trans e⟩)
end
def retT (res : List AR) (r : V) : Exit → KL
 | .normal, l, hs | .ret, l, hs => ∃ x, an7 (mkS l hs) res = some x ∧ Se (hpL hs) (fun _ => True) x r
 | _, _, _ => False
theorem ae2 {res : List AR} {r : V} {l : List V} {hs : List O} : retT res r .normal l hs = bnd (an7 (mkS l hs) res) (fun x => Se (hpL hs) (fun _ => True) x r) .mk := rfl
theorem ae1 {res : List AR} {r : V} {l : List V} {hs : List O} : retT res r .ret l hs = bnd (an7 (mkS l hs) res) (fun x => Se (hpL hs) (fun _ => True) x r) .mk := rfl
theorem pc_frz {P : Program} [iop : OkP P] {f : FuncId} {fn : Func} {af : AF} {xs : List V} {r : V} (hf : P.funcs[f]? = some fn) (hc : j3 P fn af = true) (hlen : Nat.ble xs.length af.nt = true)
  (hw : swp P af.body (retT af.res r) (xs ++ List.replicate (af.nt - xs.length) .und) []) : PC P f xs r := by
 refine (pc_any hf hc hlen (Q := fun x hs => Se (hpL hs) (fun _ => True) x r) (ag4 (fun e l hs h => ?_) hw) (fun w g w' g' v x hs nx' hq hv hh hs' hn => ?_))
 ·cases e <;> first | exact h.elim | exact h
 ·exact APost.frz ⟨v, g', rfl, hv, hh, hs', hn⟩ hq
theorem VR.empty {g : G} {v : Value} (h : VR g (.ts []) v) : VR g .ns v ∨ VR g .te v := by
 cases h with
 | ts0 => exact .inl .ns
 | tse a cap => exact .inr (.te a cap)
 | ts _ wd c o cap u hw hcap hc hr => exact .inr (.te _ cap)
theorem PC.empty {P : Program} {f : FuncId} {xs ys : List V} {r : V} (h1 : PC P f (xs ++ .ns :: ys) r) (h2 : PC P f (xs ++ .te :: ys) r) : PC P f (xs ++ .ts [] :: ys) r := by
 refine ⟨h1.1, fun w g vs hH hv => ?_⟩
 have key : ∀ y : V, (∀ v, VR g (.ts []) v → vs[xs.length]? = some v → VR g y v) → VRs g (xs ++ y :: ys) vs := by
  intro y hy
  refine ⟨by rw [hv.1]; simp, fun j x v e1 e2 => ?_⟩
  rcases Nat.lt_trichotomy j xs.length with hj | hj | hj
  ·rw [List.getElem?_append_left hj] at e1
   exact hv.2 j x v (by rw [List.getElem?_append_left hj]; exact e1) e2
  ·subst hj
   rw [List.getElem?_append_right (Nat.le_refl _)] at e1
   simp at e1
   subst e1
   exact hy v (hv.2 _ _ v (by rw [List.getElem?_append_right (Nat.le_refl _)]; simp) e2) e2
  ·rw [List.getElem?_append_right (by omega)] at e1
   refine hv.2 j x v ?_ e2
   rw [List.getElem?_append_right (by omega)]
   obtain ⟨m, hm⟩ : ∃ m, j - xs.length = m + 1 := ⟨j - xs.length - 1, by omega⟩
   rw [hm] at e1 ⊢
   simpa using e1
 have hlt : xs.length < vs.size := by rw [hv.1]; simp
 have e0 : vs[xs.length]? = some vs[xs.length] := by simp [hlt]
 rcases (hv.2 xs.length (.ts []) _ (by rw [List.getElem?_append_right (Nat.le_refl _)]; simp) e0).empty with q | q
 ·exact h1.2 w g vs hH (key _ fun v _ e => by rw [e0] at e; cases e; exact q)
 ·exact h2.2 w g vs hH (key _ fun v _ e => by rw [e0] at e; cases e; exact q)
end Go.B
