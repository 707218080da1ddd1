/-
  What a call has made, seen as trees or under new addresses, the rest of it dropped. Program-independent.
-/
import Derived.Test.YtagogibgoknncaaGreatDoorBX
set_option linter.unusedSectionVars false
set_option linter.unusedVariables false
set_option linter.unusedSimpArgs false
namespace Go.B
variable [iok : OkC]
inductive Sr (h : Hp) (D : Nat → Prop) (R : Nat → Nat → Prop) : V → V → Prop
 | same (x : V) (hx : x.cl = true) : Sr h D R x x
 | nil : Sr h D R .ns (.ts [])
 | p (a a' off : Nat) (hr : R a a') : Sr h D R (.p a off) (.p a' off)
 | m (a a' : Nat) (hr : R a a') : Sr h D R (.m a) (.m a')
 | sa (a a' off wd len : Nat) (cp : Option Nat) (hr : R a a') : Sr h D R (.sl a off wd len cp) (.sl a' off wd len cp)
 | fz (x y : V) (hs : Se h D x y) (hy : y.cl = true) : Sr h D R x y
 | ag (xs ys : List V) (hl : xs.length = ys.length) (hr : ∀ (j : Nat) (x y : V), xs[j]? = some x → ys[j]? = some y → Sr h D R x y) : Sr h D R (.ag xs) (.ag ys)
 | tu (xs ys : List V) (hl : xs.length = ys.length) (hr : ∀ (j : Nat) (x y : V), xs[j]? = some x → ys[j]? = some y → Sr h D R x y) : Sr h D R (.tu xs) (.tu ys)
def Rs (n : Nat) (ss : List Nat) (a a' : Nat) : Prop := (a = a' ∧ a < n) ∨ ∃ k : Nat, a' = n + k ∧ ss[k]? = some a
inductive Os (h : Hp) (D : Nat → Prop) (R : Nat → Nat → Prop) : O → O → Prop
 | c (gr : Bool) (xs ys : List V) (hl : xs.length = ys.length) (hr : ∀ (j : Nat) (x y : V), xs[j]? = some x → ys[j]? = some y → Sr h D R x y) : Os h D R (.c gr xs) (.c gr ys)
 | m (es : List (V × V × Nat)) (ck : Nat) (he : ∀ n, ltE n es = true) : Os h D R (.m es ck) (.m es ck)
structure Pack (n : Nat) (h : Hp) (D : Nat → Prop) (ss : List Nat) (cs : List O) : Prop where
 new : ∀ a, D a → n ≤ a
 src : ∀ (k a : Nat), ss[k]? = some a → n ≤ a ∧ ¬ D a
 nod : ∀ (j k a : Nat), ss[j]? = some a → ss[k]? = some a → j = k
 len : ss.length = cs.length
 os : ∀ (k a : Nat) (o : O), ss[k]? = some a → cs[k]? = some o → Os h D (Rs n ss) (h a) o
noncomputable def gRen (g : G) (n : Nat) (ss : List Nat) : G :=
 { g with be := fun a => if a < n then g.be a else g.be (ss.getD (a - n) 0), cz := fun a => if a < n then g.cz a else g.cz (ss.getD (a - n) 0), dom := fun a => (a < n ∧ g.dom a) ∨ (n ≤ a ∧ a - n < ss.length ∧ g.dom (ss.getD (a - n) 0)) }
theorem Rs.ghost {g : G} {n : Nat} {ss : List Nat} {a a' : Nat} (h : Rs n ss a a') (hd : g.dom a) : (gRen g n ss).dom a' ∧ (gRen g n ss).be a' = g.be a ∧ (gRen g n ss).cz a' = g.cz a := by
 rcases h with ⟨rfl, h⟩ | ⟨k, rfl, hk⟩
 ·exact ⟨.inl ⟨h, hd⟩, if_pos h, if_pos h⟩
 ·have hl := (List.getElem?_eq_some_iff.1 hk).1
  have e : ss.getD (n + k - n) 0 = a := by rw [Nat.add_sub_cancel_left, List.getD_eq_getElem?_getD, hk]; rfl
  refine ⟨.inr ⟨by omega, by omega, by rw [e]; exact hd⟩, ?_, ?_⟩
  ·show (if n + k < n then _ else _) = _
   rw [if_neg (by omega), e]
  ·show (if n + k < n then _ else _) = _
   rw [if_neg (by omega), e]
section
variable {w : World} {g : G} {h : Hp} {D : Nat → Prop} {nx n : Nat} {ss : List Nat}
theorem Sr.vr (hH : HR w g h nx) {x y : V} (hs : Sr h D (Rs n ss) x y) : ∀ v, VR g x v → VR (gRen (frz w g h D) n ss) y v := by
 have hz : ∀ c o u, (frz w g h D).fz c o = some u → (gRen (frz w g h D) n ss).fz c o = some u := fun c o u e => e
 induction hs with
 | same x hx => intro v hv; exact (hv.mono (ar9 hH)).fzOf hz hx
 | nil => intro v hv; cases hv; exact .ts0
 | p a a' off hr =>
   intro v hv
   cases hv with
   | p _ _ hd =>
     obtain ⟨h1, h2, h3⟩ := hr.ghost (g := frz w g h D) (show (frz w g h D).dom a from hd)
     rw [show g.be a = (frz w g h D).be a from rfl, show g.cz a = (frz w g h D).cz a from rfl, ← h2, ← h3]
     exact .p a' off h1
 | m a a' hr =>
   intro v hv
   cases hv with
   | m _ hd =>
     obtain ⟨h1, h2, _⟩ := hr.ghost (g := frz w g h D) (show (frz w g h D).dom a from hd)
     rw [show g.be a = (frz w g h D).be a from rfl, ← h2]
     exact .m a' h1
 | sa a a' off wd len cp hr =>
   intro v hv
   cases hv with
   | sl _ _ _ _ _ cap o hd hl ho hc =>
     obtain ⟨h1, h2, h3⟩ := hr.ghost (g := frz w g h D) (show (frz w g h D).dom a from hd)
     rw [show g.be a = (frz w g h D).be a from rfl, ← h2]
     exact .sl a' off wd len cp cap o h1 hl (by rw [h3]; exact ho) (by rw [h3]; exact hc)
 | fz x y hse hy => intro v hv; exact (hse.vr hH v hv).fzOf hz hy
 | ag xs ys hl hr ih =>
   intro v hv
   cases hv with
   | ag _ a hs h1 hrr =>
     refine .ag ys a (by rw [hs, hl]) h1 (fun j y u e1 e2 => ?_)
     have hj : j < xs.length := by rw [hl]; exact (List.getElem?_eq_some_iff.1 e1).1
     have e3 : xs[j]? = some xs[j] := by simp [hj]
     exact ih j _ y e3 e1 u (hrr j _ u e3 e2)
 | tu xs ys hl hr ih =>
   intro v hv
   cases hv with
   | tu _ a hs hrr =>
     refine .tu ys a (by rw [hs, hl]) (fun j y u e1 e2 => ?_)
     have hj : j < xs.length := by rw [hl]; exact (List.getElem?_eq_some_iff.1 e1).1
     have e3 : xs[j]? = some xs[j] := by simp [hj]
     exact ih j _ y e3 e1 u (hrr j _ u e3 e2)
end
theorem APost.pack {w w' : World} {g : G} {x y : V} {e : Ending} {H h : Hp} {n nx' : Nat} {D : Nat → Prop} {ss : List Nat} {js cs : List O} (hH : HR w g H n) (hp : APost w g H n x h nx' e w') (hn : js.length = n) (hj : ∀ a, a < n → h a = hpL js a) (hjl : ltO n js = true)
  (hk : Pack n h D ss cs) (hs : Sr h D (Rs n ss) x y) : APost w g H n y (hpL (js ++ cs)) (js ++ cs).length e w' := by
 obtain ⟨v, g', rfl, q1, q2, s, q4⟩ := hp
 have hold : ∀ a, a < n → hpL (js ++ cs) a = h a := fun a ha => by
  rw [hj a ha]
  simp only [hpL, List.getD_eq_getElem?_getD, List.getElem?_append_left (show a < js.length by omega)]
 have hnew : ∀ a, n ≤ a → hpL (js ++ cs) a = hpL cs (a - n) := fun a ha => by
  simp only [hpL, List.getD_eq_getElem?_getD, List.getElem?_append_right (show js.length ≤ a by omega), hn]
 have hat : ∀ a, n ≤ a → (hpL cs (a - n)).live = true → ∃ b o, ss[a - n]? = some b ∧ cs[a - n]? = some o ∧ hpL cs (a - n) = o ∧ (h b).live = true ∧ Os h D (Rs n ss) (h b) o := fun a ha hl => by
  cases hc : cs[a - n]? with
  | none => simp only [hpL, List.getD_eq_getElem?_getD, hc, Option.getD_none] at hl; cases hl
  | some o =>
    have hi := (List.getElem?_eq_some_iff.1 hc).1
    obtain ⟨b, hb⟩ : ∃ b, ss[a - n]? = some b := ⟨ss[a - n]'(by rw [hk.len]; exact hi), by simp [hk.len, hi]⟩
    have ho := hk.os _ _ _ hb hc
    have e : hpL cs (a - n) = o := by simp only [hpL, List.getD_eq_getElem?_getD, hc, Option.getD_some]
    refine ⟨b, o, hb, rfl, e, ?_, ho⟩
    generalize h b = u at ho
    cases ho <;> rfl
 have hbe : ∀ a b, n ≤ a → ss[a - n]? = some b → (gRen (B.frz w' g' h D) n ss).be a = g'.be b := fun a b ha hb => by
  show (if a < n then _ else _) = _
  rw [if_neg (by omega), List.getD_eq_getElem?_getD, hb]
  rfl
 have hlow : ∀ a, a < n → (gRen (B.frz w' g' h D) n ss).be a = g'.be a := fun a ha => if_pos ha
 have hlive : ∀ a, (hpL (js ++ cs) a).live = true → ∃ b, (h b).live = true ∧ ¬ D b ∧ (gRen (B.frz w' g' h D) n ss).be a = g'.be b ∧ ((a < n ∧ b = a) ∨ (n ≤ a ∧ n ≤ b ∧ ss[a - n]? = some b)) := fun a hl => by
  rcases Nat.lt_or_ge a n with q | q
  ·rw [hold a q] at hl
   exact ⟨a, hl, fun hd => by have := hk.new a hd; omega, hlow a q, .inl ⟨q, rfl⟩⟩
  ·rw [hnew a q] at hl
   obtain ⟨b, o, h1, _, _, h4, _⟩ := hat a q hl
   obtain ⟨h5, h6⟩ := hk.src _ _ h1
   exact ⟨b, h4, h6, hbe a b q h1, .inr ⟨q, h5, h1⟩⟩
 refine ⟨v, gRen (B.frz w' g' h D) n ss, rfl, hs.vr q2 v q1, ⟨fun a => ?_, fun a hl => ?_, fun a b ha hb e => ?_, fun a ha => ?_, fun a ha => ?_, fun c o u hz => ?_⟩,
  ⟨⟨fun a ha => ?_, fun c o u hz => (ar9 q2).fz c o u (s.le.fz c o u hz)⟩, s.size, s.keep, fun a hl => ?_, fun a ha => ?_, fun c o u hz => ?_, s.out, s.os⟩, by rw [List.length_append]; omega⟩
 ·
  rcases Nat.lt_or_ge a n with q | q
  ·rw [hold a q]
   have hob : OR w' (B.frz w' g' h D) a (h a) := (q2.ob a).mono (ar9 q2) (q2.dm a) (fun _ => rfl)
   refine hob.ltOf q (fun hl => q2.dm a hl) (fun b hb hd => ?_) (fun c o u e => e) ?_
   ·exact ⟨.inl ⟨hb, hd⟩, if_pos hb, if_pos hb⟩
   ·rw [hj a q]
    have e1 : js[a]? = some (js[a]'(by omega)) := by simp [show a < js.length by omega]
    have := bb1 hjl e1
    simp only [hpL, List.getD_eq_getElem?_getD, e1, Option.getD_some]
    exact this
  ·rw [hnew a q]
   cases hlv : (hpL cs (a - n)).live with
   | false => cases ho : hpL cs (a - n) <;> rw [ho] at hlv <;> first | trivial | (cases hlv; done)
   | true =>
     obtain ⟨b, o, h1, h2, h3, h4, h5⟩ := hat a q hlv
     rw [h3]
     have hob := q2.ob b
     have hrs : Rs n ss b a := .inr ⟨a - n, by omega, h1⟩
     have hgh := hrs.ghost (g := B.frz w' g' h D) (q2.dm b h4)
     generalize hu : h b = u at h5 hob
     cases h5 with
     | c gr xs ys hl hr =>
       obtain ⟨arr, T, k1, k2, k3, k4, k5⟩ := hob
       refine ⟨arr, T, (by rw [hgh.2.1]; exact k1), (by rw [hgh.2.2]; exact k2), by rw [← hl, hgh.2.2]; exact k3, fun e => by rw [← hl, hgh.2.2]; exact k4 e, fun j y e => ?_⟩
       have hj' : j < xs.length := by rw [hl]; exact (List.getElem?_eq_some_iff.1 e).1
       have e3 : xs[j]? = some xs[j] := by simp [hj']
       obtain ⟨v, v1, v2, v3⟩ := k5 j _ e3
       exact ⟨v, by rw [hgh.2.2]; exact v1, v2, (hr j _ y e3 e).vr q2 v v3⟩
     | m es ck he =>
       obtain ⟨ents, k1, k2, k3⟩ := hob
       refine ⟨ents, by rw [hgh.2.1]; exact k1, k2, fun k x e e1 e2 => ?_⟩
       obtain ⟨r1, r2, r3⟩ := k3 k x e e1 e2
       obtain ⟨l1, l2⟩ := ltE_get (he 0) e1
       have hz : ∀ c o u, g'.fz c o = some u → (gRen (B.frz w' g' h D) n ss).fz c o = some u := fun c o u e => (ar9 q2).fz c o u e
       exact ⟨r1.ltOf (n := 0) (fun a ha => by omega) hz l1, r2.ltOf (n := 0) (fun a ha => by omega) hz l2, r3⟩
 ·
  obtain ⟨b, h1, h2, h3, h4⟩ := hlive a hl
  rcases h4 with ⟨h4, rfl⟩ | ⟨h4, h5, h6⟩
  ·exact .inl ⟨h4, q2.dm b h1⟩
  ·have := (List.getElem?_eq_some_iff.1 h6).1
   refine .inr ⟨h4, this, ?_⟩
   rw [List.getD_eq_getElem?_getD, h6]
   exact q2.dm b h1
 ·
  obtain ⟨c, h1, h2, h3, h4⟩ := hlive a ha
  obtain ⟨d, k1, k2, k3, k4⟩ := hlive b hb
  have : c = d := q2.inj c d h1 k1 (by rw [← h3, ← k3]; exact e)
  subst this
  rcases h4 with ⟨h4, rfl⟩ | ⟨h4, h5, h6⟩ <;> rcases k4 with ⟨k4, k5⟩ | ⟨k4, k5, k6⟩
  ·exact k5
  ·omega
  ·omega
  ·have := hk.nod _ _ _ h6 k6; omega
 ·
  rcases ha with ⟨h1, _⟩ | ⟨h1, h2, _⟩
  ·rw [List.length_append]; omega
  ·rw [hk.len] at h2; rw [List.length_append]; omega
 ·
  rcases ha with ⟨h1, h2⟩ | ⟨h1, h2, h3⟩
  ·rw [hlow a h1]; exact q2.lt a h2
  ·have hb : ss[a - n]? = some (ss[a - n]) := by simp [h2]
   rw [hbe a _ h1 hb]
   rw [List.getD_eq_getElem?_getD, hb] at h3
   exact q2.lt _ h3
 ·
  have hd := q2.drop (D := D)
  have := hd.fz c o u hz
  refine ⟨this.1, fun a hl e => ?_⟩
  obtain ⟨b, h1, h2, h3, _⟩ := hlive a hl
  refine this.2 b ?_ (by rw [← e, h3]; rfl)
  unfold bc5
  rw [if_neg h2]; exact h1
 ·have ha' := hH.nx a ha
  obtain ⟨h1, h2, h3⟩ := s.le.dom a ha
  exact ⟨.inl ⟨ha', h1⟩, by rw [hlow a ha']; exact h2, (show (if a < n then _ else _) = _ by rw [if_pos ha']; exact h3)⟩
 ·obtain ⟨b, h1, h2, h3, _⟩ := hlive a hl
  rw [h3]
  exact s.own b h1
 ·rcases ha with ⟨h1, h2⟩ | ⟨h1, _, _⟩
  ·rcases s.dom a h2 with q | q
   ·exact .inl q
   ·omega
  ·exact .inr h1
 ·rcases frz_out hz with q | ⟨a, ha, e⟩
  ·exact s.fzn c o u q
  ·rcases s.own a ha with q | ⟨b, hb, q⟩
   ·exact .inr (.inl (by rw [← e]; exact q))
   ·exact .inr (.inr ⟨b, hb, q.trans e⟩)
def retPk (res : List AR) (y : V) (js cs : List O) : Exit → KL
 | .normal, l, hs | .ret, l, hs => ∃ x, an7 (mkS l hs) res = some x ∧ ∃ (Z : List O) (D : Nat → Prop) (ss : List Nat), hs = js ++ Z ∧ Pack js.length (hpL hs) D ss cs ∧ Sr (hpL hs) D (Rs js.length ss) x y
 | _, _, _ => False
theorem ah3 {res : List AR} {y : V} {js cs : List O} {l : List V} {hs : List O} : retPk res y js cs .normal l hs = bnd (an7 (mkS l hs) res) (fun x => ∃ (Z : List O) (D : Nat → Prop) (ss : List Nat), hs = js ++ Z ∧ Pack js.length (hpL hs) D ss cs ∧ Sr (hpL hs) D (Rs js.length ss) x y) .mk := rfl
theorem ah2 {res : List AR} {y : V} {js cs : List O} {l : List V} {hs : List O} : retPk res y js cs .ret l hs = bnd (an7 (mkS l hs) res) (fun x => ∃ (Z : List O) (D : Nat → Prop) (ss : List Nat), hs = js ++ Z ∧ Pack js.length (hpL hs) D ss cs ∧ Sr (hpL hs) D (Rs js.length ss) x y) .mk := rfl
theorem be0 {P : Program} [iop : OkP P] {f : FuncId} {fn : Func} {af : AF} {xs : List V} {hs js cs : List O} {y : V} (hf : P.funcs[f]? = some fn) (hc : j3 P fn af = true) (hlen : Nat.ble xs.length af.nt = true)
  (hl : js.length = hs.length) (ho : ltO hs.length js = true)
  (hw : swp P af.body (retPk af.res y js cs) (xs ++ List.replicate (af.nt - xs.length) .und) hs) : ACalls P f xs (hpL hs) hs.length y (hpL (js ++ cs)) (js ++ cs).length := by
 have hlen : xs.length ≤ af.nt := Nat.le_of_ble_eq_true hlen
 simp only [j3, Bool.and_eq_true, Bool.not_eq_true', beq_iff_eq] at hc
 obtain ⟨⟨⟨c1, c2⟩, c4⟩, c5⟩ := hc
 have hw := ah6 _ hw
 rw [ar0] at hw
 cases hb : fn.body with
 | none => rw [hb] at c5; cases c5
 | some code =>
   rw [hb] at c5
   refine ⟨⟨fn, hf, c4, by rw [hb]; rfl⟩, fun w g vs hH hv => ?_⟩
   have hsz : (vs ++ Array.replicate (fn.ntmps - vs.size) undef).size = af.nt := by
    have := hv.1
    simp; omega
   have hst : StR w g (vs ++ Array.replicate (fn.ntmps - vs.size) undef) (au5 xs (hpL hs) hs.length) := by
    refine ⟨fun s => ?_, hH⟩
    show VR g (xs.getD s .und) _
    rcases Nat.lt_or_ge s xs.length with hs | hs
    ·have e1 : xs[s]? = some xs[s] := by simp [hs]
     have hs' : s < vs.size := by rw [hv.1]; exact hs
     have e2 : vs[s]? = some vs[s] := by simp [hs']
     have e3 : (vs ++ Array.replicate (fn.ntmps - vs.size) undef).getD s undef = vs[s] := by
      rw [Array.getD_eq_getD_getElem?, Array.getElem?_append_left hs', e2]; rfl
     rw [e3, List.getD_eq_getElem?_getD, e1]
     exact hv.2 s _ _ e1 e2
    ·rw [List.getD_eq_getElem?_getD, List.getElem?_eq_none hs]; exact .und _
   refine ac0 (Q := fun e st => (e = .normal ∨ e = .ret) ∧ ∃ x, an7 st af.res = some x ∧ ∃ (Z : List O) (D : Nat → Prop) (ss : List Nat), st.h = hpL (js ++ Z) ∧ Pack js.length st.h D ss cs ∧ Sr st.h D (Rs js.length ss) x y) hf hb c5 hsz hst (o6 (fun e s hs => ?_) hw) ?_ (fun e st' hq => hq.1)
   ·obtain ⟨l', hs'', rfl, h'⟩ := hs
    cases e <;> first
     | exact h'.elim
     | (obtain ⟨x, h1, Z, D, ss, h2, h3, h4⟩ := h'; exact ⟨.inl rfl, x, h1, Z, D, ss, by rw [← h2]; rfl, h3, h4⟩)
     | (obtain ⟨x, h1, Z, D, ss, h2, h3, h4⟩ := h'; exact ⟨.inr rfl, x, h1, Z, D, ss, by rw [← h2]; rfl, h3, h4⟩)
   ·intro e tmps w' g' st' hq' hS hT hX
    obtain ⟨_, x, k2, Z, D, ss, k3, k4, k5⟩ := hq'
    obtain ⟨v, v1, v2⟩ := ad3 hS c2 k2
    refine ⟨v, v1, ?_⟩
    rw [hl] at k4 k5
    refine APost.pack (n := hs.length) hH ⟨v, g', rfl, v2, hS.hr, hT, hX⟩ hl (fun a ha => ?_) ho k4 k5
    rw [k3]
    simp only [hpL, List.getD_eq_getElem?_getD, List.getElem?_append_left (show a < js.length by omega)]
end Go.B
