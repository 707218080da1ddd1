/-
  What a call has made and nobody holds is dropped. Program-independent.
-/
import Derived.Test.YtagogibgoknncaaGreatDoorBZ
set_option linter.unusedSectionVars false
set_option linter.unusedVariables false
set_option linter.unusedSimpArgs false
namespace Go.B
variable [iok : OkC]
mutual
def V.lt (n : Nat) : V → Bool
 | .p a _ => decide (a < n)
 | .sl a _ _ _ _ => decide (a < n)
 | .m a => decide (a < n)
 | .yl a => decide (a < n)
 | .fn _ a b => ltL n a && ltL n b
 | .ifc _ v => v.lt n
 | .ag l => ltL n l
 | .tu l => ltL n l
 | .ts r => ltR n r
 | .tp r _ => ltL n r
 | .b _ => true
 | .i _ _ => true
 | .s _ _ => true
 | .np => true
 | .ns => true
 | .nm => true
 | .nf => true
 | .ni => true
 | .und => true
 | .te => true
def ltL (n : Nat) : List V → Bool
 | [] => true
 | x :: xs => x.lt n && ltL n xs
def ltR (n : Nat) : List (List V) → Bool
 | [] => true
 | x :: xs => ltL n x && ltR n xs
end
theorem al8 {n : Nat} : ∀ {l : List V}, ltL n l = true → ∀ {j : Nat} {x : V}, l[j]? = some x → x.lt n = true
 | [], _, j, x, e => by simp at e
 | y :: l, h, 0, x, e => by simp at e; subst e; simp only [ltL, Bool.and_eq_true] at h; exact h.1
 | y :: l, h, j + 1, x, e => by simp only [ltL, Bool.and_eq_true] at h; exact al8 h.2 (by simpa using e)
theorem ltR_get {n : Nat} : ∀ {l : List (List V)}, ltR n l = true → ∀ {j : Nat} {x : List V}, l[j]? = some x → ltL n x = true
 | [], _, j, x, e => by simp at e
 | y :: l, h, 0, x, e => by simp at e; subst e; simp only [ltR, Bool.and_eq_true] at h; exact h.1
 | y :: l, h, j + 1, x, e => by simp only [ltR, Bool.and_eq_true] at h; exact ltR_get h.2 (by simpa using e)
mutual
theorem V.lt_of_cl (n : Nat) : ∀ (x : V), x.cl = true → x.lt n = true
 | .p _ _, h => by simp [V.cl] at h
 | .sl _ _ _ _ _, h => by simp [V.cl] at h
 | .m _, h => by simp [V.cl] at h
 | .yl _, h => by simp [V.cl] at h
 | .fn _ a b, h => by simp only [V.cl, Bool.and_eq_true] at h; simp only [V.lt, ac7 n a h.1, ac7 n b h.2, Bool.and_self]
 | .ifc _ v, h => by simp only [V.cl] at h; simp only [V.lt]; exact V.lt_of_cl n v h
 | .ag l, h => by simp only [V.cl] at h; simp only [V.lt]; exact ac7 n l h
 | .tu l, h => by simp only [V.cl] at h; simp only [V.lt]; exact ac7 n l h
 | .ts r, h => by simp only [V.cl] at h; simp only [V.lt]; exact ltR_of_cl n r h
 | .tp r _, h => by simp only [V.cl] at h; simp only [V.lt]; exact ac7 n r h
 | .b _, _ => by simp only [V.lt]
 | .i _ _, _ => by simp only [V.lt]
 | .s _ _, _ => by simp only [V.lt]
 | .np, _ => by simp only [V.lt]
 | .ns, _ => by simp only [V.lt]
 | .nm, _ => by simp only [V.lt]
 | .nf, _ => by simp only [V.lt]
 | .ni, _ => by simp only [V.lt]
 | .und, _ => by simp only [V.lt]
 | .te, _ => by simp only [V.lt]
theorem ac7 (n : Nat) : ∀ (l : List V), clL l = true → ltL n l = true
 | [], _ => by simp only [ltL]
 | x :: l, h => by simp only [clL, Bool.and_eq_true] at h; simp only [ltL, V.lt_of_cl n x h.1, ac7 n l h.2, Bool.and_self]
theorem ltR_of_cl (n : Nat) : ∀ (l : List (List V)), clR l = true → ltR n l = true
 | [], _ => by simp only [ltR]
 | x :: l, h => by simp only [clR, Bool.and_eq_true] at h; simp only [ltR, ac7 n x h.1, ltR_of_cl n l h.2, Bool.and_self]
end
theorem VR.ltOf {g g2 : G} {n : Nat} {x : V} {v : Value} (h : VR g x v) (hd : ∀ a, a < n → g.dom a → g2.dom a ∧ g2.be a = g.be a ∧ g2.cz a = g.cz a) (hz : ∀ c o u, g.fz c o = some u → g2.fz c o = some u) : x.lt n = true → VR g2 x v := by
 induction h with
 | b x => intro _; exact .b x
 | i k n => intro _; exact .i k n
 | s a => intro _; exact .s a
 | np => intro _; exact .np
 | ns => intro _; exact .ns
 | nm => intro _; exact .nm
 | nf => intro _; exact .nf
 | ni => intro _; exact .ni
 | p a off q =>
   intro h
   simp only [V.lt, decide_eq_true_eq] at h
   obtain ⟨h1, h2, h3⟩ := hd a h q
   rw [← h2, ← h3]; exact .p a off h1
 | sl a off wd len cp cap o q hl ho hc =>
   intro h
   simp only [V.lt, decide_eq_true_eq] at h
   obtain ⟨h1, h2, h3⟩ := hd a h q
   rw [← h2]
   exact .sl a off wd len cp cap o h1 hl (by rw [h3]; exact ho) (by rw [h3]; exact hc)
 | m a q =>
   intro h
   simp only [V.lt, decide_eq_true_eq] at h
   obtain ⟨h1, h2, _⟩ := hd a h q
   rw [← h2]; exact .m a h1
 | yl a q =>
   intro h
   simp only [V.lt, decide_eq_true_eq] at h
   obtain ⟨h1, h2, _⟩ := hd a h q
   rw [← h2]; exact .yl a h1
 | fn f fst caps a b ha hb hr hs ih1 ih2 =>
   intro h
   simp only [V.lt, Bool.and_eq_true] at h
   exact .fn f fst caps a b ha hb (fun j x v e1 e2 => ih1 j x v e1 e2 (al8 h.1 e1)) (fun j x v e1 e2 => ih2 j x v e1 e2 (al8 h.2 e1))
 | ifc t x v hr ih => intro h; exact .ifc t x v (ih (by simpa only [V.lt] using h))
 | ag cs a hs h1 hr ih => intro h; simp only [V.lt] at h; exact .ag cs a hs h1 (fun j x v e1 e2 => ih j x v e1 e2 (al8 h e1))
 | tu vs a hs hr ih => intro h; simp only [V.lt] at h; exact .tu vs a hs (fun j x v e1 e2 => ih j x v e1 e2 (al8 h e1))
 | und v => intro _; exact .und v
 | ts0 => intro _; exact .ts0
 | tse a cap => intro _; exact .tse a cap
 | ts rows wd c o cap u hw hcap hc hr ih =>
   intro h
   simp only [V.lt] at h
   exact .ts rows wd c o cap u hw hcap (fun i j row x e1 e2 => ⟨hz _ _ _ (hc i j row x e1 e2).1, (hc i j row x e1 e2).2⟩) (fun i j row x e1 e2 => ih i j row x e1 e2 (al8 (ltR_get h e1) e2))
 | tp row col c o u hc hr ih =>
   intro h
   simp only [V.lt] at h
   exact .tp row col c o u (fun j x e1 => ⟨hz _ _ _ (hc j x e1).1, (hc j x e1).2⟩) (fun j x e1 => ih j x e1 (al8 h e1))
 | te a cap => intro _; exact .te a cap
def ltE (n : Nat) : List (V × V × Nat) → Bool
 | [] => true
 | (k, v, _) :: r => k.lt n && v.lt n && ltE n r
theorem ltE_get {n : Nat} : ∀ {l : List (V × V × Nat)}, ltE n l = true → ∀ {j : Nat} {x : V × V × Nat}, l[j]? = some x → x.1.lt n = true ∧ x.2.1.lt n = true
 | [], _, j, x, e => by simp at e
 | (k, v, b) :: l, h, 0, x, e => by simp at e; subst e; simp only [ltE, Bool.and_eq_true] at h; exact h.1
 | (k, v, b) :: l, h, j + 1, x, e => by simp only [ltE, Bool.and_eq_true] at h; exact ltE_get h.2 (by simpa using e)
def O.lt (n : Nat) : O → Bool
 | .no => true
 | .gone => true
 | .c _ cs => ltL n cs
 | .m es _ => ltE n es
 | .lp _ _ _ _ _ _ => false
def ltO (n : Nat) : List O → Bool
 | [] => true
 | o :: l => o.lt n && ltO n l
theorem bb1 {n : Nat} : ∀ {l : List O}, ltO n l = true → ∀ {j : Nat} {x : O}, l[j]? = some x → x.lt n = true
 | [], _, j, x, e => by simp at e
 | y :: l, h, 0, x, e => by simp at e; subst e; simp only [ltO, Bool.and_eq_true] at h; exact h.1
 | y :: l, h, j + 1, x, e => by simp only [ltO, Bool.and_eq_true] at h; exact bb1 h.2 (by simpa using e)
theorem OR.ltOf {w : World} {g g2 : G} {n a : Nat} {o : O} (h : OR w g a o) (ha : a < n) (hda : o.live = true → g.dom a) (hd : ∀ a, a < n → g.dom a → g2.dom a ∧ g2.be a = g.be a ∧ g2.cz a = g.cz a) (hz : ∀ c o u, g.fz c o = some u → g2.fz c o = some u) (hl : o.lt n = true) : OR w g2 a o := by
 cases o with
 | no => trivial
 | gone => trivial
 | c gr cs =>
   obtain ⟨_, h2, h3⟩ := hd a ha (hda rfl)
   obtain ⟨arr, T, k1, k2, k3, k4, k5⟩ := h
   refine ⟨arr, T, by rw [h2]; exact k1, by rw [h3]; exact k2, by rw [h3]; exact k3, by rw [h3]; exact k4, fun j x e => ?_⟩
   obtain ⟨v, v1, v2, v3⟩ := k5 j x e
   exact ⟨v, by rw [h3]; exact v1, v2, v3.ltOf hd hz (al8 hl e)⟩
 | m es clock =>
   obtain ⟨_, h2, h3⟩ := hd a ha (hda rfl)
   obtain ⟨ents, k1, k2, k3⟩ := h
   refine ⟨ents, by rw [h2]; exact k1, k2, fun k x e e1 e2 => ?_⟩
   obtain ⟨q1, q2, q3⟩ := k3 k x e e1 e2
   obtain ⟨l1, l2⟩ := ltE_get hl e1
   exact ⟨q1.ltOf hd hz l1, q2.ltOf hd hz l2, q3⟩
 | lp ps asg bd sl stt pnd => simp [O.lt] at hl
theorem APost.drop {w w' : World} {g : G} {H h' h'' : Hp} {nx nx' : Nat} {r : V} {e : Ending} (hH : HR w g H nx) (hp : APost w g H nx r h' nx' e w') (hr : r.lt nx = true) (h1 : ∀ a, a < nx → h'' a = h' a ∧ (h' a).lt nx = true) (h2 : ∀ a, nx ≤ a → (h'' a).live = false) : APost w g H nx r h'' nx e w' := by
 obtain ⟨v, g', rfl, q1, q2, s, q4⟩ := hp
 let g2 : G := { g' with dom := fun a => g'.dom a ∧ a < nx }
 have hd : ∀ a, a < nx → g'.dom a → g2.dom a ∧ g2.be a = g'.be a ∧ g2.cz a = g'.cz a := fun a ha hd => ⟨⟨hd, ha⟩, rfl, rfl⟩
 have live : ∀ a, (h'' a).live = true → a < nx ∧ (h' a).live = true := by
  intro a ha
  rcases Nat.lt_or_ge a nx with h | h
  ·rw [(h1 a h).1] at ha; exact ⟨h, ha⟩
  ·rw [h2 a h] at ha; cases ha
 refine ⟨v, g2, rfl, q1.ltOf hd (fun c o u h => h) hr, ⟨fun a => ?_, fun a ha => ⟨q2.dm a (live a ha).2, (live a ha).1⟩, fun a b ha hb e => q2.inj a b (live a ha).2 (live b hb).2 e, fun a ha => ha.2, fun a ha => q2.lt a ha.1, fun c o u hz => ⟨(q2.fz c o u hz).1, fun a ha => (q2.fz c o u hz).2 a (live a ha).2⟩⟩,
  ⟨⟨fun a ha => ⟨⟨(s.le.dom a ha).1, hH.nx a ha⟩, (s.le.dom a ha).2⟩, s.le.fz⟩, s.size, s.keep, fun a ha => s.own a (live a ha).2, fun a ha => .inl ?_, s.fzn, s.out, s.os⟩, Nat.le_refl _⟩
 ·rcases Nat.lt_or_ge a nx with h | h
  ·rw [(h1 a h).1]
   exact (q2.ob a).ltOf h (q2.dm a) hd (fun c o u h => h) (h1 a h).2
  ·have := h2 a h
   cases ho : h'' a <;> rw [ho] at this <;> first | trivial | (cases this; done)
 ·rcases s.dom a ha.1 with h | h
  ·exact h
  ·exact absurd ha.2 (by omega)
def bi4 (hs hs' : List O) : Prop := ∃ zs, hs = hs' ++ zs
def retD (res : List AR) (r : V) (hs' : List O) : Exit → KL
 | .normal, l, hs | .ret, l, hs => an7 (mkS l hs) res = some r ∧ bi4 hs hs'
 | _, _, _ => False
theorem aa9 {res : List AR} {r : V} {l : List V} {hs hs' : List O} : retD res r hs' .normal l hs = (an7 (mkS l hs) res = some r ∧ bi4 hs hs') := rfl
theorem aa8 {res : List AR} {r : V} {l : List V} {hs hs' : List O} : retD res r hs' .ret l hs = (an7 (mkS l hs) res = some r ∧ bi4 hs hs') := rfl
theorem ab4 {P : Program} [iop : OkP P] {f : FuncId} {fn : Func} {af : AF} {xs : List V} {hs hs' : List O} {r : V} (hf : P.funcs[f]? = some fn) (hc : j3 P fn af = true) (hlen : Nat.ble xs.length af.nt = true)
  (hl : hs'.length = hs.length) (hr : r.lt hs.length = true) (ho : ltO hs.length hs' = true)
  (hw : swp P af.body (retD af.res r hs') (xs ++ List.replicate (af.nt - xs.length) .und) hs) : ACalls P f xs (hpL hs) hs.length r (hpL hs') hs'.length := by
 rw [hl]
 have hlen : xs.length ≤ af.nt := Nat.le_of_ble_eq_true hlen
 simp only [j3, Bool.and_eq_true, Bool.not_eq_true', beq_iff_eq] at hc
 obtain ⟨⟨⟨c1, c2⟩, c4⟩, c5⟩ := hc
 have hw := ah6 _ hw
 rw [ar0] at hw
 cases hb : fn.body with
 | none => rw [hb] at c5; cases c5
 | some code =>
   rw [hb] at c5
   refine ⟨⟨fn, hf, c4, by rw [hb]; rfl⟩, fun w g vs hH hv => ?_⟩
   have hsz : (vs ++ Array.replicate (fn.ntmps - vs.size) undef).size = af.nt := by
    have := hv.1
    simp; omega
   have hst : StR w g (vs ++ Array.replicate (fn.ntmps - vs.size) undef) (au5 xs (hpL hs) hs.length) := by
    refine ⟨fun s => ?_, hH⟩
    show VR g (xs.getD s .und) _
    rcases Nat.lt_or_ge s xs.length with hs | hs
    ·have e1 : xs[s]? = some xs[s] := by simp [hs]
     have hs' : s < vs.size := by rw [hv.1]; exact hs
     have e2 : vs[s]? = some vs[s] := by simp [hs']
     have e3 : (vs ++ Array.replicate (fn.ntmps - vs.size) undef).getD s undef = vs[s] := by
      rw [Array.getD_eq_getD_getElem?, Array.getElem?_append_left hs', e2]; rfl
     rw [e3, List.getD_eq_getElem?_getD, e1]
     exact hv.2 s _ _ e1 e2
    ·rw [List.getD_eq_getElem?_getD, List.getElem?_eq_none hs]; exact .und _
   refine ac0 (Q := fun e st => (e = .normal ∨ e = .ret) ∧ ∃ zs, an7 st af.res = some r ∧ st.h = hpL (hs' ++ zs)) hf hb c5 hsz hst (o6 (fun e s hs => ?_) hw) ?_ (fun e st' hq => hq.1)
   ·obtain ⟨l', hs'', rfl, h'⟩ := hs
    cases e <;> first
     | exact h'.elim
     | (obtain ⟨h1, zs, h2⟩ := h'; exact ⟨.inl rfl, zs, h1, by rw [← h2]; rfl⟩)
     | (obtain ⟨h1, zs, h2⟩ := h'; exact ⟨.inr rfl, zs, h1, by rw [← h2]; rfl⟩)
   ·intro e tmps w' g' st' hq' hS hT hX
    obtain ⟨_, zs, k2, k3⟩ := hq'
    obtain ⟨v, v1, v2⟩ := ad3 hS c2 k2
    refine ⟨v, v1, ?_⟩
    refine APost.drop (h' := st'.h) (nx' := st'.nx) hH ⟨v, g', rfl, v2, hS.hr, hT, hX⟩ hr (fun a ha => ?_) (fun a ha => ?_)
    ·have ha' : a < hs'.length := by omega
     have e1 : hs'[a]? = some hs'[a] := by simp [ha']
     have e2 : hpL (hs' ++ zs) a = hs'[a] := by
      simp only [hpL, List.getD_eq_getElem?_getD, List.getElem?_append_left ha', e1]; rfl
     have e3 : hpL hs' a = hs'[a] := by simp only [hpL, List.getD_eq_getElem?_getD, e1]; rfl
     rw [k3, e2, e3]
     exact ⟨rfl, bb1 ho e1⟩
    ·have : hs'[a]? = none := List.getElem?_eq_none (by omega)
     simp only [hpL, List.getD_eq_getElem?_getD, this]
     rfl
theorem APost.forget {w w' : World} {g : G} {H h' h'' : Hp} {nx nx' : Nat} {r : V} {e : Ending} (hp : APost w g H nx r h' nx' e w') (h1 : ∀ a, h'' a = .gone ∨ h'' a = h' a) : APost w g H nx r h'' nx' e w' := by
 obtain ⟨v, g', rfl, q1, q2, s, q4⟩ := hp
 have live : ∀ a, (h'' a).live = true → (h' a).live = true := by
  intro a ha
  rcases h1 a with h | h
  ·rw [h] at ha; cases ha
  ·rw [← h]; exact ha
 refine ⟨v, g', rfl, q1, ⟨fun a => ?_, fun a ha => q2.dm a (live a ha), fun a b ha hb e => q2.inj a b (live a ha) (live b hb) e, q2.nx, q2.lt, fun c o u hz => ⟨(q2.fz c o u hz).1, fun a ha => (q2.fz c o u hz).2 a (live a ha)⟩⟩,
  ⟨s.le, s.size, s.keep, fun a ha => s.own a (live a ha), s.dom, s.fzn, s.out, s.os⟩, q4⟩
 rcases h1 a with h | h
 ·rw [h]; trivial
 ·rw [h]; exact q2.ob a
end Go.B
