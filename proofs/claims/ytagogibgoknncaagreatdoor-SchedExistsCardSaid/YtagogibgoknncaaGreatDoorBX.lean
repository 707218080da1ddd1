/-
  What a call hands back, seen as a tree of what it has made; the rest of it is dropped. Program-independent.
-/
import Derived.Test.YtagogibgoknncaaGreatDoorBY
set_option linter.unusedSectionVars false
set_option linter.unusedVariables false
set_option linter.unusedSimpArgs false
namespace Go.B
variable [iok : OkC]
theorem APost.frzD {w w' : World} {g : G} {D : Nat → Prop} {x y : V} {e : Ending} {H h : Hp} {nx nx' : Nat} (hp : APost w g H nx x h nx' e w') (ht : Se h D x y) : APost w g H nx y (bc5 h D) nx' e w' := by
 obtain ⟨v, g', rfl, q1, q2, s, q4⟩ := hp
 refine ⟨v, B.frz w' g' h D, rfl, ht.vr q2 v q1, q2.drop, ⟨s.le.trans (ar9 q2), s.size, s.keep, fun a ha => s.own a (ad1 ha).2.2, s.dom, fun c o u hz => ?_, s.out, s.os⟩, q4⟩
 rcases frz_out hz with q | ⟨a, ha, e⟩
 ·exact s.fzn c o u q
 ·rcases s.own a ha with q | ⟨b, hb, q⟩
  ·exact .inr (.inl (by rw [← e]; exact q))
  ·exact .inr (.inr ⟨b, hb, q.trans e⟩)
def retZ (res : List AR) (r : V) (hs' : List O) : Exit → KL
 | .normal, l, hs | .ret, l, hs => ∃ x, an7 (mkS l hs) res = some x ∧ (Se (hpL hs) (fun a => hs'.length ≤ a) x r ∧ bi4 hs hs')
 | _, _, _ => False
theorem r9 {res : List AR} {r : V} {l : List V} {hs hs' : List O} : retZ res r hs' .normal l hs = bnd (an7 (mkS l hs) res) (fun x => Se (hpL hs) (fun a => hs'.length ≤ a) x r ∧ bi4 hs hs') .mk := rfl
theorem r8 {res : List AR} {r : V} {l : List V} {hs hs' : List O} : retZ res r hs' .ret l hs = bnd (an7 (mkS l hs) res) (fun x => Se (hpL hs) (fun a => hs'.length ≤ a) x r ∧ bi4 hs hs') .mk := rfl
theorem at1 {P : Program} [iop : OkP P] {f : FuncId} {fn : Func} {af : AF} {xs : List V} {hs hs' : List O} {r : V} (hf : P.funcs[f]? = some fn) (hc : j3 P fn af = true) (hlen : Nat.ble xs.length af.nt = true)
  (hl : hs'.length = hs.length) (hr : r.cl = true) (ho : ltO hs.length hs' = true)
  (hw : swp P af.body (retZ af.res r hs') (xs ++ List.replicate (af.nt - xs.length) .und) hs) : ACalls P f xs (hpL hs) hs.length r (hpL hs') hs'.length := by
 rw [hl]
 have hlen : xs.length ≤ af.nt := Nat.le_of_ble_eq_true hlen
 simp only [j3, Bool.and_eq_true, Bool.not_eq_true', beq_iff_eq] at hc
 obtain ⟨⟨⟨c1, c2⟩, c4⟩, c5⟩ := hc
 have hw := ah6 _ hw
 rw [ar0] at hw
 cases hb : fn.body with
 | none => rw [hb] at c5; cases c5
 | some code =>
   rw [hb] at c5
   refine ⟨⟨fn, hf, c4, by rw [hb]; rfl⟩, fun w g vs hH hv => ?_⟩
   have hsz : (vs ++ Array.replicate (fn.ntmps - vs.size) undef).size = af.nt := by
    have := hv.1
    simp; omega
   have hst : StR w g (vs ++ Array.replicate (fn.ntmps - vs.size) undef) (au5 xs (hpL hs) hs.length) := by
    refine ⟨fun s => ?_, hH⟩
    show VR g (xs.getD s .und) _
    rcases Nat.lt_or_ge s xs.length with hs | hs
    ·have e1 : xs[s]? = some xs[s] := by simp [hs]
     have hs' : s < vs.size := by rw [hv.1]; exact hs
     have e2 : vs[s]? = some vs[s] := by simp [hs']
     have e3 : (vs ++ Array.replicate (fn.ntmps - vs.size) undef).getD s undef = vs[s] := by
      rw [Array.getD_eq_getD_getElem?, Array.getElem?_append_left hs', e2]; rfl
     rw [e3, List.getD_eq_getElem?_getD, e1]
     exact hv.2 s _ _ e1 e2
    ·rw [List.getD_eq_getElem?_getD, List.getElem?_eq_none hs]; exact .und _
   refine ac0 (Q := fun e st => (e = .normal ∨ e = .ret) ∧ ∃ x zs, an7 st af.res = some x ∧ st.h = hpL (hs' ++ zs) ∧ Se st.h (fun a => hs'.length ≤ a) x r) hf hb c5 hsz hst (o6 (fun e s hs => ?_) hw) ?_ (fun e st' hq => hq.1)
   ·obtain ⟨l', hs'', rfl, h'⟩ := hs
    cases e <;> first
     | exact h'.elim
     | (obtain ⟨x, h1, h3, zs, h2⟩ := h'; exact ⟨.inl rfl, x, zs, h1, by rw [← h2]; rfl, h3⟩)
     | (obtain ⟨x, h1, h3, zs, h2⟩ := h'; exact ⟨.inr rfl, x, zs, h1, by rw [← h2]; rfl, h3⟩)
   ·intro e tmps w' g' st' hq' hS hT hX
    obtain ⟨_, x, zs, k2, k3, k4⟩ := hq'
    obtain ⟨v, v1, v2⟩ := ad3 hS c2 k2
    refine ⟨v, v1, ?_⟩
    have hz := APost.frzD (nx := hs.length) (nx' := st'.nx) ⟨v, g', rfl, v2, hS.hr, hT, hX⟩ k4
    refine APost.drop hH hz (V.lt_of_cl _ _ hr) (fun a ha => ?_) (fun a ha => ?_)
    ·have ha' : a < hs'.length := by omega
     have e1 : hs'[a]? = some hs'[a] := by simp [ha']
     have e2 : hpL (hs' ++ zs) a = hs'[a] := by
      simp only [hpL, List.getD_eq_getElem?_getD, List.getElem?_append_left ha', e1]; rfl
     have e3 : hpL hs' a = hs'[a] := by simp only [hpL, List.getD_eq_getElem?_getD, e1]; rfl
     have e4 : bc5 st'.h (fun a => hs'.length ≤ a) a = hs'[a] := by
      simp only [bc5, k3, e2]
      rw [if_neg (by omega)]
     rw [e4, e3]
     exact ⟨rfl, bb1 ho e1⟩
    ·have : hs'[a]? = none := List.getElem?_eq_none (by omega)
     simp only [hpL, List.getD_eq_getElem?_getD, this]
     rfl
end Go.B
