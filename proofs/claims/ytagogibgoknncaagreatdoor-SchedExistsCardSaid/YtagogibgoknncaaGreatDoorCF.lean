/-
  Runs in pieces: what a call does from a small heap, as a fact; a fact at work in a greater heap. Program-independent.
-/
import Derived.Test.YtagogibgoknncaaGreatDoorCE
set_option linter.unusedVariables false
set_option linter.unusedSimpArgs false
set_option linter.unusedSectionVars false
namespace Go.B
variable [iok : OkC]
section
variable {P : Program} {w w' : World} {g : G} {nx nx' : Nat} {r : V} {h h' H : Hp} {e : Ending}
theorem HR.sub (hH : HR w g H nx) (hs : ∀ a, (h a).live = true → H a = h a) : HR w g h nx := by
 have hl : ∀ a, (h a).live = true → (H a).live = true := fun a ha => by rw [hs a ha]; exact ha
 refine ⟨fun a => ?_, fun a ha => hH.dm a (hl a ha), fun a b ha hb e => hH.inj a b (hl a ha) (hl b hb) e, hH.nx, hH.lt, fun c o v hz => ⟨(hH.fz c o v hz).1, fun a ha => (hH.fz c o v hz).2 a (hl a ha)⟩⟩
 have := hH.ob a
 cases ho : h a <;> first | trivial | (rw [hs a (by rw [ho]; rfl), ho] at this; exact this)
def both (h H h' : Hp) : Hp := fun a => if (H a).live = true ∧ (h a).live = false then H a else h' a
theorem APost.frames (hs : ∀ a, (h a).live = true → H a = h a) (hH : HR w g H nx) (hp : APost w g h nx r h' nx' e w') : APost w g H nx r (both h H h') nx' e w' := by
 obtain ⟨v, g', rfl, hr, hH', s, hn⟩ := hp
 have hl : ∀ a, (h a).live = true → (H a).live = true := fun a ha => by rw [hs a ha]; exact ha
 have kp : ∀ a, (H a).live = true → (h a).live = false → (∀ b, (h b).live = true → g.be b ≠ g.be a) ∧ (∀ b, (h' b).live = true → g'.be b ≠ g.be a) ∧ w'.heap[g.be a]? = w.heap[g.be a]? ∧ g'.be a = g.be a ∧ g'.dom a := by
  intro a ha hna
  have hda := hH.dm a ha
  have hlta := hH.lt a hda
  obtain ⟨d1, d2, d3⟩ := s.le.dom a hda
  have hno : ∀ b, (h b).live = true → g.be b ≠ g.be a := by
   intro b hb e
   have := hH.inj b a (hl b hb) ha e
   subst this
   rw [hna] at hb; cases hb
  refine ⟨hno, fun b hb e => ?_, s.keep _ hlta hno, d2, d1⟩
  rcases s.own b hb with q | ⟨c, hc, q⟩
  ·omega
  ·exact hno c hc (q.trans e)
 have hcase : ∀ x, (both h H h' x).live = true → ((H x).live = true ∧ (h x).live = false ∧ both h H h' x = H x) ∨ ((h' x).live = true ∧ both h H h' x = h' x) := by
  intro x hx
  unfold both at hx ⊢
  split at hx
  ·rename_i hc; rw [if_pos hc]; exact .inl ⟨hc.1, hc.2, rfl⟩
  ·rename_i hc; rw [if_neg hc]; exact .inr ⟨hx, rfl⟩
 refine ⟨v, g', rfl, hr, ⟨fun x => ?_, fun x hx => ?_, fun x y hx hy e => ?_, hH'.nx, hH'.lt, fun c o u hz => ⟨(hH'.fz c o u hz).1, fun x hx => ?_⟩⟩, ⟨s.le, s.size, fun c hc hn => s.keep c hc (fun b hb => hn b (hl b hb)), fun x hx => ?_, s.dom, fun c o u hz => ?_, s.out, s.os⟩, hn⟩
 ·unfold both
  split
  ·rename_i hc
   obtain ⟨k1, k2, k3, k4, k5⟩ := kp x hc.1 hc.2
   exact (hH.ob x).of_live s.le (hH.dm x hc.1) k3
  ·exact hH'.ob x
 ·rcases hcase x hx with ⟨h1, h2, _⟩ | ⟨h1, _⟩
  ·exact (kp x h1 h2).2.2.2.2
  ·exact hH'.dm x h1
 ·have c1 := hcase x hx
  have c2 := hcase y hy
  clear hx hy
  rcases c1 with ⟨h1, h2, _⟩ | ⟨h1, _⟩ <;> rcases c2 with ⟨h3, h4, _⟩ | ⟨h3, _⟩
  ·exact hH.inj x y h1 h3 (((kp x h1 h2).2.2.2.1.symm.trans e).trans (kp y h3 h4).2.2.2.1)
  ·exact ((kp x h1 h2).2.1 y h3 (e.symm.trans (kp x h1 h2).2.2.2.1)).elim
  ·exact ((kp y h3 h4).2.1 x h1 (e.trans (kp y h3 h4).2.2.2.1)).elim
  ·exact hH'.inj x y h1 h3 e
 ·rcases hcase x hx with ⟨h1, h2, _⟩ | ⟨h1, _⟩
  ·obtain ⟨k1, k2, k3, k4, k5⟩ := kp x h1 h2
   rw [k4]
   intro e
   rcases s.fzn c o u hz with q | q | ⟨b, hb, q⟩
   ·exact (hH.fz c o u q).2 x h1 e
   ·have := hH.lt x (hH.dm x h1); omega
   ·exact k1 b hb (q.trans e.symm)
  ·exact (hH'.fz c o u hz).2 x h1
 ·rcases hcase x hx with ⟨h1, h2, _⟩ | ⟨h1, _⟩
  ·exact .inr ⟨x, h1, (kp x h1 h2).2.2.2.1.symm⟩
  ·rcases s.own x h1 with q | ⟨b, hb, q⟩
   ·exact .inl q
   ·exact .inr ⟨b, hl b hb, q⟩
 ·rcases s.fzn c o u hz with q | q | ⟨b, hb, q⟩
  ·exact .inl q
  ·exact .inr (.inl q)
  ·exact .inr (.inr ⟨b, hl b hb, q⟩)
theorem ACalls.frames {f : FuncId} {xs : List V} (hs : ∀ a, (h a).live = true → H a = h a) (hc : ACalls P f xs h nx r h' nx') : ACalls P f xs H nx r (both h H h') nx' :=
 ⟨hc.1, fun w g vs hH hv => (hc.2 w g vs (hH.sub hs) hv).mono fun e w' hp => hp.frames hs hH⟩
end
mutual
def eqD : Nat → V → V → Bool
 | 0, _, _ => false
 | n + 1, x, y => match x with
   | .fn f a b => (match y with
     | .fn f' a' b' => f == f' && eqDs n a a' && eqDs n b b'
     | _ => false)
   | .ifc t x => (match y with
     | .ifc t' y => t == t' && eqD n x y
     | _ => false)
   | .ag a => (match y with
     | .ag b => eqDs n a b
     | _ => false)
   | .tu a => (match y with
     | .tu b => eqDs n a b
     | _ => false)
   | .und => (match y with
     | .und => true
     | _ => false)
   | x => eqV1 x y
def eqDs : Nat → List V → List V → Bool
 | 0, _, _ => false
 | n + 1, xs, ys => match xs with
   | [] => ys.isEmpty
   | x :: xs => (match ys with
     | [] => false
     | y :: ys => eqD n x y && eqDs n xs ys)
end
mutual
theorem bh3 : ∀ {n : Nat} {x y : V}, eqD n x y = true → x = y
 | 0, x, y, h => by simp only [eqD] at h; cases h
 | n + 1, x, y, h => by
   cases x
   case fn f a b =>
    cases y <;> simp only [eqD, Bool.and_eq_true, beq_iff_eq, Bool.false_eq_true] at h
    rw [h.1.1, au7 h.1.2, au7 h.2]
   case ifc t x =>
    cases y <;> simp only [eqD, Bool.and_eq_true, beq_iff_eq, Bool.false_eq_true] at h
    rw [h.1, bh3 h.2]
   case ag a =>
    cases y <;> simp only [eqD, Bool.false_eq_true] at h
    rw [au7 h]
   case tu a =>
    cases y <;> simp only [eqD, Bool.false_eq_true] at h
    rw [au7 h]
   case und =>
    cases y <;> simp only [eqD, Bool.false_eq_true] at h
    rfl
   all_goals
    simp only [eqD] at h
    exact eqV1_ok h
theorem au7 : ∀ {n : Nat} {xs ys : List V}, eqDs n xs ys = true → xs = ys
 | 0, xs, ys, h => by simp only [eqDs] at h; cases h
 | n + 1, [], ys, h => by
   simp only [eqDs] at h
   cases ys <;> first | rfl | cases h
 | n + 1, x :: xs, ys, h => by
   cases ys <;> simp only [eqDs, Bool.and_eq_true, Bool.false_eq_true] at h
   rw [bh3 h.1, au7 h.2]
end
def eqE : Nat → List (V × V × Nat) → List (V × V × Nat) → Bool
 | _, [], [] => true
 | n, (a, b, k) :: l, (a', b', k') :: l' => eqD n a a' && eqD n b b' && k == k' && eqE n l l'
 | _, _, _ => false
theorem eqE_ok {n : Nat} : ∀ {l l' : List (V × V × Nat)}, eqE n l l' = true → l = l'
 | [], [], _ => rfl
 | [], _ :: _, h => by cases h
 | _ :: _, [], h => by cases h
 | (a, b, k) :: l, (a', b', k') :: l', h => by
   simp only [eqE, Bool.and_eq_true, beq_iff_eq] at h
   rw [bh3 h.1.1.1, bh3 h.1.1.2, h.1.2, eqE_ok h.2]
def dpt : Nat := 4000
def eqO : O → O → Bool
 | .no, .no => true
 | .gone, .gone => true
 | .c gr cs, .c gr' cs' => gr == gr' && eqDs dpt cs cs'
 | .m es k, .m es' k' => k == k' && eqE dpt es es'
 | _, _ => false
theorem eqO_ok {x y : O} (h : eqO x y = true) : x = y := by
 unfold eqO at h
 split at h <;> first
  | rfl
  | (cases h; done)
  | (simp only [Bool.and_eq_true, beq_iff_eq] at h; rw [h.1, au7 h.2])
  | (simp only [Bool.and_eq_true, beq_iff_eq] at h; rw [h.1, eqE_ok h.2])
abbrev HL := List (Nat × RO)
def ovr : HL → Hp → Hp
 | [], h => h
 | (a, o) :: l, h => upd (ovr l h) a o.o
abbrev hpI (l : HL) : Hp := ovr l fun _ => .no
theorem ovr_app : ∀ (l m : HL) (h : Hp), ovr (l ++ m) h = ovr l (ovr m h)
 | [], m, h => rfl
 | (a, o) :: l, m, h => by simp only [List.cons_append, ovr, ovr_app l m h]
theorem ovr_in : ∀ {l : HL} {a : Nat}, (a ∈ l.map (·.1)) → ∀ h h' : Hp, ovr l h a = ovr l h' a
 | [], a, hm, h, h' => by cases hm
 | (b, o) :: l, a, hm, h, h' => by
   simp only [ovr]
   by_cases e : a = b
   ·subst e; rw [j5, j5]
   ·rw [j4 _ _ e, j4 _ _ e]
    refine ovr_in ?_ h h'
    rcases List.mem_cons.1 hm with q | q
    ·exact (e q).elim
    ·exact q
theorem ovr_out : ∀ {l : HL} {a : Nat}, a ∉ l.map (·.1) → ∀ h : Hp, ovr l h a = h a
 | [], a, hm, h => rfl
 | (b, o) :: l, a, hm, h => by
   simp only [List.map_cons, List.mem_cons, not_or] at hm
   simp only [ovr]
   rw [j4 _ _ hm.1]
   exact ovr_out hm.2 h
noncomputable def setH : HL → T → (T → Ans) → Ans
 | [], t, k => k t
 | (a, o) :: l, t, k => setH l t fun t => sT t a o k
theorem az1 : ∀ {l : HL} {t : T} {k : T → Ans} {L : Out}, setH l t k = some L → ∃ t' : T, t'.h = ovr l t.h ∧ k t' = some L
 | [], t, k, L, h => ⟨t, rfl, h⟩
 | (a, o) :: l, t, k, L, h => by
   obtain ⟨t1, h1, h2⟩ := az1 (l := l) h
   obtain ⟨t2, h3, h4⟩ := af3 _ _ _ _ _ h2
   exact ⟨t2, by rw [T.put_h h3, h1]; rfl, h4⟩
def chkH : HL → List Nat → T → Bool
 | [], _, _ => true
 | (a, o) :: l, seen, t => (seen.contains a || eqO (t.fn a).o o.o) && chkH l (a :: seen) t
theorem chkH_ok : ∀ {l : HL} {seen : List Nat} {t : T}, chkH l seen t = true → ∀ a, a ∉ seen → hpI l a = t.h a ∨ hpI l a = .no
 | [], seen, t, h, a, ha => .inr rfl
 | (b, o) :: l, seen, t, h, a, ha => by
   simp only [chkH, Bool.and_eq_true, Bool.or_eq_true] at h
   show upd (hpI l) b o.o a = _ ∨ _
   by_cases e : a = b
   ·subst e
    rw [j5]
    rcases h.1 with q | q
    ·exact (ha (by simpa using q)).elim
    ·exact .inl (eqO_ok q).symm
   ·show upd (hpI l) b o.o a = _ ∨ upd (hpI l) b o.o a = _
    rw [j4 _ _ e]
    exact chkH_ok h.2 a (fun hm => by
     rcases List.mem_cons.1 hm with q | q
     ·exact e q
     ·exact ha q)
structure Fact where
 f : FuncId
 xs : List S
 nx : Nat
 ins : HL
 r : S
 outs : HL
 nx' : Nat
def Fact.ok (P : Program) (F : Fact) : Prop := ACalls P F.f (F.xs.map S.v) (hpI F.ins) F.nx F.r.v (hpI (F.outs ++ F.ins)) F.nx'
noncomputable def runF (a : AFn) (F : Fact) : Ans := setH F.ins .nil fun t => a F.f F.xs t F.nx
def endF (F : Fact) : Ans → Bool
 | some (r, t, nx) => eqD dpt r.v F.r.v && Nat.beq nx F.nx' && chkH (F.outs ++ F.ins) [] t
 | none => false
theorem fact_ok {P : Program} {a : AFn} (ha : AFOk P a) {F : Fact} [iop : OkP P] (h : endF F (runF a F) = true) : F.ok P := by
 cases hr : runF a F with
 | none => rw [hr] at h; cases h
 | some L =>
   obtain ⟨r, t1, nx1⟩ := L
   rw [hr] at h
   simp only [endF, Bool.and_eq_true] at h
   obtain ⟨⟨h1, h2⟩, h3⟩ := h
   obtain ⟨t, q1, q2⟩ := az1 hr
   have hc := ha _ _ _ _ _ _ _ q2
   have hn : nx1 = F.nx' := Nat.eq_of_beq_eq_true h2
   rw [q1, bh3 h1, hn] at hc
   refine ACalls.less hc fun a => ?_
   rcases chkH_ok h3 a (by simp) with e | e
   ·exact .inl e
   ·exact .inr (by rw [e]; rfl)
def newB (ins : HL) : HL → T → Bool
 | [], _ => true
 | (a, _) :: l, t => ((hpI ins a).live || !(t.fn a).o.live) && newB ins l t
theorem newB_ok {ins : HL} : ∀ {l : HL} {t : T}, newB ins l t = true → ∀ a, a ∈ l.map (·.1) → (hpI ins a).live = true ∨ (t.h a).live = false
 | [], t, h, a, ha => by cases ha
 | (b, o) :: l, t, h, a, ha => by
   simp only [newB, Bool.and_eq_true, Bool.or_eq_true, Bool.not_eq_true'] at h
   rcases List.mem_cons.1 ha with e | e
   ·subst e; exact h.1
   ·exact newB_ok h.2 a e
def eqSs : List S → List S → Bool
 | [], [] => true
 | x :: l, y :: m => eqD dpt x.v y.v && eqSs l m
 | _, _ => false
theorem eqSs_ok : ∀ {l m : List S}, eqSs l m = true → l.map S.v = m.map S.v
 | [], [], _ => rfl
 | [], _ :: _, h => by cases h
 | _ :: _, [], h => by cases h
 | x :: l, y :: m, h => by
   simp only [eqSs, Bool.and_eq_true] at h
   simp only [List.map_cons, bh3 h.1, eqSs_ok h.2]
noncomputable def useF (F : Fact) (xs : List S) (t : T) : Ans :=
 ifB (eqSs xs F.xs && chkH F.ins [] t && newB F.ins F.outs t) (setH F.outs t fun t => some (F.r, t, F.nx')) none
noncomputable def knownF : List Fact → AFn
 | [], _, _, _, _ => none
 | F :: l, f, xs, t, nx => ifB (Nat.beq nx F.nx && Nat.beq f F.f) (useF F xs t) (knownF l f xs t nx)
theorem useF_ok {P : Program} [iop : OkP P] {F : Fact} (hF : F.ok P) {xs : List S} {t : T} {r : S} {t' : T} {nx' : Nat} (h : useF F xs t = some (r, t', nx')) : ACalls P F.f (xs.map S.v) t.h F.nx r.v t'.h nx' := by
 unfold useF at h
 rcases p8 h with ⟨hc, h⟩ | ⟨_, h⟩
 rotate_left
 ·cases h
 simp only [Bool.and_eq_true] at hc
 obtain ⟨⟨c1, c2⟩, c3⟩ := hc
 obtain ⟨t2, q1, q2⟩ := az1 h
 cases q2
 rw [eqSs_ok c1]
 have hs : ∀ a, (hpI F.ins a).live = true → t.h a = hpI F.ins a := by
  intro a ha
  rcases chkH_ok c2 a (by simp) with e | e
  ·exact e.symm
  ·rw [e] at ha; cases ha
 refine ACalls.less (ACalls.frames (H := t.h) hs hF) fun a => ?_
 rw [q1]
 unfold both
 rw [show hpI (F.outs ++ F.ins) = ovr F.outs (hpI F.ins) from ovr_app _ _ _]
 by_cases hm : a ∈ F.outs.map (·.1)
 ·rw [ovr_in hm t.h (hpI F.ins)]
  rw [if_neg (fun hk => ?_)]
  ·exact .inl rfl
  ·rcases newB_ok c3 a hm with q | q
   ·rw [hk.2] at q; cases q
   ·rw [hk.1] at q; cases q
 ·rw [ovr_out hm, ovr_out hm]
  split
  ·exact .inl rfl
  ·rename_i hk
   cases hl : (hpI F.ins a).live with
   | true => exact .inl (hs a hl)
   | false =>
     cases hl2 : (t.h a).live with
     | true => exact (hk ⟨hl2, hl⟩).elim
     | false => exact .inr rfl
theorem knownF_ok {P : Program} [iop : OkP P] : ∀ {l : List Fact}, (∀ F, F ∈ l → F.ok P) → AFOk P (knownF l)
 | [], _, f, xs, t, nx, r, t', nx', h => by cases h
 | F :: l, hl, f, xs, t, nx, r, t', nx', h => by
   unfold knownF at h
   rcases p8 h with ⟨hc, h2⟩ | ⟨_, h2⟩
   ·simp only [Bool.and_eq_true] at hc
    have e1 : nx = F.nx := Nat.eq_of_beq_eq_true hc.1
    have e2 : f = F.f := Nat.eq_of_beq_eq_true hc.2
    subst e1 e2
    exact useF_ok (hl F (by simp)) h2
   ·exact knownF_ok (fun F' hF' => hl F' (List.mem_cons_of_mem _ hF')) _ _ _ _ _ _ _ h2
theorem okn {P : Program} : ∀ F : Fact, F ∈ [] → F.ok P := fun F h => by cases h
theorem okc {P : Program} {F : Fact} {l : List Fact} (h : F.ok P) (hl : ∀ F', F' ∈ l → Fact.ok P F') : ∀ F', F' ∈ F :: l → Fact.ok P F' := by
 intro F' hm
 rcases List.mem_cons.1 hm with e | e
 ·rw [e]; exact h
 ·exact hl F' e
theorem fact_run {P : Program} [iop : OkP P] {tab : Tab} {np : FuncId → Bool} (ht : TabOk P tab) (hn : be9 P np) {l : List Fact} (hl : ∀ F, F ∈ l → F.ok P) {fuel n : Nat} {F : Fact} (h : endF F (runF (cllf tab np (knownF l) fuel n).a F) = true) : F.ok P :=
 fact_ok (by rw [cllf_eq]; exact (clls_ok ht hn (knownF_ok hl) fuel n).1) h
end Go.B
