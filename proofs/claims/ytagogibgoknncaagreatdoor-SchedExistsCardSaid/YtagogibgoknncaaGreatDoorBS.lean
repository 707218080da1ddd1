/-
  Contracts of functions whose arguments and results hold no address; running codes on values that are not known: rules for simp. Program-independent.
-/
import Derived.Test.YtagogibgoknncaaGreatDoorBP
set_option linter.unusedSectionVars false
set_option linter.unusedVariables false
set_option linter.unusedSimpArgs false
namespace Go.B
variable [iok : OkC]
mutual
def V.cl : V → Bool
 | .p _ _ => false
 | .sl _ _ _ _ _ => false
 | .m _ => false
 | .yl _ => false
 | .fn _ a b => clL a && clL b
 | .ifc _ v => v.cl
 | .ag l => clL l
 | .tu l => clL l
 | .ts r => clR r
 | .tp r _ => clL r
 | .b _ => true
 | .i _ _ => true
 | .s _ _ => true
 | .np => true
 | .ns => true
 | .nm => true
 | .nf => true
 | .ni => true
 | .und => true
 | .te => true
def clL : List V → Bool
 | [] => true
 | x :: xs => x.cl && clL xs
def clR : List (List V) → Bool
 | [] => true
 | x :: xs => clL x && clR xs
end
theorem af9 : ∀ {l : List V}, clL l = true → ∀ {j : Nat} {x : V}, l[j]? = some x → x.cl = true
 | [], _, j, x, e => by simp at e
 | y :: l, h, 0, x, e => by simp at e; subst e; simp only [clL, Bool.and_eq_true] at h; exact h.1
 | y :: l, h, j + 1, x, e => by simp only [clL, Bool.and_eq_true] at h; exact af9 h.2 (by simpa using e)
theorem clR_get : ∀ {l : List (List V)}, clR l = true → ∀ {j : Nat} {x : List V}, l[j]? = some x → clL x = true
 | [], _, j, x, e => by simp at e
 | y :: l, h, 0, x, e => by simp at e; subst e; simp only [clR, Bool.and_eq_true] at h; exact h.1
 | y :: l, h, j + 1, x, e => by simp only [clR, Bool.and_eq_true] at h; exact clR_get h.2 (by simpa using e)
theorem VR.fzOf {g g2 : G} {x : V} {v : Value} (h : VR g x v) (hz : ∀ c o u, g.fz c o = some u → g2.fz c o = some u) : x.cl = true → VR g2 x v := by
 induction h with
 | b x => intro _; exact .b x
 | i k n => intro _; exact .i k n
 | s a => intro _; exact .s a
 | np => intro _; exact .np
 | ns => intro _; exact .ns
 | nm => intro _; exact .nm
 | nf => intro _; exact .nf
 | ni => intro _; exact .ni
 | p a off hd => intro h; simp [V.cl] at h
 | sl a off wd len cp cap o hd hl ho hc => intro h; simp [V.cl] at h
 | m a hd => intro h; simp [V.cl] at h
 | yl a hd => intro h; simp [V.cl] at h
 | fn f fst caps a b ha hb hr hs ih1 ih2 =>
   intro h
   simp only [V.cl, Bool.and_eq_true] at h
   exact .fn f fst caps a b ha hb (fun j x v e1 e2 => ih1 j x v e1 e2 (af9 h.1 e1)) (fun j x v e1 e2 => ih2 j x v e1 e2 (af9 h.2 e1))
 | ifc t x v hr ih => intro h; exact .ifc t x v (ih (by simpa only [V.cl] using h))
 | ag cs a hs h1 hr ih => intro h; simp only [V.cl] at h; exact .ag cs a hs h1 (fun j x v e1 e2 => ih j x v e1 e2 (af9 h e1))
 | tu vs a hs hr ih => intro h; simp only [V.cl] at h; exact .tu vs a hs (fun j x v e1 e2 => ih j x v e1 e2 (af9 h e1))
 | und v => intro _; exact .und v
 | ts0 => intro _; exact .ts0
 | tse a cap => intro _; exact .tse a cap
 | ts rows wd c o cap u hw hcap hc hr ih =>
   intro h
   simp only [V.cl] at h
   exact .ts rows wd c o cap u hw hcap (fun i j row x e1 e2 => ⟨hz _ _ _ (hc i j row x e1 e2).1, (hc i j row x e1 e2).2⟩) (fun i j row x e1 e2 => ih i j row x e1 e2 (af9 (clR_get h e1) e2))
 | tp row col c o u hc hr ih =>
   intro h
   simp only [V.cl] at h
   exact .tp row col c o u (fun j x e1 => ⟨hz _ _ _ (hc j x e1).1, (hc j x e1).2⟩) (fun j x e1 => ih j x e1 (af9 h e1))
 | te a cap => intro _; exact .te a cap
def e0 : Hp := fun _ => .no
def PC (P : Program) (f : FuncId) (xs : List V) (r : V) : Prop :=
 Enters P f ∧ ∀ (w : World) (g : G) (vs : Array Value), HR w g e0 0 → VRs g xs vs → Calls P f vs w (fun e w' => ∃ h' nx', APost w g e0 0 r h' nx' e w')
theorem PC.at {P : Program} {f : FuncId} {xs : List V} {r : V} (h : PC P f xs r) (hx : clL xs = true) (hr : r.cl = true) (H : Hp) (nx : Nat) : ACalls P f xs H nx r H nx := by
 obtain ⟨hE, hc⟩ := h
 refine ⟨hE, fun w g vs hH hv => ?_⟩
 let g0 : G := { g with dom := fun _ => False }
 have hH0 : HR w g0 e0 0 := ⟨fun _ => trivial, fun a ha => (by cases ha), fun a b ha => (by cases ha), fun a h => h.elim, fun a h => h.elim, fun c o v hz => ⟨(hH.fz c o v hz).1, fun a ha => (by cases ha)⟩⟩
 have hv0 : VRs g0 xs vs := ⟨hv.1, fun j x v e1 e2 => (hv.2 j x v e1 e2).fzOf (g2 := g0) (fun c o u h => h) (af9 hx e1)⟩
 refine (hc w g0 vs hH0 hv0).mono ?_
 rintro e w' ⟨h', nx', v, g', rfl, hrv, hH', s, hn⟩
 let g2 : G := { g with fz := g'.fz }
 have hle : Le g g2 := ⟨fun a ha => ⟨ha, rfl, rfl⟩, fun c o u hz => s.le.fz c o u hz⟩
 refine ⟨v, g2, rfl, hrv.fzOf (fun c o u h => h) hr, ⟨fun a => (hH.ob a).mono hle (hH.dm a) (fun hl => s.keep _ (hH.lt_of_live hl) (fun b hb => (by cases hb))), hH.dm, hH.inj, hH.nx, fun a ha => Nat.lt_of_lt_of_le (hH.lt a ha) s.size, fun c o u hz => ⟨(hH'.fz c o u hz).1, fun a ha e => ?_⟩⟩,
  ⟨hle, s.size, fun c hc _ => s.keep c hc (fun a ha => (by cases ha)), fun a ha => .inr ⟨a, ha, rfl⟩, fun a ha => .inl ha, fun c o u hz => (s.fzn c o u hz).imp id (fun q => q.imp id (fun ⟨b, hb, _⟩ => (by cases hb))), s.out, s.os⟩, Nat.le_refl _⟩
 rcases s.fzn c o u hz with q | q | ⟨b, hb, _⟩
 ·exact (hH.fz c o u q).2 a ha e
 ·have := hH.lt_of_live ha; have e' : g.be a = c := e; omega
 ·cases hb
theorem PC.of_run {P : Program} {f : FuncId} {xs : List V} {r : V} {h' : Hp} {nx' : Nat} (h : ACalls P f xs (fun _ => .no) 0 r h' nx') : PC P f xs r :=
 ⟨h.1, fun w g vs hH hv => (h.2 w g vs hH hv).mono fun e w' q => ⟨h', nx', q⟩⟩
inductive Tg (A : Prop) : Type where | mk
inductive Tf {α : Type} (F : α → Prop) : Type where | mk
def cnd (c : Bool) (A B : Prop) (_ : Tg A) (_ : Tg B) : Prop := if c = true then A else B
theorem cnd_true {A B : Prop} {a : Tg A} {b : Tg B} : cnd true A B a b = A := by simp [cnd]
theorem bc9 {A B : Prop} {a : Tg A} {b : Tg B} : cnd false A B a b = B := by simp [cnd]
theorem b8 {c : Bool} {A B : Prop} {a : Tg A} {b : Tg B} (h1 : c = true → A) (h2 : c = false → B) : cnd c A B a b := by
 cases c
 ·rw [bc9]; exact h2 rfl
 ·rw [cnd_true]; exact h1 rfl
def bnd {α : Type} (o : Option α) (F : α → Prop) (_ : Tf F) : Prop := ∃ v, o = some v ∧ F v
theorem bnd_some {α : Type} {v : α} {F : α → Prop} {t : Tf F} : bnd (some v) F t = F v := by simp [bnd]
def cndV (c : V) (A B : Prop) (_ : Tg A) (_ : Tg B) : Prop := ∃ x, c = .b x ∧ if x = true then A else B
theorem cndV_b {x : Bool} {A B : Prop} {a : Tg A} {b : Tg B} : cndV (.b x) A B a b = cnd x A B a b := by simp [cndV, cnd]
def gcn (o : V) (b : Bool) (A B : Prop) (_ : Tg A) (_ : Tg B) : Prop := ∃ x, af7 o = some x ∧ if x = some b then A else B
theorem gcn_t {x : Bool} {A B : Prop} {a : Tg A} {b : Tg B} : gcn (.b x) true A B a b = cnd x A B a b := by simp [gcn, cnd, af7]
theorem gcn_f {x : Bool} {A B : Prop} {a : Tg A} {b : Tg B} : gcn (.b x) false A B a b = cnd x B A b a := by cases x <;> simp [gcn, cnd, af7]
theorem gcn_u {x : Bool} {A B : Prop} {a : Tg A} {b : Tg B} : gcn (.tu []) x A B a b = B := by simp [gcn, af7]
def slL (l : List V) : Nat → V := fun n => l.getD n .und
def hpL (hs : List O) : Hp := fun a => hs.getD a .no
def mkS (l : List V) (hs : List O) : St := { sl := slL l, h := hpL hs, nx := hs.length, df := [] }
def ah4 : List V → Nat → V → List V
 | [], 0, v => [v]
 | [], n + 1, v => .und :: ah4 [] n v
 | _ :: xs, 0, v => v :: xs
 | x :: xs, n + 1, v => x :: ah4 xs n v
def u6 : List O → Nat → O → Option (List O)
 | [], _, _ => none
 | _ :: xs, 0, o => some (o :: xs)
 | x :: xs, n + 1, o => (u6 xs n o).map (x :: ·)
theorem aw7 : ∀ (l : List V) (d : Nat) (v : V), slL (ah4 l d v) = upd (slL l) d v
 | [], 0, v => by funext m; cases m <;> simp [slL, ah4, upd]
 | [], n + 1, v => by
   funext m
   cases m with
   | zero => simp [slL, ah4, upd]
   | succ m =>
     have := congrFun (aw7 [] n v) m
     simp only [slL, ah4, upd, List.getD_cons_succ, List.getD_nil, Nat.add_right_cancel_iff] at this ⊢
     exact this
 | x :: xs, 0, v => by funext m; cases m <;> simp [slL, ah4, upd]
 | x :: xs, n + 1, v => by
   funext m
   cases m with
   | zero => simp [slL, ah4, upd]
   | succ m =>
     have := congrFun (aw7 xs n v) m
     simp only [slL, ah4, upd, List.getD_cons_succ, Nat.add_right_cancel_iff] at this ⊢
     exact this
theorem bb7 : ∀ {hs : List O} {a : Nat} {o : O} {hs' : List O}, u6 hs a o = some hs' → hpL hs' = upd (hpL hs) a o ∧ hs'.length = hs.length
 | [], a, o, hs', h => by simp [u6] at h
 | x :: xs, 0, o, hs', h => by
   simp only [u6, Option.some.injEq] at h
   subst h
   refine ⟨?_, rfl⟩
   funext m; cases m <;> simp [hpL, upd]
 | x :: xs, n + 1, o, hs', h => by
   simp only [u6, Option.map_eq_some_iff] at h
   obtain ⟨ys, h1, rfl⟩ := h
   obtain ⟨q1, q2⟩ := bb7 h1
   refine ⟨?_, by simp [q2]⟩
   funext m
   cases m with
   | zero => simp [hpL, upd]
   | succ m =>
     have := congrFun q1 m
     simp only [hpL, upd, List.getD_cons_succ, Nat.add_right_cancel_iff] at this ⊢
     exact this
theorem au3 (l : List V) (hs : List O) (d : Nat) (v : V) : (mkS l hs).put d v = mkS (ah4 l d v) hs := by simp only [mkS, St.put, aw7]
theorem aj5 {l : List V} {hs hs' : List O} {a : Nat} {o : O} (h : u6 hs a o = some hs') (d : Nat) (v : V) : (mkS l hs).alc a o d v = mkS (ah4 l d v) hs' := by
 obtain ⟨h1, h2⟩ := bb7 h
 simp only [mkS, St.alc, aw7, h1, h2]
theorem ap5 {l : List V} {hs hs' : List O} {a : Nat} {o : O} (h : u6 hs a o = some hs') : (mkS l hs).chg a o = mkS l hs' := by
 obtain ⟨h1, h2⟩ := bb7 h
 simp only [mkS, St.chg, h1, h2]
theorem mkS_more (l : List V) (hs : List O) (na : Nat) : ({ mkS l hs with nx := (mkS l hs).nx + na } : St) = mkS l (hs ++ List.replicate na .no) := by
 have : hpL (hs ++ List.replicate na .no) = hpL hs := by
  funext a
  simp only [hpL, List.getD_eq_getElem?_getD]
  rcases Nat.lt_or_ge a hs.length with h | h
  ·rw [List.getElem?_append_left h]
  ·rw [List.getElem?_append_right h, List.getElem?_eq_none h]
   cases hq : (List.replicate na O.no)[a - hs.length]? with
   | none => rfl
   | some o =>
     have := List.mem_of_getElem? hq
     simp only [List.mem_replicate] at this
     rw [this.2]; rfl
 simp only [mkS, this, List.length_append, List.length_replicate]
abbrev KL := List V → List O → Prop
inductive Tf2 (F : V → List O → Prop) : Type where | mk
def pcl (P : Program) (f : FuncId) (xs : List V) (hs : List O) (F : V → List O → Prop) (_ : Tf2 F) : Prop := ∃ r hs', ACalls P f xs (hpL hs) hs.length r (hpL hs') hs'.length ∧ F r hs'
theorem j9 {P : Program} {f : FuncId} {xs : List V} {hs : List O} {r : V} {F : V → List O → Prop} {t : Tf2 F} (h : PC P f xs r) (hx : clL xs = true) (hr : r.cl = true) (hk : F r hs) : pcl P f xs hs F t := ⟨r, hs, h.at hx hr _ _, hk⟩
theorem e8 {P : Program} {f : FuncId} {xs : List V} {hs hs' : List O} {r : V} {F : V → List O → Prop} {t : Tf2 F} (h : ACalls P f xs (hpL hs) hs.length r (hpL hs') hs'.length) (hk : F r hs') : pcl P f xs hs F t := ⟨r, hs', h, hk⟩
def vcl (P : Program) (x : V) (xs : List V) (hs : List O) (F : V → List O → Prop) (_ : Tf2 F) : Prop := ∃ f fst caps, x = .fn f fst caps ∧ pcl P f (fst ++ xs ++ caps) hs F .mk
theorem vcl_fn {P : Program} {f : FuncId} {fst caps xs : List V} {hs : List O} {F : V → List O → Prop} {t : Tf2 F} : vcl P (.fn f fst caps) xs hs F t = pcl P f (fst ++ xs ++ caps) hs F .mk := by
 simp only [vcl]
 refine propext ⟨fun ⟨f', a, b, e, h⟩ => ?_, fun h => ⟨_, _, _, rfl, h⟩⟩
 cases e; exact h
def icl (P : Program) (o : Option (FuncId × V)) (xs : List V) (hs : List O) (F : V → List O → Prop) (_ : Tf2 F) : Prop := ∃ f rv, o = some (f, rv) ∧ pcl P f (rv :: xs) hs F .mk
theorem icl_s {P : Program} {f : FuncId} {rv : V} {xs : List V} {hs : List O} {F : V → List O → Prop} {t : Tf2 F} : icl P (some (f, rv)) xs hs F t = pcl P f (rv :: xs) hs F .mk := by
 simp only [icl]
 refine propext ⟨fun ⟨f', a, e, h⟩ => ?_, fun h => ⟨_, _, rfl, h⟩⟩
 cases e; exact h
theorem iv_p {h : Hp} {t : TypeId} {f : FuncId} {v : V} : invV h [(t, f, none)] (.ifc t v) = some (f, v) := by simp [invV, recvV]
theorem iv_l {h : Hp} {t : TypeId} {f : FuncId} {v : V} {n : Nat} {agg : Bool} : invV h [(t, f, some (n, agg))] (.ifc t v) = (evX (fun _ => v) h (.ld (.s 0) n agg)).map fun r => (f, r) := by
 simp only [invV, recvV, List.find?_cons, beq_self_eq_true]
 cases evX (fun _ => v) h (.ld (.s 0) n agg) <;> rfl
def appO (rb : Nat) (hs : List O) (k a off wd' len : Nat) (cp : Option Nat) (xs : List V) (n wd bytes : Nat) : O → Option (V × List O)
 | .c gr cs => if wd = wd' ∧ wd ≠ 0 then
    if fitsC cp (len + n) (off + (len + n) * wd) cs.length = true then
     if off + (len + n) * wd ≤ cs.length then (u6 hs a (.c gr (putAt cs (off + len * wd) xs))).map fun h => (.sl a off wd (len + n) cp, h) else none
    else if room (len + n) bytes = true ∧ off + len * wd ≤ cs.length then
     if cp.isSome = true ∨ gr = false then (u6 hs (rb + k) (.c true (((cs.drop off).take (len * wd)) ++ xs))).map fun h => (.sl (rb + k) 0 wd (len + n) none, h)
     else if off = 0 then (u6 hs a .gone).bind fun h1 => (u6 h1 (rb + k) (.c true (cs.take (len * wd) ++ xs))).map fun h => (.sl (rb + k) 0 wd (len + n) none, h)
     else (u6 hs a .gone).bind fun h1 => (u6 h1 (rb + k) (.c true (((cs.drop off).take (len * wd)) ++ xs))).map fun h => (.sl (rb + k) 0 wd (len + n) none, h)
    else none
   else none
 | _ => none
def ag9 (rb : Nat) (hs : List O) (k : Nat) (s : V) (xs : Option (List V)) (n : Option Nat) (wd bytes : Nat) : Option (V × List O) := match xs, n with
 | some xs, some n => match s with
   | .ns => if n = 0 then some (.ns, hs) else if room n bytes = true then (u6 hs (rb + k) (.c true xs)).map fun h => (.sl (rb + k) 0 wd n none, h) else none
   | .sl a off wd' len cp => if n = 0 then some (.sl a off wd' len cp, hs) else appO rb hs k a off wd' len cp xs n wd bytes (hpL hs a)
   | _ => none
 | _, _ => none
theorem bi2 {rb : Nat} {l : List V} {hs : List O} {d k : Nat} {s : V} {xo : Option (List V)} {no : Option Nat} {wd bytes : Nat} {r : V × List O} (h : ag9 rb hs k s xo no wd bytes = some r) :
  ∃ xs n, xo = some xs ∧ no = some n ∧ appE rb (mkS l hs) d k s xs n wd bytes = some (mkS (ah4 l d r.1) r.2) := by
 unfold ag9 at h
 split at h
 ·rename_i xs n
  refine ⟨xs, n, rfl, rfl, ?_⟩
  split at h
  ·simp only [appE]
   split at h
   ·rename_i h0; cases h; rw [if_pos h0, au3]
   ·rename_i h0
    rw [if_neg h0]
    split at h
    ·rename_i h1
     obtain ⟨h2, e1, rfl⟩ := Option.map_eq_some_iff.1 h
     rw [if_pos h1, aj5 e1]
    ·cases h
  ·rename_i a off wd' len cp
   simp only [appE]
   split at h
   ·rename_i h0; cases h; rw [if_pos h0, au3]
   ·rename_i h0
    rw [if_neg h0]
    generalize ho : hpL hs a = o at h
    have hob : (mkS l hs).h a = o := ho
    cases o <;> simp only [appO] at h <;> first | (cases h; done) | skip
    rename_i gr cs
    split at h
    ·rename_i h1
     obtain ⟨rfl, h1⟩ := h1
     rw [if_neg (by simp [h1]), hob]
     simp only
     split at h
     ·rename_i h2
      rw [if_pos h2]
      split at h
      ·rename_i h3
       obtain ⟨h4, e1, rfl⟩ := Option.map_eq_some_iff.1 h
       rw [if_pos h3, ap5 e1, au3]
      ·cases h
     ·rename_i h2
      rw [if_neg h2]
      split at h
      ·rename_i h3
       rw [if_pos h3]
       split at h
       ·rename_i h4
        obtain ⟨h5, e1, rfl⟩ := Option.map_eq_some_iff.1 h
        rw [if_pos h4, aj5 e1]
       ·rename_i h4
        rw [if_neg h4]
        split at h
        ·rename_i h5
         obtain ⟨h6, e1, e2⟩ := Option.bind_eq_some_iff.1 h
         obtain ⟨h7, e3, rfl⟩ := Option.map_eq_some_iff.1 e2
         rw [if_pos h5, ap5 e1, aj5 e3]
        ·rename_i h5
         obtain ⟨h6, e1, e2⟩ := Option.bind_eq_some_iff.1 h
         obtain ⟨h7, e3, rfl⟩ := Option.map_eq_some_iff.1 e2
         rw [if_neg h5, ap5 e1, aj5 e3]
      ·cases h
    ·cases h
  ·cases h
 ·cases h
def apzB (rb : Nat) (hs : List O) (k : Nat) (s n : V) (wd bytes : Nat) (zero : List V) : Option (V × List O) := match n with
 | .i _ n => if 0 ≤ n ∧ n ≤ 1073741824 ∧ zero.length = wd ∧ n * bytes ≤ 281474976710656 then ag9 rb hs k s (some (List.replicate n.toNat zero).flatten) (some n.toNat) wd bytes else none
 | _ => none
def mksB (hs : List O) (a wd bytes : Nat) (zero : List V) (n c : V) : Option (Nat × List O) := match n, c with
 | .i _ n, .i _ c => if 0 ≤ n ∧ n ≤ c ∧ c ≤ 1073741824 ∧ bytes * c ≤ 281474976710656 ∧ zero.length = wd then (u6 hs a (.c false (List.replicate c.toNat zero).flatten)).map fun h => (n.toNat, h) else none
 | _, _ => none
def mstB (hs : List O) (kt : KT) (k v : V) : V → Option (List O)
 | .m a => match hpL hs a with
   | .m es clock => if kt.is k then match ap6 kt k es 0 with
      | some (some n) => match es[n]? with
        | some (_, _, b) => u6 hs a (.m (es.set n (k, v, b)) clock)
        | none => none
      | some none => u6 hs a (.m (es ++ [(k, v, clock)]) (clock + 1))
      | none => none
     else none
   | _ => none
 | _ => none
def clrB (hs : List O) (wd : Nat) (zero : List V) : V → Option (List O)
 | .sl a off wd' len _ => match hpL hs a with
   | .c gr cs => if wd = wd' ∧ zero.length = wd ∧ off + len * wd ≤ cs.length then u6 hs a (.c gr (putAt cs off (List.replicate len zero).flatten)) else none
   | _ => none
 | _ => none
def sop (P : Program) (rb : Nat) (K : KL) (l : List V) (hs : List O) : AOp → Prop
 | .set d x => bnd (evX (slL l) (hpL hs) x) (fun v => K (ah4 l d v) hs) .mk
 | .new d k z => bnd (u6 hs (rb + k) (.c false z)) (fun hs => K (ah4 l d (.p (rb + k) 0)) hs) .mk
 | .box d k x => bnd ((stored (evO (slL l) x)).bind fun c => u6 hs (rb + k) (.c false c)) (fun hs => K (ah4 l d (.p (rb + k) 0)) hs) .mk
 | .stp a n x => bnd (stpL hs n (evO (slL l) a) (stored (evO (slL l) x))) (fun hs => K l hs) .mk
 | .bsl d k wd xs => bnd ((ab6 wd (ae5 (slL l) xs)).bind fun c => u6 hs (rb + k) (.c false c)) (fun hs => K (ah4 l d (.sl (rb + k) 0 wd xs.length none)) hs) .mk
 | .app d k s x wd bytes => bnd (ag9 rb hs k (evO (slL l) s) (az2 (hpL hs) wd (evO (slL l) x)) (nsl (evO (slL l) x)) wd bytes) (fun r => K (ah4 l d r.1) r.2) .mk
 | .apz d k s n wd bytes zero => bnd (apzB rb hs k (evO (slL l) s) (evO (slL l) n) wd bytes zero) (fun r => K (ah4 l d r.1) r.2) .mk
 | .mks d k n c wd bytes zero => bnd (mksB hs (rb + k) wd bytes zero (evO (slL l) n) (evO (slL l) c)) (fun r => K (ah4 l d (.sl (rb + k) 0 wd r.1 none)) r.2) .mk
 | .mkm d k => bnd (u6 hs (rb + k) (.m [] 0)) (fun hs => K (ah4 l d (.m (rb + k))) hs) .mk
 | .mst m k v kt => bnd (mstB hs kt (evO (slL l) k) (evO (slL l) v) (evO (slL l) m)) (fun hs => K l hs) .mk
 | .clr x wd zero => bnd (clrB hs wd zero (evO (slL l) x)) (fun hs => K l hs) .mk
 | .cal d f args => pcl P f (ae5 (slL l) args) hs (fun r hs => K (ah4 l d r) hs) .mk
 | .cav d x args => vcl P (evO (slL l) x) (ae5 (slL l) args) hs (fun r hs => K (ah4 l d r) hs) .mk
 | .inv d x args tb => icl P (invV (hpL hs) tb (evO (slL l) x)) (ae5 (slL l) args) hs (fun r hs => K (ah4 l d r) hs) .mk
 | _ => False
where
 stpL (hs : List O) (n : Nat) : V → Option (List V) → Option (List O)
  | .p b off, some c => match hs.getD b .no with
    | .c gr cs => if c.length = n ∧ off + n ≤ cs.length then u6 hs b (.c gr (putAt cs off c)) else none
    | _ => none
  | _, _ => none
def sclr (l : List V) : Option Nat → List V
 | none => l
 | some d => ah4 l d udf
def sg (P : Program) (rb : Nat) (o : GOp) (K : KL) (l : List V) (hs : List O) : Prop :=
 match o with
 | ⟨none, op⟩ => sop P rb K l hs op
 | ⟨some (j, w), op⟩ => gcn (slL l j) w (sop P rb K l hs op) (K (sclr l op.dst) hs) .mk .mk
def srw (P : Program) (rb : Nat) : List GOp → KL → KL
 | [], K, l, hs => K l hs
 | o :: r, K, l, hs => sg P rb o (srw P rb r K) l hs
def rcks (all : List Tr) (is : List Nat) (l : List V) (hs : List O) (l' : List V) (hs' : List O) : Prop := ∀ i, i ∈ is → az8 all i (mkS l hs) (mkS l' hs')
def isAl : AOp → Bool
 | .new _ _ _ => true
 | .box _ _ _ => true
 | .bsl _ _ _ _ => true
 | .mks _ _ _ _ _ _ _ => true
 | .mkm _ _ => true
 | _ => false
def noA : List Tr → Bool
 | [] => true
 | (_, ⟨_, op⟩, _) :: r => !isAl op && noA r
def isNo : Option O → Prop
 | some .no => True
 | _ => False
def hg (hs : List O) (a : Nat) : Option O := hs[a]?
def kA : AOp → Option Nat
 | .new _ k _ => some k
 | .box _ k _ => some k
 | .bsl _ k _ _ => some k
 | .mks _ k _ _ _ _ _ => some k
 | .mkm _ k => some k
 | _ => none
def dk1 (rb : Nat) (hs : List O) : Option Nat → Prop
 | some k => isNo (hg hs (rb + k))
 | none => True
def dkP (rb : Nat) (hs : List O) : List Tr → Prop
 | [] => True
 | (_, ⟨_, op⟩, _) :: r => dk1 rb hs (kA op) ∧ dkP rb hs r
def dkQ (A : Bool) (rb : Nat) (hs : List O) (L : List Tr) : Prop := match A with
 | true => dkP rb hs L
 | false => True
def srd (P : Program) (rb : Nat) (A : Bool) (all : List Tr) : List Tr → KL → KL
 | [], K, l, hs => K l hs
 | t :: r, K, l, hs => dkQ A rb hs (t :: r) ∧ sg P rb t.2.1 (fun l' hs' => rcks all t.2.2 l hs l' hs' ∧ srd P rb A all r K l' hs') l hs
theorem isAl_cl {op : AOp} (h : op.cl = .a) : isAl op = true := by
 cases op <;> first | rfl | (simp only [AOp.cl] at h; first | (split at h <;> cases h) | cases h)
theorem noA_mem : ∀ {L : List Tr} {u : Tr}, noA L = true → u ∈ L → u.2.1.op.cl ≠ .a
 | t :: r, u, h, hu => by
   obtain ⟨i, ⟨g, op⟩, is⟩ := t
   simp only [noA, Bool.and_eq_true, Bool.not_eq_true'] at h
   rcases List.mem_cons.1 hu with rfl | hu
   ·intro e; have := isAl_cl e; simp only at this; rw [h.1] at this; cases this
   ·exact noA_mem h.2 hu
theorem kA_cl {op : AOp} (h : op.cl = .a) : kA op = op.kx := by
 cases op <;> first | rfl | (simp only [AOp.cl] at h; first | (split at h <;> cases h) | cases h)
theorem dkP_dead {rb : Nat} {l : List V} {hs : List O} : ∀ {L : List Tr}, dkP rb hs L → deadK rb L (mkS l hs)
 | [], _, u, hu, _ => (by cases hu)
 | (i, ⟨g, op⟩, is) :: r, h, u, hu, hc => by
   intro k hk
   rcases List.mem_cons.1 hu with rfl | hu
   ·have h1 := h.1
    rw [kA_cl hc, hk] at h1
    simp only [dk1] at h1
    unfold hg at h1
    cases e : hs[rb + k]? with
    | none => rw [e] at h1; exact h1.elim
    | some o =>
      rw [e] at h1
      cases o <;> first | exact h1.elim | skip
      refine ⟨?_, (List.getElem?_eq_some_iff.1 e).1⟩
      show (hpL hs (rb + k)).live = false
      simp only [hpL, List.getD_eq_getElem?_getD, e]
      rfl
   ·exact dkP_dead h.2 u hu hc k hk
def be5 (next : KL) (Q : Exit → KL) : Exit → KL
 | .normal, l, hs => next l hs
 | e, l, hs => Q e l hs
def ao5 (id : Nat) (Q : Exit → KL) : Exit → KL
 | .exit id', l, hs => if id' = id then Q .normal l hs else Q (.exit id') l hs
 | e, l, hs => Q e l hs
def swp (P : Program) : ACode → (Exit → KL) → KL
 | .skip, Q, l, hs => Q .normal l hs
 | .reg na ops, Q, l, hs => srw P hs.length ops (Q .normal) l (hs ++ List.replicate na .no)
 | .drw na L, Q, l, hs => srd P hs.length (!noA L) L L (Q .normal) l (hs ++ List.replicate na .no)
 | .seq a b, Q, l, hs => swp P a (be5 (swp P b Q) Q) l hs
 | .cond c a b, Q, l, hs => cndV (evO (slL l) c) (swp P a Q l hs) (swp P b Q l hs) .mk .mk
 | .block id a, Q, l, hs => swp P a (ao5 id Q) l hs
 | .loop a, Q, l, hs => ∀ X : KL, (∀ l hs, swp P a (be5 X Q) l hs → X l hs) → X l hs
 | .exit id, Q, l, hs => Q (.exit id) l hs
 | .ret, Q, l, hs => Q .ret l hs
 | _, _, _, _ => False
section
variable {P : Program} {rb : Nat}
def up (K : KL) : St → Prop := fun st => ∃ l hs, st = mkS l hs ∧ K l hs
theorem af1 {K : KL} {l : List V} {hs : List O} (h : K l hs) : up K (mkS l hs) := ⟨l, hs, rfl, h⟩
theorem pcl_owp {K : KL} {l : List V} {hs : List O} {d : Nat} {f : FuncId} {xs : List V} {t : Tf2 fun r hs => K (ah4 l d r) hs} (h : pcl P f xs hs (fun r hs => K (ah4 l d r) hs) t) :
  ∃ r h' nx', ACalls P f xs (mkS l hs).h (mkS l hs).nx r h' nx' ∧ up K { mkS l hs with sl := upd (mkS l hs).sl d r, h := h', nx := nx' } := by
 obtain ⟨r, hs', h1, h2⟩ := h
 refine ⟨r, _, _, h1, ah4 l d r, hs', ?_, h2⟩
 rw [← au3]; rfl
theorem sop_sound {K : KL} {l : List V} {hs : List O} {op : AOp} (h : sop P rb K l hs op) : owp P rb (up K) (mkS l hs) op := by
 cases op <;> simp only [sop] at h <;> first | exact h.elim | skip
 case set d x =>
  obtain ⟨v, h1, h2⟩ := h
  refine ⟨_, by simp only [q9]; rw [show evX (mkS l hs).sl (mkS l hs).h x = some v from h1]; rfl, ?_⟩
  show up K ((mkS l hs).put d v)
  rw [au3]; exact af1 h2
 case new d k z =>
  obtain ⟨v, h1, h2⟩ := h
  refine ⟨_, rfl, ?_⟩
  rw [aj5 h1]; exact af1 h2
 case box d k x =>
  obtain ⟨v, h1, h2⟩ := h
  obtain ⟨c, h3, h4⟩ := Option.bind_eq_some_iff.1 h1
  refine ⟨_, by simp only [q9]; rw [show stored (evO (mkS l hs).sl x) = some c from h3]; rfl, ?_⟩
  show up K ((mkS l hs).alc (rb + k) (.c false c) d (.p (rb + k) 0))
  rw [aj5 h4]; exact af1 h2
 case stp a n x =>
  obtain ⟨v, h1, h2⟩ := h
  unfold sop.stpL at h1
  split at h1
  ·rename_i b off c e1 e2
   split at h1
   ·rename_i gr cs e3
    split at h1
    ·rename_i e4
     refine ⟨(mkS l hs).chg b (.c gr (putAt cs off c)), ?_, ?_⟩
     ·simp only [q9]
      rw [show evO (mkS l hs).sl a = .p b off from e1, show stored (evO (mkS l hs).sl x) = some c from e2]
      simp only
      rw [show (mkS l hs).h b = .c gr cs from e3]
      simp only
      rw [if_pos e4]
     ·rw [ap5 h1]; exact af1 h2
    ·cases h1
   ·cases h1
  ·cases h1
 case bsl d k wd xs =>
  obtain ⟨v, h1, h2⟩ := h
  obtain ⟨c, h3, h4⟩ := Option.bind_eq_some_iff.1 h1
  refine ⟨_, by simp only [q9]; rw [show ab6 wd (ae5 (mkS l hs).sl xs) = some c from h3]; rfl, ?_⟩
  show up K ((mkS l hs).alc (rb + k) (.c false c) d (.sl (rb + k) 0 wd xs.length none))
  rw [aj5 h4]; exact af1 h2
 case app d k s x wd bytes =>
  obtain ⟨v, h1, h2⟩ := h
  obtain ⟨xs, n, q1, q2, q3⟩ := bi2 (l := l) (d := d) h1
  refine ⟨_, ?_, af1 h2⟩
  simp only [q9]
  rw [show az2 (mkS l hs).h wd (evO (mkS l hs).sl x) = some xs from q1, show nsl (evO (mkS l hs).sl x) = some n from q2]
  exact q3
 case apz d k s n wd bytes zero =>
  obtain ⟨v, h1, h2⟩ := h
  unfold apzB at h1
  split at h1
  ·rename_i kk m hm
   split at h1
   ·rename_i hc
    obtain ⟨xs, n', q1, q2, q3⟩ := bi2 (l := l) (d := d) h1
    cases q1
    cases q2
    refine ⟨_, ?_, af1 h2⟩
    simp only [q9]
    rw [show evO (mkS l hs).sl n = .i kk m from hm]
    simp only
    rw [if_pos hc]
    exact q3
   ·cases h1
  ·cases h1
 case mks d k n c wd bytes zero =>
  obtain ⟨v, h1, h2⟩ := h
  unfold mksB at h1
  split at h1
  ·rename_i k1 n' k2 c' e1 e2
   split at h1
   ·rename_i hcnd
    obtain ⟨hs', e3, rfl⟩ := Option.map_eq_some_iff.1 h1
    refine ⟨_, ?_, af1 h2⟩
    simp only [q9]
    rw [show evO (mkS l hs).sl n = .i k1 n' from e1, show evO (mkS l hs).sl c = .i k2 c' from e2]
    simp only
    rw [if_pos hcnd]
    show some ((mkS l hs).alc (rb + k) _ d _) = _
    rw [aj5 e3]
   ·cases h1
  ·cases h1
 case mkm d k =>
  obtain ⟨hs', h1, h2⟩ := h
  refine ⟨_, ?_, af1 h2⟩
  simp only [q9]
  show some ((mkS l hs).alc (rb + k) _ d _) = _
  rw [aj5 h1]
 case mst m k v kt =>
  obtain ⟨hs', h1, h2⟩ := h
  refine ⟨_, ?_, af1 h2⟩
  simp only [q9]
  unfold mstB at h1
  split at h1
  ·rename_i a e
   rw [show evO (mkS l hs).sl m = .m a from e]
   simp only
   split at h1
   ·rename_i es ck eh
    rw [show (mkS l hs).h a = .m es ck from eh]
    simp only
    split at h1
    ·rename_i hk
     rw [if_pos (show kt.is (evO (mkS l hs).sl k) = true from hk)]
     rw [show ap6 kt (evO (mkS l hs).sl k) es 0 = ap6 kt (evO (slL l) k) es 0 from rfl]
     split at h1
     ·rename_i n en
      rw [en]
      simp only
      split at h1
      ·rename_i b eb
       rw [eb]
       simp only
       rw [← ap5 h1]
       rfl
      ·cases h1
     ·rename_i en
      rw [en]
      simp only
      rw [← ap5 h1]
      rfl
     ·cases h1
    ·cases h1
   ·cases h1
  ·cases h1
 case clr x wd zero =>
  obtain ⟨hs', h1, h2⟩ := h
  refine ⟨_, ?_, af1 h2⟩
  simp only [q9]
  unfold clrB at h1
  split at h1
  ·rename_i a off wd' len cp e
   rw [show evO (mkS l hs).sl x = .sl a off wd' len cp from e]
   simp only
   split at h1
   ·rename_i gr cs eh
    rw [show (mkS l hs).h a = .c gr cs from eh]
    simp only
    split at h1
    ·rename_i hc
     rw [if_pos hc, ← ap5 h1]
    ·cases h1
   ·cases h1
  ·cases h1
 case cal d f args => exact pcl_owp h
 case cav d x args =>
  obtain ⟨f, fst, caps, h1, h2⟩ := h
  obtain ⟨r, h', nx', q1, q2⟩ := pcl_owp h2
  refine ⟨r, h', nx', ?_, q2⟩
  show VCalls P (evO (slL l) x) _ _ _ _ _ _
  rw [h1]; exact q1
 case inv d x args tb =>
  obtain ⟨f, rv, h1, h2⟩ := h
  obtain ⟨r, h', nx', q1, q2⟩ := pcl_owp h2
  exact ⟨f, rv, r, h', nx', h1, q1, q2⟩
theorem sg_sound {K : KL} {l : List V} {hs : List O} {o : GOp} (h : sg P rb o K l hs) : gwp P rb o (up K) (mkS l hs) := by
 obtain ⟨g, op⟩ := o
 cases g with
 | none => exact sop_sound h
 | some jw =>
   obtain ⟨j, w⟩ := jw
   obtain ⟨x, h1, h2⟩ := h
   refine ⟨x, h1, ?_⟩
   split
   ·rename_i e; rw [if_pos e] at h2; exact sop_sound h2
   ·rename_i e
    rw [if_neg e] at h2
    cases hd : op.dst with
    | none => rw [hd] at h2; exact af1 h2
    | some d =>
      rw [hd] at h2
      show up K ((mkS l hs).put d udf)
      rw [au3]; exact af1 h2
theorem srw_sound : ∀ {ops : List GOp} {K : KL} {l : List V} {hs : List O}, srw P rb ops K l hs → rwp P rb ops (up K) (mkS l hs)
 | [], K, l, hs, h => af1 h
 | o :: r, K, l, hs, h => by
   refine aj8 (fun s hs => ?_) (sg_sound h)
   obtain ⟨l', hs', rfl, h'⟩ := hs
   exact srw_sound h'
theorem srd_sound {A : Bool} {all : List Tr} : ∀ {L : List Tr} {K : KL} {l : List V} {hs : List O}, (A = false → ∀ u, u ∈ L → u.2.1.op.cl ≠ .a) → srd P rb A all L K l hs → rwd P rb all L (up K) (mkS l hs)
 | [], K, l, hs, _, h => af1 h
 | t :: r, K, l, hs, hA, h => by
   refine ⟨?_, aj8 (fun s hs => ?_) (sg_sound h.2)⟩
   ·cases A with
    | false => exact fun u hu hc => (hA rfl u hu hc).elim
    | true => exact dkP_dead h.1
   ·obtain ⟨l', hs', rfl, h1, h2⟩ := hs
    exact ⟨h1, srd_sound (fun e u hu => hA e u (List.mem_cons_of_mem _ hu)) h2⟩
theorem ah6 : ∀ (c : ACode) {Q : Exit → KL} {l : List V} {hs : List O}, swp P c Q l hs → awp P c (fun e => up (Q e)) (mkS l hs) := by
 intro c
 induction c with
 | skip => intro Q l hs h; exact af1 h
 | reg na ops =>
   intro Q l hs h
   have := srw_sound h
   rw [← mkS_more] at this
   exact this
 | drw na L =>
   intro Q l hs h
   have := srd_sound (fun e u hu => noA_mem (by simpa using e) hu) h
   rw [← mkS_more] at this
   exact this
 | seq a b iha ihb =>
   intro Q l hs h
   refine o6 (c := a) (fun e s hs => ?_) (iha h)
   obtain ⟨l', hs', rfl, h'⟩ := hs
   cases e <;> first | exact ihb h' | exact af1 h'
 | cond c a b iha ihb =>
   intro Q l hs h
   obtain ⟨x, h1, h2⟩ := h
   refine ⟨x, h1, ?_⟩
   split
   ·rename_i e; rw [if_pos e] at h2; exact iha h2
   ·rename_i e; rw [if_neg e] at h2; exact ihb h2
 | block id a ih =>
   intro Q l hs h
   refine o6 (c := a) (fun e s hs => ?_) (ih h)
   obtain ⟨l', hs', rfl, h'⟩ := hs
   cases e <;> first
    | exact af1 h'
    | (simp only [ao5] at h'
       simp only [blockA]
       split
       ·rename_i e; rw [if_pos e] at h'; exact af1 h'
       ·rename_i e; rw [if_neg e] at h'; exact af1 h')
 | loop a ih =>
   intro Q l hs h X0 hX0
   refine h (fun l hs => X0 (mkS l hs)) (fun l hs h' => ?_)
   refine hX0 _ (o6 (fun e s hs => ?_) (ih h'))
   obtain ⟨l', hs', rfl, h'⟩ := hs
   cases e <;> first | exact h' | exact af1 h'
 | exit id => intro Q l hs h; exact af1 h
 | ret => intro Q l hs h; exact af1 h
 | bad => intro Q l hs h; exact h.elim
 | rfn m x ps asg bd _ _ => intro Q l hs h; exact h.elim
end
def Hd (F : (Nat → V) → List V) (l : List V) : Prop := l = F (slL l)
theorem Hd.open {F : (Nat → V) → List V} {l : List V} (h : Hd F l) : ∃ j, l = F j := ⟨_, h⟩
structure Lp (P : Program) (a : ACode) (Q : Exit → KL) (l : List V) (hs : List O) : Prop where
 out : swp P (.loop a) Q l hs
def retS (res : List AR) (r : V) : Exit → KL
 | .normal, l, hs | .ret, l, hs => an7 (mkS l hs) res = some r
 | _, _, _ => False
theorem at2 {N N' : KL} {Q Q' : Exit → KL} (h1 : ∀ l hs, N l hs → N' l hs) (h2 : ∀ e l hs, Q e l hs → Q' e l hs) : ∀ e l hs, be5 N Q e l hs → be5 N' Q' e l hs := by
 intro e l hs h; cases e <;> first | exact h1 _ _ h | exact h2 _ _ _ h
theorem sop_mono {P : Program} {rb : Nat} {K K' : KL} (hk : ∀ l hs, K l hs → K' l hs) {l : List V} {hs : List O} {op : AOp} (h : sop P rb K l hs op) : sop P rb K' l hs op := by
 cases op <;> simp only [sop] at h ⊢ <;> first
  | (obtain ⟨v, h1, h2⟩ := h; exact ⟨v, h1, hk _ _ h2⟩)
  | (obtain ⟨v, h1, h2, h3⟩ := h; exact ⟨v, h1, h2, hk _ _ h3⟩)
  | (obtain ⟨f, fst, caps, h0, v, h1, h2, h3⟩ := h; exact ⟨f, fst, caps, h0, v, h1, h2, hk _ _ h3⟩)
  | (obtain ⟨f, rv, h0, v, h1, h2, h3⟩ := h; exact ⟨f, rv, h0, v, h1, h2, hk _ _ h3⟩)
theorem sg_mono {P : Program} {rb : Nat} {K K' : KL} (hk : ∀ l hs, K l hs → K' l hs) {l : List V} {hs : List O} {o : GOp} (h : sg P rb o K l hs) : sg P rb o K' l hs := by
 obtain ⟨g, op⟩ := o
 cases g with
 | none => exact sop_mono hk h
 | some jw =>
   obtain ⟨j, w⟩ := jw
   obtain ⟨x, h1, h2⟩ := h
   refine ⟨x, h1, ?_⟩
   split
   ·rename_i e; rw [if_pos e] at h2; exact sop_mono hk h2
   ·rename_i e; rw [if_neg e] at h2; exact hk _ _ h2
theorem srw_mono {P : Program} {rb : Nat} : ∀ {ops : List GOp} {K K' : KL} (hk : ∀ l hs, K l hs → K' l hs) {l : List V} {hs : List O}, srw P rb ops K l hs → srw P rb ops K' l hs
 | [], K, K', hk, l, hs, h => hk _ _ h
 | o :: r, K, K', hk, l, hs, h => sg_mono (fun l hs h' => srw_mono hk h') h
theorem srd_mono {P : Program} {rb : Nat} {A : Bool} {all : List Tr} : ∀ {L : List Tr} {K K' : KL} (hk : ∀ l hs, K l hs → K' l hs) {l : List V} {hs : List O}, srd P rb A all L K l hs → srd P rb A all L K' l hs
 | [], K, K', hk, l, hs, h => hk _ _ h
 | o :: r, K, K', hk, l, hs, h => ⟨h.1, sg_mono (fun l hs h' => ⟨h'.1, srd_mono hk h'.2⟩) h.2⟩
theorem ag4 {P : Program} : ∀ {c : ACode} {Q Q' : Exit → KL} (hq : ∀ e l hs, Q e l hs → Q' e l hs) {l : List V} {hs : List O}, swp P c Q l hs → swp P c Q' l hs
 | .skip, Q, Q', hq, l, hs, h => hq _ _ _ h
 | .reg na ops, Q, Q', hq, l, hs, h => srw_mono (hq _) h
 | .drw na ops, Q, Q', hq, l, hs, h => srd_mono (hq _) h
 | .seq a b, Q, Q', hq, l, hs, h => ag4 (c := a) (at2 (fun l hs h => ag4 (c := b) hq h) hq) h
 | .cond c a b, Q, Q', hq, l, hs, h => by
   obtain ⟨x, h1, h2⟩ := h
   refine ⟨x, h1, ?_⟩
   split
   ·rename_i e; rw [if_pos e] at h2; exact ag4 hq h2
   ·rename_i e; rw [if_neg e] at h2; exact ag4 hq h2
 | .block id a, Q, Q', hq, l, hs, h => by
   refine ag4 (c := a) (fun e l hs h => ?_) h
   cases e <;> first
    | exact hq _ _ _ h
    | (simp only [ao5] at h ⊢
       split
       ·rename_i e; rw [if_pos e] at h; exact hq _ _ _ h
       ·rename_i e; rw [if_neg e] at h; exact hq _ _ _ h)
 | .loop a, Q, Q', hq, l, hs, h => fun X hX => h X (fun l hs h' => hX l hs (ag4 (c := a) (at2 (fun _ _ h => h) hq) h'))
 | .exit id, Q, Q', hq, l, hs, h => hq _ _ _ h
 | .ret, Q, Q', hq, l, hs, h => hq _ _ _ h
 | .bad, Q, Q', hq, l, hs, h => h.elim
 | .rfn _ _ _ _ _, Q, Q', hq, l, hs, h => h.elim
section
variable {P : Program}
theorem av4 {a : ACode} {Q : Exit → KL} {l : List V} {hs : List O} (h : swp P a (be5 (Lp P a Q) Q) l hs) : Lp P a Q l hs :=
 ⟨fun X hX => hX l hs (ag4 (at2 (fun l hs h => h.out X hX) (fun _ _ _ h => h)) h)⟩
theorem m5 {a : ACode} {Q : Exit → KL} {X : Type} (S : X → KL) (I : X → Prop) (μ : X → Nat)
  (step : ∀ x l hs, S x l hs → I x → (∀ y l hs, S y l hs → I y → μ y < μ x → Lp P a Q l hs) → swp P a (be5 (Lp P a Q) Q) l hs) : ∀ (x : X) (l : List V) (hs : List O), S x l hs → I x → Lp P a Q l hs := by
 have key : ∀ n x l hs, μ x < n → S x l hs → I x → Lp P a Q l hs := by
  intro n
  induction n with
  | zero => intro x l hs h; exact (Nat.not_lt_zero _ h).elim
  | succ n ih =>
    intro x l hs hn hS hI
    exact av4 (step x l hs hS hI (fun y l hs hS' hI' hlt => ih y l hs (by omega) hS' hI'))
 exact fun x l hs => key _ x l hs (Nat.lt_succ_self _)
theorem w_skip {Q : Exit → KL} {l : List V} {hs : List O} : swp P .skip Q l hs = Q .normal l hs := rfl
theorem w_reg {na : Nat} {ops : List GOp} {Q : Exit → KL} {l : List V} {hs : List O} : swp P (.reg na ops) Q l hs = srw P hs.length ops (Q .normal) l (hs ++ List.replicate na .no) := rfl
theorem w_drw {na : Nat} {L : List Tr} {Q : Exit → KL} {l : List V} {hs : List O} : swp P (.drw na L) Q l hs = srd P hs.length (!noA L) L L (Q .normal) l (hs ++ List.replicate na .no) := rfl
theorem w_seq {a b : ACode} {Q : Exit → KL} {l : List V} {hs : List O} : swp P (.seq a b) Q l hs = swp P a (be5 (swp P b Q) Q) l hs := rfl
theorem w_cond {c : AO} {a b : ACode} {Q : Exit → KL} {l : List V} {hs : List O} : swp P (.cond c a b) Q l hs = cndV (evO (slL l) c) (swp P a Q l hs) (swp P b Q l hs) .mk .mk := rfl
theorem w_block {id : Nat} {a : ACode} {Q : Exit → KL} {l : List V} {hs : List O} : swp P (.block id a) Q l hs = swp P a (ao5 id Q) l hs := rfl
theorem w_loop {a : ACode} {Q : Exit → KL} {l : List V} {hs : List O} : swp P (.loop a) Q l hs = Lp P a Q l hs := propext ⟨fun h => ⟨h⟩, fun h => h.out⟩
theorem w_exit {id : Nat} {Q : Exit → KL} {l : List V} {hs : List O} : swp P (.exit id) Q l hs = Q (.exit id) l hs := rfl
theorem w_ret {Q : Exit → KL} {l : List V} {hs : List O} : swp P .ret Q l hs = Q .ret l hs := rfl
theorem r_nil {rb : Nat} {K : KL} {l : List V} {hs : List O} : srw P rb [] K l hs = K l hs := rfl
theorem r_none {rb : Nat} {op : AOp} {r : List GOp} {K : KL} {l : List V} {hs : List O} : srw P rb (⟨none, op⟩ :: r) K l hs = sop P rb (srw P rb r K) l hs op := rfl
theorem r_some {rb : Nat} {op : AOp} {j : Nat} {w : Bool} {r : List GOp} {K : KL} {l : List V} {hs : List O} :
  srw P rb (⟨some (j, w), op⟩ :: r) K l hs = gcn (slL l j) w (sop P rb (srw P rb r K) l hs op) (srw P rb r K (sclr l op.dst) hs) .mk .mk := rfl
theorem d_nil {rb : Nat} {A : Bool} {all : List Tr} {K : KL} {l : List V} {hs : List O} : srd P rb A all [] K l hs = K l hs := rfl
def srk (P : Program) (rb : Nat) (A : Bool) (all r : List Tr) (is : List Nat) (K : KL) (l : List V) (hs : List O) : KL := fun l' hs' => rcks all is l hs l' hs' ∧ srd P rb A all r K l' hs'
theorem d_none {rb i : Nat} {A : Bool} {all : List Tr} {op : AOp} {is : List Nat} {r : List Tr} {K : KL} {l : List V} {hs : List O} :
  srd P rb A all ((i, ⟨none, op⟩, is) :: r) K l hs = (dkQ A rb hs ((i, ⟨none, op⟩, is) :: r) ∧ sop P rb (srk P rb A all r is K l hs) l hs op) := rfl
theorem d_some {rb i j : Nat} {A w : Bool} {all : List Tr} {op : AOp} {is : List Nat} {r : List Tr} {K : KL} {l : List V} {hs : List O} :
  srd P rb A all ((i, ⟨some (j, w), op⟩, is) :: r) K l hs = (dkQ A rb hs ((i, ⟨some (j, w), op⟩, is) :: r) ∧ gcn (slL l j) w (sop P rb (srk P rb A all r is K l hs) l hs op) (srk P rb A all r is K l hs (sclr l op.dst) hs) .mk .mk) := rfl
theorem k_nil {rb : Nat} {A : Bool} {all r : List Tr} {K : KL} {l l' : List V} {hs hs' : List O} : srk P rb A all r [] K l hs l' hs' = srd P rb A all r K l' hs' := propext ⟨fun q => q.2, fun q => ⟨fun i hi => (by cases hi), q⟩⟩
theorem aa6 {rb i : Nat} {A : Bool} {is : List Nat} {all r : List Tr} {K : KL} {l l' : List V} {hs hs' : List O} (h1 : az8 all i (mkS l hs) (mkS l' hs')) (h2 : srk P rb A all r is K l hs l' hs') : srk P rb A all r (i :: is) K l hs l' hs' := by
 refine ⟨fun j hj => ?_, h2.2⟩
 rcases List.mem_cons.1 hj with rfl | hj
 ·exact h1
 ·exact h2.1 j hj
theorem dk_f {rb : Nat} {hs : List O} {L : List Tr} : dkQ false rb hs L = True := rfl
theorem dk_t {rb : Nat} {hs : List O} {L : List Tr} : dkQ true rb hs L = dkP rb hs L := rfl
theorem dp_0 {rb : Nat} {hs : List O} : dkP rb hs [] = True := rfl
theorem dp_s {rb i : Nat} {hs : List O} {g : Option (Nat × Bool)} {op : AOp} {is : List Nat} {r : List Tr} : dkP rb hs ((i, ⟨g, op⟩, is) :: r) = (dk1 rb hs (kA op) ∧ dkP rb hs r) := rfl
theorem d1_n {rb : Nat} {hs : List O} : dk1 rb hs none = True := rfl
theorem d1_s {rb k : Nat} {hs : List O} : dk1 rb hs (some k) = isNo (hg hs (rb + k)) := rfl
theorem no_t : isNo (some .no) = True := rfl
theorem hg_0 {l : List O} {x : O} : hg (x :: l) 0 = some x := rfl
theorem hg_s {l : List O} {x : O} {n : Nat} : hg (x :: l) (n + 1) = hg l n := rfl
theorem hg_ap0 {l xs : List O} {x : O} : hg (l ++ x :: xs) l.length = some x := by simp [hg]
theorem hg_apk {l xs : List O} {k : Nat} : hg (l ++ xs) (l.length + k) = hg xs k := by
 simp only [hg]
 rw [List.getElem?_append_right (by omega)]
 simp
theorem aa5 {all : List Tr} {i : Nat} {q : GOp} {s s' : St} (h0 : au4 all i = some q) (h1 : ap9 q s' = ap9 q s) (h2 : (ap9 q s).isSome = true) : az8 all i s s' := by
 obtain ⟨v, hv⟩ := Option.isSome_iff_exists.1 h2
 exact ⟨q, v, h0, hv, h1.trans hv⟩
def gvE (g : V) (w : Bool) (o : Option V) : Option V := match af7 g with
 | some b => if b = some w then o else some udf
 | none => none
theorem gv_n {d : Nat} {x : AX} {l : List V} {hs : List O} : ap9 ⟨none, .set d x⟩ (mkS l hs) = evX (slL l) (hpL hs) x := rfl
theorem gv_s {j d : Nat} {w : Bool} {x : AX} {l : List V} {hs : List O} : ap9 ⟨some (j, w), .set d x⟩ (mkS l hs) = gvE (slL l j) w (evX (slL l) (hpL hs) x) := rfl
theorem gv_tt {o : Option V} : gvE (.b true) true o = o := rfl
theorem gv_ff {o : Option V} : gvE (.b false) false o = o := rfl
theorem gv_tf {o : Option V} : gvE (.b true) false o = some (.tu []) := rfl
theorem gv_ft {o : Option V} : gvE (.b false) true o = some (.tu []) := rfl
theorem gv_u {w : Bool} {o : Option V} : gvE (.tu []) w o = some (.tu []) := rfl
theorem t_n {N : KL} {Q : Exit → KL} {l : List V} {hs : List O} : be5 N Q .normal l hs = N l hs := rfl
theorem t_e {N : KL} {Q : Exit → KL} {i : Nat} {l : List V} {hs : List O} : be5 N Q (.exit i) l hs = Q (.exit i) l hs := rfl
theorem t_r {N : KL} {Q : Exit → KL} {l : List V} {hs : List O} : be5 N Q .ret l hs = Q .ret l hs := rfl
theorem b_n {Q : Exit → KL} {i : Nat} {l : List V} {hs : List O} : ao5 i Q .normal l hs = Q .normal l hs := rfl
theorem b_r {Q : Exit → KL} {i : Nat} {l : List V} {hs : List O} : ao5 i Q .ret l hs = Q .ret l hs := rfl
theorem b_e {Q : Exit → KL} {i : Nat} {l : List V} {hs : List O} : ao5 i Q (.exit i) l hs = Q .normal l hs := by simp [ao5]
theorem b_o {Q : Exit → KL} {i j : Nat} {l : List V} {hs : List O} (h : Nat.beq j i = false) : ao5 i Q (.exit j) l hs = Q (.exit j) l hs := by
 have : j ≠ i := by rintro rfl; simp at h
 simp [ao5, this]
theorem q_n {res : List AR} {r : V} {l : List V} {hs : List O} : retS res r .normal l hs = (an7 (mkS l hs) res = some r) := rfl
theorem q_r {res : List AR} {r : V} {l : List V} {hs : List O} : retS res r .ret l hs = (an7 (mkS l hs) res = some r) := rfl
section
variable {rb d k f n : Nat} {K : KL} {l : List V} {hs : List O}
theorem o_set {x : AX} : sop P rb K l hs (.set d x) = bnd (evX (slL l) (hpL hs) x) (fun v => K (ah4 l d v) hs) .mk := rfl
theorem o_new {z : List V} : sop P rb K l hs (.new d k z) = bnd (u6 hs (rb + k) (.c false z)) (fun hs => K (ah4 l d (.p (rb + k) 0)) hs) .mk := rfl
theorem o_box {x : AO} : sop P rb K l hs (.box d k x) = bnd ((stored (evO (slL l) x)).bind fun c => u6 hs (rb + k) (.c false c)) (fun hs => K (ah4 l d (.p (rb + k) 0)) hs) .mk := rfl
theorem o_stp {a x : AO} : sop P rb K l hs (.stp a n x) = bnd (sop.stpL hs n (evO (slL l) a) (stored (evO (slL l) x))) (fun hs => K l hs) .mk := rfl
def stpO (hs : List O) (b n off : Nat) (c : List V) : O → Option (List O)
 | .c gr cs => if c.length = n ∧ off + n ≤ cs.length then u6 hs b (.c gr (putAt cs off c)) else none
 | _ => none
theorem stp_p {b off : Nat} {c : List V} : sop.stpL hs n (.p b off) (some c) = stpO hs b n off c (hpL hs b) := by
 simp only [sop.stpL, stpO, hpL]
theorem stp_c {b off : Nat} {c cs : List V} {gr : Bool} (h1 : Nat.beq c.length n = true) (h2 : Nat.ble (off + n) cs.length = true) : stpO hs b n off c (.c gr cs) = u6 hs b (.c gr (putAt cs off c)) := by
 have e1 : c.length = n := Nat.eq_of_beq_eq_true h1
 have e2 : off + n ≤ cs.length := Nat.le_of_ble_eq_true h2
 simp only [stpO]; rw [if_pos ⟨e1, e2⟩]
theorem o_bsl {wd : Nat} {xs : List AO} : sop P rb K l hs (.bsl d k wd xs) = bnd ((ab6 wd (ae5 (slL l) xs)).bind fun c => u6 hs (rb + k) (.c false c)) (fun hs => K (ah4 l d (.sl (rb + k) 0 wd xs.length none)) hs) .mk := rfl
theorem o_app {s x : AO} {wd bytes : Nat} : sop P rb K l hs (.app d k s x wd bytes) = bnd (ag9 rb hs k (evO (slL l) s) (az2 (hpL hs) wd (evO (slL l) x)) (nsl (evO (slL l) x)) wd bytes) (fun r => K (ah4 l d r.1) r.2) .mk := rfl
theorem ap_ns {xs : List V} {wd bytes : Nat} (h0 : Nat.beq n 0 = false) (h1 : room n bytes = true) : ag9 rb hs k .ns (some xs) (some n) wd bytes = (u6 hs (rb + k) (.c true xs)).map fun h => (.sl (rb + k) 0 wd n none, h) := by
 have : n ≠ 0 := by rintro rfl; simp at h0
 simp only [ag9, if_neg this, if_pos h1]
theorem ap_ns0 {xs : List V} {wd bytes : Nat} : ag9 rb hs k .ns (some xs) (some 0) wd bytes = some (.ns, hs) := rfl
theorem ap_sl0 {xs : List V} {a off wd' len wd bytes : Nat} {cp : Option Nat} : ag9 rb hs k (.sl a off wd' len cp) (some xs) (some 0) wd bytes = some (.sl a off wd' len cp, hs) := rfl
theorem ap_sl {xs : List V} {a off wd' len wd bytes : Nat} {cp : Option Nat} (h0 : Nat.beq n 0 = false) : ag9 rb hs k (.sl a off wd' len cp) (some xs) (some n) wd bytes = appO rb hs k a off wd' len cp xs n wd bytes (hpL hs a) := by
 have : n ≠ 0 := by rintro rfl; simp at h0
 simp only [ag9, if_neg this]
theorem aq3 {xs cs : List V} {a len wd bytes : Nat} (h0 : Nat.beq n 0 = false) (h1 : Nat.beq wd 0 = false) (h2 : Nat.beq cs.length (len * wd) = true) (hr : room (len + n) bytes = true) :
  appO rb hs k a 0 wd len none xs n wd bytes (.c true cs) = (u6 hs a .gone).bind fun h1 => (u6 h1 (rb + k) (.c true (cs ++ xs))).map fun h => (.sl (rb + k) 0 wd (len + n) none, h) := by
 have e0 : n ≠ 0 := by rintro rfl; simp at h0
 have e1 : wd ≠ 0 := by rintro rfl; simp at h1
 have e2 : cs.length = len * wd := Nat.eq_of_beq_eq_true h2
 have e3 : 0 < n * wd := Nat.mul_pos (Nat.pos_of_ne_zero e0) (Nat.pos_of_ne_zero e1)
 have e4 : ¬ (0 + (len + n) * wd ≤ cs.length) := by rw [e2, Nat.add_mul]; omega
 simp only [appO]
 rw [if_pos ⟨trivial, e1⟩, if_neg (by simp only [fitsC, decide_eq_true_eq]; exact e4), if_pos ⟨hr, by omega⟩, if_neg (by simp), if_pos trivial, ← e2, List.take_length]
theorem ao_lit {xs cs : List V} {a len wd bytes : Nat} (h0 : Nat.beq n 0 = false) (h1 : Nat.beq wd 0 = false) (h2 : Nat.beq cs.length (len * wd) = true) (hr : room (len + n) bytes = true) :
  appO rb hs k a 0 wd len none xs n wd bytes (.c false cs) = (u6 hs (rb + k) (.c true (cs ++ xs))).map fun h => (.sl (rb + k) 0 wd (len + n) none, h) := by
 have e0 : n ≠ 0 := by rintro rfl; simp at h0
 have e1 : wd ≠ 0 := by rintro rfl; simp at h1
 have e2 : cs.length = len * wd := Nat.eq_of_beq_eq_true h2
 have e3 : 0 < n * wd := Nat.mul_pos (Nat.pos_of_ne_zero e0) (Nat.pos_of_ne_zero e1)
 have e4 : ¬ (0 + (len + n) * wd ≤ cs.length) := by rw [e2, Nat.add_mul]; omega
 simp only [appO]
 rw [if_pos ⟨trivial, e1⟩, if_neg (by simp only [fitsC, decide_eq_true_eq]; exact e4), if_pos ⟨hr, by omega⟩, if_pos (.inr trivial), ← e2, List.drop_zero, List.take_length]
theorem ap_ns_s {xs : List V} {wd bytes : Nat} (h1 : room (n + 1) bytes = true) : ag9 rb hs k .ns (some xs) (some (n + 1)) wd bytes = (u6 hs (rb + k) (.c true xs)).map fun h => (.sl (rb + k) 0 wd (n + 1) none, h) := ap_ns rfl h1
theorem ap_sl_s {xs : List V} {a off wd' len wd bytes : Nat} {cp : Option Nat} : ag9 rb hs k (.sl a off wd' len cp) (some xs) (some (n + 1)) wd bytes = appO rb hs k a off wd' len cp xs (n + 1) wd bytes (hpL hs a) := ap_sl rfl
theorem ao_lit_s {xs cs : List V} {a len wd bytes : Nat} (h1 : Nat.beq wd 0 = false) (h2 : Nat.beq cs.length (len * wd) = true) (hr : room (len + (n + 1)) bytes = true) :
  appO rb hs k a 0 wd len none xs (n + 1) wd bytes (.c false cs) = (u6 hs (rb + k) (.c true (cs ++ xs))).map fun h => (.sl (rb + k) 0 wd (len + (n + 1)) none, h) := ao_lit rfl h1 h2 hr
theorem ao_grow_s {rb k a n len wd bytes : Nat} {hs : List O} {xs cs : List V} (h1 : Nat.beq wd 0 = false) (h2 : Nat.beq cs.length (len * wd) = true) (hr : room (len + (n + 1)) bytes = true) :
  appO rb hs k a 0 wd len none xs (n + 1) wd bytes (.c true cs) = (u6 hs a .gone).bind fun h1 => (u6 h1 (rb + k) (.c true (cs ++ xs))).map fun h => (.sl (rb + k) 0 wd (len + (n + 1)) none, h) := aq3 rfl h1 h2 hr
theorem app_fit {hs : List O} {rb k a len wd bytes : Nat} {gr : Bool} {cs : List V} {rows : List (List V)} (h1 : Nat.beq wd 0 = false) (hh : hpL hs a = .c gr cs) (hlt : a < hs.length) (hf : (len + rows.length) * wd ≤ cs.length) (hp : rows.length = 0 → putAt cs (len * wd) rows.flatten = cs) :
  ag9 rb hs k (.sl a 0 wd len none) (some rows.flatten) (some rows.length) wd bytes = (u6 hs a (.c gr (putAt cs (len * wd) rows.flatten))).map fun h => (.sl a 0 wd (len + rows.length) none, h) := by
 have e1 : wd ≠ 0 := by rintro rfl; simp at h1
 by_cases h0 : rows.length = 0
 ·simp only [ag9, if_pos h0, h0, Nat.add_zero, hp h0]
  have : ∀ (hs : List O) (a : Nat) (o : O), hpL hs a = o → a < hs.length → u6 hs a o = some hs := by
   intro hs
   induction hs with
   | nil => intro a o _ h; simp at h
   | cons y hs ih =>
     intro a o he h
     cases a with
     | zero => simp only [hpL, List.getD_cons_zero] at he; subst he; rfl
     | succ a =>
       have := ih a o (by simpa [hpL] using he) (by simpa using h)
       simp only [u6, this, Option.map_some]
  rw [this hs a _ hh hlt]; rfl
 ·simp only [ag9, if_neg h0, hh, appO]
  rw [if_pos ⟨trivial, e1⟩, if_pos (by simp only [fitsC, decide_eq_true_eq, Nat.zero_add]; exact hf), if_pos (by omega), Nat.zero_add]
def capE : V → Option V
 | .ns => some (.i .i64 0)
 | _ => none
theorem cap_ns : capE .ns = some (.i .i64 0) := rfl
def sslE (wd : Nat) (x o : V) : Option V := match x, vI o with
 | .ns, some h => if h = 0 then some .ns else none
 | .sl a off wd' len cp, some h => if 0 ≤ h ∧ h ≤ len ∧ wd = wd' then some (.sl a off wd h.toNat cp) else none
 | _, _ => none
theorem ssl_ns {wd : Nat} {k : IntKind} : sslE wd .ns (.i k 0) = some .ns := rfl
theorem ssl_sl {a off wd len : Nat} {k : IntKind} {cp : Option Nat} : sslE wd (.sl a off wd len cp) (.i k 0) = some (.sl a off wd 0 cp) := by simp [sslE, vI]
def apO : Option (List V) → Option (List V) → Option (List V)
 | some r, some rs => some (r ++ rs)
 | _, _ => none
def rowO (wd : Nat) : Option (List V) → Option (List V)
 | some l => if l.length = wd then some l else none
 | none => none
theorem ro_n {wd : Nat} : ab6 wd [] = some [] := rfl
theorem ro_c {wd : Nat} {x : V} {xs : List V} : ab6 wd (x :: xs) = apO (rowO wd (stored x)) (ab6 wd xs) := by
 simp only [ab6, rowOf, rowO, apO]
 cases stored x <;> rfl
theorem rw_s {wd : Nat} {l : List V} (q : Nat.beq l.length wd = true) : rowO wd (some l) = some l := by
 simp only [rowO]; rw [if_pos (Nat.eq_of_beq_eq_true q)]
theorem apo_s {a b : List V} : apO (some a) (some b) = some (a ++ b) := rfl
def seeO (off m : Nat) : O → Option (List V)
 | .c _ cs => if off + m ≤ cs.length then some ((cs.drop off).take m) else none
 | _ => none
theorem see_sl {h : Hp} {wd a off len : Nat} {cp : Option Nat} : az2 h wd (.sl a off wd len cp) = seeO off (len * wd) (h a) := by
 simp only [az2, seeO]; cases h a <;> simp
theorem seo_c {off m : Nat} {gr : Bool} {cs : List V} (q : Nat.ble (off + m) cs.length = true) : seeO off m (.c gr cs) = some ((cs.drop off).take m) := by
 simp only [seeO]; rw [if_pos (Nat.le_of_ble_eq_true q)]
theorem see_ns {h : Hp} {wd : Nat} : az2 h wd .ns = some [] := rfl
theorem see_te {h : Hp} {wd : Nat} : az2 h wd .te = some [] := rfl
theorem bf6 {h : Hp} {wd : Nat} {rows : List (List V)} (q : rows.all (fun r => r.length == wd) = true) : az2 h wd (.ts rows) = some rows.flatten := by simp only [az2]; rw [if_pos q]
theorem nl_sl {a off wd n : Nat} {cp : Option Nat} : nsl (.sl a off wd n cp) = some n := rfl
theorem nl_ns : nsl .ns = some 0 := rfl
theorem nl_te : nsl .te = some 0 := rfl
theorem nl_ts {rows : List (List V)} : nsl (.ts rows) = some rows.length := rfl
theorem o_apz {s n : AO} {wd bytes : Nat} {zero : List V} : sop P rb K l hs (.apz d k s n wd bytes zero) = bnd (apzB rb hs k (evO (slL l) s) (evO (slL l) n) wd bytes zero) (fun r => K (ah4 l d r.1) r.2) .mk := rfl
theorem o_mkm : sop P rb K l hs (.mkm d k) = bnd (u6 hs (rb + k) (.m [] 0)) (fun hs => K (ah4 l d (.m (rb + k))) hs) .mk := rfl
theorem o_mst {m k v : AO} {kt : KT} : sop P rb K l hs (.mst m k v kt) = bnd (mstB hs kt (evO (slL l) k) (evO (slL l) v) (evO (slL l) m)) (fun hs => K l hs) .mk := rfl
theorem o_clr {x : AO} {wd : Nat} {zero : List V} : sop P rb K l hs (.clr x wd zero) = bnd (clrB hs wd zero (evO (slL l) x)) (fun hs => K l hs) .mk := rfl
def lkpE (h : Hp) (kt : KT) (agg : Bool) (zero : List V) (ok : Bool) (m k : V) : Option V := match pack agg zero with
 | some z => lkpV h kt m k z ok
 | none => none
theorem x_lkp {sl : Nat → V} {h : Hp} {m k : AO} {kt : KT} {zero : List V} {agg ok : Bool} : evX sl h (.lkp m k kt zero agg ok) = lkpE h kt agg zero ok (evO sl m) (evO sl k) := rfl
theorem o_mks {a c : AO} {wd bytes : Nat} {zero : List V} : sop P rb K l hs (.mks d k a c wd bytes zero) = bnd (mksB hs (rb + k) wd bytes zero (evO (slL l) a) (evO (slL l) c)) (fun r => K (ah4 l d (.sl (rb + k) 0 wd r.1 none)) r.2) .mk := rfl
theorem mks_n {a m wd bytes : Nat} {kk kk' : IntKind} {zero : List V} (q : decide (m ≤ 1073741824 ∧ bytes * m ≤ 281474976710656 ∧ zero.length = wd) = true) :
  mksB hs a wd bytes zero (.i kk (m : Int)) (.i kk' (m : Int)) = (u6 hs a (.c false (List.replicate m zero).flatten)).map fun h => (m, h) := by
 obtain ⟨q1, q2, q3⟩ := of_decide_eq_true q
 simp only [mksB]
 rw [if_pos ⟨by omega, by omega, by omega, by rw [← Int.natCast_mul]; omega, q3⟩, Int.toNat_natCast]
theorem o_cal {args : List AO} : sop P rb K l hs (.cal d f args) = pcl P f (ae5 (slL l) args) hs (fun r hs => K (ah4 l d r) hs) .mk := rfl
theorem o_inv {x : AO} {args : List AO} {tb : List (TypeId × FuncId × Option (Nat × Bool))} : sop P rb K l hs (.inv d x args tb) = icl P (invV (hpL hs) tb (evO (slL l) x)) (ae5 (slL l) args) hs (fun r hs => K (ah4 l d r) hs) .mk := rfl
theorem o_cav {x : AO} {args : List AO} : sop P rb K l hs (.cav d x args) = vcl P (evO (slL l) x) (ae5 (slL l) args) hs (fun r hs => K (ah4 l d r) hs) .mk := rfl
end
theorem os_nil {sl : Nat → V} : ae5 sl [] = [] := rfl
theorem os_cons {sl : Nat → V} {x : AO} {xs : List AO} : ae5 sl (x :: xs) = evO sl x :: ae5 sl xs := rfl
theorem eO_k {sl : Nat → V} {x : V} : evO sl (.k x) = x := rfl
theorem eO_s {l : List V} {n : Nat} : evO (slL l) (.s n) = slL l n := rfl
theorem sl_0 {l : List V} {x : V} : slL (x :: l) 0 = x := rfl
theorem sl_s {l : List V} {x : V} {n : Nat} : slL (x :: l) (n + 1) = slL l n := rfl
theorem hp_0 {l : List O} {x : O} : hpL (x :: l) 0 = x := rfl
theorem hp_s {l : List O} {x : O} {n : Nat} : hpL (x :: l) (n + 1) = hpL l n := rfl
theorem ls_0 {l : List V} {x v : V} : ah4 (x :: l) 0 v = v :: l := rfl
theorem ls_s {l : List V} {x v : V} {n : Nat} : ah4 (x :: l) (n + 1) v = x :: ah4 l n v := rfl
theorem hs_0 {l : List O} {x o : O} : u6 (x :: l) 0 o = some (o :: l) := rfl
theorem hs_s {l : List O} {x o : O} {n : Nat} : u6 (x :: l) (n + 1) o = (u6 l n o).map (x :: ·) := rfl
theorem hs_ap0 {l xs : List O} {x o : O} : u6 (l ++ x :: xs) l.length o = some (l ++ o :: xs) := by
 induction l with
 | nil => rfl
 | cons y l ih => simp only [List.cons_append, List.length_cons, u6, ih, Option.map_some]
theorem hs_apk {l xs : List O} {k : Nat} {o : O} : u6 (l ++ xs) (l.length + k) o = (u6 xs k o).map (l ++ ·) := by
 induction l with
 | nil => simp only [List.nil_append, List.length_nil, Nat.zero_add]; cases u6 xs k o <;> rfl
 | cons y l ih =>
   have e : (y :: l).length + k = (l.length + k) + 1 := by simp only [List.length_cons]; omega
   rw [e, List.cons_append]
   simp only [u6, ih, Option.map_map]
   cases u6 xs k o <;> rfl
theorem ab9 {l xs : List O} {x : O} : hpL (l ++ x :: xs) l.length = x := by simp [hpL]
theorem ai2 {l xs : List O} {k : Nat} : hpL (l ++ xs) (l.length + k) = hpL xs k := by
 simp only [hpL, List.getD_eq_getElem?_getD]
 rw [List.getElem?_append_right (by omega)]
 simp
theorem sc_n {l : List V} : sclr l none = l := rfl
theorem sc_s {l : List V} {d : Nat} : sclr l (some d) = ah4 l d (.tu []) := rfl
theorem ar_s {l : List V} {hs : List O} {n : Nat} : an7 (mkS l hs) [.s n] = some (slL l n) := rfl
theorem ar_c {l : List V} {hs : List O} {n k : Nat} {agg : Bool} : an7 (mkS l hs) [.c n k agg] = evX (slL l) (hpL hs) (.ld (.s n) k agg) := rfl
theorem ar_2 {l : List V} {hs : List O} {r s : AR} {t : List AR} : an7 (mkS l hs) (r :: s :: t) = (aEVs (mkS l hs) (r :: s :: t)).map .tu := rfl
theorem av_n {l : List V} {hs : List O} : aEVs (mkS l hs) [] = some [] := rfl
def consO (a : Option V) (b : Option (List V)) : Option (List V) := a.bind fun x => b.map (x :: ·)
theorem av_c {l : List V} {hs : List O} {r : AR} {t : List AR} : aEVs (mkS l hs) (r :: t) = consO (aEV (mkS l hs) r) (aEVs (mkS l hs) t) := by
 simp only [aEVs, consO]
 cases aEV (mkS l hs) r <;> cases aEVs (mkS l hs) t <;> rfl
theorem ae_s {l : List V} {hs : List O} {n : Nat} : aEV (mkS l hs) (.s n) = some (slL l n) := rfl
theorem ae_c {l : List V} {hs : List O} {n k : Nat} {agg : Bool} : aEV (mkS l hs) (.c n k agg) = evX (slL l) (hpL hs) (.ld (.s n) k agg) := rfl
theorem co_s {x : V} {l : List V} : consO (some x) (some l) = some (x :: l) := rfl
section
variable {sl : Nat → V} {h : Hp}
theorem x_mov {x : AO} : evX sl h (.mov x) = some (evO sl x) := rfl
def pickE (c a b : V) : Option V := match c with
 | .b x => some (if x then a else b)
 | _ => none
theorem x_pick {c a b : AO} : evX sl h (.pick c a b) = pickE (evO sl c) (evO sl a) (evO sl b) := rfl
theorem pick_t {a b : V} : pickE (.b true) a b = some a := rfl
theorem pick_f {a b : V} : pickE (.b false) a b = some b := rfl
theorem pick_b {c a b : Bool} : pickE (.b c) (.b a) (.b b) = some (.b (if c then a else b)) := by cases c <;> rfl
def ldE (h : Hp) (n : Nat) (agg : Bool) (x : V) : Option V := match x with
 | .tp row col => if col + n ≤ row.length then pack agg ((row.drop col).take n) else none
 | .p a off => ldO n agg off (h a)
 | _ => none
where
 ldO (n : Nat) (agg : Bool) (off : Nat) : O → Option V
  | .c _ cs => if off + n ≤ cs.length then pack agg ((cs.drop off).take n) else none
  | _ => none
theorem x_ld {x : AO} {n : Nat} {agg : Bool} : evX sl h (.ld x n agg) = ldE h n agg (evO sl x) := by
 simp only [evX, ldE, ldE.ldO]
 cases evO sl x <;> rfl
theorem ld_tp {n col : Nat} {agg : Bool} {row : List V} (q : Nat.ble (col + n) row.length = true) : ldE h n agg (.tp row col) = pack agg ((row.drop col).take n) := by
 simp only [ldE]; rw [if_pos (Nat.le_of_ble_eq_true q)]
theorem ld_p {n a off : Nat} {agg : Bool} : ldE h n agg (.p a off) = ldE.ldO n agg off (h a) := rfl
theorem ld_c {n off : Nat} {agg gr : Bool} {cs : List V} (q : Nat.ble (off + n) cs.length = true) : ldE.ldO n agg off (.c gr cs) = pack agg ((cs.drop off).take n) := by
 simp only [ldE.ldO]; rw [if_pos (Nat.le_of_ble_eq_true q)]
theorem pk_t {l : List V} : pack true l = some (.ag l) := rfl
theorem pk_f {x : V} : pack false [x] = some x := rfl
theorem x_fad {x : AO} {off : Nat} : evX sl h (.fad x off) = fadV (evO sl x) off := rfl
theorem fad_tp {off col : Nat} {row : List V} : fadV (.tp row col) off = some (.tp row (col + off)) := rfl
theorem fad_p {off a o : Nat} : fadV (.p a o) off = some (.p a (o + off)) := rfl
def iadE (wd : Nat) (x i : V) : Option V := match x, i with
 | .ts rows, .i _ n => rowE wd (getI rows n)
 | .sl a off _ len _, .i _ n => if 0 ≤ n ∧ n < len then some (.p a (off + n.toNat * wd)) else none
 | _, _ => none
where
 getI (rows : List (List V)) (n : Int) : Option (List V) := if 0 ≤ n then rows[n.toNat]? else none
 rowE (wd : Nat) : Option (List V) → Option V
  | some row => if row.length = wd then some (.tp row 0) else none
  | none => none
theorem x_iad {x i : AO} {wd : Nat} : evX sl h (.iad x i wd) = iadE wd (evO sl x) (evO sl i) := by
 simp only [evX, iadE, iadE.rowE, iadE.getI]
 cases evO sl x <;> cases evO sl i <;> try rfl
 rename_i rows k n
 simp only
 split
 ·rename_i h0
  cases rows[n.toNat]? <;> rfl
 ·rfl
theorem iad_i {wd : Nat} {rows : List (List V)} {k : IntKind} {n : Int} : iadE wd (.ts rows) (.i k n) = iadE.rowE wd (iadE.getI rows n) := rfl
theorem ar8 {rows : List (List V)} {j : Nat} : iadE.getI rows (j : Int) = rows[j]? := by simp [iadE.getI]
theorem getI_0 {rows : List (List V)} : iadE.getI rows 0 = rows[0]? := by simp [iadE.getI]
theorem rowE_some {wd : Nat} {row : List V} (h : Nat.beq row.length wd = true) : iadE.rowE wd (some row) = some (.tp row 0) := by
 have : row.length = wd := Nat.eq_of_beq_eq_true h
 simp [iadE.rowE, this]
theorem x_bin {op : BinO} {x y : AO} : evX sl h (.bin op x y) = aq5 op (evO sl x) (evO sl y) := rfl
section
variable {k : IntKind} {a b : Int}
theorem n_add : aq5 .add (.i k a) (.i k b) = some (.i k (k.wrap (a + b))) := by simp [aq5]
theorem n_sub : aq5 .sub (.i k a) (.i k b) = some (.i k (k.wrap (a - b))) := by simp [aq5]
theorem n_quo (q : (b == 0) = false) : aq5 .quo (.i k a) (.i k b) = some (.i k (k.wrap (a.tdiv b))) := by
 have : b ≠ 0 := by simpa using q
 simp [aq5, this]
theorem n_eql : aq5 .eql (.i k a) (.i k b) = some (.b (a == b)) := by simp [aq5]
theorem n_neq : aq5 .neq (.i k a) (.i k b) = some (.b (a != b)) := by simp [aq5]
theorem n_lss : aq5 .lss (.i k a) (.i k b) = some (.b (decide (a < b))) := by simp [aq5]
theorem n_leq : aq5 .leq (.i k a) (.i k b) = some (.b (decide (a ≤ b))) := by simp [aq5]
theorem n_gtr : aq5 .gtr (.i k a) (.i k b) = some (.b (decide (a > b))) := by simp [aq5]
theorem n_geq : aq5 .geq (.i k a) (.i k b) = some (.b (decide (a ≥ b))) := by simp [aq5]
theorem s_eql {l l' n n' : Nat} : aq5 .eql (.s l n) (.s l' n') = some (.b (l == l' && n == n')) := rfl
theorem s_neq {l l' n n' : Nat} : aq5 .neq (.s l n) (.s l' n') = some (.b (!(l == l' && n == n'))) := rfl
end
def beqE (ng : Bool) (a b : V) : Option V := match a, b with
 | .b a, .b b => some (.b (if ng then !(a == b) else a == b))
 | _, _ => none
theorem x_beq {ng : Bool} {x y : AO} : evX sl h (.beq ng x y) = beqE ng (evO sl x) (evO sl y) := rfl
theorem beq_t {a b : Bool} : beqE true (.b a) (.b b) = some (.b (!(a == b))) := rfl
theorem beq_f {a b : Bool} : beqE false (.b a) (.b b) = some (.b (a == b)) := rfl
def seqE (kinds : List Nat) (ng : Bool) (a b : V) : Option V := match a, b with
 | .ag a, .ag b => (sqs kinds a b).map fun r => .b (if ng then !r else r)
 | _, _ => none
theorem x_seq {kinds : List Nat} {ng : Bool} {x y : AO} : evX sl h (.seq kinds ng x y) = seqE kinds ng (evO sl x) (evO sl y) := rfl
theorem seq_ag {kinds : List Nat} {ng : Bool} {a b : List V} : seqE kinds ng (.ag a) (.ag b) = (sqs kinds a b).map fun r => .b (if ng then !r else r) := rfl
theorem x_nleq {kd : Nat} {ng : Bool} {x : AO} : evX sl h (.nleq kd ng x) = (isNil kd (evO sl x)).map fun r => .b (if ng then !r else r) := rfl
theorem x_cap {x : AO} : evX sl h (.cap x) = capE (evO sl x) := by simp only [evX, capE]; cases evO sl x <;> rfl
theorem x_ssl {x o : AO} {wd : Nat} (hx : ∀ rows, evO sl x ≠ .ts rows) : evX sl h (.ssl x none (some o) none wd) = sslE wd (evO sl x) (evO sl o) := by
 simp only [evX, sslE, evIo]
 cases hv : evO sl x <;> cases vI (evO sl o) <;> first | rfl | (exact (hx _ hv).elim) | (simp)
def notE : V → Option V
 | .b a => some (.b (!a))
 | _ => none
theorem x_not {x : AO} : evX sl h (.not x) = notE (evO sl x) := by simp only [evX, notE]; cases evO sl x <;> rfl
theorem not_b {a : Bool} : notE (.b a) = some (.b (!a)) := rfl
def lenE (str : Bool) (x : V) : Option V := match str, x with
 | true, .s n _ => some (.i .i64 n)
 | false, .ts rows => some (.i .i64 rows.length)
 | false, .ns => some (.i .i64 0)
 | false, .te => some (.i .i64 0)
 | false, .sl _ _ _ n _ => some (.i .i64 n)
 | _, _ => none
theorem x_len {str : Bool} {x : AO} : evX sl h (.len str x) = lenE str (evO sl x) := rfl
theorem len_s {n m : Nat} : lenE true (.s n m) = some (.i .i64 n) := rfl
theorem ab8 {rows : List (List V)} : lenE false (.ts rows) = some (.i .i64 rows.length) := rfl
theorem len_ns : lenE false .ns = some (.i .i64 0) := rfl
def mnE (a b : V) : Option V := match a, b with
 | .i k a, .i k' b => if k = k' then some (.i k (if b < a then b else a)) else none
 | _, _ => none
theorem len_te : lenE false .te = some (.i .i64 0) := rfl
theorem x_mn {x y : AO} : evX sl h (.mn x y) = mnE (evO sl x) (evO sl y) := rfl
theorem mn_i {k : IntKind} {a b : Int} : mnE (.i k a) (.i k b) = some (.i k (if b < a then b else a)) := by simp [mnE]
def mxE (a b : V) : Option V := match a, b with
 | .i k a, .i k' b => if k = k' then some (.i k (if b > a then b else a)) else none
 | _, _ => none
theorem x_mx {x y : AO} : evX sl h (.mx x y) = mxE (evO sl x) (evO sl y) := rfl
theorem mx_i {k : IntKind} {a b : Int} : mxE (.i k a) (.i k b) = some (.i k (if b > a then b else a)) := by simp [mxE]
def fldE (off n : Nat) (agg : Bool) : V → Option V
 | .ag cs => if off + n ≤ cs.length then pack agg ((cs.drop off).take n) else none
 | _ => none
theorem x_fld {x : AO} {off n : Nat} {agg : Bool} : evX sl h (.fld x off n agg) = fldE off n agg (evO sl x) := by simp only [evX, fldE]; cases evO sl x <;> rfl
theorem fld_ag {off n : Nat} {agg : Bool} {cs : List V} (q : Nat.ble (off + n) cs.length = true) : fldE off n agg (.ag cs) = pack agg ((cs.drop off).take n) := by
 simp only [fldE]; rw [if_pos (Nat.le_of_ble_eq_true q)]
def extE (i : Nat) : V → Option V
 | .tu vs => vs[i]?
 | _ => none
def nckE (x : V) : Option V := if okN x then some x else none
theorem x_nck {x : AO} : evX sl h (.nck x) = nckE (evO sl x) := rfl
theorem nck_p {a o : Nat} : nckE (.p a o) = some (.p a o) := rfl
def aixE (len n : Nat) (agg : Bool) (x i : V) : Option V := match x, i with
 | .ag cs, .i _ k => if 0 ≤ k ∧ k < len ∧ k.toNat * n + n ≤ cs.length then pack agg ((cs.drop (k.toNat * n)).take n) else none
 | _, _ => none
theorem x_aix {x i : AO} {len n : Nat} {agg : Bool} : evX sl h (.aix x i len n agg) = aixE len n agg (evO sl x) (evO sl i) := by
 simp only [evX, aixE]; cases evO sl x <;> cases evO sl i <;> rfl
theorem x_ext {x : AO} {i : Nat} : evX sl h (.ext x i) = extE i (evO sl x) := by simp only [evX, extE]; cases evO sl x <;> rfl
theorem ext_tu {i : Nat} {vs : List V} : extE i (.tu vs) = vs[i]? := rfl
theorem x_bld {zero : List V} {parts : List (Nat × Nat × AO)} : evX sl h (.bld zero parts) = (bldE sl zero parts).map .ag := rfl
theorem x_mki {t : TypeId} {x : AO} : evX sl h (.mki t x) = some (.ifc t (evO sl x)) := rfl
def tasE (t : TypeId) (x : V) : Option V := match x with
 | .ifc t' a => if t' = t then some a else none
 | _ => none
theorem x_tas {t : TypeId} {x : AO} : evX sl h (.tas t x) = tasE t (evO sl x) := by simp only [evX, tasE]; cases evO sl x <;> rfl
theorem tas_i {t : TypeId} {a : V} : tasE t (.ifc t a) = some a := by simp [tasE]
theorem x_mkf {f : FuncId} {a b : List AO} : evX sl h (.mkf f a b) = some (.fn f (ae5 sl a) (ae5 sl b)) := rfl
theorem st_i {k : IntKind} {n : Int} : stored (.i k n) = some [.i k n] := rfl
theorem st_b {x : Bool} : stored (.b x) = some [.b x] := rfl
theorem st_s {n m : Nat} : stored (.s n m) = some [.s n m] := rfl
theorem st_ag {l : List V} : stored (.ag l) = some l := rfl
theorem st_ts {l : List (List V)} : stored (.ts l) = some [.ts l] := rfl
theorem st_ns : stored .ns = some [.ns] := rfl
theorem st_np : stored .np = some [.np] := rfl
theorem st_sl {a o w n : Nat} {c : Option Nat} : stored (.sl a o w n c) = some [.sl a o w n c] := rfl
theorem st_te : stored .te = some [.te] := rfl
theorem st_p {a o : Nat} : stored (.p a o) = some [.p a o] := rfl
theorem st_m {a : Nat} : stored (.m a) = some [.m a] := rfl
theorem st_fn {f : FuncId} {a b : List V} : stored (.fn f a b) = some [.fn f a b] := rfl
theorem c_i {k : IntKind} {n : Int} : (V.i k n).cl = true := by simp only [V.cl]
theorem c_b {x : Bool} : (V.b x).cl = true := by simp only [V.cl]
theorem c_s {n m : Nat} : (V.s n m).cl = true := by simp only [V.cl]
theorem c_ns : V.ns.cl = true := by simp only [V.cl]
theorem c_np : V.np.cl = true := by simp only [V.cl]
theorem c_te : V.te.cl = true := by simp only [V.cl]
theorem c_und : V.und.cl = true := by simp only [V.cl]
theorem c_ag {l : List V} : (V.ag l).cl = clL l := by simp only [V.cl]
theorem c_tu {l : List V} : (V.tu l).cl = clL l := by simp only [V.cl]
theorem c_ts {l : List (List V)} : (V.ts l).cl = clR l := by simp only [V.cl]
theorem c_tp {l : List V} {c : Nat} : (V.tp l c).cl = clL l := by simp only [V.cl]
theorem c_fn {f : FuncId} {a b : List V} : (V.fn f a b).cl = (clL a && clL b) := by simp only [V.cl]
theorem c_nil : clL [] = true := by simp only [clL]
theorem c_cons {x : V} {l : List V} : clL (x :: l) = (x.cl && clL l) := by simp only [clL]
end
variable [iop : OkP P]
theorem ar0 (xs : List V) (n : Nat) (hs : List O) : mkS (xs ++ List.replicate n .und) hs = au5 xs (hpL hs) hs.length := by
 simp only [mkS, au5]
 congr 1
 funext s
 simp only [slL, List.getD_eq_getElem?_getD]
 rcases Nat.lt_or_ge s xs.length with h | h
 ·rw [List.getElem?_append_left h]
 ·rw [List.getElem?_append_right h, List.getElem?_eq_none h]
  cases hq : (List.replicate n V.und)[s - xs.length]? with
  | none => rfl
  | some o =>
    have := List.mem_of_getElem? hq
    simp only [List.mem_replicate] at this
    rw [this.2]; rfl
def retH (res : List AR) (r : V) (hs' : List O) : Exit → KL
 | .normal, l, hs | .ret, l, hs => an7 (mkS l hs) res = some r ∧ hs = hs'
 | _, _, _ => False
theorem qh_n {res : List AR} {r : V} {l : List V} {hs hs' : List O} : retH res r hs' .normal l hs = (an7 (mkS l hs) res = some r ∧ hs = hs') := rfl
theorem qh_r {res : List AR} {r : V} {l : List V} {hs hs' : List O} : retH res r hs' .ret l hs = (an7 (mkS l hs) res = some r ∧ hs = hs') := rfl
theorem ao2 {f : FuncId} {fn : Func} {af : AF} {xs : List V} {hs hs' : List O} {r : V} (hf : P.funcs[f]? = some fn) (hc : j3 P fn af = true) (hlen : Nat.ble xs.length af.nt = true)
  (hw : swp P af.body (retH af.res r hs') (xs ++ List.replicate (af.nt - xs.length) .und) hs) : ACalls P f xs (hpL hs) hs.length r (hpL hs') hs'.length := by
 have hw := ah6 _ hw
 rw [ar0] at hw
 refine aw1 hf hc (Nat.le_of_ble_eq_true hlen) (o6 (fun e s hs => ?_) hw)
 obtain ⟨l', hs'', rfl, h'⟩ := hs
 cases e <;> first | exact h'.elim | exact ⟨h'.1, by rw [← h'.2]; rfl, by rw [← h'.2]; rfl⟩
theorem pc_any {f : FuncId} {fn : Func} {af : AF} {xs : List V} {r : V} {Q : V → List O → Prop} (hf : P.funcs[f]? = some fn) (hc : j3 P fn af = true) (hlen : Nat.ble xs.length af.nt = true)
  (hw : swp P af.body (fun e l hs => match e with | .normal | .ret => ∃ x, an7 (mkS l hs) af.res = some x ∧ Q x hs | _ => False) (xs ++ List.replicate (af.nt - xs.length) .und) [])
  (hq : ∀ (w : World) (g : G) (w' : World) (g' : G) (v : Value) (x : V) (hs : List O) (nx' : Nat), Q x hs → VR g' x v → HR w' g' (hpL hs) nx' → Stp w g e0 w' g' (hpL hs) (fun a => 0 ≤ a) → 0 ≤ nx' → APost w g e0 0 r (fun _ => .no) nx' (.returned v) w') : PC P f xs r := by
 have hlen : xs.length ≤ af.nt := Nat.le_of_ble_eq_true hlen
 simp only [j3, Bool.and_eq_true, Bool.not_eq_true', beq_iff_eq] at hc
 obtain ⟨⟨⟨c1, c2⟩, c4⟩, c5⟩ := hc
 have hw := ah6 _ hw
 rw [ar0] at hw
 cases hb : fn.body with
 | none => rw [hb] at c5; cases c5
 | some code =>
   rw [hb] at c5
   refine ⟨⟨fn, hf, c4, by rw [hb]; rfl⟩, fun w g vs hH hv => ?_⟩
   have hsz : (vs ++ Array.replicate (fn.ntmps - vs.size) undef).size = af.nt := by
    have := hv.1
    simp; omega
   have hst : StR w g (vs ++ Array.replicate (fn.ntmps - vs.size) undef) (au5 xs (hpL []) 0) := by
    refine ⟨fun s => ?_, hH⟩
    show VR g (xs.getD s .und) _
    rcases Nat.lt_or_ge s xs.length with hs | hs
    ·have e1 : xs[s]? = some xs[s] := by simp [hs]
     have hs' : s < vs.size := by rw [hv.1]; exact hs
     have e2 : vs[s]? = some vs[s] := by simp [hs']
     have e3 : (vs ++ Array.replicate (fn.ntmps - vs.size) undef).getD s undef = vs[s] := by
      rw [Array.getD_eq_getD_getElem?, Array.getElem?_append_left hs', e2]; rfl
     rw [e3, List.getD_eq_getElem?_getD, e1]
     exact hv.2 s _ _ e1 e2
    ·rw [List.getD_eq_getElem?_getD, List.getElem?_eq_none hs]; exact .und _
   refine ac0 (Q := fun e st => (e = .normal ∨ e = .ret) ∧ ∃ x hs, an7 st af.res = some x ∧ Q x hs ∧ st.h = hpL hs) hf hb c5 hsz hst (o6 (fun e s hs => ?_) hw) ?_ (fun e st' hq => hq.1)
   ·obtain ⟨l', hs', rfl, h'⟩ := hs
    cases e <;> first
     | exact h'.elim
     | (obtain ⟨x, h1, h2⟩ := h'; exact ⟨.inl rfl, x, hs', h1, h2, rfl⟩)
     | (obtain ⟨x, h1, h2⟩ := h'; exact ⟨.inr rfl, x, hs', h1, h2, rfl⟩)
   ·intro e tmps w' g' st' hq' hS hT hX
    obtain ⟨_, x, hs, k1, k2, k3⟩ := hq'
    obtain ⟨v, v1, v2⟩ := ad3 hS c2 k1
    have hh := hS.hr
    rw [k3] at hh hT
    exact ⟨v, v1, _, _, hq w g w' g' v x hs st'.nx k2 v2 hh hT hX⟩
theorem aq9 {f : FuncId} {fn : Func} {af : AF} {xs : List V} {r : V} (hf : P.funcs[f]? = some fn) (hc : j3 P fn af = true) (hlen : Nat.ble xs.length af.nt = true)
  (hw : swp P af.body (retS af.res r) (xs ++ List.replicate (af.nt - xs.length) .und) []) : PC P f xs r := by
 have hlen : xs.length ≤ af.nt := Nat.le_of_ble_eq_true hlen
 simp only [j3, Bool.and_eq_true, Bool.not_eq_true', beq_iff_eq] at hc
 obtain ⟨⟨⟨c1, c2⟩, c4⟩, c5⟩ := hc
 have hw := ah6 _ hw
 have hS : mkS (xs ++ List.replicate (af.nt - xs.length) .und) [] = au5 xs e0 0 := by
  simp only [mkS, au5]
  congr 1
  ·funext s
   simp only [slL, List.getD_eq_getElem?_getD]
   rcases Nat.lt_or_ge s xs.length with h | h
   ·rw [List.getElem?_append_left h]
   ·rw [List.getElem?_append_right h, List.getElem?_eq_none h]
    cases hq : (List.replicate (af.nt - xs.length) V.und)[s - xs.length]? with
    | none => rfl
    | some o =>
      have := List.mem_of_getElem? hq
      simp only [List.mem_replicate] at this
      rw [this.2]; rfl
 rw [hS] at hw
 cases hb : fn.body with
 | none => rw [hb] at c5; cases c5
 | some code =>
   rw [hb] at c5
   refine ⟨⟨fn, hf, c4, by rw [hb]; rfl⟩, fun w g vs hH hv => ?_⟩
   have hsz : (vs ++ Array.replicate (fn.ntmps - vs.size) undef).size = af.nt := by
    have := hv.1
    simp; omega
   have hst : StR w g (vs ++ Array.replicate (fn.ntmps - vs.size) undef) (au5 xs e0 0) := by
    refine ⟨fun s => ?_, hH⟩
    show VR g (xs.getD s .und) _
    rcases Nat.lt_or_ge s xs.length with hs | hs
    ·have e1 : xs[s]? = some xs[s] := by simp [hs]
     have hs' : s < vs.size := by rw [hv.1]; exact hs
     have e2 : vs[s]? = some vs[s] := by simp [hs']
     have e3 : (vs ++ Array.replicate (fn.ntmps - vs.size) undef).getD s undef = vs[s] := by
      rw [Array.getD_eq_getD_getElem?, Array.getElem?_append_left hs', e2]; rfl
     rw [e3, List.getD_eq_getElem?_getD, e1]
     exact hv.2 s _ _ e1 e2
    ·rw [List.getD_eq_getElem?_getD, List.getElem?_eq_none hs]; exact .und _
   refine ac0 (Q := fun e st => (e = .normal ∨ e = .ret) ∧ an7 st af.res = some r) hf hb c5 hsz hst (o6 (fun e s hs => ?_) hw) ?_ (fun e st' hq => hq.1)
   ·obtain ⟨l', hs', rfl, h'⟩ := hs
    cases e <;> first | exact ⟨.inl rfl, h'⟩ | exact ⟨.inr rfl, h'⟩ | exact h'.elim
   ·intro e tmps w' g' st' hq hS hT hX
    obtain ⟨v, v1, v2⟩ := ad3 hS c2 hq.2
    exact ⟨v, v1, st'.h, st'.nx, v, g', rfl, v2, hS.hr, hT, hX⟩
end
end Go.B
