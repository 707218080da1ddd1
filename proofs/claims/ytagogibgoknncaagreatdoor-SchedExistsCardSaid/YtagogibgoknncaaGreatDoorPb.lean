/-
  Maps; lists that grow, some of whose rows hold addresses; a node is the same as itself.
  A list that a call gets, appends to and hands back.
-/
import Derived.Test.YtagogibgoknncaaGreatDoorPa
set_option linter.unusedSimpArgs false
set_option linter.unusedVariables false
namespace Go.Proofs.YtagogibgoknncaaGreatDoor
open Go Go.B
def skey (s : Str) : V := .s s.1 s.2
def z7 (i : Nat) : V := .i .i64 (i : Int)
theorem keyEq_s (s t : Str) : ap8 (skey s) (skey t) = true ↔ s = t := by
 obtain ⟨a, b⟩ := s; obtain ⟨c, d⟩ := t
 simp [ap8, ae4, skey]
theorem keyEq_i (s t : Nat) : ap8 (z7 s) (z7 t) = true ↔ s = t := by
 simp [ap8, ae4, z7]; omega
structure MS {α : Type} (kt : KT) (kf : α → V) (es : List (V × V × Nat)) (f : α → Option Str) : Prop where
 lt : ∀ n, ltE n es = true
 ks : ∀ (j : Nat) (x : V × V × Nat), es[j]? = some x → ∃ s, x.1 = kf s
 h : ∀ s, (f s = none ∧ ap6 kt (kf s) es 0 = some none) ∨ ∃ n t c, f s = some t ∧ ap6 kt (kf s) es 0 = some (some n) ∧ es[n]? = some (kf s, .s t.1 t.2, c)
theorem MS.nil {α : Type} {kt : KT} {kf : α → V} : MS kt kf [] (fun _ => none) := ⟨fun _ => rfl, fun j x e => by simp at e, fun s => .inl ⟨rfl, rfl⟩⟩
theorem midx_fst {kt : KT} {k : V} : ∀ {es es' : List (V × V × Nat)} {j : Nat}, es.map (·.1) = es'.map (·.1) → ap6 kt k es j = ap6 kt k es' j
 | [], [], _, _ => rfl
 | [], _ :: _, _, h => by simp at h
 | _ :: _, [], _, h => by simp at h
 | (a, _) :: es, (b, _) :: es', j, h => by
   simp only [List.map_cons, List.cons.injEq] at h
   obtain ⟨rfl, h⟩ := h
   simp only [ap6, midx_fst h]
theorem midx_app {kt : KT} {k : V} : ∀ {es : List (V × V × Nat)} {x : V × V × Nat} {j : Nat}, kt.is x.1 = true →
  (ap6 kt k es j = some none → ap6 kt k (es ++ [x]) j = if ap8 k x.1 = true then some (some (j + es.length)) else some none) ∧ ∀ n, ap6 kt k es j = some (some n) → ap6 kt k (es ++ [x]) j = some (some n)
 | [], (a, v, c), j, h => by
   simp only at h
   refine ⟨fun _ => by simp [ap6, h], fun n e => by simp [ap6] at e⟩
 | (b, u) :: es, x, j, h => by
   obtain ⟨h1, h2⟩ := midx_app (k := k) (es := es) (x := x) (j := j + 1) h
   simp only [List.cons_append, ap6]
   by_cases hb : kt.is b = true
   ·rw [if_pos hb, if_pos hb]
    by_cases hk : ap8 k b = true
    ·rw [if_pos hk, if_pos hk]
     exact ⟨fun e => by simp at e, fun n e => e⟩
    ·rw [if_neg hk, if_neg hk]
     refine ⟨fun e => ?_, h2⟩
     rw [h1 e, List.length_cons]
     simp only [show j + 1 + es.length = j + (es.length + 1) by omega]
   ·rw [if_neg hb, if_neg hb]
    exact ⟨fun e => by simp at e, fun n e => by simp at e⟩
theorem ltE_app : ∀ {n : Nat} {es : List (V × V × Nat)} {k v : V} {c : Nat}, ltE n es = true → k.lt n = true → v.lt n = true → ltE n (es ++ [(k, v, c)]) = true
 | n, [], k, v, c, _, h1, h2 => by simp [ltE, h1, h2]
 | n, (a, b, d) :: es, k, v, c, h, h1, h2 => by
   simp only [ltE, Bool.and_eq_true] at h
   simp only [List.cons_append, ltE, Bool.and_eq_true]
   exact ⟨h.1, ltE_app h.2 h1 h2⟩
theorem ltE_set : ∀ {n : Nat} {es : List (V × V × Nat)} {j : Nat} {k v : V} {c : Nat}, ltE n es = true → k.lt n = true → v.lt n = true → ltE n (es.set j (k, v, c)) = true
 | n, [], j, k, v, c, _, h1, h2 => rfl
 | n, (a, b, d) :: es, 0, k, v, c, h, h1, h2 => by
   simp only [ltE, Bool.and_eq_true] at h
   simp only [List.set_cons_zero, ltE, Bool.and_eq_true]
   exact ⟨⟨h1, h2⟩, h.2⟩
 | n, (a, b, d) :: es, j + 1, k, v, c, h, h1, h2 => by
   simp only [ltE, Bool.and_eq_true] at h
   simp only [List.set_cons_succ, ltE, Bool.and_eq_true]
   exact ⟨h.1, ltE_set h.2 h1 h2⟩
theorem MS.put {α : Type} [DecidableEq α] {kt : KT} {kf : α → V} {es : List (V × V × Nat)} {f : α → Option Str} (h : MS kt kf es f) (hk : ∀ s, kt.is (kf s) = true) (hq : ∀ s t, ap8 (kf s) (kf t) = true ↔ s = t) (hc : ∀ s, (kf s).cl = true)
  {hs : List O} {a ck : Nat} (ha : hpL hs a = .m es ck) (k : α) (t : Str) :
  ∃ es' ck', mstB hs kt (kf k) (.s t.1 t.2) (.m a) = u6 hs a (.m es' ck') ∧ MS kt kf es' (fun s => if s = k then some t else f s) := by
 have hinj : ∀ {s t : α}, kf s = kf t → s = t := fun {s t} e => (hq s t).1 (by rw [e]; exact (hq t t).2 rfl)
 have hlk : ∀ n, (kf k).lt n = true := fun n => V.lt_of_cl n _ (hc k)
 have hlt : ∀ n, (V.s t.1 t.2).lt n = true := fun n => by simp only [V.lt]
 rcases h.h k with ⟨h1, h2⟩ | ⟨n, t0, c, h1, h2, h3⟩
 ·refine ⟨es ++ [(kf k, .s t.1 t.2, ck)], ck + 1, ?_, fun n => ltE_app (h.lt n) (hlk n) (hlt n), fun j x e => ?_, fun s => ?_⟩
  ·simp only [mstB, ha, hk, if_true, h2]
  ·rcases Nat.lt_or_ge j es.length with hj | hj
   ·rw [List.getElem?_append_left hj] at e; exact h.ks j x e
   ·rw [List.getElem?_append_right hj] at e
    cases hm : j - es.length with
    | zero => rw [hm] at e; simp at e; exact ⟨k, by rw [← e]⟩
    | succ m => rw [hm] at e; simp at e
  ·obtain ⟨g1, g2⟩ := midx_app (kt := kt) (k := kf s) (es := es) (x := (kf k, .s t.1 t.2, ck)) (j := 0) (hk k)
   by_cases hsk : s = k
   ·subst hsk
    refine .inr ⟨es.length, t, ck, by rw [if_pos rfl], ?_, by simp⟩
    rw [g1 h2, if_pos ((hq s s).2 rfl), Nat.zero_add]
   ·rw [if_neg hsk]
    rcases h.h s with ⟨q1, q2⟩ | ⟨n, t1, c, q1, q2, q3⟩
    ·refine .inl ⟨q1, ?_⟩
     rw [g1 q2, if_neg (fun e => hsk ((hq s k).1 e))]
    ·exact .inr ⟨n, t1, c, q1, g2 n q2, by rw [List.getElem?_append_left (List.getElem?_eq_some_iff.1 q3).1]; exact q3⟩
 ·have hn := (List.getElem?_eq_some_iff.1 h3).1
  have hmap : (es.set n (kf k, .s t.1 t.2, c)).map (·.1) = es.map (·.1) := by
   apply List.ext_getElem?
   intro i
   rw [List.getElem?_map, List.getElem?_map, List.getElem?_set]
   split
   ·rename_i e
    subst e
    simp [hn, h3]
    have := (List.getElem?_eq_some_iff.1 h3).2
    rw [this]
   ·rfl
  refine ⟨es.set n (kf k, .s t.1 t.2, c), ck, ?_, fun m => ltE_set (h.lt m) (hlk m) (hlt m), fun j x e => ?_, fun s => ?_⟩
  ·simp only [mstB, ha, hk, if_true, h2, h3]
  ·rw [List.getElem?_set] at e
   by_cases hnj : n = j
   ·rw [if_pos hnj, if_pos hn] at e
    cases e
    exact ⟨k, rfl⟩
   ·rw [if_neg hnj] at e
    exact h.ks j x e
  ·rw [midx_fst hmap]
   by_cases hsk : s = k
   ·subst hsk
    exact .inr ⟨n, t, c, by rw [if_pos rfl], h2, by simp [hn]⟩
   ·rw [if_neg hsk]
    rcases h.h s with ⟨q1, q2⟩ | ⟨m, t1, c1, q1, q2, q3⟩
    ·exact .inl ⟨q1, q2⟩
    ·refine .inr ⟨m, t1, c1, q1, q2, ?_⟩
     rw [List.getElem?_set]
     split
     ·rename_i e
      subst e
      rw [h3] at q3
      simp only [Option.some.injEq, Prod.mk.injEq] at q3
      exact (hsk (hinj q3.1).symm).elim
     ·exact q3
theorem MS.get {α : Type} {kt : KT} {kf : α → V} {es : List (V × V × Nat)} {f : α → Option Str} (h : MS kt kf es f) (hk : ∀ s, kt.is (kf s) = true) {hp : Hp} {a ck : Nat} (ha : hp a = .m es ck) (s : α) :
  lkpE hp kt false [.s 0 0] true (.m a) (kf s) = some (match f s with
   | some t => .tu [.s t.1 t.2, .b true]
   | none => .tu [.s 0 0, .b false]) := by
 have hz : pack false [V.s 0 0] = some (.s 0 0) := rfl
 rcases h.h s with ⟨h1, h2⟩ | ⟨n, t, c, h1, h2, h3⟩
 ·simp only [lkpE, hz, lkpV, hk, if_true, ha, h2, h1]
 ·simp only [lkpE, hz, lkpV, hk, if_true, ha, h2, h1, h3]
theorem ar5 {js ks : List O} {a ck : Nat} {es : List (V × V × Nat)} (h : hpL js a = .m es ck) : hpL (js ++ ks) a = .m es ck := by
 have : a < js.length := by
  rcases Nat.lt_or_ge a js.length with q | q
  ·exact q
  ·rw [hpL_ge q] at h; cases h
 rw [o0 this, h]
structure RT (js : List O) (v : V) (l : List (Str × Str)) : Prop where
 len : lenE false v = some (.i .i64 (l.length : Int))
 get : ∀ (i : Nat) (x : Str × Str), l[i]? = some x → ∃ a off : Nat, iadE 2 v (.i .i64 (i : Int)) = some (.p a off) ∧ ∀ ks, ldE.ldO 1 false off (hpL (js ++ ks) a) = some (.s x.1.1 x.1.2) ∧ ldE.ldO 1 false (off + 1) (hpL (js ++ ks) a) = some (.s x.2.1 x.2.2)
def trow (x : Str × Str) : List V := [.s x.1.1 x.1.2, .s x.2.1 x.2.2]
theorem trow_w (l : List (Str × Str)) : ∀ r, r ∈ l.map trow → r.length = 2 := by
 intro r hr
 obtain ⟨x, _, rfl⟩ := List.mem_map.1 hr
 rfl
theorem RT.ns (js : List O) : RT js .ns [] := ⟨rfl, fun i x h => by simp at h⟩
theorem RT.sl {js : List O} {a : Nat} {gr : Bool} {l : List (Str × Str)} (h : hpL js a = .c gr (l.map trow).flatten) : RT js (.sl a 0 2 l.length none) l := by
 refine ⟨af5, fun i x hx => ⟨a, i * 2, ae0 (List.getElem?_eq_some_iff.1 hx).1, fun ks => ?_⟩⟩
 rw [j2 h]
 obtain ⟨p, q, hf, hp⟩ := flat_split (trow_w l) (mg (f := trow) hx)
 exact ⟨bb2 (c := 0) hf hp rfl, bb2 (c := 1) hf hp rfl⟩
theorem RT.more {js : List O} {v : V} {l : List (Str × Str)} (h : RT js v l) (zs : List O) : RT (js ++ zs) v l := ⟨h.len, fun i x hx => by
 obtain ⟨a, off, h1, h2⟩ := h.get i x hx
 exact ⟨a, off, h1, fun ks => by rw [List.append_assoc]; exact h2 _⟩⟩
theorem ltO_up {n m : Nat} {js : List O} (h : ltO n js = true) (hnm : n ≤ m) : ltO m js = true := by simpa using aa7 hnm h (zs := []) rfl
theorem GT.lt {base wd n m : Nat} {v : V} {T0 T : List O} {cs : List V} (h : GT base wd n v T0 T cs) (hm : base + T.length ≤ m) : v.lt m = true := by
 rcases h with ⟨_, h2, _, _⟩ | ⟨_, h2, h3, _⟩
 ·rw [h2]; simp only [V.lt]
 ·rw [h3]; rw [h2] at hm; simp only [List.length_append, List.length_singleton] at hm; simp only [V.lt, decide_eq_true_eq]; omega
theorem GT.st {base wd n : Nat} {v : V} {T0 T : List O} {cs : List V} (h : GT base wd n v T0 T cs) : B.stored v = some [v] := by
 rcases h with ⟨_, h2, _, _⟩ | ⟨_, _, h3, _⟩
 ·rw [h2]; rfl
 ·rw [h3]; rfl
def On.rn (ρ : Str → Str) (o : On) : On := ⟨ρ o.nm, o.t, o.tag⟩
def Decl.rn (ρ : Str → Str) (d : Decl) : Decl := ⟨d.nm, d.ty, d.ck.map (On.rn ρ)⟩
def vB (k : Int) : Bool := k == 2 || k == 8 || k == 9
mutual
def Ex.rn (ρ : Str → Str) : Ex → Ex
 | .mk k op t v nl nn l => .mk k op t v (if vB k = true then ρ (nl, nn) else (nl, nn)).1 (if vB k = true then ρ (nl, nn) else (nl, nn)).2 (Ex.rns ρ l)
def Ex.rns (ρ : Str → Str) : List Ex → List Ex
 | [] => []
 | e :: l => Ex.rn ρ e :: Ex.rns ρ l
end
def evN (ρ : Str → Str) (s : Str) : Str := if (s.1 == 0 && s.2 == 0) = true then s else ρ s
def NEqn.rn (ρ : Str → Str) (q : NEqn) : NEqn := ⟨q.kind, q.left, q.right.rn ρ, q.init, q.node, q.args.map (Ex.rn ρ), evN ρ q.every, q.ck.map (On.rn ρ)⟩
def sslF (wd : Nat) (x : V) (lo hi mx : Option V) : Option V := evX (fun _ => .und) e0 (.ssl (.k x) (lo.map .k) (hi.map .k) (mx.map .k) wd)
theorem x_sslF {sl : Nat → V} {h : Hp} {x : AO} {lo hi mx : Option AO} {wd : Nat} : evX sl h (.ssl x lo hi mx wd) = sslF wd (evO sl x) (lo.map (evO sl)) (hi.map (evO sl)) (mx.map (evO sl)) := by
 rcases lo with _ | lo <;> rcases hi with _ | hi <;> rcases mx with _ | mx <;> simp only [sslF, evX, evIo, Option.map_some, Option.map_none, eO_k] <;> generalize evO sl x = vx <;> cases vx <;> first | rfl | (generalize vI (evO sl hi) = a; cases a <;> rfl) | (generalize vI (evO sl lo) = a; cases a <;> rfl) | (generalize vI (evO sl lo) = a; generalize vI (evO sl hi) = b; cases a <;> cases b <;> rfl)
theorem putAt_cut : ∀ (xs q p r : List V), q.length = xs.length → putAt (p ++ (q ++ r)) p.length xs = p ++ (xs ++ r)
 | [], q, p, r, h => by
   rw [List.length_eq_zero_iff.1 h]; rfl
 | x :: xs, [], p, r, h => by simp at h
 | x :: xs, y :: q, p, r, h => by
   have e : (p ++ (y :: q ++ r)).set p.length x = (p ++ [x]) ++ (q ++ r) := by
    rw [List.set_append_right _ _ (Nat.le_refl _), Nat.sub_self]
    simp
   have := putAt_cut xs q (p ++ [x]) r (by simpa using h)
   simp only [putAt]
   rw [e, show p.length + 1 = (p ++ [x]).length by simp, this]
   simp
theorem ah0 (g : List Nat) : (p6 g).length = g.length := by simp [p6]
theorem irw_cl (g : List Nat) : clL (irow g) = true := by
 have : clR (p6 g) = true := by
  induction g with
  | nil => rfl
  | cons m g ih => simp only [p6, List.map_cons, clR, clL, V.cl, Bool.true_and] at ih ⊢; exact ih
 simp only [irow, clL, V.cl, this, Bool.and_self]
theorem Se.monoD {h h' : Hp} {D D' : Nat → Prop} (hh : ∀ a gr cs, D a → h a = .c gr cs → h' a = .c gr cs ∧ D' a) {x y : V} (hs : Se h D x y) : Se h' D' x y := by
 induction hs with
 | same x => exact .same x
 | nil => exact .nil
 | sl a off wd len cp gr cs rows ha hD hl hb hw hr ih => exact .sl a off wd len cp gr cs rows (hh a gr cs hD ha).1 (hh a gr cs hD ha).2 hl hb hw ih
 | ag xs ys hl hr ih => exact .ag xs ys hl ih
 | tu xs ys hl hr ih => exact .tu xs ys hl ih
theorem Sl.monoD {h h' : Hp} {D D' : Nat → Prop} (hh : ∀ a gr cs, D a → h a = .c gr cs → h' a = .c gr cs ∧ D' a) : ∀ {xs ys : List V}, Sl h D xs ys → Sl h' D' xs ys
 | [], [], _ => trivial
 | _ :: _, _ :: _, hs => ⟨Se.monoD hh hs.1, Sl.monoD hh hs.2⟩
theorem Sll.monoD {h h' : Hp} {D D' : Nat → Prop} (hh : ∀ a gr cs, D a → h a = .c gr cs → h' a = .c gr cs ∧ D' a) : ∀ {xs ys : List (List V)}, Sll h D xs ys → Sll h' D' xs ys
 | [], [], _ => trivial
 | _ :: _, _ :: _, hs => ⟨Sl.monoD hh hs.1, Sll.monoD hh hs.2⟩
theorem ltL_app : ∀ {m : Nat} {a b : List V}, ltL m a = true → ltL m b = true → ltL m (a ++ b) = true
 | m, [], b, _, h => h
 | m, x :: a, b, h, h' => by
   simp only [ltL, Bool.and_eq_true] at h
   simp only [List.cons_append, ltL, Bool.and_eq_true]
   exact ⟨h.1, ltL_app h.2 h'⟩
def held (left : List Str) (e : Ex) : Prg := ⟨[], [⟨(0, 0), [], [], [], [⟨left, e⟩]⟩]⟩
theorem sl2 {h : Hp} {D : Nat → Prop} {a b c d : V} (h1 : Se h D a c) (h2 : Se h D b d) : ∀ (j : Nat) (x y : V), [a, b][j]? = some x → [c, d][j]? = some y → Se h D x y := (Sl.get (xs := [a, b]) (ys := [c, d]) ⟨h1, h2, trivial⟩).2
def fl {α : Type} (f : α → List V) (l : List α) : List V := (l.map f).flatten
theorem fl_app {α : Type} (f : α → List V) (a b : List α) : fl f (a ++ b) = fl f a ++ fl f b := by simp [fl]
theorem as1 {α : Type} (f : α → List V) (a : α) : fl f [a] = f a := by simp [fl]
theorem aq0 {α : Type} {f : α → List V} {wd : Nat} (hf : ∀ x, (f x).length = wd) (l : List α) : (fl f l).length = l.length * wd := by
 unfold fl; rw [wid_fl (mem_map hf l), List.length_map]
theorem fl_cl {α : Type} {f : α → List V} (hc : ∀ x, clL (f x) = true) (l : List α) : clL (fl f l) = true := by
 induction l with
 | nil => rfl
 | cons x l ih => simp only [fl, List.map_cons, List.flatten_cons, clL_app, hc x] at ih ⊢; exact ih
def NR {α : Type} (f : α → List V) (wd : Nat) (js : List O) (v : V) (l : List α) : Prop := (v = .ns ∧ l = []) ∨ ∃ B, v = .sl B 0 wd l.length none ∧ hpL js B = .c true (fl f l)
def ak8 (js : List O) : V → List O
 | .sl B _ _ _ _ => js.set B .gone
 | _ => js
theorem p7 (js : List O) (v : V) : (ak8 js v).length = js.length := by cases v <;> simp [ak8]
theorem kill_app {α : Type} {f : α → List V} {wd : Nat} {js Z : List O} {v : V} {l : List α} (h : NR f wd js v l) : ak8 (js ++ Z) v = ak8 js v ++ Z := by
 rcases h with ⟨rfl, _⟩ | ⟨B, rfl, hB⟩
 ·rfl
 ·simp only [ak8]
  rw [List.set_append_left _ _ (t8 hB)]
theorem ltO_gset {n : Nat} : ∀ {js : List O} {B : Nat}, ltO n js = true → ltO n (js.set B .gone) = true
 | [], B, h => rfl
 | o :: js, 0, h => by simp only [ltO, Bool.and_eq_true] at h; simp only [List.set_cons_zero, ltO, h.2, O.lt, Bool.and_self]
 | o :: js, B + 1, h => by simp only [ltO, Bool.and_eq_true] at h; simp only [List.set_cons_succ, ltO, h.1, ltO_gset h.2, Bool.and_self]
theorem bb3 {n : Nat} {js : List O} {v : V} (h : ltO n js = true) : ltO n (ak8 js v) = true := by
 cases v <;> first | exact h | exact ltO_gset h
theorem ocl_gset : ∀ {js : List O} {B : Nat}, js.all ocl = true → (js.set B .gone).all ocl = true
 | [], B, h => rfl
 | o :: js, 0, h => by simp only [List.all_cons, Bool.and_eq_true] at h; simp only [List.set_cons_zero, List.all_cons, h.2, ocl, Bool.and_self]
 | o :: js, B + 1, h => by simp only [List.all_cons, Bool.and_eq_true] at h; simp only [List.set_cons_succ, List.all_cons, h.1, ocl_gset h.2, Bool.and_self]
def nmh {α : Type} (f : α → List V) (js : List O) (v : V) (l l' : List α) : List O := if l'.length = l.length then js else ak8 js v ++ [.c true (fl f l')]
def nm1 {α : Type} (js : List O) (v : V) (l l' : List α) : List O := if l'.length = l.length then js else ak8 js v
def nm2 {α : Type} (f : α → List V) (l l' : List α) : List O := if l'.length = l.length then [] else [.c true (fl f l')]
theorem nmh_eq {α : Type} (f : α → List V) (js : List O) (v : V) (l l' : List α) : nmh f js v l l' = nm1 js v l l' ++ nm2 f l l' := by
 unfold nmh nm1 nm2
 split <;> simp
theorem ba6 {α : Type} (js : List O) (v : V) (l l' : List α) : (nm1 js v l l').length = js.length := by
 unfold nm1
 split
 ·rfl
 ·exact p7 _ _
def nmv {α : Type} (wd : Nat) (js : List O) (v : V) (l l' : List α) : V := if l'.length = l.length then v else .sl js.length 0 wd l'.length none
structure NS {α : Type} (f : α → List V) (wd : Nat) (js : List O) (v : V) (l : List α) (H : List O) (v' : V) (l' : List α) : Prop where
 pre : l <+: l'
 st : (l'.length = l.length ∧ v' = v ∧ ∃ Z, H = js ++ Z ∧ Z.all ocl = true) ∨ (l.length < l'.length ∧ ∃ (Z : List O) (A : Nat), H = ak8 js v ++ Z ∧ Z.all ocl = true ∧ js.length ≤ A ∧ v' = .sl A 0 wd l'.length none ∧ hpL H A = .c true (fl f l'))
section
variable {α : Type} {f : α → List V} {wd : Nat} {js H : List O} {v v' : V} {l l' : List α}
theorem NR.more (h : NR f wd js v l) (Z : List O) : NR f wd (js ++ Z) v l := by
 rcases h with h | ⟨B, h1, h2⟩
 ·exact .inl h
 ·exact .inr ⟨B, h1, j2 h2⟩
theorem NR.lt (h : NR f wd js v l) {n : Nat} (hn : js.length ≤ n) : v.lt n = true := by
 rcases h with ⟨rfl, _⟩ | ⟨B, rfl, hB⟩
 ·rfl
 ·have := t8 hB; simp only [V.lt, decide_eq_true_eq]; omega
theorem NS.refl : NS f wd js v l js v l := ⟨List.prefix_refl _, .inl ⟨rfl, rfl, [], by simp, rfl⟩⟩
theorem NS.more (h : NS f wd js v l H v' l') {Z : List O} (hZ : Z.all ocl = true) : NS f wd js v l (H ++ Z) v' l' := by
 refine ⟨h.pre, ?_⟩
 rcases h.st with ⟨h1, h2, Y, h3, h4⟩ | ⟨h1, Y, A, h3, h4, h5, h6, h7⟩
 ·exact .inl ⟨h1, h2, Y ++ Z, by rw [h3, List.append_assoc], by simp only [List.all_append, h4, hZ, Bool.and_self]⟩
 ·exact .inr ⟨h1, Y ++ Z, A, by rw [h3, List.append_assoc], by simp only [List.all_append, h4, hZ, Bool.and_self], h5, h6, j2 h7⟩
theorem NS.eq (h : NS f wd js v l H v' l') (he : l'.length = l.length) : l' = l := by
 obtain ⟨t, rfl⟩ := h.pre
 rw [List.length_append] at he
 rw [List.length_eq_zero_iff.1 (show t.length = 0 by omega), List.append_nil]
theorem NS.nr (h : NS f wd js v l H v' l') (hr : NR f wd js v l) : NR f wd H v' l' := by
 rcases h.st with ⟨h1, h2, Y, h3, h4⟩ | ⟨h1, Y, A, h3, h4, h5, h6, h7⟩
 ·rw [h.eq h1, h2, h3]; exact hr.more Y
 ·exact .inr ⟨A, h6, h7⟩
theorem NS.lt (h : NS f wd js v l H v' l') (hlt : ltO js.length js = true) : ltO H.length H = true := by
 rcases h.st with ⟨h1, h2, Y, h3, h4⟩ | ⟨h1, Y, A, h3, h4, h5, h6, h7⟩
 ·rw [h3]; exact aa7 (by simp) hlt h4
 ·rw [h3]; exact aa7 (by simp [p7]) (bb3 hlt) h4
theorem NS.len (h : NS f wd js v l H v' l') : js.length ≤ H.length := by
 rcases h.st with ⟨h1, h2, Y, h3, h4⟩ | ⟨h1, Y, A, h3, h4, h5, h6, h7⟩
 ·rw [h3]; simp
 ·rw [h3]; simp [p7]
theorem kill_low (h : NR f wd js v l) {a : Nat} (ha : ∀ B o w n c, v = .sl B o w n c → a ≠ B) : hpL (ak8 js v) a = hpL js a := by
 cases v <;> first | rfl | skip
 rename_i B o w n c
 simp only [ak8]
 exact i8 (fun e => ha _ _ _ _ _ rfl e)
theorem bb4 (h : NR f wd js v l) {a : Nat} {cs : List V} (ha : hpL js a = .c false cs) : hpL (ak8 js v) a = .c false cs := by
 rw [kill_low h, ha]
 rintro B o w n c rfl rfl
 rcases h with ⟨e, _⟩ | ⟨B', e, hB⟩
 ·cases e
 ·cases e; rw [hB] at ha; cases ha
theorem ax2 (h : NR f wd js v l) {a : Nat} {cs : List V} (ha : hpL js a = .c false cs) (l2 : List α) : hpL (nmh f js v l l2) a = .c false cs := by
 unfold nmh
 split
 ·exact ha
 ·exact j2 (bb4 h ha)
theorem nm1_lt (h : ltO js.length js = true) (l2 : List α) : ltO js.length (nm1 js v l l2) = true := by
 unfold nm1
 split
 ·exact h
 ·exact bb3 h
theorem NS.grow (h : NS f wd js v l H v' l') (hr : NR f wd js v l) {m : List α} (hm : m ≠ []) {X : List O} (hX : X.all ocl = true) (hc : ∀ x, clL (f x) = true) :
  NS f wd js v l (ak8 H v' ++ (X ++ [.c true (fl f (l' ++ m))])) (.sl (H.length + X.length) 0 wd (l' ++ m).length none) (l' ++ m) := by
 have hml : 0 < m.length := List.length_pos_iff.2 hm
 have hA : hpL (ak8 H v' ++ (X ++ [O.c true (fl f (l' ++ m))])) (H.length + X.length) = .c true (fl f (l' ++ m)) := by
  have := hp_mid (us := ak8 H v') (W := X) (I0 := []) (K := []) (o := O.c true (fl f (l' ++ m)))
  simp only [p7, List.append_nil, List.nil_append, List.length_nil, Nat.add_zero] at this
  exact this
 have ho : ([O.c true (fl f (l' ++ m))] : List O).all ocl = true := by simp only [List.all_cons, List.all_nil, ac4, fl_cl hc, Bool.and_self]
 refine ⟨h.pre.trans (List.prefix_append _ _), .inr ⟨?_, ?_⟩⟩
 ·have := h.pre.length_le; rw [List.length_append]; omega
 ·have hl := h.len
  rcases h.st with ⟨h1, h2, Y, h3, h4⟩ | ⟨h1, Y, A, h3, h4, h5, h6, h7⟩
  ·refine ⟨Y ++ (X ++ [.c true (fl f (l' ++ m))]), _, ?_, ?_, by omega, rfl, hA⟩
   ·rw [h2, h3, kill_app hr, List.append_assoc]
   ·simp only [List.all_append, h4, hX, ho, Bool.and_self]
  ·refine ⟨Y.set (A - js.length) .gone ++ (X ++ [.c true (fl f (l' ++ m))]), _, ?_, ?_, by omega, rfl, hA⟩
   ·rw [h6, h3]
    show (ak8 js v ++ Y).set A O.gone ++ _ = _
    rw [List.set_append_right _ _ (by rw [p7]; exact h5), p7, List.append_assoc]
   ·simp only [List.all_append, ocl_gset h4, hX, ho, Bool.and_self]
theorem NS.call (h : NS f wd js v l H v' l') (hr : NR f wd js v l) {l2 : List α} (hp : l' <+: l2) (hc : ∀ x, clL (f x) = true) : NS f wd js v l (nmh f H v' l' l2) (nmv wd H v' l' l2) l2 := by
 unfold nmh nmv
 obtain ⟨m, rfl⟩ := hp
 by_cases he : (l' ++ m).length = l'.length
 ·rw [if_pos he, if_pos he]
  have : m = [] := by rw [List.length_append] at he; exact List.length_eq_zero_iff.1 (by omega)
  rw [this, List.append_nil]; exact h
 ·rw [if_neg he, if_neg he]
  have hm : m ≠ [] := fun e => he (by rw [e, List.append_nil])
  have := h.grow hr hm (X := []) rfl hc
  simpa using this
theorem NS.app (h : NS f wd js v l H v' l') (hr : NR f wd js v l) (hw : wd ≠ 0) (hf : ∀ x, (f x).length = wd) (hc : ∀ x, clL (f x) = true) {bytes : Nat} (m : List α) (hroom : room (l'.length + m.length) bytes = true) {X : List O} (hX : X.all ocl = true) :
  ∃ (H2 : List O) (v2 : V), NS f wd js v l H2 v2 (l' ++ m) ∧ (∀ a cs, hpL H a = .c false cs → hpL H2 a = .c false cs) ∧ ∀ rb k, rb + k = H.length + X.length → ag9 rb (H ++ (X ++ [.no])) k v' (some (fl f m)) (some m.length) wd bytes = some (v2, H2) := by
 have hr' := h.nr hr
 have hwb : Nat.beq wd 0 = false := by cases wd with | zero => exact (hw rfl).elim | succ n => rfl
 by_cases hm : m = []
 ·subst hm
  refine ⟨H ++ (X ++ [.no]), v', ?_, fun a cs ha => j2 ha, fun rb k e => ?_⟩
  ·rw [List.append_nil]
   exact h.more (by simp only [List.all_append, hX, List.all_cons, List.all_nil, ocl, Bool.and_self])
  ·rcases hr' with ⟨rfl, _⟩ | ⟨B, rfl, _⟩ <;> rfl
 ·have hm0 : Nat.beq m.length 0 = false := by
   cases m with
   | nil => exact (hm rfl).elim
   | cons a m => rfl
  refine ⟨_, _, h.grow hr hm hX hc, fun a cs ha => j2 (bb4 hr' ha), fun rb k e => ?_⟩
  have hl' : (l' ++ m).length = l'.length + m.length := by simp
  rcases hr' with ⟨rfl, rfl⟩ | ⟨B, rfl, hB⟩
  ·rw [ap_ns hm0 (by simpa using hroom), e, show H ++ (X ++ [O.no]) = (H ++ X) ++ [.no] by simp, aj7 (by simp)]
   simp [ak8]
  ·have hBl := t8 hB
   rw [ap_sl hm0, j2 hB, aq3 hm0 hwb (by rw [aq0 hf]; exact Nat.beq_refl _) hroom]
   have hs : u6 (H ++ (X ++ [O.no])) B O.gone = some (H.set B .gone ++ (X ++ [O.no])) := aj6 hBl
   rw [hs, Option.bind_some]
   rw [show H.set B O.gone ++ (X ++ [O.no]) = (H.set B .gone ++ X) ++ [.no] by simp, aj7 (by simp [e])]
   rw [fl_app, e, hl']
   simp [ak8]
theorem NS.pack (h : NS f wd js v l H v' l') (hr : NR f wd js v l) (hc : ∀ x, clL (f x) = true) :
  ∃ (Z : List O) (D : Nat → Prop) (ss : List Nat), H = nm1 js v l l' ++ Z ∧ Pack (nm1 js v l l').length (hpL H) D ss (nm2 f l l') ∧ Sr (hpL H) D (Rs (nm1 js v l l').length ss) v' (nmv wd js v l l') := by
 rw [ba6]
 unfold nm1 nm2 nmv
 rcases h.st with ⟨h1, h2, Y, h3, h4⟩ | ⟨h1, Y, A, h3, h4, h5, h6, h7⟩
 ·rw [if_pos h1, if_pos h1, if_pos h1]
  refine ⟨Y, fun _ => False, [], h3, ⟨fun _ h => h.elim, fun k a e => by simp at e, fun j k a e => by simp at e, rfl, fun k a o e => by simp at e⟩, ?_⟩
  rw [h2]
  rcases hr with ⟨rfl, _⟩ | ⟨B, rfl, hB⟩
  ·exact .same _ rfl
  ·exact .sa _ _ _ _ _ _ (.inl ⟨rfl, t8 hB⟩)
 ·rw [if_neg (by omega), if_neg (by omega), if_neg (by omega)]
  refine ⟨Y, fun _ => False, [A], h3, ⟨fun _ h => h.elim, fun k a e => ?_, fun j k a e1 e2 => ?_, rfl, fun k a o e1 e2 => ?_⟩, ?_⟩
  ·cases k with
   | zero => simp at e; subst e; exact ⟨h5, id⟩
   | succ k => simp at e
  ·cases j <;> cases k <;> simp at e1 e2 <;> rfl
  ·cases k with
   | zero =>
     simp at e1 e2
     subst e1 e2
     rw [h7]
     refine .c true _ _ rfl (fun j x y e1 e2 => ?_)
     rw [e1] at e2; cases e2
     exact .same _ (af9 (fl_cl hc l') e1)
   | succ k => simp at e1
  ·rw [h6]
   exact .sa _ _ _ _ _ _ (.inr ⟨0, rfl, rfl⟩)
structure RC {α : Type} (g : α → V) (js : List O) (lv : V) (l : List α) : Prop where
 len : lenE false lv = some (.i .i64 (l.length : Int))
 get : ∀ (i : Nat) (x : α), l[i]? = some x → ∃ ad : V, iadE 1 lv (.i .i64 (i : Int)) = some ad ∧ ∀ ks, ldE (hpL (js ++ ks)) 1 false ad = some (g x)
theorem RC.ts {g : α → V} (js : List O) (l : List α) : RC g js (.ts (l.map fun x => [g x])) l := ⟨by rw [ab8, List.length_map], fun i x hx => ⟨.tp [g x] 0, by rw [iad_i, ar8, mg hx]; rfl, fun ks => rfl⟩⟩
theorem RC.ns {g : α → V} (js : List O) : RC g js .ns [] := ⟨rfl, fun i m hm => by simp at hm⟩
theorem RC.sl {g : α → V} {js : List O} {a : Nat} {gr : Bool} {l : List α} {z : List V} (h : hpL js a = .c gr (l.map g ++ z)) : RC g js (.sl a 0 1 l.length none) l := by
 refine ⟨af5, fun i x hx => ⟨.p a (i * 1), ae0 (List.getElem?_eq_some_iff.1 hx).1, fun ks => ?_⟩⟩
 rw [ld_p, j2 h, Nat.mul_one]
 have hi := (List.getElem?_eq_some_iff.1 hx).1
 have h1 : l.map g ++ z = (l.take i).map g ++ ([g x] ++ ((l.drop (i + 1)).map g ++ z)) := by
  conv => lhs; rw [← List.take_append_drop i l, t6 hx]
  simp
 exact bb2 (c := 0) (off := i) h1 (by rw [List.length_map, List.length_take, Nat.min_eq_left (Nat.le_of_lt hi)]) rfl
theorem RC.more {g : α → V} {js : List O} {lv : V} {l : List α} (h : RC g js lv l) (zs : List O) : RC g (js ++ zs) lv l := ⟨h.len, fun i x hx => by
 obtain ⟨ad, h1, h2⟩ := h.get i x hx
 exact ⟨ad, h1, fun ks => by rw [List.append_assoc]; exact h2 _⟩⟩
theorem RC.get0 {g : α → V} {js : List O} {lv : V} {l : List α} (h : RC g js lv l) {i : Nat} {x : α} (hx : l[i]? = some x) : ∃ ad : V, iadE 1 lv (.i .i64 (i : Int)) = some ad ∧ ldE (hpL js) 1 false ad = some (g x) := by
 obtain ⟨ad, h1, h2⟩ := h.get i x hx
 exact ⟨ad, h1, by simpa using h2 []⟩
end
theorem fl_cell {α : Type} (g : α → V) (l : List α) : fl (fun x => [g x]) l = l.map g := by
 induction l with
 | nil => rfl
 | cons x l ih => simp only [fl, List.map_cons, List.flatten_cons] at ih ⊢; rw [ih]; rfl
theorem NR.rc {α : Type} {g : α → V} {js : List O} {v : V} {l : List α} (h : NR (fun x => [g x]) 1 js v l) : RC g js v l := by
 rcases h with ⟨rfl, rfl⟩ | ⟨B, rfl, hB⟩
 ·exact RC.ns js
 ·exact RC.sl (z := []) (gr := true) (by rw [hB, fl_cell, List.append_nil])
end Go.Proofs.YtagogibgoknncaaGreatDoor
