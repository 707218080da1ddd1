/-
  Maps; lists that grow, some of whose rows hold addresses; a node is the same as itself.
  A list that a call gets, appends to and hands back.
-/
import Derived.Test.YtpbgbokclgbdlaaGreatDoorPa
set_option linter.unusedSimpArgs false
set_option linter.unusedVariables false
namespace Go.Proofs.YtpbgbokclgbdlaaGreatDoor
open Go Go.B
def skey (s : Str) : V := .s s.1 s.2
def ab1 (i : Nat) : V := .i .i64 (i : Int)
theorem keyEq_s (s t : Str) : aq7 (skey s) (skey t) = true ↔ s = t := by
 obtain ⟨a, b⟩ := s; obtain ⟨c, d⟩ := t
 simp [aq7, af2, skey]
theorem keyEq_i (s t : Nat) : aq7 (ab1 s) (ab1 t) = true ↔ s = t := by
 simp [aq7, af2, ab1]; omega
structure MS {α : Type} (kt : KT) (kf : α → V) (es : List (V × V × Nat)) (f : α → Option Str) : Prop where
 lt : ∀ n, ltE n es = true
 ks : ∀ (j : Nat) (x : V × V × Nat), es[j]? = some x → ∃ s, x.1 = kf s
 h : ∀ s, (f s = none ∧ aq5 kt (kf s) es 0 = some none) ∨ ∃ n t c, f s = some t ∧ aq5 kt (kf s) es 0 = some (some n) ∧ es[n]? = some (kf s, .s t.1 t.2, c)
theorem MS.nil {α : Type} {kt : KT} {kf : α → V} : MS kt kf [] (fun _ => none) := ⟨fun _ => rfl, fun j x e => by simp at e, fun s => .inl ⟨rfl, rfl⟩⟩
theorem midx_fst {kt : KT} {k : V} : ∀ {es es' : List (V × V × Nat)} {j : Nat}, es.map (·.1) = es'.map (·.1) → aq5 kt k es j = aq5 kt k es' j
 | [], [], _, _ => rfl
 | [], _ :: _, _, h => by simp at h
 | _ :: _, [], _, h => by simp at h
 | (a, _) :: es, (b, _) :: es', j, h => by
   simp only [List.map_cons, List.cons.injEq] at h
   obtain ⟨rfl, h⟩ := h
   simp only [aq5, midx_fst h]
theorem midx_app {kt : KT} {k : V} : ∀ {es : List (V × V × Nat)} {x : V × V × Nat} {j : Nat}, kt.is x.1 = true →
  (aq5 kt k es j = some none → aq5 kt k (es ++ [x]) j = if aq7 k x.1 = true then some (some (j + es.length)) else some none) ∧ ∀ n, aq5 kt k es j = some (some n) → aq5 kt k (es ++ [x]) j = some (some n)
 | [], (a, v, c), j, h => by
   simp only at h
   refine ⟨fun _ => by simp [aq5, h], fun n e => by simp [aq5] at e⟩
 | (b, u) :: es, x, j, h => by
   obtain ⟨h1, h2⟩ := midx_app (k := k) (es := es) (x := x) (j := j + 1) h
   simp only [List.cons_append, aq5]
   by_cases hb : kt.is b = true
   ·rw [if_pos hb, if_pos hb]
    by_cases hk : aq7 k b = true
    ·rw [if_pos hk, if_pos hk]
     exact ⟨fun e => by simp at e, fun n e => e⟩
    ·rw [if_neg hk, if_neg hk]
     refine ⟨fun e => ?_, h2⟩
     rw [h1 e, List.length_cons]
     simp only [show j + 1 + es.length = j + (es.length + 1) by omega]
   ·rw [if_neg hb, if_neg hb]
    exact ⟨fun e => by simp at e, fun n e => by simp at e⟩
theorem ltE_app : ∀ {n : Nat} {es : List (V × V × Nat)} {k v : V} {c : Nat}, ltE n es = true → k.lt n = true → v.lt n = true → ltE n (es ++ [(k, v, c)]) = true
 | n, [], k, v, c, _, h1, h2 => by simp [ltE, h1, h2]
 | n, (a, b, d) :: es, k, v, c, h, h1, h2 => by
   simp only [ltE, Bool.and_eq_true] at h
   simp only [List.cons_append, ltE, Bool.and_eq_true]
   exact ⟨h.1, ltE_app h.2 h1 h2⟩
theorem ltE_set : ∀ {n : Nat} {es : List (V × V × Nat)} {j : Nat} {k v : V} {c : Nat}, ltE n es = true → k.lt n = true → v.lt n = true → ltE n (es.set j (k, v, c)) = true
 | n, [], j, k, v, c, _, h1, h2 => rfl
 | n, (a, b, d) :: es, 0, k, v, c, h, h1, h2 => by
   simp only [ltE, Bool.and_eq_true] at h
   simp only [List.set_cons_zero, ltE, Bool.and_eq_true]
   exact ⟨⟨h1, h2⟩, h.2⟩
 | n, (a, b, d) :: es, j + 1, k, v, c, h, h1, h2 => by
   simp only [ltE, Bool.and_eq_true] at h
   simp only [List.set_cons_succ, ltE, Bool.and_eq_true]
   exact ⟨h.1, ltE_set h.2 h1 h2⟩
theorem MS.put {α : Type} [DecidableEq α] {kt : KT} {kf : α → V} {es : List (V × V × Nat)} {f : α → Option Str} (h : MS kt kf es f) (hk : ∀ s, kt.is (kf s) = true) (hq : ∀ s t, aq7 (kf s) (kf t) = true ↔ s = t) (hc : ∀ s, (kf s).cl = true)
  {hs : List O} {a ck : Nat} (ha : hpL hs a = .m es ck) (k : α) (t : Str) :
  ∃ es' ck', mstB hs kt (kf k) (.s t.1 t.2) (.m a) = aa3 hs a (.m es' ck') ∧ MS kt kf es' (fun s => if s = k then some t else f s) := by
 have hinj : ∀ {s t : α}, kf s = kf t → s = t := fun {s t} e => (hq s t).1 (by rw [e]; exact (hq t t).2 rfl)
 have hlk : ∀ n, (kf k).lt n = true := fun n => V.lt_of_cl n _ (hc k)
 have hlt : ∀ n, (V.s t.1 t.2).lt n = true := fun n => by simp only [V.lt]
 rcases h.h k with ⟨h1, h2⟩ | ⟨n, t0, c, h1, h2, h3⟩
 ·refine ⟨es ++ [(kf k, .s t.1 t.2, ck)], ck + 1, ?_, fun n => ltE_app (h.lt n) (hlk n) (hlt n), fun j x e => ?_, fun s => ?_⟩
  ·simp only [mstB, ha, hk, if_true, h2]
  ·rcases Nat.lt_or_ge j es.length with hj | hj
   ·rw [List.getElem?_append_left hj] at e; exact h.ks j x e
   ·rw [List.getElem?_append_right hj] at e
    cases hm : j - es.length with
    | zero => rw [hm] at e; simp at e; exact ⟨k, by rw [← e]⟩
    | succ m => rw [hm] at e; simp at e
  ·obtain ⟨g1, g2⟩ := midx_app (kt := kt) (k := kf s) (es := es) (x := (kf k, .s t.1 t.2, ck)) (j := 0) (hk k)
   by_cases hsk : s = k
   ·subst hsk
    refine .inr ⟨es.length, t, ck, by rw [if_pos rfl], ?_, by simp⟩
    rw [g1 h2, if_pos ((hq s s).2 rfl), Nat.zero_add]
   ·rw [if_neg hsk]
    rcases h.h s with ⟨q1, q2⟩ | ⟨n, t1, c, q1, q2, q3⟩
    ·refine .inl ⟨q1, ?_⟩
     rw [g1 q2, if_neg (fun e => hsk ((hq s k).1 e))]
    ·exact .inr ⟨n, t1, c, q1, g2 n q2, by rw [List.getElem?_append_left (List.getElem?_eq_some_iff.1 q3).1]; exact q3⟩
 ·have hn := (List.getElem?_eq_some_iff.1 h3).1
  have hmap : (es.set n (kf k, .s t.1 t.2, c)).map (·.1) = es.map (·.1) := by
   apply List.ext_getElem?
   intro i
   rw [List.getElem?_map, List.getElem?_map, List.getElem?_set]
   split
   ·rename_i e
    subst e
    simp [hn, h3]
    have := (List.getElem?_eq_some_iff.1 h3).2
    rw [this]
   ·rfl
  refine ⟨es.set n (kf k, .s t.1 t.2, c), ck, ?_, fun m => ltE_set (h.lt m) (hlk m) (hlt m), fun j x e => ?_, fun s => ?_⟩
  ·simp only [mstB, ha, hk, if_true, h2, h3]
  ·rw [List.getElem?_set] at e
   by_cases hnj : n = j
   ·rw [if_pos hnj, if_pos hn] at e
    cases e
    exact ⟨k, rfl⟩
   ·rw [if_neg hnj] at e
    exact h.ks j x e
  ·rw [midx_fst hmap]
   by_cases hsk : s = k
   ·subst hsk
    exact .inr ⟨n, t, c, by rw [if_pos rfl], h2, by simp [hn]⟩
   ·rw [if_neg hsk]
    rcases h.h s with ⟨q1, q2⟩ | ⟨m, t1, c1, q1, q2, q3⟩
    ·exact .inl ⟨q1, q2⟩
    ·refine .inr ⟨m, t1, c1, q1, q2, ?_⟩
     rw [List.getElem?_set]
     split
     ·rename_i e
      subst e
      rw [h3] at q3
      simp only [Option.some.injEq, Prod.mk.injEq] at q3
      exact (hsk (hinj q3.1).symm).elim
     ·exact q3
theorem MS.get {α : Type} {kt : KT} {kf : α → V} {es : List (V × V × Nat)} {f : α → Option Str} (h : MS kt kf es f) (hk : ∀ s, kt.is (kf s) = true) {hp : Hp} {a ck : Nat} (ha : hp a = .m es ck) (s : α) :
  lkpE hp kt false [.s 0 0] true (.m a) (kf s) = some (match f s with
   | some t => .tu [.s t.1 t.2, .b true]
   | none => .tu [.s 0 0, .b false]) := by
 have hz : pack false [V.s 0 0] = some (.s 0 0) := rfl
 rcases h.h s with ⟨h1, h2⟩ | ⟨n, t, c, h1, h2, h3⟩
 ·simp only [lkpE, hz, lkpV, hk, if_true, ha, h2, h1]
 ·simp only [lkpE, hz, lkpV, hk, if_true, ha, h2, h1, h3]
theorem as7 {js ks : List O} {a ck : Nat} {es : List (V × V × Nat)} (h : hpL js a = .m es ck) : hpL (js ++ ks) a = .m es ck := by
 have : a < js.length := by
  rcases Nat.lt_or_ge a js.length with q | q
  ·exact q
  ·rw [hpL_ge q] at h; cases h
 rw [v9 this, h]
structure RT (js : List O) (v : V) (l : List (Str × Str)) : Prop where
 len : lenE false v = some (.i .i64 (l.length : Int))
 get : ∀ (i : Nat) (x : Str × Str), l[i]? = some x → ∃ a off : Nat, iadE 2 v (.i .i64 (i : Int)) = some (.p a off) ∧ ∀ ks, ldE.ldO 1 false off (hpL (js ++ ks) a) = some (.s x.1.1 x.1.2) ∧ ldE.ldO 1 false (off + 1) (hpL (js ++ ks) a) = some (.s x.2.1 x.2.2)
def trow (x : Str × Str) : List V := [.s x.1.1 x.1.2, .s x.2.1 x.2.2]
theorem trow_w (l : List (Str × Str)) : ∀ r, r ∈ l.map trow → r.length = 2 := by
 intro r hr
 obtain ⟨x, _, rfl⟩ := List.mem_map.1 hr
 rfl
theorem RT.ns (js : List O) : RT js .ns [] := ⟨rfl, fun i x h => by simp at h⟩
theorem RT.sl {js : List O} {a : Nat} {gr : Bool} {l : List (Str × Str)} (h : hpL js a = .c gr (l.map trow).flatten) : RT js (.sl a 0 2 l.length none) l := by
 refine ⟨as3, fun i x hx => ⟨a, i * 2, ac0 (List.getElem?_eq_some_iff.1 hx).1, fun ks => ?_⟩⟩
 rw [l9 h]
 obtain ⟨p, q, hf, hp⟩ := flat_split (trow_w l) (mg (f := trow) hx)
 exact ⟨bf2 (c := 0) hf hp rfl, bf2 (c := 1) hf hp rfl⟩
theorem RT.more {js : List O} {v : V} {l : List (Str × Str)} (h : RT js v l) (zs : List O) : RT (js ++ zs) v l := ⟨h.len, fun i x hx => by
 obtain ⟨a, off, h1, h2⟩ := h.get i x hx
 exact ⟨a, off, h1, fun ks => by rw [List.append_assoc]; exact h2 _⟩⟩
theorem ltO_up {n m : Nat} {js : List O} (h : ltO n js = true) (hnm : n ≤ m) : ltO m js = true := by simpa using ad6 hnm h (zs := []) rfl
theorem GT.lt {base wd n m : Nat} {v : V} {T0 T : List O} {cs : List V} (h : GT base wd n v T0 T cs) (hm : base + T.length ≤ m) : v.lt m = true := by
 rcases h with ⟨_, h2, _, _⟩ | ⟨_, h2, h3, _⟩
 ·rw [h2]; simp only [V.lt]
 ·rw [h3]; rw [h2] at hm; simp only [List.length_append, List.length_singleton] at hm; simp only [V.lt, decide_eq_true_eq]; omega
theorem GT.st {base wd n : Nat} {v : V} {T0 T : List O} {cs : List V} (h : GT base wd n v T0 T cs) : B.stored v = some [v] := by
 rcases h with ⟨_, h2, _, _⟩ | ⟨_, _, h3, _⟩
 ·rw [h2]; rfl
 ·rw [h3]; rfl
theorem gt_app {P W J T0 T : List O} {base wd n bytes : Nat} {v : V} {cs r : List V} (hp : P.length = base) (h : GT base wd n v T0 T cs) (hW : W = T ++ J) (hw : wd ≠ 0) (hr : r.length = wd) (hroom : room (n + 1) bytes = true) (X : List O) :
  ∃ (v' : V) (T0' T' J' : List O), GT base wd (n + 1) v' T0' T' (cs ++ r) ∧ (∀ rb k, rb + k = base + (W.length + X.length) → ah2 rb (P ++ (W ++ (X ++ [.no]))) k v (some r) (some 1) wd bytes = some (v', P ++ (T' ++ J')))
   ∧ (T.all ocl = true → J.all ocl = true → X.all ocl = true → clL (cs ++ r) = true → T'.all ocl = true ∧ J'.all ocl = true) := by
 obtain ⟨v', T0', T', J', h1, h2, h3⟩ := h.appR (rows := [r]) (bytes := bytes) hw (by simpa using hr) hroom (J ++ X)
 have hf : [r].flatten = r := by simp
 rw [hf] at h1 h2 h3
 refine ⟨v', T0', T', J', h1, fun rb k e => ?_, fun a b c d => h3 a (by simp only [List.all_append, b, c, Bool.and_self]) d⟩
 have := h2 P rb k hp (by rw [e, hW]; simp; omega)
 rw [hW]
 simp only [List.append_assoc] at this ⊢
 exact this
theorem gt_se {P J T0 T : List O} {base wd n : Nat} {v : V} {rs : List (List V)} {cs : List V} {D : Nat → Prop} (hp : P.length = base) (h : GT base wd n v T0 T cs) (hc : cs = rs.flatten) (hn : rs.length = n) (hw : ∀ r, r ∈ rs → r.length = wd) (hD : ∀ a, base ≤ a → D a) : Se (hpL (P ++ (T ++ J))) D v (.ts rs) := by
 rcases h with ⟨h1, h2, h3, h4⟩ | ⟨h1, h2, h3, h4⟩
 ·subst h1
  rw [List.length_eq_zero_iff.1 hn, h2]
  exact .nil
 ·rw [h3]
  refine Se.flat' (cs := cs) (gr := true) ?_ hc hn (hD _ (by omega)) hw
  have := hp_mid (us := P) (W := []) (I0 := T0) (K := J) (o := .c true cs)
  rw [h2, ← hp]
  simpa using this
def On.rn (ρ : Str → Str) (o : On) : On := ⟨ρ o.nm, o.t, o.tag⟩
def Decl.rn (ρ : Str → Str) (d : Decl) : Decl := ⟨d.nm, d.ty, d.ck.map (On.rn ρ)⟩
def vB (k : Int) : Bool := k == 2 || k == 8 || k == 9
mutual
def Ex.rn (ρ : Str → Str) : Ex → Ex
 | .mk k op t v nl nn l => .mk k op t v (if vB k = true then ρ (nl, nn) else (nl, nn)).1 (if vB k = true then ρ (nl, nn) else (nl, nn)).2 (Ex.rns ρ l)
def Ex.rns (ρ : Str → Str) : List Ex → List Ex
 | [] => []
 | e :: l => Ex.rn ρ e :: Ex.rns ρ l
end
def evN (ρ : Str → Str) (s : Str) : Str := if (s.1 == 0 && s.2 == 0) = true then s else ρ s
def NEqn.rn (ρ : Str → Str) (q : NEqn) : NEqn := ⟨q.kind, q.left, q.right.rn ρ, q.init, q.node, q.args.map (Ex.rn ρ), evN ρ q.every, q.ck.map (On.rn ρ)⟩
def sslF (wd : Nat) (x : V) (lo hi mx : Option V) : Option V := evX (fun _ => .und) e0 (.ssl (.k x) (lo.map .k) (hi.map .k) (mx.map .k) wd)
theorem x_sslF {sl : Nat → V} {h : Hp} {x : AO} {lo hi mx : Option AO} {wd : Nat} : evX sl h (.ssl x lo hi mx wd) = sslF wd (evO sl x) (lo.map (evO sl)) (hi.map (evO sl)) (mx.map (evO sl)) := by
 rcases lo with _ | lo <;> rcases hi with _ | hi <;> rcases mx with _ | mx <;> simp only [sslF, evX, evIo, Option.map_some, Option.map_none, eO_k] <;> generalize evO sl x = vx <;> cases vx <;> first | rfl | (generalize vI (evO sl hi) = a; cases a <;> rfl) | (generalize vI (evO sl lo) = a; cases a <;> rfl) | (generalize vI (evO sl lo) = a; generalize vI (evO sl hi) = b; cases a <;> cases b <;> rfl)
theorem putAt_cut : ∀ (xs q p r : List V), q.length = xs.length → putAt (p ++ (q ++ r)) p.length xs = p ++ (xs ++ r)
 | [], q, p, r, h => by
   rw [List.length_eq_zero_iff.1 h]; rfl
 | x :: xs, [], p, r, h => by simp at h
 | x :: xs, y :: q, p, r, h => by
   have e : (p ++ (y :: q ++ r)).set p.length x = (p ++ [x]) ++ (q ++ r) := by
    rw [List.set_append_right _ _ (Nat.le_refl _), Nat.sub_self]
    simp
   have := putAt_cut xs q (p ++ [x]) r (by simpa using h)
   simp only [putAt]
   rw [e, show p.length + 1 = (p ++ [x]).length by simp, this]
   simp
theorem ag6 (g : List Nat) : (p6 g).length = g.length := by simp [p6]
theorem irw_cl (g : List Nat) : clL (irow g) = true := by
 have : clR (p6 g) = true := by
  induction g with
  | nil => rfl
  | cons m g ih => simp only [p6, List.map_cons, clR, clL, V.cl, Bool.true_and] at ih ⊢; exact ih
 simp only [irow, clL, V.cl, this, Bool.and_self]
theorem Se.monoD {h h' : Hp} {D D' : Nat → Prop} (hh : ∀ a gr cs, D a → h a = .c gr cs → h' a = .c gr cs ∧ D' a) {x y : V} (hs : Se h D x y) : Se h' D' x y := by
 induction hs with
 | same x => exact .same x
 | nil => exact .nil
 | sl a off wd len cp gr cs rows ha hD hl hb hw hr ih => exact .sl a off wd len cp gr cs rows (hh a gr cs hD ha).1 (hh a gr cs hD ha).2 hl hb hw ih
 | ag xs ys hl hr ih => exact .ag xs ys hl ih
 | tu xs ys hl hr ih => exact .tu xs ys hl ih
theorem Sl.monoD {h h' : Hp} {D D' : Nat → Prop} (hh : ∀ a gr cs, D a → h a = .c gr cs → h' a = .c gr cs ∧ D' a) : ∀ {xs ys : List V}, Sl h D xs ys → Sl h' D' xs ys
 | [], [], _ => trivial
 | _ :: _, _ :: _, hs => ⟨Se.monoD hh hs.1, Sl.monoD hh hs.2⟩
theorem Sll.monoD {h h' : Hp} {D D' : Nat → Prop} (hh : ∀ a gr cs, D a → h a = .c gr cs → h' a = .c gr cs ∧ D' a) : ∀ {xs ys : List (List V)}, Sll h D xs ys → Sll h' D' xs ys
 | [], [], _ => trivial
 | _ :: _, _ :: _, hs => ⟨Sl.monoD hh hs.1, Sll.monoD hh hs.2⟩
theorem ltL_app : ∀ {m : Nat} {a b : List V}, ltL m a = true → ltL m b = true → ltL m (a ++ b) = true
 | m, [], b, _, h => h
 | m, x :: a, b, h, h' => by
   simp only [ltL, Bool.and_eq_true] at h
   simp only [List.cons_append, ltL, Bool.and_eq_true]
   exact ⟨h.1, ltL_app h.2 h'⟩
theorem bj3 (l : List Str) (hn : Lst.ok l) : PC Tryz.prog 63 [.ts (l.map z8), .ts (l.map z8)] (.b true) := by
 refine u4 Tryz.func63 k63 rfl ?_
 repeat' (first
  | (simp only [c63, List.length_map, aj4, SXR, simprocAttr]))
 refine m4 (X := Nat) (fun i ll hs => Hd (fun j => [.ts (l.map z8), .ts (l.map z8), j 2, j 3, .b false, .i .i64 (i : Int), j 6, j 7, j 8, j 9, j 10, j 11, j 12, j 13, j 14, j 15, j 16, j 17, j 18, j 19, j 20, j 21, j 22, j 23, j 24, j 25]) ll ∧ hs = [])
  (fun i => i ≤ l.length) (fun i => l.length - i) ?_ 0 _ _ (by exact ⟨rfl, rfl⟩) (Nat.zero_le _)
 rintro i _ _ ⟨e, rfl⟩ hi IH
 obtain ⟨j, rfl⟩ := e.open
 clear e
 by_cases hlt : i < l.length
 ·obtain ⟨x, hx, hxm⟩ := ats hlt
  have hr := mg (f := z8) hx
  have hd := ltd hlt
  have hw := j0 (n := i) (by unfold Lst.ok at hn; omega)
  repeat' (first
   | (simp only [c63, List.length_map, hd, hr, z8, hw, beq_n, SXR, simprocAttr]))
  exact IH (i + 1) _ _ (by exact ⟨rfl, rfl⟩) hlt (by omega)
 ·have hd := ltn hlt
  clear IH
  repeat' (first
   | (simp only [c63, List.length_map, hd, SXR, simprocAttr]))
theorem same12_refl (l : List On) (hn : Lst.ok l) : PC Tryz.prog 91 [.ts (l.map On.row), .ts (l.map On.row)] (.b true) := by
 refine u4 Tryz.func91 k91 rfl ?_
 repeat' (first
  | (simp only [c91, List.length_map, aj4, SXR, simprocAttr]))
 refine m4 (X := Nat) (fun i ll hs => Hd (fun j => [.ts (l.map On.row), .ts (l.map On.row), j 2, j 3, .b false, .i .i64 (i : Int), j 6, j 7, j 8, j 9, j 10, j 11, j 12, j 13, j 14, j 15, j 16, j 17, j 18, j 19, j 20, j 21, j 22, j 23, j 24, j 25]) ll ∧ hs = [])
  (fun i => i ≤ l.length) (fun i => l.length - i) ?_ 0 _ _ (by exact ⟨rfl, rfl⟩) (Nat.zero_le _)
 rintro i _ _ ⟨e, rfl⟩ hi IH
 obtain ⟨j, rfl⟩ := e.open
 clear e
 by_cases hlt : i < l.length
 ·obtain ⟨x, hx, hxm⟩ := ats hlt
  have hr := mg (f := On.row) hx
  have hd := ltd hlt
  have hw := j0 (n := i) (by unfold Lst.ok at hn; omega)
  repeat' (first
   | (simp only [c91, List.length_map, hd, hr, ap4, be3, on_sq, hw, SXR, simprocAttr]))
  exact IH (i + 1) _ _ (by exact ⟨rfl, rfl⟩) hlt (by omega)
 ·have hd := ltn hlt
  clear IH
  repeat' (first
   | (simp only [c91, List.length_map, hd, SXR, simprocAttr]))
theorem clocks_refl (l : List On) (hn : Lst.ok l) : PC Tryz.prog 16 [.ts (l.map On.row), .ts (l.map On.row)] (.b true) := by
 have := bg9 l l hn
 rwa [cks_refl] at this
theorem same6_refl (e : Ex) (h : e.ok) : PC Tryz.prog 89 [xg e, xg e] (.b true) := by
 have := same6_pc _ e e (Nat.le_refl _) h
 rwa [exB_self] at this
theorem af9 (l : List Decl) (hn : bg5 l) : PC Tryz.prog 64 [.ts (l.map Decl.row), .ts (l.map Decl.row)] (.b true) := by
 refine u4 Tryz.func64 k64 rfl ?_
 repeat' (first
  | (simp only [c64, List.length_map, aj4, SXR, simprocAttr]))
 refine m4 (X := Nat) (fun i ll hs => Hd (fun j => [.ts (l.map Decl.row), .ts (l.map Decl.row), j 2, j 3, .b false, .i .i64 (i : Int), j 6, j 7, j 8, j 9, j 10, j 11, j 12, j 13, j 14, j 15, j 16, j 17, j 18, j 19, j 20, j 21, j 22, j 23, j 24, j 25, j 26, j 27, j 28, j 29, j 30, j 31, j 32, j 33, j 34, j 35, j 36, j 37, j 38, j 39, j 40, j 41, j 42, j 43, j 44, j 45, j 46, j 47, j 48, j 49, j 50, j 51, j 52, j 53, j 54]) ll ∧ hs = [])
  (fun i => i ≤ l.length) (fun i => l.length - i) ?_ 0 _ _ (by exact ⟨rfl, rfl⟩) (Nat.zero_le _)
 rintro i _ _ ⟨e, rfl⟩ hi IH
 obtain ⟨j, rfl⟩ := e.open
 clear e
 by_cases hlt : i < l.length
 ·obtain ⟨x, hx, hxm⟩ := ats hlt
  have hr := mg (f := Decl.row) hx
  have hd := ltd hlt
  have hw := j0 (n := i) (by have := hn.1; omega)
  have hc := clocks_refl x.ck (by have := hn.2 x hxm; unfold Decl.ok at this; unfold Lst.ok; omega)
  repeat' (first
   | (with_reducible refine b8 (hc) (by simp only [SXR, Decl.row, m0]) (by simp only [SXR, Decl.row, m0]) ?_)
   | (simp only [c64, List.length_map, hd, hr, Decl.row, m0, hw, aj4, beq_n, SXR, simprocAttr]))
  exact IH (i + 1) _ _ (by exact ⟨rfl, rfl⟩) hlt (by omega)
 ·have hd := ltn hlt
  clear IH
  repeat' (first
   | (simp only [c64, List.length_map, hd, SXR, simprocAttr]))
theorem claims_nil : PC Tryz.prog 67 [.ts [], .ts []] (.b true) := by
 refine u4 Tryz.func67 k67 rfl ?_
 repeat' (first
  | (with_reducible refine ai1 ?_)
  | (simp only [c67, aj4, Int.natCast_zero, decide_false, decide_true, SXR, simprocAttr]))
theorem autos_nil : PC Tryz.prog 66 [.ts [], .ts []] (.b true) := by
 refine u4 Tryz.func66 k66 rfl ?_
 repeat' (first
  | (with_reducible refine ai1 ?_)
  | ((with_reducible refine o0 ?rdq ?_); (case rdq => refine m9 rfl ?_ ?_ <;> simp only [Option.isSome_some, aj4, Int.natCast_zero, decide_false, decide_true, SXR, simprocAttr]))
  | (simp only [c66, aj4, Int.natCast_zero, decide_false, decide_true, SXR, simprocAttr]))
theorem eqs_refl (l : List Eqn) (hl : Lst.ok l) (hn : ∀ q, q ∈ l → q.ok) : PC Tryz.prog 65 [.ts (l.map Eqn.row), .ts (l.map Eqn.row)] (.b true) := by
 refine u4 Tryz.func65 k65 rfl ?_
 repeat' (first
  | (simp only [c65, List.length_map, aj4, SXR, simprocAttr]))
 refine m4 (X := Nat) (fun i ll hs => Hd (fun j => [.ts (l.map Eqn.row), .ts (l.map Eqn.row), j 2, j 3, .b false, .i .i64 (i : Int), j 6, j 7, j 8, j 9, j 10, j 11, j 12, j 13, j 14, j 15, j 16, j 17, j 18, j 19, j 20, j 21, j 22, j 23, j 24, j 25, j 26, j 27, j 28, j 29, j 30, j 31, j 32, j 33, j 34, j 35, j 36, j 37, j 38, j 39, j 40, j 41, j 42]) ll ∧ hs = [])
  (fun i => i ≤ l.length) (fun i => l.length - i) ?_ 0 _ _ (by exact ⟨rfl, rfl⟩) (Nat.zero_le _)
 rintro i _ _ ⟨e, rfl⟩ hi IH
 obtain ⟨j, rfl⟩ := e.open
 clear e
 by_cases hlt : i < l.length
 ·obtain ⟨x, hx, hxm⟩ := ats hlt
  have hr := mg (f := Eqn.row) hx
  have hd := ltd hlt
  have hw := j0 (n := i) (by unfold Lst.ok at hl; omega)
  have hc := bj3 x.left (hn x hxm).1
  have hs := same6_refl x.right (hn x hxm).2
  repeat' (first
   | (with_reducible refine b8 (hc) (by simp only [SXR, j4, j6]) (by simp only [SXR, j4, j6]) ?_)
   | (with_reducible refine b8 (hs) (by simp only [SXR, j4, j6]) (by simp only [SXR, j4, j6]) ?_)
   | (simp only [c65, List.length_map, hd, hr, Eqn.row, j5, j3, j4, j6, hw, aj4, beq_n, SXR, simprocAttr]))
  exact IH (i + 1) _ _ (by exact ⟨rfl, rfl⟩) hlt (by omega)
 ·have hd := ltn hlt
  clear IH
  repeat' (first
   | (simp only [c65, List.length_map, hd, SXR, simprocAttr]))
theorem r7_refl (p : Prg) (hn : p.ok) : PC Tryz.prog 43 [.ag p.row, .ag p.row] (.b true) := by
 obtain ⟨en, nd⟩ := p
 obtain ⟨⟨he, hee⟩, hnd, hnn⟩ := hn
 simp only at he hee hnd hnn
 refine u4 Tryz.func43 k43 rfl ?_
 repeat' (first
  | ((with_reducible refine o0 ?rdq ?_); (case rdq => refine m9 rfl ?_ ?_ <;> simp only [Option.isSome_some, Prg.row, List.length_map, aj4, SXR, simprocAttr]))
  | (simp only [c43, Prg.row, List.length_map, aj4, SXR, simprocAttr]))
 refine m4 (X := Nat) (fun i ll hs => Hd (fun j => [.ag (Prg.row ⟨en, nd⟩), .ag (Prg.row ⟨en, nd⟩), .p 0 0, .p 1 0, .b false, .i .i64 (i : Int), j 6, j 7, j 8, j 9, j 10, j 11, j 12, j 13, j 14, j 15, j 16, j 17, j 18, j 19, j 20, j 21, j 22, j 23, j 24, j 25, j 26, j 27, j 28, j 29, j 30, j 31, j 32, j 33, j 34, j 35, j 36, j 37, j 38, j 39, j 40, j 41, j 42, j 43, j 44, j 45, j 46, j 47, j 48, j 49, j 50, j 51, j 52, j 53, j 54, j 55, j 56, j 57, j 58, j 59, j 60, j 61, j 62, j 63, j 64, j 65, j 66, j 67, j 68, j 69, j 70, j 71, j 72, j 73, j 74, j 75, j 76, j 77, j 78, j 79, j 80, j 81, j 82, j 83, j 84, j 85, j 86, j 87, j 88, j 89, j 90, j 91, j 92, j 93, j 94, j 95, j 96, j 97, j 98, j 99, j 100, j 101, j 102, j 103, j 104, j 105, j 106, j 107, j 108, j 109, j 110, j 111, j 112, j 113, j 114, j 115, j 116, j 117, j 118, j 119, j 120, j 121, j 122, j 123, j 124, j 125, j 126, j 127, j 128, j 129, j 130, j 131, j 132, j 133, j 134, j 135, j 136]) ll ∧ hs = [.c false (Prg.row ⟨en, nd⟩), .c false (Prg.row ⟨en, nd⟩)])
  (fun i => i ≤ en.length) (fun i => en.length - i) ?_ 0 _ _ (by exact ⟨rfl, rfl⟩) (Nat.zero_le _)
 rintro i _ _ ⟨e, rfl⟩ hi IH
 obtain ⟨j, rfl⟩ := e.open
 clear e
 by_cases hlt : i < en.length
 ·obtain ⟨x, hx, hxm⟩ := ats hlt
  have hr := mg (f := Enm.row) hx
  have hd := ltd hlt
  have hw := j0 (n := i) (by unfold Lst.ok at he; omega)
  have hc := bj3 x.tags (hee x hxm)
  repeat' (first
   | ((with_reducible refine o0 ?rdq ?_); (case rdq => refine m9 rfl ?_ ?_ <;> simp only [Option.isSome_some, Prg.row, List.length_map, hd, hr, Enm.row, j6, hw, aj4, beq_n, SXR, simprocAttr]))
   | (with_reducible refine b8 (hc) (by simp only [SXR, j6]) (by simp only [SXR, j6]) ?_)
   | (simp only [c43, Prg.row, List.length_map, hd, hr, Enm.row, j6, hw, aj4, beq_n, SXR, simprocAttr]))
  exact IH (i + 1) _ _ (by exact ⟨rfl, rfl⟩) hlt (by omega)
 have hd := ltn hlt
 clear IH
 repeat' (first
  | ((with_reducible refine o0 ?rdq ?_); (case rdq => refine m9 rfl ?_ ?_ <;> simp only [Option.isSome_some, Prg.row, List.length_map, hd, SXR, simprocAttr]))
  | (simp only [c43, Prg.row, List.length_map, hd, SXR, simprocAttr]))
 refine m4 (X := Nat) (fun i ll hs => ∃ js : List O, Hd (fun j => [.ag (Prg.row ⟨en, nd⟩), .ag (Prg.row ⟨en, nd⟩), .p 0 0, .p 1 0, .b false, j 5, .i .i64 (i : Int), j 7, j 8, j 9, j 10, j 11, j 12, j 13, j 14, j 15, j 16, j 17, j 18, j 19, j 20, j 21, j 22, j 23, j 24, j 25, j 26, j 27, j 28, j 29, j 30, j 31, j 32, j 33, j 34, j 35, j 36, j 37, j 38, j 39, j 40, j 41, j 42, j 43, j 44, j 45, j 46, j 47, j 48, j 49, j 50, j 51, j 52, j 53, j 54, j 55, j 56, j 57, j 58, j 59, j 60, j 61, j 62, j 63, j 64, j 65, j 66, j 67, j 68, j 69, j 70, j 71, j 72, j 73, j 74, j 75, j 76, j 77, j 78, j 79, j 80, j 81, j 82, j 83, j 84, j 85, j 86, j 87, j 88, j 89, j 90, j 91, j 92, j 93, j 94, j 95, j 96, j 97, j 98, j 99, j 100, j 101, j 102, j 103, j 104, j 105, j 106, j 107, j 108, j 109, j 110, j 111, j 112, j 113, j 114, j 115, j 116, j 117, j 118, j 119, j 120, j 121, j 122, j 123, j 124, j 125, j 126, j 127, j 128, j 129, j 130, j 131, j 132, j 133, j 134, j 135, j 136]) ll ∧ hs = (.c false (Prg.row ⟨en, nd⟩) :: .c false (Prg.row ⟨en, nd⟩) :: js))
  (fun i => i ≤ nd.length) (fun i => nd.length - i) ?_ 0 _ _ (by exact ⟨[], rfl, rfl⟩) (Nat.zero_le _)
 rintro i _ _ ⟨js, e, rfl⟩ hi IH
 obtain ⟨j, rfl⟩ := e.open
 clear e
 by_cases hlt : i < nd.length
 ·obtain ⟨x, hx, hxm⟩ := ats hlt
  have hr := mg (f := PNode.row) hx
  have hd := ltd hlt
  have hw := j0 (n := i) (by unfold Lst.ok at hnd; omega)
  obtain ⟨h1, h2, h3, h4, h5⟩ := hnn x hxm
  have hc1 := af9 x.ins h1
  have hc2 := af9 x.outs h2
  have hc3 := af9 x.locals h3
  have hc4 := eqs_refl x.eqs h4 h5
  repeat' (first
   | ((with_reducible refine o0 ?rdq ?_); (case rdq => refine m9 rfl ?_ ?_ <;> simp only [Option.isSome_some, Prg.row, List.length_map, hd, hr, PNode.row, m5, ac6, o9, hw, aj4, beq_n, Nat.add_assoc, SXR, simprocAttr]))
   | (with_reducible refine b8 (hc1) (by simp only [SXR, m5, ac6, o9]) (by simp only [SXR, m5, ac6, o9]) ?_)
   | (with_reducible refine b8 (hc2) (by simp only [SXR, m5, ac6, o9]) (by simp only [SXR, m5, ac6, o9]) ?_)
   | (with_reducible refine b8 (hc3) (by simp only [SXR, m5, ac6, o9]) (by simp only [SXR, m5, ac6, o9]) ?_)
   | (with_reducible refine b8 (hc4) (by simp only [SXR, m5, ac6, o9]) (by simp only [SXR, m5, ac6, o9]) ?_)
   | (with_reducible refine b8 (autos_nil) (by simp only [SXR, m5, ac6, o9]) (by simp only [SXR, m5, ac6, o9]) ?_)
   | (with_reducible refine b8 (claims_nil) (by simp only [SXR, m5, ac6, o9]) (by simp only [SXR, m5, ac6, o9]) ?_)
   | (simp only [c43, Prg.row, List.length_map, hd, hr, PNode.row, m5, ac6, o9, hw, aj4, beq_n, Nat.add_assoc, SXR, simprocAttr]))
  exact IH (i + 1) _ _ (by exact ⟨_, rfl, rfl⟩) hlt (by omega)
 ·have hd := ltn hlt
  clear IH
  repeat' (first
   | ((with_reducible refine o0 ?rdq ?_); (case rdq => refine m9 rfl ?_ ?_ <;> simp only [Option.isSome_some, Prg.row, List.length_map, hd, SXR, simprocAttr]))
   | (simp only [c43, Prg.row, List.length_map, hd, SXR, simprocAttr]))
def held (left : List Str) (e : Ex) : Prg := ⟨[], [⟨(0, 0), [], [], [], [⟨left, e⟩]⟩]⟩
theorem held_ok {left : List Str} {e : Ex} (h1 : Lst.ok left) (h2 : e.ok) : (held left e).ok := by
 refine ⟨⟨by simp [held, Lst.ok], by simp [held]⟩, by simp [held, Lst.ok], fun n hn => ?_⟩
 simp only [held, List.mem_singleton] at hn
 subst hn
 refine ⟨⟨by simp [Lst.ok], by simp⟩, ⟨by simp [Lst.ok], by simp⟩, ⟨by simp [Lst.ok], by simp⟩, by simp [Lst.ok], fun q hq => ?_⟩
 simp only [List.mem_singleton] at hq
 subst hq
 exact ⟨h1, h2⟩
theorem holder_pc (left : List Str) (e : Ex) : PC Tryz.prog 92 [.ts (left.map z8), xg e] (.ag (held left e).row) := by
 refine ag3 Tryz.func92 k92 rfl ?_
 repeat' (first
  | (simp only [c92, aa0, z9, j5, j3, put_row1, SXR, simprocAttr]))
 refine Sl.ag ⟨.nil, Se.rowsL (rs := [[.s 0 0, .ns, .ns, .ns, .sl 2 0 7 1 none, .ns, .ns, .ns]]) rfl rfl rfl trivial (by simp) (by simp [PNode.row]) ⟨⟨.same _, .nil, .nil, .nil, ?_, .nil, .nil, .nil, trivial⟩, trivial⟩, trivial⟩
 exact Se.rowsL (rs := [.ts (left.map z8) :: e.row]) rfl (by simp) rfl trivial (by simp [j5]) (by simp [Eqn.row, j5]) ⟨Sl.refl, trivial⟩
def argE (q : NEqn) : Ex := .mk 0 0 0 0 0 0 (q.right :: q.args)
theorem argE_ok {q : NEqn} (hk : q.ok) : (argE q).ok := by
 obtain ⟨h1, h2, h3, h4, h5, h6⟩ := hk
 simp only [argE, Ex.ok, Ex.oks]
 exact ⟨by unfold Lst.ok; simp; omega, h2, h4⟩
theorem se_args0 {h : Hp} {D : Nat → Prop} {a : Nat} {e : Ex} {gr : Bool} (ha : h a = .c gr e.row) (hD : D a) : Se h D (.ag [.i .i64 0, .i .i64 0, .i .i64 0, .i .i64 0, .s 0 0, .sl a 0 6 1 none]) (xg (.mk 0 0 0 0 0 0 [e])) :=
 Sl.ag ⟨.same _, .same _, .same _, .same _, .same _, Se.flat' (rs := [e.row]) ha (by simp) rfl hD (by simp [j5]), trivial⟩
theorem se_args1 {h : Hp} {D : Nat → Prop} {a n : Nat} {e : Ex} {l : List Ex} {gr : Bool} (ha : h a = .c gr (e.row ++ (Ex.rows l).flatten)) (hn : n = l.length + 1) (hD : D a) : Se h D (.ag [.i .i64 0, .i .i64 0, .i .i64 0, .i .i64 0, .s 0 0, .sl a 0 6 n none]) (xg (.mk 0 0 0 0 0 0 (e :: l))) :=
 Sl.ag ⟨.same _, .same _, .same _, .same _, .same _, Se.flat' (rs := e.row :: Ex.rows l) ha (by simp) (by simp [i4, hn]) hD (fun r hr => by
  rcases List.mem_cons.1 hr with rfl | h
  ·exact j5 e
  ·exact rows_w r h), trivial⟩
theorem sl2 {h : Hp} {D : Nat → Prop} {a b c d : V} (h1 : Se h D a c) (h2 : Se h D b d) : ∀ (j : Nat) (x y : V), [a, b][j]? = some x → [c, d][j]? = some y → Se h D x y := (Sl.get (xs := [a, b]) (ys := [c, d]) ⟨h1, h2, trivial⟩).2
set_option maxRecDepth 10000 in
set_option maxHeartbeats 2000000 in
theorem eqneqn_refl (x : NEqn) (hk : x.ok) : PC Tryz.prog 68 [.ag x.row, .ag x.row] (.b true) := by
 have hh := holder_pc x.left (argE x)
 have hs := r7_refl (held x.left (argE x)) (held_ok hk.1 (argE_ok hk))
 have hcl : clL (held x.left (argE x)).row = true := prg_cl _
 have hax := hk.2.2.2.2.2
 have hi0 : ∀ a : Int, (a == a) = true := fun a => by simp
 have hn0 : ∀ a : Nat, (a == a) = true := fun a => by simp
 have h4 := same12_refl x.ck hk.2.2.2.2.1
 have hcx := m7 x
 cases hxa : x.args with
 | nil =>
   rw [hxa] at hcx
   refine u4 Tryz.func68 k68 rfl ?_
   repeat' (first
    | ((with_reducible refine o0 ?rdq ?_); (case rdq => refine m9 rfl ?_ ?_ <;> simp only [Option.isSome_some, bne, i7, t6, p9, j7, aa8, aa7, hcx, j9, m8, j6, i9, j4, m0, j5, j3, i4, rall, hi0, hn0, Ex.rows, List.flatten_nil, SXR, simprocAttr]))
    | (with_reducible refine b8 (h4) (by simp only [SXR, j6, i9, j4, m0]) (by simp only [SXR, j6, i9, j4, m0]) ?_)
    | (simp only [c68, bne, i7, t6, p9, j7, aa8, aa7, hcx, j9, m8, j6, i9, j4, m0, j5, j3, i4, rall, hi0, hn0, Ex.rows, List.flatten_nil, SXR, simprocAttr]))
   refine ae8 hh [2] rfl rfl (by rw [argE, hxa]; exact sl2 (.same _) (se_args0 (gr := false) rfl (by simp))) (by simp only [clL, V.cl, j6, j4, Bool.and_self]) (by simp only [V.cl, hcl]) ?_
   repeat' (first
    | ((with_reducible refine o0 ?rdq ?_); (case rdq => refine m9 rfl ?_ ?_ <;> simp only [Option.isSome_some, bne, i7, t6, p9, j7, aa8, aa7, hcx, j9, m8, j6, i9, j4, m0, j5, j3, i4, rall, hi0, hn0, Ex.rows, List.flatten_nil, SXR, simprocAttr]))
    | (with_reducible refine b8 (h4) (by simp only [SXR, j6, i9, j4, m0]) (by simp only [SXR, j6, i9, j4, m0]) ?_)
    | (simp only [c68, bne, i7, t6, p9, j7, aa8, aa7, hcx, j9, m8, j6, i9, j4, m0, j5, j3, i4, rall, hi0, hn0, Ex.rows, List.flatten_nil, SXR, simprocAttr]))
   refine ae8 hh [5] rfl rfl (by rw [argE, hxa]; exact sl2 (.same _) (se_args0 (gr := false) rfl (by simp))) (by simp only [clL, V.cl, j6, j4, Bool.and_self]) (by simp only [V.cl, hcl]) ?_
   repeat' (first
    | ((with_reducible refine o0 ?rdq ?_); (case rdq => refine m9 rfl ?_ ?_ <;> simp only [Option.isSome_some, hcl, bne, i7, t6, p9, j7, aa8, aa7, hcx, j9, m8, j6, i9, j4, m0, j5, j3, i4, rall, hi0, hn0, Ex.rows, List.flatten_nil, SXR, simprocAttr]))
    | (with_reducible refine b8 (hs) (by simp only [SXR, hcl, j6, i9, j4, m0]) (by simp only [SXR, hcl, j6, i9, j4, m0]) ?_)
    | (with_reducible refine b8 (h4) (by simp only [SXR, hcl, j6, i9, j4, m0]) (by simp only [SXR, hcl, j6, i9, j4, m0]) ?_)
    | (simp only [c68, hcl, bne, i7, t6, p9, j7, aa8, aa7, hcx, j9, m8, j6, i9, j4, m0, j5, j3, i4, rall, hi0, hn0, Ex.rows, List.flatten_nil, SXR, simprocAttr]))
 | cons a l =>
   rw [hxa] at hcx hax
   simp only [List.length_cons] at hax
   have hroom1 := u9 (n := 1 + (l.length + 1)) (b := 72) (by omega) (by omega)
   refine u4 Tryz.func68 k68 rfl ?_
   repeat' (first
    | ((with_reducible refine o0 ?rdq ?_); (case rdq => refine m9 rfl ?_ ?_ <;> simp only [Option.isSome_some, bne, i7, t6, p9, j7, aa8, aa7, hcx, j9, m8, j6, i9, j4, m0, j5, j3, i4, rall, hi0, hn0, hroom1, Ex.rows, List.flatten_nil, SXR, simprocAttr]))
    | (with_reducible refine b8 (h4) (by simp only [SXR, j6, i9, j4, m0]) (by simp only [SXR, j6, i9, j4, m0]) ?_)
    | (simp only [c68, bne, i7, t6, p9, j7, aa8, aa7, hcx, j9, m8, j6, i9, j4, m0, j5, j3, i4, rall, hi0, hn0, hroom1, Ex.rows, List.flatten_nil, SXR, simprocAttr]))
   refine ae8 hh [3] rfl rfl (by rw [argE, hxa]; exact sl2 (.same _) (se_args1 (gr := true) (by first | rfl | (simp [Ex.rows]; rfl)) (by simp; omega) (by simp))) (by simp only [clL, V.cl, j6, j4, Bool.and_self]) (by simp only [V.cl, hcl]) ?_
   repeat' (first
    | ((with_reducible refine o0 ?rdq ?_); (case rdq => refine m9 rfl ?_ ?_ <;> simp only [Option.isSome_some, bne, i7, t6, p9, j7, aa8, aa7, hcx, j9, m8, j6, i9, j4, m0, j5, j3, i4, rall, hi0, hn0, hroom1, Ex.rows, List.flatten_nil, SXR, simprocAttr]))
    | (with_reducible refine b8 (h4) (by simp only [SXR, j6, i9, j4, m0]) (by simp only [SXR, j6, i9, j4, m0]) ?_)
    | (simp only [c68, bne, i7, t6, p9, j7, aa8, aa7, hcx, j9, m8, j6, i9, j4, m0, j5, j3, i4, rall, hi0, hn0, hroom1, Ex.rows, List.flatten_nil, SXR, simprocAttr]))
   refine ae8 hh [6] rfl rfl (by rw [argE, hxa]; exact sl2 (.same _) (se_args1 (gr := true) (by first | rfl | (simp [Ex.rows]; rfl)) (by simp; omega) (by simp))) (by simp only [clL, V.cl, j6, j4, Bool.and_self]) (by simp only [V.cl, hcl]) ?_
   repeat' (first
    | ((with_reducible refine o0 ?rdq ?_); (case rdq => refine m9 rfl ?_ ?_ <;> simp only [Option.isSome_some, hcl, bne, i7, t6, p9, j7, aa8, aa7, hcx, j9, m8, j6, i9, j4, m0, j5, j3, i4, rall, hi0, hn0, hroom1, Ex.rows, List.flatten_nil, SXR, simprocAttr]))
    | (with_reducible refine b8 (hs) (by simp only [SXR, hcl, j6, i9, j4, m0]) (by simp only [SXR, hcl, j6, i9, j4, m0]) ?_)
    | (with_reducible refine b8 (h4) (by simp only [SXR, hcl, j6, i9, j4, m0]) (by simp only [SXR, hcl, j6, i9, j4, m0]) ?_)
    | (simp only [c68, hcl, bne, i7, t6, p9, j7, aa8, aa7, hcx, j9, m8, j6, i9, j4, m0, j5, j3, i4, rall, hi0, hn0, hroom1, Ex.rows, List.flatten_nil, SXR, simprocAttr]))
set_option maxRecDepth 10000 in
set_option maxHeartbeats 1000000 in
theorem eqnode_refl (x : NNode) (hk : x.ok) : PC Tryz.prog 44 [.ag x.row, .ag x.row] (.b true) := by
 obtain ⟨o1, o2, o3, o4, o5⟩ := hk
 have hn := o4
 unfold Lst.ok at hn
 have hi0 : ∀ a : Int, (a == a) = true := fun a => by simp
 have hn0 : ∀ a : Nat, (a == a) = true := fun a => by simp
 have h1 := af9 x.ins o1
 have h2 := af9 x.outs o2
 have h3 := af9 x.locals o3
 refine u4 Tryz.func44 k44 rfl ?_
 repeat' (first
  | (with_reducible refine b8 (h1) (by simp only [SXR, m5]) (by simp only [SXR, m5]) ?_)
  | (with_reducible refine b8 (h2) (by simp only [SXR, m5]) (by simp only [SXR, m5]) ?_)
  | (with_reducible refine b8 (h3) (by simp only [SXR, m5]) (by simp only [SXR, m5]) ?_)
  | (simp only [c44, bne, NNode.row, List.length_map, m5, hi0, hn0, SXR, simprocAttr]))
 refine m4 (X := Nat) (fun i ll hs => Hd (fun j => [.ag x.row, .ag x.row, .p 0 0, .p 1 0, .b false, .i .i64 (i : Int), j 6, j 7, j 8, j 9, j 10, j 11, j 12, j 13, j 14, j 15, j 16, j 17, j 18, j 19, j 20, j 21, j 22, j 23, j 24, j 25, j 26, j 27, j 28, j 29, j 30, j 31, j 32, j 33, j 34, j 35, j 36, j 37, j 38, j 39, j 40, j 41, j 42, j 43, j 44, j 45, j 46, j 47, j 48, j 49, j 50, j 51, j 52, j 53, j 54, j 55, j 56, j 57, j 58, j 59, j 60, j 61, j 62]) ll ∧ hs = [.c false x.row, .c false x.row])
  (fun i => i ≤ x.eqs.length) (fun i => x.eqs.length - i) ?_ 0 _ _ (by exact ⟨rfl, rfl⟩) (Nat.zero_le _)
 rintro i _ _ ⟨e, rfl⟩ hi IH
 obtain ⟨j, rfl⟩ := e.open
 clear e
 by_cases hlt : i < x.eqs.length
 ·obtain ⟨u, hu, hum⟩ := ats hlt
  have hur := mg (f := NEqn.row) hu
  have hd := ltd hlt
  have hw := j0 (n := i) (by omega)
  have hc := eqneqn_refl u (o5 u hum)
  repeat' (first
   | (with_reducible refine b8 (hc) (by simp only [SXR, m5, ac5]) (by simp only [SXR, m5, ac5]) ?_)
   | (simp only [c44, bne, NNode.row, List.length_map, m5, hd, hur, hw, i7, i8, ac5, SXR, simprocAttr]))
  exact IH (i + 1) _ _ (by exact ⟨rfl, rfl⟩) hlt (by omega)
 ·have hd := ltn hlt
  clear IH
  repeat' (first
   | (simp only [c44, bne, NNode.row, List.length_map, m5, hd, SXR, simprocAttr]))
def fl {α : Type} (f : α → List V) (l : List α) : List V := (l.map f).flatten
theorem fl_app {α : Type} (f : α → List V) (a b : List α) : fl f (a ++ b) = fl f a ++ fl f b := by simp [fl]
theorem bg0 {α : Type} (f : α → List V) (a : α) : fl f [a] = f a := by simp [fl]
theorem flw_len {α : Type} {f : α → List V} {wd : Nat} (hf : ∀ x, (f x).length = wd) (l : List α) : (fl f l).length = l.length * wd := by
 unfold fl; rw [wid_fl (mem_map hf l), List.length_map]
theorem fl_cl {α : Type} {f : α → List V} (hc : ∀ x, clL (f x) = true) (l : List α) : clL (fl f l) = true := by
 induction l with
 | nil => rfl
 | cons x l ih => simp only [fl, List.map_cons, List.flatten_cons, clL_app, hc x] at ih ⊢; exact ih
def NR {α : Type} (f : α → List V) (wd : Nat) (js : List O) (v : V) (l : List α) : Prop := (v = .ns ∧ l = []) ∨ ∃ B, v = .sl B 0 wd l.length none ∧ hpL js B = .c true (fl f l)
def al9 (js : List O) : V → List O
 | .sl B _ _ _ _ => js.set B .gone
 | _ => js
theorem r8 (js : List O) (v : V) : (al9 js v).length = js.length := by cases v <;> simp [al9]
theorem kill_app {α : Type} {f : α → List V} {wd : Nat} {js Z : List O} {v : V} {l : List α} (h : NR f wd js v l) : al9 (js ++ Z) v = al9 js v ++ Z := by
 rcases h with ⟨rfl, _⟩ | ⟨B, rfl, hB⟩
 ·rfl
 ·simp only [al9]
  rw [List.set_append_left _ _ (u6 hB)]
theorem ltO_gset {n : Nat} : ∀ {js : List O} {B : Nat}, ltO n js = true → ltO n (js.set B .gone) = true
 | [], B, h => rfl
 | o :: js, 0, h => by simp only [ltO, Bool.and_eq_true] at h; simp only [List.set_cons_zero, ltO, h.2, O.lt, Bool.and_self]
 | o :: js, B + 1, h => by simp only [ltO, Bool.and_eq_true] at h; simp only [List.set_cons_succ, ltO, h.1, ltO_gset h.2, Bool.and_self]
theorem bf4 {n : Nat} {js : List O} {v : V} (h : ltO n js = true) : ltO n (al9 js v) = true := by
 cases v <;> first | exact h | exact ltO_gset h
theorem ocl_gset : ∀ {js : List O} {B : Nat}, js.all ocl = true → (js.set B .gone).all ocl = true
 | [], B, h => rfl
 | o :: js, 0, h => by simp only [List.all_cons, Bool.and_eq_true] at h; simp only [List.set_cons_zero, List.all_cons, h.2, ocl, Bool.and_self]
 | o :: js, B + 1, h => by simp only [List.all_cons, Bool.and_eq_true] at h; simp only [List.set_cons_succ, List.all_cons, h.1, ocl_gset h.2, Bool.and_self]
def nmh {α : Type} (f : α → List V) (js : List O) (v : V) (l l' : List α) : List O := if l'.length = l.length then js else al9 js v ++ [.c true (fl f l')]
def nm1 {α : Type} (js : List O) (v : V) (l l' : List α) : List O := if l'.length = l.length then js else al9 js v
def nm2 {α : Type} (f : α → List V) (l l' : List α) : List O := if l'.length = l.length then [] else [.c true (fl f l')]
theorem nmh_eq {α : Type} (f : α → List V) (js : List O) (v : V) (l l' : List α) : nmh f js v l l' = nm1 js v l l' ++ nm2 f l l' := by
 unfold nmh nm1 nm2
 split <;> simp
theorem be4 {α : Type} (js : List O) (v : V) (l l' : List α) : (nm1 js v l l').length = js.length := by
 unfold nm1
 split
 ·rfl
 ·exact r8 _ _
def nmv {α : Type} (wd : Nat) (js : List O) (v : V) (l l' : List α) : V := if l'.length = l.length then v else .sl js.length 0 wd l'.length none
structure NS {α : Type} (f : α → List V) (wd : Nat) (js : List O) (v : V) (l : List α) (H : List O) (v' : V) (l' : List α) : Prop where
 pre : l <+: l'
 st : (l'.length = l.length ∧ v' = v ∧ ∃ Z, H = js ++ Z ∧ Z.all ocl = true) ∨ (l.length < l'.length ∧ ∃ (Z : List O) (A : Nat), H = al9 js v ++ Z ∧ Z.all ocl = true ∧ js.length ≤ A ∧ v' = .sl A 0 wd l'.length none ∧ hpL H A = .c true (fl f l'))
section
variable {α : Type} {f : α → List V} {wd : Nat} {js H : List O} {v v' : V} {l l' : List α}
theorem NR.more (h : NR f wd js v l) (Z : List O) : NR f wd (js ++ Z) v l := by
 rcases h with h | ⟨B, h1, h2⟩
 ·exact .inl h
 ·exact .inr ⟨B, h1, l9 h2⟩
theorem NR.lt (h : NR f wd js v l) {n : Nat} (hn : js.length ≤ n) : v.lt n = true := by
 rcases h with ⟨rfl, _⟩ | ⟨B, rfl, hB⟩
 ·rfl
 ·have := u6 hB; simp only [V.lt, decide_eq_true_eq]; omega
theorem NS.refl : NS f wd js v l js v l := ⟨List.prefix_refl _, .inl ⟨rfl, rfl, [], by simp, rfl⟩⟩
theorem NS.more (h : NS f wd js v l H v' l') {Z : List O} (hZ : Z.all ocl = true) : NS f wd js v l (H ++ Z) v' l' := by
 refine ⟨h.pre, ?_⟩
 rcases h.st with ⟨h1, h2, Y, h3, h4⟩ | ⟨h1, Y, A, h3, h4, h5, h6, h7⟩
 ·exact .inl ⟨h1, h2, Y ++ Z, by rw [h3, List.append_assoc], by simp only [List.all_append, h4, hZ, Bool.and_self]⟩
 ·exact .inr ⟨h1, Y ++ Z, A, by rw [h3, List.append_assoc], by simp only [List.all_append, h4, hZ, Bool.and_self], h5, h6, l9 h7⟩
theorem NS.eq (h : NS f wd js v l H v' l') (he : l'.length = l.length) : l' = l := by
 obtain ⟨t, rfl⟩ := h.pre
 rw [List.length_append] at he
 rw [List.length_eq_zero_iff.1 (show t.length = 0 by omega), List.append_nil]
theorem NS.nr (h : NS f wd js v l H v' l') (hr : NR f wd js v l) : NR f wd H v' l' := by
 rcases h.st with ⟨h1, h2, Y, h3, h4⟩ | ⟨h1, Y, A, h3, h4, h5, h6, h7⟩
 ·rw [h.eq h1, h2, h3]; exact hr.more Y
 ·exact .inr ⟨A, h6, h7⟩
theorem NS.lt (h : NS f wd js v l H v' l') (hlt : ltO js.length js = true) : ltO H.length H = true := by
 rcases h.st with ⟨h1, h2, Y, h3, h4⟩ | ⟨h1, Y, A, h3, h4, h5, h6, h7⟩
 ·rw [h3]; exact ad6 (by simp) hlt h4
 ·rw [h3]; exact ad6 (by simp [r8]) (bf4 hlt) h4
theorem NS.len (h : NS f wd js v l H v' l') : js.length ≤ H.length := by
 rcases h.st with ⟨h1, h2, Y, h3, h4⟩ | ⟨h1, Y, A, h3, h4, h5, h6, h7⟩
 ·rw [h3]; simp
 ·rw [h3]; simp [r8]
theorem kill_low (h : NR f wd js v l) {a : Nat} (ha : ∀ B o w n c, v = .sl B o w n c → a ≠ B) : hpL (al9 js v) a = hpL js a := by
 cases v <;> first | rfl | skip
 rename_i B o w n c
 simp only [al9]
 exact j2 (fun e => ha _ _ _ _ _ rfl e)
theorem bf5 (h : NR f wd js v l) {a : Nat} {cs : List V} (ha : hpL js a = .c false cs) : hpL (al9 js v) a = .c false cs := by
 rw [kill_low h, ha]
 rintro B o w n c rfl rfl
 rcases h with ⟨e, _⟩ | ⟨B', e, hB⟩
 ·cases e
 ·cases e; rw [hB] at ha; cases ha
theorem az5 (h : NR f wd js v l) {a : Nat} {cs : List V} (ha : hpL js a = .c false cs) (l2 : List α) : hpL (nmh f js v l l2) a = .c false cs := by
 unfold nmh
 split
 ·exact ha
 ·exact l9 (bf5 h ha)
theorem nm1_lt (h : ltO js.length js = true) (l2 : List α) : ltO js.length (nm1 js v l l2) = true := by
 unfold nm1
 split
 ·exact h
 ·exact bf4 h
theorem NS.grow (h : NS f wd js v l H v' l') (hr : NR f wd js v l) {m : List α} (hm : m ≠ []) {X : List O} (hX : X.all ocl = true) (hc : ∀ x, clL (f x) = true) :
  NS f wd js v l (al9 H v' ++ (X ++ [.c true (fl f (l' ++ m))])) (.sl (H.length + X.length) 0 wd (l' ++ m).length none) (l' ++ m) := by
 have hml : 0 < m.length := List.length_pos_iff.2 hm
 have hA : hpL (al9 H v' ++ (X ++ [O.c true (fl f (l' ++ m))])) (H.length + X.length) = .c true (fl f (l' ++ m)) := by
  have := hp_mid (us := al9 H v') (W := X) (I0 := []) (K := []) (o := O.c true (fl f (l' ++ m)))
  simp only [r8, List.append_nil, List.nil_append, List.length_nil, Nat.add_zero] at this
  exact this
 have ho : ([O.c true (fl f (l' ++ m))] : List O).all ocl = true := by simp only [List.all_cons, List.all_nil, ab8, fl_cl hc, Bool.and_self]
 refine ⟨h.pre.trans (List.prefix_append _ _), .inr ⟨?_, ?_⟩⟩
 ·have := h.pre.length_le; rw [List.length_append]; omega
 ·have hl := h.len
  rcases h.st with ⟨h1, h2, Y, h3, h4⟩ | ⟨h1, Y, A, h3, h4, h5, h6, h7⟩
  ·refine ⟨Y ++ (X ++ [.c true (fl f (l' ++ m))]), _, ?_, ?_, by omega, rfl, hA⟩
   ·rw [h2, h3, kill_app hr, List.append_assoc]
   ·simp only [List.all_append, h4, hX, ho, Bool.and_self]
  ·refine ⟨Y.set (A - js.length) .gone ++ (X ++ [.c true (fl f (l' ++ m))]), _, ?_, ?_, by omega, rfl, hA⟩
   ·rw [h6, h3]
    show (al9 js v ++ Y).set A O.gone ++ _ = _
    rw [List.set_append_right _ _ (by rw [r8]; exact h5), r8, List.append_assoc]
   ·simp only [List.all_append, ocl_gset h4, hX, ho, Bool.and_self]
theorem NS.call (h : NS f wd js v l H v' l') (hr : NR f wd js v l) {l2 : List α} (hp : l' <+: l2) (hc : ∀ x, clL (f x) = true) : NS f wd js v l (nmh f H v' l' l2) (nmv wd H v' l' l2) l2 := by
 unfold nmh nmv
 obtain ⟨m, rfl⟩ := hp
 by_cases he : (l' ++ m).length = l'.length
 ·rw [if_pos he, if_pos he]
  have : m = [] := by rw [List.length_append] at he; exact List.length_eq_zero_iff.1 (by omega)
  rw [this, List.append_nil]; exact h
 ·rw [if_neg he, if_neg he]
  have hm : m ≠ [] := fun e => he (by rw [e, List.append_nil])
  have := h.grow hr hm (X := []) rfl hc
  simpa using this
theorem NS.app (h : NS f wd js v l H v' l') (hr : NR f wd js v l) (hw : wd ≠ 0) (hf : ∀ x, (f x).length = wd) (hc : ∀ x, clL (f x) = true) {bytes : Nat} (m : List α) (hroom : room (l'.length + m.length) bytes = true) {X : List O} (hX : X.all ocl = true) :
  ∃ (H2 : List O) (v2 : V), NS f wd js v l H2 v2 (l' ++ m) ∧ (∀ a cs, hpL H a = .c false cs → hpL H2 a = .c false cs) ∧ ∀ rb k, rb + k = H.length + X.length → ah2 rb (H ++ (X ++ [.no])) k v' (some (fl f m)) (some m.length) wd bytes = some (v2, H2) := by
 have hr' := h.nr hr
 have hwb : Nat.beq wd 0 = false := by cases wd with | zero => exact (hw rfl).elim | succ n => rfl
 by_cases hm : m = []
 ·subst hm
  refine ⟨H ++ (X ++ [.no]), v', ?_, fun a cs ha => l9 ha, fun rb k e => ?_⟩
  ·rw [List.append_nil]
   exact h.more (by simp only [List.all_append, hX, List.all_cons, List.all_nil, ocl, Bool.and_self])
  ·rcases hr' with ⟨rfl, _⟩ | ⟨B, rfl, _⟩ <;> rfl
 ·have hm0 : Nat.beq m.length 0 = false := by
   cases m with
   | nil => exact (hm rfl).elim
   | cons a m => rfl
  refine ⟨_, _, h.grow hr hm hX hc, fun a cs ha => l9 (bf5 hr' ha), fun rb k e => ?_⟩
  have hl' : (l' ++ m).length = l'.length + m.length := by simp
  rcases hr' with ⟨rfl, rfl⟩ | ⟨B, rfl, hB⟩
  ·rw [ap_ns hm0 (by simpa using hroom), e, show H ++ (X ++ [O.no]) = (H ++ X) ++ [.no] by simp, ag7 (by simp)]
   simp [al9]
  ·have hBl := u6 hB
   rw [ap_sl hm0, l9 hB, an2 hm0 hwb (by rw [flw_len hf]; exact Nat.beq_refl _) hroom]
   have hs : aa3 (H ++ (X ++ [O.no])) B O.gone = some (H.set B .gone ++ (X ++ [O.no])) := ao2 hBl
   rw [hs, Option.bind_some]
   rw [show H.set B O.gone ++ (X ++ [O.no]) = (H.set B .gone ++ X) ++ [.no] by simp, ag7 (by simp [e])]
   rw [fl_app, e, hl']
   simp [al9]
theorem NS.pack (h : NS f wd js v l H v' l') (hr : NR f wd js v l) (hc : ∀ x, clL (f x) = true) :
  ∃ (Z : List O) (D : Nat → Prop) (ss : List Nat), H = nm1 js v l l' ++ Z ∧ Pack (nm1 js v l l').length (hpL H) D ss (nm2 f l l') ∧ Sr (hpL H) D (Rs (nm1 js v l l').length ss) v' (nmv wd js v l l') := by
 rw [be4]
 unfold nm1 nm2 nmv
 rcases h.st with ⟨h1, h2, Y, h3, h4⟩ | ⟨h1, Y, A, h3, h4, h5, h6, h7⟩
 ·rw [if_pos h1, if_pos h1, if_pos h1]
  refine ⟨Y, fun _ => False, [], h3, ⟨fun _ h => h.elim, fun k a e => by simp at e, fun j k a e => by simp at e, rfl, fun k a o e => by simp at e⟩, ?_⟩
  rw [h2]
  rcases hr with ⟨rfl, _⟩ | ⟨B, rfl, hB⟩
  ·exact .same _ rfl
  ·exact .sa _ _ _ _ _ _ (.inl ⟨rfl, u6 hB⟩)
 ·rw [if_neg (by omega), if_neg (by omega), if_neg (by omega)]
  refine ⟨Y, fun _ => False, [A], h3, ⟨fun _ h => h.elim, fun k a e => ?_, fun j k a e1 e2 => ?_, rfl, fun k a o e1 e2 => ?_⟩, ?_⟩
  ·cases k with
   | zero => simp at e; subst e; exact ⟨h5, id⟩
   | succ k => simp at e
  ·cases j <;> cases k <;> simp at e1 e2 <;> rfl
  ·cases k with
   | zero =>
     simp at e1 e2
     subst e1 e2
     rw [h7]
     refine .c true _ _ rfl (fun j x y e1 e2 => ?_)
     rw [e1] at e2; cases e2
     exact .same _ (ah1 (fl_cl hc l') e1)
   | succ k => simp at e1
  ·rw [h6]
   exact .sa _ _ _ _ _ _ (.inr ⟨0, rfl, rfl⟩)
structure RC {α : Type} (g : α → V) (js : List O) (lv : V) (l : List α) : Prop where
 len : lenE false lv = some (.i .i64 (l.length : Int))
 get : ∀ (i : Nat) (x : α), l[i]? = some x → ∃ ad : V, iadE 1 lv (.i .i64 (i : Int)) = some ad ∧ ∀ ks, ldE (hpL (js ++ ks)) 1 false ad = some (g x)
theorem RC.ts {g : α → V} (js : List O) (l : List α) : RC g js (.ts (l.map fun x => [g x])) l := ⟨by rw [ap5, List.length_map], fun i x hx => ⟨.tp [g x] 0, by rw [iad_i, as9, mg hx]; rfl, fun ks => rfl⟩⟩
theorem RC.ns {g : α → V} (js : List O) : RC g js .ns [] := ⟨rfl, fun i m hm => by simp at hm⟩
theorem RC.sl {g : α → V} {js : List O} {a : Nat} {gr : Bool} {l : List α} {z : List V} (h : hpL js a = .c gr (l.map g ++ z)) : RC g js (.sl a 0 1 l.length none) l := by
 refine ⟨as3, fun i x hx => ⟨.p a (i * 1), ac0 (List.getElem?_eq_some_iff.1 hx).1, fun ks => ?_⟩⟩
 rw [ld_p, l9 h, Nat.mul_one]
 have hi := (List.getElem?_eq_some_iff.1 hx).1
 have h1 : l.map g ++ z = (l.take i).map g ++ ([g x] ++ ((l.drop (i + 1)).map g ++ z)) := by
  conv => lhs; rw [← List.take_append_drop i l, v6 hx]
  simp
 exact bf2 (c := 0) (off := i) h1 (by rw [List.length_map, List.length_take, Nat.min_eq_left (Nat.le_of_lt hi)]) rfl
theorem RC.more {g : α → V} {js : List O} {lv : V} {l : List α} (h : RC g js lv l) (zs : List O) : RC g (js ++ zs) lv l := ⟨h.len, fun i x hx => by
 obtain ⟨ad, h1, h2⟩ := h.get i x hx
 exact ⟨ad, h1, fun ks => by rw [List.append_assoc]; exact h2 _⟩⟩
theorem RC.get0 {g : α → V} {js : List O} {lv : V} {l : List α} (h : RC g js lv l) {i : Nat} {x : α} (hx : l[i]? = some x) : ∃ ad : V, iadE 1 lv (.i .i64 (i : Int)) = some ad ∧ ldE (hpL js) 1 false ad = some (g x) := by
 obtain ⟨ad, h1, h2⟩ := h.get i x hx
 exact ⟨ad, h1, by simpa using h2 []⟩
end
theorem fl_cell {α : Type} (g : α → V) (l : List α) : fl (fun x => [g x]) l = l.map g := by
 induction l with
 | nil => rfl
 | cons x l ih => simp only [fl, List.map_cons, List.flatten_cons] at ih ⊢; rw [ih]; rfl
theorem NR.rc {α : Type} {g : α → V} {js : List O} {v : V} {l : List α} (h : NR (fun x => [g x]) 1 js v l) : RC g js v l := by
 rcases h with ⟨rfl, rfl⟩ | ⟨B, rfl, hB⟩
 ·exact RC.ns js
 ·exact RC.sl (z := []) (gr := true) (by rw [hB, fl_cell, List.append_nil])
end Go.Proofs.YtpbgbokclgbdlaaGreatDoor
