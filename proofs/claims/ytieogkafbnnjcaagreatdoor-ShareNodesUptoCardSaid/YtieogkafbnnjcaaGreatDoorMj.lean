/-
  The reference's parts: from the numbers.
  Variables that are replaced: what a name becomes, by the program's map and by the reference's list of turns.
  Variables that are replaced, in a clock.
  Variables that are replaced, in an expression: the program's.
  Variables that are replaced, in an expression: the reference's.
  Variables that are replaced, in declarations.
-/
import Derived.Test.YtieogkafbnnjcaaGreatDoorMi
set_option linter.unusedSimpArgs false
set_option linter.unusedVariables false
namespace Go.Proofs.YtieogkafbnnjcaaGreatDoor
open Go Go.B
def rgN (E : List Int) (i : Nat) : Nat → List Nat
 | 0 => []
 | k + 1 => rgN E i k ++ (if E[k]? = some (i : Int) then [k] else [])
def bg5 (E : List Int) : Nat → List (List Nat)
 | 0 => []
 | i + 1 => bg5 E i ++ (if E[i]? = some (i : Int) then [rgN E i E.length] else [])
theorem routs_len {E : List Int} : ∀ i, (bg5 E i).length ≤ i
 | 0 => Nat.le_refl _
 | i + 1 => by
   simp only [bg5, List.length_append]
   have := routs_len (E := E) i
   split <;> simp <;> omega
def lowE (E : List Int) : Prop := ∀ (k : Nat) (m : Int), E[k]? = some m → m ≤ (k : Int)
theorem rgN_nil {E : List Int} (hE : lowE E) {i : Nat} : ∀ k, k ≤ i → rgN E i k = []
 | 0, _ => rfl
 | k + 1, h => by
   have ih := rgN_nil hE (i := i) k (by omega)
   simp only [rgN, ih, List.nil_append]
   refine if_neg fun e => ?_
   have := hE k _ e
   omega
theorem lowE_emb {n : NNode} {p : List Nat} (hl : p.length = (p9 n).length) (hv : vld p) : lowE (emb n p) := by
 intro k m h
 obtain ⟨q, hq, _⟩ := ats (show k < n.eqs.length by have := (List.getElem?_eq_some_iff.1 h).1; rwa [ae0] at this)
 rcases ah5 hl hq with ⟨_, e⟩ | ⟨_, j, m', h1, h2, e⟩
 ·rw [h] at e; cases e; omega
 ·rw [h] at e; cases e
  have h3 := hv j m' h2
  have h4 := (List.getElem?_eq_some_iff.1 h1).1
  obtain ⟨d, hd, _⟩ := ats (show m' < (p9 n).length by omega)
  rw [ab0 hd]
  rcases Nat.lt_or_ge m' j with h5 | h5
  ·have := (ao8 hd h1).1.1 h5
   change d.ix < k at this
   omega
  ·have : m' = j := by omega
   subst this
   rw [hd] at h1; cases h1
   exact Int.le_refl _
def cnt (n : NNode) (k : Nat) : Nat := (dlL n 0 (n.eqs.take k)).length
theorem cnt_at {n : NNode} {k : Nat} {q : NEqn} (hq : n.eqs[k]? = some q) : (isD q = false → cnt n (k + 1) = cnt n k) ∧ (isD q = true → cnt n (k + 1) = cnt n k + 1 ∧ (p9 n)[cnt n k]? = some (mkDl n k q)) := by
 have h := ay9 (n := n) hq
 constructor
 ·intro hD
  rw [hD] at h
  simp only [Bool.false_eq_true, if_false, List.append_nil] at h
  unfold cnt
  rw [h]
 ·intro hD
  rw [hD] at h
  simp only [if_true] at h
  refine ⟨by unfold cnt; rw [h]; simp, ?_⟩
  have hpre : p9 n = dlL n 0 (n.eqs.take (k + 1)) ++ dlL n (0 + (n.eqs.take (k + 1)).length) (n.eqs.drop (k + 1)) := by
   rw [← dlL_app, List.take_append_drop]; rfl
  have hln : cnt n k < (dlL n 0 (n.eqs.take (k + 1))).length := by rw [h]; simp [cnt]
  rw [hpre, List.getElem?_append_left hln, h]
  unfold cnt
  rw [List.getElem?_append_right (Nat.le_refl _)]
  simp
theorem cnt_all (n : NNode) : cnt n n.eqs.length = (p9 n).length := by unfold cnt; rw [List.take_length]; rfl
theorem rgN_grp {n : NNode} {p : List Nat} (hl : p.length = (p9 n).length) (hv : vld p) {a : Nat} {x : Dl} (hx : (p9 n)[a]? = some x) : ∀ k, k ≤ n.eqs.length → rgN (emb n p) x.ix k = bf7 (p9 n) p a (cnt n k)
 | 0, _ => by simp [rgN, cnt, dlL, bf7]
 | k + 1, hk => by
   obtain ⟨q, hq, _⟩ := ats (show k < n.eqs.length by omega)
   simp only [rgN]
   rw [rgN_grp hl hv hx k (by omega)]
   obtain ⟨c1, c2⟩ := cnt_at hq
   rcases ah5 hl hq with ⟨hD, e⟩ | ⟨hD, j, m, h1, h2, e⟩
   ·rw [c1 hD, e, if_neg (by simp), List.append_nil]
   ·obtain ⟨c3, c4⟩ := c2 hD
    have hj : cnt n k = j := (ao8 c4 h1).2.2 rfl
    rw [c3, hj, bd6 h1 h2, e]
    congr 1
    have hml : m < (p9 n).length := by
     have := hv j m h2
     have := (List.getElem?_eq_some_iff.1 h1).1
     omega
    have hal := (List.getElem?_eq_some_iff.1 hx).1
    by_cases hma : m = a
    ·subst hma
     rw [if_pos rfl, if_pos (by rw [ab0 hx])]
     rfl
    ·rw [if_neg hma, if_neg (fun h => hma (ao3 hml hal (by rw [ab0 hx]; exact Option.some.inj h)))]
theorem part_root {dl : List Dl} {p : List Nat} (hl : p.length = dl.length) (hfix : r9 dl p = p) : ∀ (k m : Nat), p[k]? = some m → p[m]? = some m := by
 intro k
 induction k using Nat.strongRecOn with
 | ind k ih =>
   intro m hm
   have hk : k < dl.length := by rw [← hl]; exact (List.getElem?_eq_some_iff.1 hm).1
   rcases am3 hl hk with ⟨h1, _⟩ | ⟨k', m', hk', _, h2, h3⟩
   ·rw [hfix, hm] at h1; cases h1; exact hm
   ·rw [hfix] at h2 h3
    rw [hm] at h3; cases h3
    exact ih k' hk' m h2
theorem bi3 {n : NNode} {p : List Nat} (hl : p.length = (p9 n).length) (hv : vld p) (hfix : r9 (p9 n) p = p) : ∀ i, i ≤ n.eqs.length → bg5 (emb n p) i = ai8 (p9 n) p (cnt n i)
 | 0, _ => by simp [bg5, cnt, dlL, ai8]
 | i + 1, hi => by
   obtain ⟨q, hq, _⟩ := ats (show i < n.eqs.length by omega)
   simp only [bg5]
   rw [bi3 hl hv hfix i (by omega)]
   obtain ⟨c1, c2⟩ := cnt_at hq
   rcases ah5 hl hq with ⟨hD, e⟩ | ⟨hD, j, m, h1, h2, e⟩
   ·rw [c1 hD, e, if_neg (by simp), List.append_nil]
   ·obtain ⟨c3, c4⟩ := c2 hD
    have hj : cnt n i = j := (ao8 c4 h1).2.2 rfl
    rw [c3, hj, e]
    simp only [ai8]
    congr 1
    have hjl := (List.getElem?_eq_some_iff.1 h1).1
    have hml : m < (p9 n).length := by
     have := hv j m h2
     omega
    have hE : rgN (emb n p) i (emb n p).length = grp (p9 n) p j := by
     have := rgN_grp hl hv h1 n.eqs.length (Nat.le_refl _)
     rw [cnt_all] at this
     rw [ae0]
     exact this
    have hmem : ∀ z : Dl × Nat, z ∈ pz (p9 n) p j → False ∨ m = j := by
     intro z hz
     obtain ⟨hz2, k, _, hk2⟩ := pz_mem hz
     rw [hz2] at hk2
     have := part_root hl hfix k j hk2
     rw [h2] at this
     exact .inr (Option.some.inj this)
    by_cases hmj : m = j
    ·subst hmj
     rw [if_pos (by rw [ab0 h1]; rfl), hE]
     rw [if_neg]
     rw [grp_zip hl]
     intro hnil
     have hz : (mkDl n i q, m) ∈ pz (p9 n) p m := by
      refine List.mem_filter.2 ⟨?_, by simp⟩
      refine List.mem_of_getElem? (i := m) ?_
      rw [List.getElem?_zip_eq_some]
      exact ⟨h1, h2⟩
     rw [List.map_eq_nil_iff] at hnil
     rw [hnil] at hz
     cases hz
    ·rw [if_neg (fun h => hmj (ao3 hml hjl (by rw [ab0 h1]; exact Option.some.inj h)))]
     rw [if_pos]
     rw [grp_zip hl, List.map_eq_nil_iff]
     cases hpz : pz (p9 n) p j with
     | nil => rfl
     | cons z l => exact ((hmem z (by rw [hpz]; exact List.mem_cons_self ..)).elim id hmj).elim
theorem ap3 (n : NNode) : bg5 (emb n (fin (p9 n) (zer n))) (emb n (fin (p9 n) (zer n))).length = z9 n := by
 obtain ⟨h1, h2, h3⟩ := bd9 (ap0 n) (at7 n)
 rw [ae0, bi3 h2 h3 h1 _ (Nat.le_refl _), cnt_all]
 rfl
def bc8 : List (Str × Str) → Str → Option Str
 | [], _ => none
 | (k, t) :: l, s => if aa4 k s = true then some t else bc8 l s
theorem look_app : ∀ (l m : List (Str × Str)) (s : Str), bc8 (l ++ m) s = match bc8 l s with
  | some t => some t
  | none => bc8 m s
 | [], m, s => rfl
 | (k, t) :: l, m, s => by
   simp only [List.cons_append, bc8]
   split
   ·rfl
   ·exact look_app l m s
def skey (s : Str) : V := .s s.1 s.2
def ikey (i : Nat) : V := .i .i64 (i : Int)
theorem keyEq_s (s t : Str) : ar7 (skey s) (skey t) = true ↔ s = t := by
 obtain ⟨a, b⟩ := s; obtain ⟨c, d⟩ := t
 simp [ar7, af7, skey]
theorem keyEq_i (s t : Nat) : ar7 (ikey s) (ikey t) = true ↔ s = t := by
 simp [ar7, af7, ikey]; omega
structure MS {α : Type} (kt : KT) (kf : α → V) (es : List (V × V × Nat)) (f : α → Option Str) : Prop where
 lt : ∀ n, ltE n es = true
 ks : ∀ (j : Nat) (x : V × V × Nat), es[j]? = some x → ∃ s, x.1 = kf s
 h : ∀ s, (f s = none ∧ ar3 kt (kf s) es 0 = some none) ∨ ∃ n t c, f s = some t ∧ ar3 kt (kf s) es 0 = some (some n) ∧ es[n]? = some (kf s, .s t.1 t.2, c)
theorem MS.nil {α : Type} {kt : KT} {kf : α → V} : MS kt kf [] (fun _ => none) := ⟨fun _ => rfl, fun j x e => by simp at e, fun s => .inl ⟨rfl, rfl⟩⟩
theorem midx_fst {kt : KT} {k : V} : ∀ {es es' : List (V × V × Nat)} {j : Nat}, es.map (·.1) = es'.map (·.1) → ar3 kt k es j = ar3 kt k es' j
 | [], [], _, _ => rfl
 | [], _ :: _, _, h => by simp at h
 | _ :: _, [], _, h => by simp at h
 | (a, _) :: es, (b, _) :: es', j, h => by
   simp only [List.map_cons, List.cons.injEq] at h
   obtain ⟨rfl, h⟩ := h
   simp only [ar3, midx_fst h]
theorem midx_app {kt : KT} {k : V} : ∀ {es : List (V × V × Nat)} {x : V × V × Nat} {j : Nat}, kt.is x.1 = true →
  (ar3 kt k es j = some none → ar3 kt k (es ++ [x]) j = if ar7 k x.1 = true then some (some (j + es.length)) else some none) ∧ ∀ n, ar3 kt k es j = some (some n) → ar3 kt k (es ++ [x]) j = some (some n)
 | [], (a, v, c), j, h => by
   simp only at h
   refine ⟨fun _ => by simp [ar3, h], fun n e => by simp [ar3] at e⟩
 | (b, u) :: es, x, j, h => by
   obtain ⟨h1, h2⟩ := midx_app (k := k) (es := es) (x := x) (j := j + 1) h
   simp only [List.cons_append, ar3]
   by_cases hb : kt.is b = true
   ·rw [if_pos hb, if_pos hb]
    by_cases hk : ar7 k b = true
    ·rw [if_pos hk, if_pos hk]
     exact ⟨fun e => by simp at e, fun n e => e⟩
    ·rw [if_neg hk, if_neg hk]
     refine ⟨fun e => ?_, h2⟩
     rw [h1 e, List.length_cons]
     simp only [show j + 1 + es.length = j + (es.length + 1) by omega]
   ·rw [if_neg hb, if_neg hb]
    exact ⟨fun e => by simp at e, fun n e => by simp at e⟩
theorem ltE_app : ∀ {n : Nat} {es : List (V × V × Nat)} {k v : V} {c : Nat}, ltE n es = true → k.lt n = true → v.lt n = true → ltE n (es ++ [(k, v, c)]) = true
 | n, [], k, v, c, _, h1, h2 => by simp [ltE, h1, h2]
 | n, (a, b, d) :: es, k, v, c, h, h1, h2 => by
   simp only [ltE, Bool.and_eq_true] at h
   simp only [List.cons_append, ltE, Bool.and_eq_true]
   exact ⟨h.1, ltE_app h.2 h1 h2⟩
theorem ltE_set : ∀ {n : Nat} {es : List (V × V × Nat)} {j : Nat} {k v : V} {c : Nat}, ltE n es = true → k.lt n = true → v.lt n = true → ltE n (es.set j (k, v, c)) = true
 | n, [], j, k, v, c, _, h1, h2 => rfl
 | n, (a, b, d) :: es, 0, k, v, c, h, h1, h2 => by
   simp only [ltE, Bool.and_eq_true] at h
   simp only [List.set_cons_zero, ltE, Bool.and_eq_true]
   exact ⟨⟨h1, h2⟩, h.2⟩
 | n, (a, b, d) :: es, j + 1, k, v, c, h, h1, h2 => by
   simp only [ltE, Bool.and_eq_true] at h
   simp only [List.set_cons_succ, ltE, Bool.and_eq_true]
   exact ⟨h.1, ltE_set h.2 h1 h2⟩
theorem MS.put {α : Type} [DecidableEq α] {kt : KT} {kf : α → V} {es : List (V × V × Nat)} {f : α → Option Str} (h : MS kt kf es f) (hk : ∀ s, kt.is (kf s) = true) (hq : ∀ s t, ar7 (kf s) (kf t) = true ↔ s = t) (hc : ∀ s, (kf s).cl = true)
  {hs : List O} {a ck : Nat} (ha : hpL hs a = .m es ck) (k : α) (t : Str) :
  ∃ es' ck', mstB hs kt (kf k) (.s t.1 t.2) (.m a) = ac5 hs a (.m es' ck') ∧ MS kt kf es' (fun s => if s = k then some t else f s) := by
 have hinj : ∀ {s t : α}, kf s = kf t → s = t := fun {s t} e => (hq s t).1 (by rw [e]; exact (hq t t).2 rfl)
 have hlk : ∀ n, (kf k).lt n = true := fun n => V.lt_of_cl n _ (hc k)
 have hlt : ∀ n, (V.s t.1 t.2).lt n = true := fun n => by simp only [V.lt]
 rcases h.h k with ⟨h1, h2⟩ | ⟨n, t0, c, h1, h2, h3⟩
 ·refine ⟨es ++ [(kf k, .s t.1 t.2, ck)], ck + 1, ?_, fun n => ltE_app (h.lt n) (hlk n) (hlt n), fun j x e => ?_, fun s => ?_⟩
  ·simp only [mstB, ha, hk, if_true, h2]
  ·rcases Nat.lt_or_ge j es.length with hj | hj
   ·rw [List.getElem?_append_left hj] at e; exact h.ks j x e
   ·rw [List.getElem?_append_right hj] at e
    cases hm : j - es.length with
    | zero => rw [hm] at e; simp at e; exact ⟨k, by rw [← e]⟩
    | succ m => rw [hm] at e; simp at e
  ·obtain ⟨g1, g2⟩ := midx_app (kt := kt) (k := kf s) (es := es) (x := (kf k, .s t.1 t.2, ck)) (j := 0) (hk k)
   by_cases hsk : s = k
   ·subst hsk
    refine .inr ⟨es.length, t, ck, by rw [if_pos rfl], ?_, by simp⟩
    rw [g1 h2, if_pos ((hq s s).2 rfl), Nat.zero_add]
   ·rw [if_neg hsk]
    rcases h.h s with ⟨q1, q2⟩ | ⟨n, t1, c, q1, q2, q3⟩
    ·refine .inl ⟨q1, ?_⟩
     rw [g1 q2, if_neg (fun e => hsk ((hq s k).1 e))]
    ·exact .inr ⟨n, t1, c, q1, g2 n q2, by rw [List.getElem?_append_left (List.getElem?_eq_some_iff.1 q3).1]; exact q3⟩
 ·have hn := (List.getElem?_eq_some_iff.1 h3).1
  have hmap : (es.set n (kf k, .s t.1 t.2, c)).map (·.1) = es.map (·.1) := by
   apply List.ext_getElem?
   intro i
   rw [List.getElem?_map, List.getElem?_map, List.getElem?_set]
   split
   ·rename_i e
    subst e
    simp [hn, h3]
    have := (List.getElem?_eq_some_iff.1 h3).2
    rw [this]
   ·rfl
  refine ⟨es.set n (kf k, .s t.1 t.2, c), ck, ?_, fun m => ltE_set (h.lt m) (hlk m) (hlt m), fun j x e => ?_, fun s => ?_⟩
  ·simp only [mstB, ha, hk, if_true, h2, h3]
  ·rw [List.getElem?_set] at e
   by_cases hnj : n = j
   ·rw [if_pos hnj, if_pos hn] at e
    cases e
    exact ⟨k, rfl⟩
   ·rw [if_neg hnj] at e
    exact h.ks j x e
  ·rw [midx_fst hmap]
   by_cases hsk : s = k
   ·subst hsk
    exact .inr ⟨n, t, c, by rw [if_pos rfl], h2, by simp [hn]⟩
   ·rw [if_neg hsk]
    rcases h.h s with ⟨q1, q2⟩ | ⟨m, t1, c1, q1, q2, q3⟩
    ·exact .inl ⟨q1, q2⟩
    ·refine .inr ⟨m, t1, c1, q1, q2, ?_⟩
     rw [List.getElem?_set]
     split
     ·rename_i e
      subst e
      rw [h3] at q3
      simp only [Option.some.injEq, Prod.mk.injEq] at q3
      exact (hsk (hinj q3.1).symm).elim
     ·exact q3
theorem MS.get {α : Type} {kt : KT} {kf : α → V} {es : List (V × V × Nat)} {f : α → Option Str} (h : MS kt kf es f) (hk : ∀ s, kt.is (kf s) = true) {hp : Hp} {a ck : Nat} (ha : hp a = .m es ck) (s : α) :
  lkpE hp kt false [.s 0 0] true (.m a) (kf s) = some (match f s with
   | some t => .tu [.s t.1 t.2, .b true]
   | none => .tu [.s 0 0, .b false]) := by
 have hz : ax9 false [V.s 0 0] = some (.s 0 0) := rfl
 rcases h.h s with ⟨h1, h2⟩ | ⟨n, t, c, h1, h2, h3⟩
 ·simp only [lkpE, hz, lkpV, hk, if_true, ha, h2, h1]
 ·simp only [lkpE, hz, lkpV, hk, if_true, ha, h2, h1, h3]
structure NmC (f : FuncId) (js : List O) (mv : V) (ρ : Str → Str) : Prop where
 lt : ltO js.length js = true
 ac : ∀ (ks : List O), ltO (js ++ ks).length (js ++ ks) = true → ∀ s : Str, ACalls Tryz.prog f [mv, .s s.1 s.2] (hpL (js ++ ks)) (js ++ ks).length (.s (ρ s).1 (ρ s).2) (hpL (js ++ ks)) (js ++ ks).length
theorem NmC.more {f : FuncId} {js : List O} {mv : V} {ρ : Str → Str} (h : NmC f js mv ρ) {zs : List O} (hz : ltO (js ++ zs).length (js ++ zs) = true) : NmC f (js ++ zs) mv ρ :=
 ⟨hz, fun ks hk s => by rw [List.append_assoc] at hk ⊢; exact h.ac _ hk s⟩
theorem NmC.aco {f : FuncId} {js : List O} {mv : V} {ρ : Str → Str} (h : NmC f js mv ρ) (ks : List O) (hk : ks.all ocl = true) (s : Str) : ACalls Tryz.prog f [mv, .s s.1 s.2] (hpL (js ++ ks)) (js ++ ks).length (.s (ρ s).1 (ρ s).2) (hpL (js ++ ks)) (js ++ ks).length :=
 h.ac ks (ah1 (by simp) h.lt hk) s
theorem NmC.moreo {f : FuncId} {js : List O} {mv : V} {ρ : Str → Str} (h : NmC f js mv ρ) {zs : List O} (hz : zs.all ocl = true) : NmC f (js ++ zs) mv ρ := h.more (ah1 (by simp) h.lt hz)
theorem hpm_more {js ks : List O} {a ck : Nat} {es : List (V × V × Nat)} (h : hpL js a = .m es ck) : hpL (js ++ ks) a = .m es ck := by
 have : a < js.length := by
  rcases Nat.lt_or_ge a js.length with q | q
  ·exact q
  ·rw [hpL_ge q] at h; cases h
 rw [ay1 this, h]
theorem mname_nm {js : List O} {a ck : Nat} {es : List (V × V × Nat)} {f : Str → Option Str} (ha : hpL js a = .m es ck) (hm : MS (.k .s) skey es f) (hlt : ltO js.length js = true) : NmC 49 js (.m a) (fun s => (f s).getD s) := by
 refine ⟨hlt, fun ks hlt' s => ?_⟩
 have ha' : hpL (js ++ ks) a = .m es ck := hpm_more ha
 have hl := hm.get (fun s => rfl) ha' s
 unfold skey at hl
 refine p8 Tryz.func49 k49 rfl rfl (by simp only [V.lt]) hlt' ?_
 generalize js ++ ks = us at hl
 cases hf : f s with
 | none =>
   rw [hf] at hl
   simp only at hl
   repeat' (first
    | (simp only [c49, aa8, aa7, hl, Option.getD_none, SXR, simprocAttr]))
   exact ⟨[], by simp⟩
 | some t =>
   rw [hf] at hl
   simp only at hl
   repeat' (first
    | (simp only [c49, aa8, aa7, hl, Option.getD_some, SXR, simprocAttr]))
   exact ⟨[], by simp⟩
structure RT (js : List O) (v : V) (l : List (Str × Str)) : Prop where
 len : lenE false v = some (.i .i64 (l.length : Int))
 get : ∀ (i : Nat) (x : Str × Str), l[i]? = some x → ∃ a off : Nat, iadE 2 v (.i .i64 (i : Int)) = some (.p a off) ∧ ∀ ks, ldE.ldO 1 false off (hpL (js ++ ks) a) = some (.s x.1.1 x.1.2) ∧ ldE.ldO 1 false (off + 1) (hpL (js ++ ks) a) = some (.s x.2.1 x.2.2)
def trow (x : Str × Str) : List V := [.s x.1.1 x.1.2, .s x.2.1 x.2.2]
theorem trow_w (l : List (Str × Str)) : ∀ r, r ∈ l.map trow → r.length = 2 := by
 intro r hr
 obtain ⟨x, _, rfl⟩ := List.mem_map.1 hr
 rfl
theorem RT.ns (js : List O) : RT js .ns [] := ⟨rfl, fun i x h => by simp at h⟩
theorem RT.sl {js : List O} {a : Nat} {gr : Bool} {l : List (Str × Str)} (h : hpL js a = .c gr (l.map trow).flatten) : RT js (.sl a 0 2 l.length none) l := by
 refine ⟨ah2, fun i x hx => ⟨a, i * 2, al4 (List.getElem?_eq_some_iff.1 hx).1, fun ks => ?_⟩⟩
 rw [ac7 h]
 obtain ⟨p, q, hf, hp⟩ := ao0 (trow_w l) (mg (f := trow) hx)
 exact ⟨bc9 (c := 0) hf hp rfl, bc9 (c := 1) hf hp rfl⟩
theorem RT.more {js : List O} {v : V} {l : List (Str × Str)} (h : RT js v l) (zs : List O) : RT (js ++ zs) v l := ⟨h.len, fun i x hx => by
 obtain ⟨a, off, h1, h2⟩ := h.get i x hx
 exact ⟨a, off, h1, fun ks => by rw [List.append_assoc]; exact h2 _⟩⟩
theorem rturn_nm {js : List O} {v : V} {l : List (Str × Str)} (hr : RT js v l) (hn : l.length < 30000000) (hlt : ltO js.length js = true) : NmC 57 js v (fun s => (bc8 l s).getD s) := by
 refine ⟨hlt, fun ks hlt' s => ?_⟩
 have hr' := hr.more ks
 clear hr hlt
 generalize js ++ ks = us at hlt' hr'
 have hvl := hr'.len
 refine p8 Tryz.func57 k57 rfl rfl (by simp only [V.lt]) hlt' ?_
 repeat' (first
  | (simp only [c57, aa8, aa7, SXR, simprocAttr]))
 refine o8 (X := Nat) (fun i ll hs => Hd (fun j => [v, .s s.1 s.2, j 2, j 3, .s 0 0, .i .i64 (i : Int), j 6, j 7, j 8, j 9, j 10, j 11, j 12, j 13, j 14, j 15, j 16, j 17, j 18, j 19, j 20, j 21, j 22, j 23, j 24]) ll ∧ hs = us)
  (fun i => i ≤ l.length ∧ bc8 l s = bc8 (l.drop i) s) (fun i => l.length - i) ?_ 0 _ _ (by exact ⟨rfl, rfl⟩) ⟨Nat.zero_le _, rfl⟩
 rintro i _ _ ⟨e, rfl⟩ ⟨hi, hinv⟩ IH
 obtain ⟨j, rfl⟩ := e.open
 clear e
 by_cases hil : i < l.length
 ·obtain ⟨x, hx, _⟩ := ats hil
  obtain ⟨a, off, hia, hld⟩ := hr'.get i x hx
  have hld := hld []
  rw [List.append_nil] at hld
  obtain ⟨h1, h2⟩ := hld
  have hd := ltd hil
  have hw := l6 (n := i) (by omega)
  rw [u9 hx] at hinv
  obtain ⟨k, t⟩ := x
  simp only [bc8] at hinv
  simp only at h1 h2
  cases hb : aa4 k s with
  | true =>
    rw [if_pos hb] at hinv
    rw [hinv]
    unfold aa4 at hb
    repeat' (first
     | (simp only [c57, aa8, aa7, hvl, hia, h1, h2, hd, hb, Option.getD_some, SXR, simprocAttr]))
    exact ⟨[], by simp⟩
  | false =>
    rw [if_neg (by simp [hb])] at hinv
    unfold aa4 at hb
    repeat' (first
     | (simp only [c57, aa8, aa7, hvl, hia, h1, h2, hd, hb, hw, SXR, simprocAttr]))
    exact IH (i + 1) _ _ (by exact ⟨rfl, rfl⟩) ⟨hil, hinv⟩ (by omega)
 ·clear IH
  have hd := ltn hil
  rw [List.drop_eq_nil_of_le (by omega)] at hinv
  simp only [bc8] at hinv
  rw [hinv]
  repeat' (first
   | (simp only [c57, aa8, aa7, hvl, hd, Option.getD_none, SXR, simprocAttr]))
  exact ⟨[], by simp⟩
theorem ao7 {n m : Nat} {js : List O} (h : ltO n js = true) (hnm : n ≤ m) : ltO m js = true := by simpa using ah1 hnm h (zs := []) rfl
theorem GT.lt {base wd n m : Nat} {v : V} {T0 T : List O} {cs : List V} (h : GT base wd n v T0 T cs) (hm : base + T.length ≤ m) : v.lt m = true := by
 rcases h with ⟨_, h2, _, _⟩ | ⟨_, h2, h3, _⟩
 ·rw [h2]; simp only [V.lt]
 ·rw [h3]; rw [h2] at hm; simp only [List.length_append, List.length_singleton] at hm; simp only [V.lt, decide_eq_true_eq]; omega
theorem GT.st {base wd n : Nat} {v : V} {T0 T : List O} {cs : List V} (h : GT base wd n v T0 T cs) : B.stored v = some [v] := by
 rcases h with ⟨_, h2, _, _⟩ | ⟨_, _, h3, _⟩
 ·rw [h2]; rfl
 ·rw [h3]; rfl
theorem as1 {P W J T0 T : List O} {base wd n bytes : Nat} {v : V} {cs r : List V} (hp : P.length = base) (h : GT base wd n v T0 T cs) (hW : W = T ++ J) (hw : wd ≠ 0) (hr : r.length = wd) (hroom : room (n + 1) bytes = true) (X : List O) :
  ∃ (v' : V) (T0' T' J' : List O), GT base wd (n + 1) v' T0' T' (cs ++ r) ∧ (∀ rb k, rb + k = base + (W.length + X.length) → ah6 rb (P ++ (W ++ (X ++ [.no]))) k v (some r) (some 1) wd bytes = some (v', P ++ (T' ++ J')))
   ∧ (T.all ocl = true → J.all ocl = true → X.all ocl = true → clL (cs ++ r) = true → T'.all ocl = true ∧ J'.all ocl = true) := by
 obtain ⟨v', T0', T', J', h1, h2, h3⟩ := h.appR (rows := [r]) (bytes := bytes) hw (by simpa using hr) hroom (J ++ X)
 have hf : [r].flatten = r := by simp
 rw [hf] at h1 h2 h3
 refine ⟨v', T0', T', J', h1, fun rb k e => ?_, fun a b c d => h3 a (by simp only [List.all_append, b, c, Bool.and_self]) d⟩
 have := h2 P rb k hp (by rw [e, hW]; simp; omega)
 rw [hW]
 simp only [List.append_assoc] at this ⊢
 exact this
theorem gt_se {P J T0 T : List O} {base wd n : Nat} {v : V} {rs : List (List V)} {cs : List V} {D : Nat → Prop} (hp : P.length = base) (h : GT base wd n v T0 T cs) (hc : cs = rs.flatten) (hn : rs.length = n) (hw : ∀ r, r ∈ rs → r.length = wd) (hD : ∀ a, base ≤ a → D a) : Se (hpL (P ++ (T ++ J))) D v (.ts rs) := by
 rcases h with ⟨h1, h2, h3, h4⟩ | ⟨h1, h2, h3, h4⟩
 ·subst h1
  rw [List.length_eq_zero_iff.1 hn, h2]
  exact .nil
 ·rw [h3]
  refine Se.flat' (cs := cs) (gr := true) ?_ hc hn (hD _ (by omega)) hw
  have := hp_mid (us := P) (W := []) (I0 := T0) (K := J) (o := .c true cs)
  rw [h2, ← hp]
  simpa using this
theorem gt_se3 {js J T0 T : List O} {a b c : O} {wd n : Nat} {v : V} {rs : List (List V)} {cs : List V} {D : Nat → Prop} (h : GT (js.length + 3) wd n v T0 T cs) (hc : cs = rs.flatten) (hn : rs.length = n) (hw : ∀ r, r ∈ rs → r.length = wd) (hD : ∀ a, js.length + 3 ≤ a → D a) : Se (hpL (js ++ a :: b :: c :: (T ++ J))) D v (.ts rs) := by
 have := gt_se (P := js ++ [a, b, c]) (J := J) (by simp) h hc hn hw hD
 simpa only [List.append_assoc, List.cons_append, List.nil_append] using this
theorem gt_app3 {js W J T0 T : List O} {wd n bytes : Nat} {v : V} {cs r : List V} (h : GT (js.length + 3) wd n v T0 T cs) (hW : W = T ++ J) (hw : wd ≠ 0) (hr : r.length = wd) (hroom : room (n + 1) bytes = true) (X : List O) (a b c : O) :
  ∃ (v' : V) (T0' T' J' : List O), GT (js.length + 3) wd (n + 1) v' T0' T' (cs ++ r) ∧ (∀ rb k, rb + k = js.length + (W.length + (X.length + 3)) → ah6 rb (js ++ a :: b :: c :: (W ++ (X ++ [.no]))) k v (some r) (some 1) wd bytes = some (v', js ++ a :: b :: c :: (T' ++ J')))
   ∧ (T.all ocl = true → J.all ocl = true → X.all ocl = true → clL (cs ++ r) = true → T'.all ocl = true ∧ J'.all ocl = true) := by
 obtain ⟨v', T0', T', J', h1, h2, h3⟩ := as1 (P := js ++ [a, b, c]) (bytes := bytes) (by simp) h hW hw hr hroom X
 refine ⟨v', T0', T', J', h1, fun rb k e => ?_, h3⟩
 have := h2 rb k (by omega)
 simpa only [List.append_assoc, List.cons_append, List.nil_append] using this
theorem lt3 {js W : List O} {a b : O} {cs : List V} (h : ltO js.length js = true) (ha : ocl a = true) (hb : ocl b = true) (hc : ltL (js.length + 3 + W.length) cs = true) (hW : W.all ocl = true) : ltO (js ++ a :: b :: .c false cs :: W).length (js ++ a :: b :: .c false cs :: W) = true := by
 have e : (js ++ a :: b :: O.c false cs :: W).length = js.length + 3 + W.length := by simp; omega
 rw [e]
 refine aa5 (ao7 h (by omega)) ?_
 have hcs : (O.c false cs).lt (js.length + 3 + W.length) = true := hc
 simp only [ltO, hcs, am5 ha, am5 hb, af4 hW, Bool.and_self]
theorem acl_fdrop {P : Program} {f : FuncId} {xs : List V} {js Z : List O} {r y : V} (h : ACalls P f xs (hpL js) js.length r (hpL (js ++ Z)) (js ++ Z).length) (hs : Se (hpL (js ++ Z)) (fun a => js.length ≤ a) r y) (hy : y.cl = true) (ho : ltO js.length js = true) :
  ACalls P f xs (hpL js) js.length y (hpL js) js.length := by
 refine ⟨h.1, fun w g vs hH hv => (h.2 w g vs hH hv).mono fun e w' hp => ?_⟩
 refine APost.drop hH (APost.frzD hp hs) (V.lt_of_cl _ _ hy) (fun a ha => ?_) (fun a ha => ?_)
 ·have e1 : js[a]? = some js[a] := by simp [ha]
  have e3 : hpL js a = js[a] := by simp only [hpL, List.getD_eq_getElem?_getD, e1]; rfl
  have e4 : aq0 (hpL (js ++ Z)) (fun a => js.length ≤ a) a = js[a] := by
   simp only [aq0]
   rw [if_neg (by omega), ay1 ha, e3]
  rw [e4, e3]
  exact ⟨rfl, ltO_get ho e1⟩
 ·have : js[a]? = none := List.getElem?_eq_none (by omega)
  simp only [hpL, List.getD_eq_getElem?_getD, this]
  rfl
theorem seq_ex {α : Type} {R : Nat → α → α → Prop} {Inv : Nat → α → Prop} {n : Nat} {a0 : α} (h0 : Inv 0 a0) (hs : ∀ i a, i < n → Inv i a → ∃ b, R i a b ∧ Inv (i + 1) b) : ∃ S : Nat → α, S 0 = a0 ∧ (∀ i, i ≤ n → Inv i (S i)) ∧ ∀ i, i < n → R i (S i) (S (i + 1)) := by
 classical
 let S : Nat → α := fun i => Nat.rec a0 (fun i a => if h : ∃ b, R i a b ∧ Inv (i + 1) b then Classical.choose h else a) i
 have hS : ∀ i, S (i + 1) = if h : ∃ b, R i (S i) b ∧ Inv (i + 1) b then Classical.choose h else S i := fun i => rfl
 have hi : ∀ i, i ≤ n → Inv i (S i) := by
  intro i
  induction i with
  | zero => intro _; exact h0
  | succ i ih =>
    intro hin
    have hx := hs i (S i) (by omega) (ih (by omega))
    rw [hS, dif_pos hx]
    exact (Classical.choose_spec hx).2
 refine ⟨S, rfl, hi, fun i hin => ?_⟩
 have hx := hs i (S i) hin (hi i (by omega))
 rw [hS, dif_pos hx]
 exact (Classical.choose_spec hx).1
def On.rn (ρ : Str → Str) (o : On) : On := ⟨ρ o.nm, o.t, o.tag⟩
def Decl.rn (ρ : Str → Str) (d : Decl) : Decl := ⟨d.nm, d.ty, d.ck.map (On.rn ρ)⟩
def vB (k : Int) : Bool := k == 2 || k == 8 || k == 9
mutual
def Ex.rn (ρ : Str → Str) : Ex → Ex
 | .mk k op t v nl nn l => .mk k op t v (if vB k = true then ρ (nl, nn) else (nl, nn)).1 (if vB k = true then ρ (nl, nn) else (nl, nn)).2 (Ex.rns ρ l)
def Ex.rns (ρ : Str → Str) : List Ex → List Ex
 | [] => []
 | e :: l => Ex.rn ρ e :: Ex.rns ρ l
end
theorem bb0 (ρ : Str → Str) : ∀ l : List Ex, Ex.rns ρ l = l.map (Ex.rn ρ)
 | [] => by simp only [Ex.rns, List.map_nil]
 | e :: l => by simp only [Ex.rns, List.map_cons, bb0 ρ l]
def evN (ρ : Str → Str) (s : Str) : Str := if (s.1 == 0 && s.2 == 0) = true then s else ρ s
theorem evN_t {ρ : Str → Str} {s : Str} (h : (s.1 == 0 && s.2 == 0) = true) : evN ρ s = s := if_pos h
theorem evN_f {ρ : Str → Str} {s : Str} (h : (s.1 == 0 && s.2 == 0) = false) : evN ρ s = ρ s := if_neg (by simp [h])
def NEqn.rn (ρ : Str → Str) (q : NEqn) : NEqn := ⟨q.kind, q.left, q.right.rn ρ, q.init, q.node, q.args.map (Ex.rn ρ), evN ρ q.every, q.ck.map (On.rn ρ)⟩
def onr (ρ : Str → Str) (o : On) : List V := [.s (ρ o.nm).1 (ρ o.nm).2, .i .i64 o.t, .i .i64 o.tag]
theorem onr_map (ρ : Str → Str) (l : List On) : (l.map (On.rn ρ)).map On.row = l.map (onr ρ) := by rw [List.map_map]; rfl
theorem al0 {α : Type} {f : α → List V} (hf : ∀ x, clL (f x) = true) (l : List α) (i : Nat) : clL (cells f l i) = true := by
 unfold cells
 generalize l.take i = m
 induction m with
 | nil => rfl
 | cons x m ih => simp only [List.map_cons, List.flatten_cons, af6, hf x, ih, Bool.and_self]
theorem bc5 {js : List O} {mv : V} {ρ : Str → Str} (h : NmC 49 js mv ρ) (ck : List On) (hn : Lst.ok ck) : ACalls Tryz.prog 23 [mv, .ts (ck.map On.row)] (hpL js) js.length (.ts ((ck.map (On.rn ρ)).map On.row)) (hpL js) js.length := by
 unfold Lst.ok at hn
 rw [onr_map]
 refine ai1 Tryz.func23 k23 rfl rfl (by simp only [V.cl]; exact ad1 (fun _ => rfl) ck) h.lt ?_
 repeat' (first
  | (simp only [c23, ae7, ae6, List.length_map, SXR, simprocAttr]))
 refine o8 (X := Nat) (fun i ll hs => ∃ (v : V) (T0 T J : List O), Hd (fun j => [mv, .ts (ck.map On.row), j 2, j 3, .ns, v, j 6, j 7, .ts (ck.map On.row), .i .i64 (ck.length : Int), .i .i64 (i : Int), j 11, j 12, j 13, j 14, j 15, j 16, j 17, j 18, j 19, j 20, j 21, j 22, j 23, j 24]) ll ∧ hs = js ++ (T ++ J) ∧
   GT js.length 3 i v T0 T (cells (onr ρ) ck i) ∧ T.all ocl = true ∧ J.all ocl = true)
  (fun i => i ≤ ck.length) (fun i => ck.length - i) ?_ 0 _ _ (by exact ⟨.ns, [], [], [], rfl, by simp, .inl ⟨rfl, rfl, rfl, rfl⟩, rfl, rfl⟩) (Nat.zero_le _)
 rintro i _ _ ⟨v, T0, T, J, e, rfl, hGT, hTc, hJc⟩ hi IH
 obtain ⟨j, rfl⟩ := e.open
 clear e
 by_cases hil : i < ck.length
 ·obtain ⟨W, hW⟩ : ∃ W, W = T ++ J := ⟨_, rfl⟩
  rw [← hW]
  obtain ⟨x, hx, _⟩ := ats hil
  have hxr := mg (f := On.row) hx
  have hd := ltd hil
  have hw := l6 (n := i) (by omega)
  have hroom := p6 (n := i + 1) (b := 32) (by omega) (by omega)
  have hWc : W.all ocl = true := by rw [hW]; simp only [List.all_append, hTc, hJc, Bool.and_self]
  have hc := h.aco (W ++ [.c false x.row]) (by simp only [List.all_append, List.all_cons, List.all_nil, hWc, t8, on_cl, Bool.and_self]) x.nm
  obtain ⟨v', T0', T', J', hgt, hap, hoc⟩ := as1 rfl hGT hW (by omega) (show (onr ρ x).length = 3 from rfl) hroom [.c false (onr ρ x), .c false (onr ρ x)]
  rw [ad5 hx] at hgt hoc
  obtain ⟨hTc', hJc'⟩ := hoc hTc hJc rfl (al0 (fun _ => rfl) _ _)
  have hap' : ∀ (rb k' : Nat), rb + k' = js.length + (W.length + 2) → ah6 rb (js ++ (W ++ [.c false (onr ρ x), .c false (onr ρ x), .no])) k' v (some (onr ρ x)) (some 1) 3 32 = some (v', js ++ (T' ++ J')) := hap
  simp only [onr] at hap'
  simp only [On.row] at hc
  clear hap hoc hGT hW
  repeat' (first
   | (with_reducible refine i7 (hc) ?_)
   | (simp only [c23, ae7, ae6, List.length_map, hxr, hd, hw, ar1, On.row, hap', Nat.add_assoc, SXR, simprocAttr]))
  exact IH (i + 1) _ _ (by exact ⟨v', T0', T', J', rfl, rfl, hgt, hTc', hJc'⟩) hil (by omega)
 ·clear IH
  have hie : i = ck.length := by omega
  subst hie
  have hd := ltn hil
  repeat' (first
   | (simp only [c23, ae7, ae6, List.length_map, hd, SXR, simprocAttr]))
  exact ⟨gt_se rfl hGT af2 (by simp) (mem_map (f := onr ρ) (wd := 3) (fun _ => rfl) ck) (fun a h => h), _, rfl⟩
theorem bb3 {js : List O} {mv : V} {ρ : Str → Str} (h : NmC 57 js mv ρ) (ck : List On) (hn : Lst.ok ck) : ACalls Tryz.prog 29 [mv, .ts (ck.map On.row)] (hpL js) js.length (.ts ((ck.map (On.rn ρ)).map On.row)) (hpL js) js.length := by
 unfold Lst.ok at hn
 rw [onr_map]
 refine ai1 Tryz.func29 k29 rfl rfl (by simp only [V.cl]; exact ad1 (fun _ => rfl) ck) h.lt ?_
 repeat' (first
  | (simp only [c29, ae7, ae6, List.length_map, SXR, simprocAttr]))
 refine o8 (X := Nat) (fun i ll hs => ∃ (v : V) (T0 T J : List O), Hd (fun j => [mv, .ts (ck.map On.row), j 2, j 3, .ns, v, .i .i64 (i : Int), j 7, j 8, j 9, j 10, j 11, j 12, j 13, j 14, j 15, j 16, j 17, j 18, j 19, j 20, j 21, j 22, j 23, j 24, j 25, j 26, j 27]) ll ∧ hs = js ++ (T ++ J) ∧
   GT js.length 3 i v T0 T (cells (onr ρ) ck i) ∧ T.all ocl = true ∧ J.all ocl = true)
  (fun i => i ≤ ck.length) (fun i => ck.length - i) ?_ 0 _ _ (by exact ⟨.ns, [], [], [], rfl, by simp, .inl ⟨rfl, rfl, rfl, rfl⟩, rfl, rfl⟩) (Nat.zero_le _)
 rintro i _ _ ⟨v, T0, T, J, e, rfl, hGT, hTc, hJc⟩ hi IH
 obtain ⟨j, rfl⟩ := e.open
 clear e
 by_cases hil : i < ck.length
 ·obtain ⟨W, hW⟩ : ∃ W, W = T ++ J := ⟨_, rfl⟩
  rw [← hW]
  obtain ⟨x, hx, _⟩ := ats hil
  have hxr := mg (f := On.row) hx
  have hd := ltd hil
  have hw := l6 (n := i) (by omega)
  have hroom := p6 (n := i + 1) (b := 32) (by omega) (by omega)
  have hWc : W.all ocl = true := by rw [hW]; simp only [List.all_append, hTc, hJc, Bool.and_self]
  have hc := h.aco (W ++ [.c false x.row]) (by simp only [List.all_append, List.all_cons, List.all_nil, hWc, t8, on_cl, Bool.and_self]) x.nm
  obtain ⟨v', T0', T', J', hgt, hap, hoc⟩ := as1 rfl hGT hW (by omega) (show (onr ρ x).length = 3 from rfl) hroom [.c false (onr ρ x), .c false (onr ρ x)]
  rw [ad5 hx] at hgt hoc
  obtain ⟨hTc', hJc'⟩ := hoc hTc hJc rfl (al0 (fun _ => rfl) _ _)
  have hap' : ∀ (rb k' : Nat), rb + k' = js.length + (W.length + 2) → ah6 rb (js ++ (W ++ [.c false (onr ρ x), .c false (onr ρ x), .no])) k' v (some (onr ρ x)) (some 1) 3 32 = some (v', js ++ (T' ++ J')) := hap
  simp only [onr] at hap'
  simp only [On.row] at hc
  clear hap hoc hGT hW
  repeat' (first
   | (with_reducible refine i7 (hc) ?_)
   | (simp only [c29, ae7, ae6, List.length_map, hxr, hd, hw, ar1, On.row, hap', Nat.add_assoc, SXR, simprocAttr]))
  exact IH (i + 1) _ _ (by exact ⟨v', T0', T', J', rfl, rfl, hgt, hTc', hJc'⟩) hil (by omega)
 ·clear IH
  have hie : i = ck.length := by omega
  subst hie
  have hd := ltn hil
  repeat' (first
   | (simp only [c29, ae7, ae6, List.length_map, hd, SXR, simprocAttr]))
  exact ⟨gt_se rfl hGT af2 (by simp) (mem_map (f := onr ρ) (wd := 3) (fun _ => rfl) ck) (fun a h => h), _, rfl⟩
abbrev ExC (f : FuncId) (js : List O) (mv : V) (ρ : Str → Str) (l : List Ex) : Prop := ∀ ks : List O, ks.all ocl = true → ACalls Tryz.prog f [mv, .ts (Ex.rows l)] (hpL (js ++ ks)) (js ++ ks).length (.ts (Ex.rows (Ex.rns ρ l))) (hpL (js ++ ks)) (js ++ ks).length
theorem bi7 {js : List O} {mv : V} {ρ : Str → Str} (h : NmC 49 js mv ρ) (e : Ex) (hl : ExC 48 js mv ρ e.args) :
  ACalls Tryz.prog 47 [mv, .ag e.row] (hpL js) js.length (.ag (e.rn ρ).row) (hpL js) js.length := by
 obtain ⟨k, op, t, v, nl, nn, args⟩ := e
 simp only [Ex.args] at hl
 have hz := m0 args
 refine p8 Tryz.func47 k47 rfl rfl (V.lt_of_cl _ _ (by simp only [V.cl]; exact e9 _)) h.lt ?_
 simp only [Ex.rn, Ex.row]
 cases h2 : (k == 2) with
 | true =>
   have hB : vB k = true := by simp only [vB, h2, Bool.true_or]
   rw [if_pos hB]
   repeat' (first
    | (with_reducible refine i7 (h.aco [.c false [.i .i64 k, .i .i64 op, .i .i64 t, .i .i64 v, .s nl nn, .ts (Ex.rows args)], .c false [.i .i64 0, .i .i64 0, .i .i64 0, .i .i64 0, .s 0 0, .ns]] (by simp only [List.all_cons, List.all_nil, t8, clL, V.cl, hz, Bool.and_self]) (nl, nn)) ?_)
    | (with_reducible refine i7 (hl [.c false [.i .i64 k, .i .i64 op, .i .i64 t, .i .i64 v, .s (ρ (nl, nn)).1 (ρ (nl, nn)).2, .ts (Ex.rows args)], .c false [.i .i64 0, .i .i64 0, .i .i64 0, .i .i64 0, .s 0 0, .ns]] (by simp only [List.all_cons, List.all_nil, t8, clL, V.cl, hz, Bool.and_self])) ?_)
    | (simp only [c47, aa8, aa7, h2, SXR, simprocAttr]))
   exact ⟨_, rfl⟩
 | false =>
   cases h8 : (k == 8) with
   | true =>
     have hB : vB k = true := by simp only [vB, h8, Bool.true_or, Bool.or_true]
     rw [if_pos hB]
     repeat' (first
      | (with_reducible refine i7 (h.aco [.c false [.i .i64 k, .i .i64 op, .i .i64 t, .i .i64 v, .s nl nn, .ts (Ex.rows args)], .c false [.i .i64 0, .i .i64 0, .i .i64 0, .i .i64 0, .s 0 0, .ns]] (by simp only [List.all_cons, List.all_nil, t8, clL, V.cl, hz, Bool.and_self]) (nl, nn)) ?_)
      | (with_reducible refine i7 (hl [.c false [.i .i64 k, .i .i64 op, .i .i64 t, .i .i64 v, .s (ρ (nl, nn)).1 (ρ (nl, nn)).2, .ts (Ex.rows args)], .c false [.i .i64 0, .i .i64 0, .i .i64 0, .i .i64 0, .s 0 0, .ns]] (by simp only [List.all_cons, List.all_nil, t8, clL, V.cl, hz, Bool.and_self])) ?_)
      | (simp only [c47, aa8, aa7, h2, h8, SXR, simprocAttr]))
     exact ⟨_, rfl⟩
   | false =>
     cases h9 : (k == 9) with
     | true =>
       have hB : vB k = true := by simp only [vB, h9, Bool.or_true]
       rw [if_pos hB]
       repeat' (first
        | (with_reducible refine i7 (h.aco [.c false [.i .i64 k, .i .i64 op, .i .i64 t, .i .i64 v, .s nl nn, .ts (Ex.rows args)], .c false [.i .i64 0, .i .i64 0, .i .i64 0, .i .i64 0, .s 0 0, .ns]] (by simp only [List.all_cons, List.all_nil, t8, clL, V.cl, hz, Bool.and_self]) (nl, nn)) ?_)
        | (with_reducible refine i7 (hl [.c false [.i .i64 k, .i .i64 op, .i .i64 t, .i .i64 v, .s (ρ (nl, nn)).1 (ρ (nl, nn)).2, .ts (Ex.rows args)], .c false [.i .i64 0, .i .i64 0, .i .i64 0, .i .i64 0, .s 0 0, .ns]] (by simp only [List.all_cons, List.all_nil, t8, clL, V.cl, hz, Bool.and_self])) ?_)
        | (simp only [c47, aa8, aa7, h2, h8, h9, SXR, simprocAttr]))
       exact ⟨_, rfl⟩
     | false =>
       have hB : ¬ vB k = true := by simp only [vB, h2, h8, h9, Bool.or_self, Bool.false_eq_true, not_false_eq_true]
       rw [if_neg hB]
       repeat' (first
        | (with_reducible refine i7 (hl [.c false [.i .i64 k, .i .i64 op, .i .i64 t, .i .i64 v, .s nl nn, .ts (Ex.rows args)], .c false [.i .i64 0, .i .i64 0, .i .i64 0, .i .i64 0, .s 0 0, .ns]] (by simp only [List.all_cons, List.all_nil, t8, clL, V.cl, hz, Bool.and_self])) ?_)
        | (simp only [c47, aa8, aa7, h2, h8, h9, SXR, simprocAttr]))
       exact ⟨_, rfl⟩
def exr (ρ : Str → Str) (e : Ex) : List V := (e.rn ρ).row
theorem af5 (ρ : Str → Str) (e : Ex) : (exr ρ e).length = 6 := j9 _
theorem ao2 (ρ : Str → Str) (e : Ex) : (exr ρ e).take 6 = exr ρ e := m4 _
theorem be2 (ρ : Str → Str) (e : Ex) : clL (exr ρ e) = true := e9 _
theorem exr_map (ρ : Str → Str) (l : List Ex) : Ex.rows (Ex.rns ρ l) = l.map (exr ρ) := by rw [bb0, ae5, List.map_map]; rfl
set_option maxHeartbeats 1000000 in
theorem bc4 : ∀ (N : Nat) {js : List O} {mv : V} {ρ : Str → Str} (h : NmC 49 js mv ρ) (l : List Ex), Ex.szs l < N → Lst.ok l → Ex.oks l →
  ACalls Tryz.prog 48 [mv, .ts (Ex.rows l)] (hpL js) js.length (.ts (Ex.rows (Ex.rns ρ l))) (hpL js) js.length
 | 0, js, mv, ρ, h, l, hN, _, _ => by omega
 | N + 1, js, mv, ρ, h, l, hN, hn, hoks => by
   unfold Lst.ok at hn
   rw [exr_map]
   refine ai1 Tryz.func48 k48 rfl rfl (by simp only [V.cl]; exact ad1 (be2 ρ) l) h.lt ?_
   repeat' (first
    | (simp only [c48, ae7, ae6, m5, SXR, simprocAttr]))
   refine o8 (X := Nat) (fun i ll hs => ∃ (v : V) (T0 T J : List O), Hd (fun j => [mv, .ts (Ex.rows l), j 2, j 3, .ns, v, j 6, j 7, .ts (Ex.rows l), .i .i64 (l.length : Int), .i .i64 (i : Int), j 11, j 12, j 13, j 14, j 15, j 16, j 17, j 18, j 19, j 20, j 21]) ll ∧ hs = js ++ (T ++ J) ∧
     GT js.length 6 i v T0 T (cells (exr ρ) l i) ∧ T.all ocl = true ∧ J.all ocl = true)
    (fun i => i ≤ l.length) (fun i => l.length - i) ?_ 0 _ _ (by exact ⟨.ns, [], [], [], rfl, by simp, .inl ⟨rfl, rfl, rfl, rfl⟩, rfl, rfl⟩) (Nat.zero_le _)
   rintro i _ _ ⟨v, T0, T, J, e, rfl, hGT, hTc, hJc⟩ hi IH
   obtain ⟨j, rfl⟩ := e.open
   clear e
   by_cases hil : i < l.length
   ·obtain ⟨W, hW⟩ : ∃ W, W = T ++ J := ⟨_, rfl⟩
    rw [← hW]
    obtain ⟨x, hx, hxm⟩ := ats hil
    have hxr : (Ex.rows l)[i]? = some x.row := by rw [aj9, hx]; rfl
    have hd := ltd hil
    have hw := l6 (n := i) (by omega)
    have hroom := p6 (n := i + 1) (b := 72) (by omega) (by omega)
    have hWc : W.all ocl = true := by rw [hW]; simp only [List.all_append, hTc, hJc, Bool.and_self]
    have hok := ak2 hoks hxm
    have hsz := az7 hxm
    have hxa : Ex.szs x.args < N ∧ Lst.ok x.args ∧ Ex.oks x.args := by
     obtain ⟨k, op, t, v, nl, nn, args⟩ := x
     simp only [Ex.ok] at hok
     simp only [Ex.sz] at hsz
     exact ⟨by simp only [Ex.args]; omega, hok.1, hok.2⟩
    have hm := h.moreo (zs := W ++ [.c false x.row, .no, .no]) (by simp only [List.all_append, List.all_cons, List.all_nil, hWc, t8, e9, ocl, Bool.and_self])
    have hc := bi7 hm x (fun ks hks => bc4 N (hm.moreo hks) x.args hxa.1 hxa.2.1 hxa.2.2)
    rw [show (Ex.rn ρ x).row = exr ρ x from rfl] at hc
    obtain ⟨v', T0', T', J', hgt, hap, hoc⟩ := as1 rfl hGT hW (by omega) (af5 ρ x) hroom [.c false x.row, .c false (exr ρ x)]
    rw [ad5 hx] at hgt hoc
    obtain ⟨hTc', hJc'⟩ := hoc hTc hJc (by simp only [List.all_cons, List.all_nil, t8, e9, be2, Bool.and_self]) (al0 (be2 ρ) _ _)
    have hap' : ∀ (rb k' : Nat), rb + k' = js.length + (W.length + 2) → ah6 rb (js ++ (W ++ [.c false x.row, .c false (exr ρ x), .no])) k' v (some (exr ρ x)) (some 1) 6 72 = some (v', js ++ (T' ++ J')) := hap
    clear hap hoc hGT hW hm
    repeat' (first
     | (with_reducible refine i7 (hc) ?_)
     | (simp only [c48, ae7, ae6, m5, hxr, hd, hw, j9, m4, ap4, af5, ao2, hap', Nat.add_assoc, SXR, simprocAttr]))
    exact IH (i + 1) _ _ (by exact ⟨v', T0', T', J', rfl, rfl, hgt, hTc', hJc'⟩) hil (by omega)
   ·clear IH
    have hie : i = l.length := by omega
    subst hie
    have hd := ltn hil
    repeat' (first
     | (simp only [c48, ae7, ae6, m5, hd, SXR, simprocAttr]))
    exact ⟨gt_se rfl hGT af2 (by simp) (mem_map (f := exr ρ) (wd := 6) (af5 ρ) l) (fun a h => h), _, rfl⟩
theorem mexpr_ac {js : List O} {mv : V} {ρ : Str → Str} (h : NmC 49 js mv ρ) (e : Ex) (hok : e.ok) : ACalls Tryz.prog 47 [mv, .ag e.row] (hpL js) js.length (.ag (e.rn ρ).row) (hpL js) js.length := by
 refine bi7 h e (fun ks hks => ?_)
 obtain ⟨k, op, t, v, nl, nn, args⟩ := e
 simp only [Ex.ok] at hok
 exact bc4 (Ex.szs args + 1) (h.moreo hks) args (by omega) hok.1 hok.2
set_option maxHeartbeats 2000000 in
theorem rexpr_ac' : ∀ (N : Nat) {js : List O} {mv : V} {ρ : Str → Str} (hr : NmC 57 js mv ρ) (e : Ex), e.sz < N → e.ok →
  ACalls Tryz.prog 56 [mv, .ag e.row] (hpL js) js.length (.ag (e.rn ρ).row) (hpL js) js.length
 | 0, js, mv, ρ, hr, e, hN, _ => by omega
 | N + 1, js, mv, ρ, hr, e, hN, hok => by
   obtain ⟨k, op, t, v, nl, nn, args⟩ := e
   simp only [Ex.ok] at hok
   simp only [Ex.sz] at hN
   obtain ⟨hn, hoks⟩ := hok
   unfold Lst.ok at hn
   have hz := m0 args
   have hc := hr.aco [.c false [.i .i64 k, .i .i64 op, .i .i64 t, .i .i64 v, .s nl nn, .ts (Ex.rows args)], .c false [.i .i64 0, .i .i64 0, .i .i64 0, .i .i64 0, .s 0 0, .ns], .c false [.i .i64 k, .i .i64 op, .i .i64 t, .i .i64 v, .s nl nn, .ts (Ex.rows args)]] (by simp only [List.all_cons, List.all_nil, t8, clL, V.cl, hz, Bool.and_self]) (nl, nn)
   refine ai1 Tryz.func56 k56 rfl rfl (by simp only [V.cl]; exact e9 _) hr.lt ?_
   simp only [Ex.rn, Ex.row, exr_map]
   obtain ⟨nm, hnm⟩ : ∃ nm : Str, nm = if vB k = true then ρ (nl, nn) else (nl, nn) := ⟨_, rfl⟩
   rw [← hnm]
   repeat' (first
    | ((with_reducible refine aa1 (fun h => ?_) (fun h => ?_)) <;> simp only [h, ae7, ae6, SXR, simprocAttr])
    | ((with_reducible refine j3 ?rdq ?_); (case rdq => refine j2 rfl ?_ ?_ <;> simp only [Option.isSome_some, ae7, ae6, SXR, simprocAttr]))
    | (with_reducible refine i7 (hc) ?_)
    | (simp only [c56, ae7, ae6, SXR, simprocAttr]))
   all_goals
    refine o8 (X := Nat) (fun i ll hs => ∃ (a b : Nat) (w : V) (T0 T J : List O), Hd (fun j => [mv, j 1, j 2, .p js.length 0, .p (js.length + 1) 0, .p (js.length + 2) 0, .i .i64 (i : Int), j 7, j 8, j 9, j 10, j 11, j 12, j 13, j 14, j 15, j 16, j 17, j 18, j 19, j 20, j 21, j 22, j 23, j 24, j 25, j 26, j 27, j 28, j 29, j 30, j 31, j 32, j 33, j 34, j 35, j 36, j 37, j 38, j 39, j 40, j 41, j 42, j 43, j 44, j 45, j 46]) ll ∧ hs = js ++ .c false [.i .i64 k, .i .i64 op, .i .i64 t, .i .i64 v, .s nl nn, .ts (Ex.rows args)] :: .c false [.i .i64 0, .i .i64 0, .i .i64 0, .i .i64 0, .s 0 0, .ns] :: .c false [.i .i64 k, .i .i64 op, .i .i64 t, .i .i64 v, .s a b, w] :: (T ++ J) ∧
      GT (js.length + 3) 6 i w T0 T (cells (exr ρ) args i) ∧ T.all ocl = true ∧ J.all ocl = true ∧ (a, b) = nm)
     (fun i => i ≤ args.length) (fun i => args.length - i) ?_ 0 _ _ (by exact ⟨_, _, .ns, [], [], [], rfl, rfl, .inl ⟨rfl, rfl, rfl, rfl⟩, rfl, rfl, by simp [hnm, vB, *]⟩) (Nat.zero_le _)
    clear hc
    rintro i _ _ ⟨a, b, w, T0, T, J, e, rfl, hGT, hTc, hJc, hab⟩ hi IH
    obtain ⟨j, rfl⟩ := e.open
    clear e
    by_cases hil : i < args.length
    ·obtain ⟨W, hW⟩ : ∃ W, W = T ++ J := ⟨_, rfl⟩
     rw [← hW]
     obtain ⟨x, hx, hxm⟩ := ats hil
     have hxr : (Ex.rows args)[i]? = some x.row := by rw [aj9, hx]; rfl
     have hd := ltd hil
     have hw := l6 (n := i) (by omega)
     have hroom := p6 (n := i + 1) (b := 72) (by omega) (by omega)
     have hWc : W.all ocl = true := by rw [hW]; simp only [List.all_append, hTc, hJc, Bool.and_self]
     have hsz := az7 hxm
     have hwl : w.lt (js.length + (3 + (W.length + 2))) = true := hGT.lt (by rw [hW]; simp; omega)
     have hm := hr.more (zs := .c false [.i .i64 k, .i .i64 op, .i .i64 t, .i .i64 v, .s nl nn, .ts (Ex.rows args)] :: .c false [.i .i64 0, .i .i64 0, .i .i64 0, .i .i64 0, .s 0 0, .ns] :: .c false [.i .i64 k, .i .i64 op, .i .i64 t, .i .i64 v, .s a b, w] :: (W ++ [.no, .no])) (by
      refine aa5 (ao7 hr.lt (by simp)) ?_
      rw [show (js ++ O.c false [.i .i64 k, .i .i64 op, .i .i64 t, .i .i64 v, .s nl nn, .ts (Ex.rows args)] :: O.c false [.i .i64 0, .i .i64 0, .i .i64 0, .i .i64 0, .s 0 0, .ns] :: O.c false [.i .i64 k, .i .i64 op, .i .i64 t, .i .i64 v, .s a b, w] :: (W ++ [.no, .no])).length = js.length + (3 + (W.length + 2)) by simp; omega]
      have h1 : ltO (js.length + (3 + (W.length + 2))) (W ++ [.no, .no]) = true := af4 (by simp only [List.all_append, hWc, List.all_cons, List.all_nil, ocl, Bool.and_self])
      simp only [ltO, O.lt, ltL, V.lt, hwl, h1, r8 _ _ hz, Bool.and_self])
     have hcc := rexpr_ac' N hm x (by omega) (ak2 hoks hxm)
     rw [show (Ex.rn ρ x).row = exr ρ x from rfl] at hcc
     obtain ⟨w', T0', T', J', hgt, hap, hoc⟩ := as1 (P := js ++ [.c false [.i .i64 k, .i .i64 op, .i .i64 t, .i .i64 v, .s nl nn, .ts (Ex.rows args)], .c false [.i .i64 0, .i .i64 0, .i .i64 0, .i .i64 0, .s 0 0, .ns], .c false [.i .i64 k, .i .i64 op, .i .i64 t, .i .i64 v, .s a b, w]]) (by simp) hGT hW (by omega) (af5 ρ x) hroom [.c false (exr ρ x)]
     rw [ad5 hx] at hgt hoc
     obtain ⟨hTc', hJc'⟩ := hoc hTc hJc (by simp only [List.all_cons, List.all_nil, t8, be2, Bool.and_self]) (al0 (be2 ρ) _ _)
     have hap' : ∀ (rb k' : Nat), rb + k' = js.length + (W.length + 4) → ah6 rb (js ++ .c false [.i .i64 k, .i .i64 op, .i .i64 t, .i .i64 v, .s nl nn, .ts (Ex.rows args)] :: .c false [.i .i64 0, .i .i64 0, .i .i64 0, .i .i64 0, .s 0 0, .ns] :: .c false [.i .i64 k, .i .i64 op, .i .i64 t, .i .i64 v, .s a b, w] :: (W ++ [.c false (exr ρ x), .no])) k' w (some (exr ρ x)) (some 1) 6 72
       = some (w', js ++ .c false [.i .i64 k, .i .i64 op, .i .i64 t, .i .i64 v, .s nl nn, .ts (Ex.rows args)] :: .c false [.i .i64 0, .i .i64 0, .i .i64 0, .i .i64 0, .s 0 0, .ns] :: .c false [.i .i64 k, .i .i64 op, .i .i64 t, .i .i64 v, .s a b, w] :: (T' ++ J')) := fun rb k' e => by
      have := hap rb k' (by rw [e]; simp; omega)
      simp only [List.append_assoc, List.cons_append, List.nil_append] at this ⊢
      exact this
     have hst := hgt.st
     clear hap hoc hGT hW hm hnm
     repeat' (first
      | ((with_reducible refine aa1 (fun h => ?_) (fun h => ?_)) <;> simp only [h, ae7, ae6, m5, hxr, hd, hw, j9, m4, af5, ao2, hap', hst, Nat.add_assoc, SXR, simprocAttr])
      | ((with_reducible refine j3 ?rdq ?_); (case rdq => refine j2 rfl ?_ ?_ <;> simp only [Option.isSome_some, ae7, ae6, m5, hxr, hd, hw, j9, m4, af5, ao2, hap', hst, Nat.add_assoc, SXR, simprocAttr]))
      | (with_reducible refine i7 (hcc) ?_)
      | (simp only [c56, ae7, ae6, m5, hxr, hd, hw, j9, m4, af5, ao2, hap', hst, Nat.add_assoc, SXR, simprocAttr]))
     exact IH (i + 1) _ _ (by exact ⟨a, b, w', T0', T', J', rfl, rfl, hgt, hTc', hJc', hab⟩) hil (by omega)
    ·clear IH
     have hie : i = args.length := by omega
     subst hie
     have hd := ltn hil
     repeat' (first
      | ((with_reducible refine aa1 (fun h => ?_) (fun h => ?_)) <;> simp only [h, ae7, ae6, m5, hd, SXR, simprocAttr])
      | ((with_reducible refine j3 ?rdq ?_); (case rdq => refine j2 rfl ?_ ?_ <;> simp only [Option.isSome_some, ae7, ae6, m5, hd, SXR, simprocAttr]))
      | (simp only [c56, ae7, ae6, m5, hd, SXR, simprocAttr]))
     refine ⟨?_, _, rfl⟩
     rw [← hab]
     refine Sl.ag ⟨.same _, .same _, .same _, .same _, .same _, ?_, trivial⟩
     have := gt_se (P := js ++ [.c false [.i .i64 k, .i .i64 op, .i .i64 t, .i .i64 v, .s nl nn, .ts (Ex.rows args)], .c false [.i .i64 k, .i .i64 op, .i .i64 t, .i .i64 v, .s a b, w], .c false [.i .i64 k, .i .i64 op, .i .i64 t, .i .i64 v, .s a b, w]]) (J := J) (D := fun a => js.length ≤ a) (by simp) hGT af2 (by simp) (mem_map (f := exr ρ) (wd := 6) (af5 ρ) args) (fun a h => by omega)
     simp only [List.append_assoc, List.cons_append, List.nil_append] at this
     exact this
theorem rexpr_ac {js : List O} {mv : V} {ρ : Str → Str} (h : NmC 57 js mv ρ) (e : Ex) (hok : e.ok) : ACalls Tryz.prog 56 [mv, .ag e.row] (hpL js) js.length (.ag (e.rn ρ).row) (hpL js) js.length := rexpr_ac' _ h e (Nat.lt_succ_self _) hok
theorem clstr_cons (s : Str) (l : List Str) (hn : Lst.ok (s :: l)) : PC Tryz.prog 46 [.ts ((s :: l).map af8)] (.ts ((s :: l).map af8)) := by
 have ha := all_map srow_len (s :: l)
 have hr := p6 (n := l.length + 1) (b := 16) (by unfold Lst.ok at hn; simp at hn; omega) (by omega)
 have hf := Se.flat (h := hpL [.c false [], .c true ((s :: l).map af8).flatten]) (D := fun _ => True) (a := 1) (wd := 1) (cp := none) (gr := true) (rs := (s :: l).map af8) rfl trivial (mem_map srow_len _)
 simp only [List.map_cons, List.length_cons, List.length_map] at ha hf hr ⊢
 refine ac1 Tryz.func46 k46 rfl ?_
 repeat' (first
  | (simp only [c46, u5, u4, ha, hr, List.length_map, SXR, simprocAttr]))
 exact hf
theorem clstr_nil : PC Tryz.prog 46 [.ts []] (.ts []) := by
 refine PC.empty (xs := []) (ys := []) ?_ ?_
 ·refine ac1 Tryz.func46 k46 rfl ?_
  repeat' (first
   | (simp only [c46, u5, u4, SXR, simprocAttr]))
  exact .nil
 ·refine ac1 Tryz.func46 k46 rfl ?_
  repeat' (first
   | (simp only [c46, u5, u4, SXR, simprocAttr]))
  exact Se.flat (rs := []) rfl trivial (by simp)
theorem clstr_pc : ∀ (l : List Str), Lst.ok l → PC Tryz.prog 46 [.ts (l.map af8)] (.ts (l.map af8))
 | [], _ => clstr_nil
 | s :: l, h => clstr_cons s l h
def dcr (ρ : Str → Str) (d : Decl) : List V := (d.rn ρ).row
theorem dcr_map (ρ : Str → Str) (l : List Decl) : (l.map (Decl.rn ρ)).map Decl.row = l.map (dcr ρ) := by rw [List.map_map]; rfl
theorem bk1 (ρ : Str → Str) (d : Decl) : clL (dcr ρ d) = true := be7 _
theorem dcr_eq (ρ : Str → Str) (d : Decl) : dcr ρ d = [.s d.nm.1 d.nm.2, .i .i64 d.ty, .ts ((d.ck.map (On.rn ρ)).map On.row)] := rfl
theorem bb2 {js : List O} {mv : V} {ρ : Str → Str} (h : NmC 57 js mv ρ) (l : List Decl) (hok : ao6 l) : ACalls Tryz.prog 26 [mv, .ts (l.map Decl.row)] (hpL js) js.length (.ts ((l.map (Decl.rn ρ)).map Decl.row)) (hpL js) js.length := by
 have hn := hok.1
 unfold Lst.ok at hn
 rw [dcr_map]
 refine ai1 Tryz.func26 k26 rfl rfl (by simp only [V.cl]; exact ad1 (bk1 ρ) l) h.lt ?_
 repeat' (first
  | (simp only [c26, ae7, ae6, SXR, simprocAttr]))
 refine o8 (X := Nat) (fun i ll hs => ∃ (v : V) (T0 T J : List O), Hd (fun j => [mv, .ts (l.map Decl.row), j 2, j 3, .ns, v, .i .i64 (i : Int), j 7, j 8, j 9, j 10, j 11, j 12, j 13, j 14, j 15, j 16, j 17, j 18, j 19, j 20, j 21, j 22, j 23, j 24, j 25, j 26, j 27]) ll ∧ hs = js ++ (T ++ J) ∧
   GT js.length 3 i v T0 T (cells (dcr ρ) l i) ∧ T.all ocl = true ∧ J.all ocl = true)
  (fun i => i ≤ l.length) (fun i => l.length - i) ?_ 0 _ _ (by exact ⟨.ns, [], [], [], rfl, by simp, .inl ⟨rfl, rfl, rfl, rfl⟩, rfl, rfl⟩) (Nat.zero_le _)
 rintro i _ _ ⟨v, T0, T, J, e, rfl, hGT, hTc, hJc⟩ hi IH
 obtain ⟨j, rfl⟩ := e.open
 clear e
 by_cases hil : i < l.length
 ·obtain ⟨W, hW⟩ : ∃ W, W = T ++ J := ⟨_, rfl⟩
  rw [← hW]
  obtain ⟨x, hx, hxm⟩ := ats hil
  have hxr := mg (f := Decl.row) hx
  have hd := ltd hil
  have hw := l6 (n := i) (by omega)
  have hroom := p6 (n := i + 1) (b := 48) (by omega) (by omega)
  have hWc : W.all ocl = true := by rw [hW]; simp only [List.all_append, hTc, hJc, Bool.and_self]
  have hc := bb3 (h.moreo (zs := W ++ [.c false x.row]) (by simp only [List.all_append, List.all_cons, List.all_nil, hWc, t8, be7, Bool.and_self])) x.ck (hok.2 x hxm)
  obtain ⟨v', T0', T', J', hgt, hap, hoc⟩ := as1 rfl hGT hW (by omega) (show (dcr ρ x).length = 3 from rfl) hroom [.c false (dcr ρ x), .c false (dcr ρ x)]
  rw [ad5 hx] at hgt hoc
  obtain ⟨hTc', hJc'⟩ := hoc hTc hJc (by simp only [List.all_cons, List.all_nil, t8, bk1, Bool.and_self]) (al0 (bk1 ρ) _ _)
  have hap' : ∀ (rb k' : Nat), rb + k' = js.length + (W.length + 2) → ah6 rb (js ++ (W ++ [.c false (dcr ρ x), .c false (dcr ρ x), .no])) k' v (some (dcr ρ x)) (some 1) 3 48 = some (v', js ++ (T' ++ J')) := hap
  simp only [dcr_eq] at hap'
  simp only [Decl.row] at hc
  clear hap hoc hGT hW
  repeat' (first
   | (with_reducible refine i7 (hc) ?_)
   | (simp only [c26, ae7, ae6, List.length_map, hxr, hd, hw, o9, Decl.row, hap', Nat.add_assoc, SXR, simprocAttr]))
  exact IH (i + 1) _ _ (by exact ⟨v', T0', T', J', rfl, rfl, hgt, hTc', hJc'⟩) hil (by omega)
 ·clear IH
  have hie : i = l.length := by omega
  subst hie
  have hd := ltn hil
  repeat' (first
   | (simp only [c26, ae7, ae6, List.length_map, hd, SXR, simprocAttr]))
  exact ⟨gt_se rfl hGT af2 (by simp) (mem_map (f := dcr ρ) (wd := 3) (fun _ => rfl) l) (fun a h => h), _, rfl⟩
theorem bi8 {js : List O} {mv : V} {ρ : Str → Str} (h : NmC 49 js mv ρ) (l : List Decl) (hok : ao6 l) : ∃ (v : V) (T0 T J : List O), GT js.length 3 l.length v T0 T (l.map (dcr ρ)).flatten ∧ T.all ocl = true ∧ J.all ocl = true ∧
  ACalls Tryz.prog 19 [mv, .ts (l.map Decl.row)] (hpL js) js.length v (hpL (js ++ (T ++ J))) (js ++ (T ++ J)).length := by
 have hn := hok.1
 unfold Lst.ok at hn
 obtain ⟨S, hS0, hSi, hSs⟩ := seq_ex (α := V × List O × List O × List O) (n := l.length) (a0 := (.ns, [], [], []))
  (Inv := fun i q => GT js.length 3 i q.1 q.2.1 q.2.2.1 (cells (dcr ρ) l i) ∧ q.2.2.1.all ocl = true ∧ q.2.2.2.all ocl = true)
  (R := fun i q q' => ∀ x, l[i]? = some x → ∀ rb k', rb + k' = js.length + ((q.2.2.1 ++ q.2.2.2).length + 2) → ah6 rb (js ++ ((q.2.2.1 ++ q.2.2.2) ++ [.c false (dcr ρ x), .c false (dcr ρ x), .no])) k' q.1 (some (dcr ρ x)) (some 1) 3 48 = some (q'.1, js ++ (q'.2.2.1 ++ q'.2.2.2)))
  ⟨.inl ⟨rfl, rfl, rfl, rfl⟩, rfl, rfl⟩ (fun i q hi hq => by
   obtain ⟨x, hx, hxm⟩ := ats hi
   obtain ⟨hGT, hTc, hJc⟩ := hq
   obtain ⟨v', T0', T', J', hgt, hap, hoc⟩ := as1 (P := js) (bytes := 48) rfl hGT rfl (by omega) (show (dcr ρ x).length = 3 from rfl) (p6 (by omega) (by omega)) [.c false (dcr ρ x), .c false (dcr ρ x)]
   rw [ad5 hx] at hgt hoc
   obtain ⟨hTc', hJc'⟩ := hoc hTc hJc (by simp only [List.all_cons, List.all_nil, t8, bk1, Bool.and_self]) (al0 (bk1 ρ) _ _)
   exact ⟨(v', T0', T', J'), fun y hy => by rw [hx] at hy; cases hy; exact hap, hgt, hTc', hJc'⟩)
 obtain ⟨f1, f2, f3⟩ := hSi l.length (Nat.le_refl _)
 rw [af2] at f1
 refine ⟨_, _, _, _, f1, f2, f3, ?_⟩
 refine ac_of Tryz.func19 k19 rfl ?_
 repeat' (first
  | (simp only [c19, qh_n, qh_r, List.length_map, SXR, simprocAttr]))
 refine o8 (X := Nat) (fun i ll hs => ∃ (v : V) (W : List O), Hd (fun j => [mv, .ts (l.map Decl.row), j 2, j 3, .ns, v, j 6, j 7, .ts (l.map Decl.row), .i .i64 (l.length : Int), .i .i64 (i : Int), j 11, j 12, j 13, j 14, j 15, j 16, j 17, j 18, j 19, j 20, j 21, j 22, j 23, j 24]) ll ∧ hs = js ++ W ∧
   v = (S i).1 ∧ W = (S i).2.2.1 ++ (S i).2.2.2)
  (fun i => i ≤ l.length) (fun i => l.length - i) ?_ 0 _ _ (by exact ⟨.ns, [], rfl, by simp, by rw [hS0], by rw [hS0]; rfl⟩) (Nat.zero_le _)
 rintro i _ _ ⟨v, W, e, rfl, hv, hW⟩ hi IH
 obtain ⟨j, rfl⟩ := e.open
 clear e
 by_cases hil : i < l.length
 ·obtain ⟨x, hx, hxm⟩ := ats hil
  have hxr := mg (f := Decl.row) hx
  have hd := ltd hil
  have hw := l6 (n := i) (by omega)
  obtain ⟨_, g2, g3⟩ := hSi i hi
  have hap := hSs i hil x hx
  rw [← hv, ← hW] at hap
  have hWc : W.all ocl = true := by rw [hW]; simp only [List.all_append, g2, g3, Bool.and_self]
  have hc := bc5 (h.moreo (zs := W ++ [.c false x.row]) (by simp only [List.all_append, List.all_cons, List.all_nil, hWc, t8, be7, Bool.and_self])) x.ck (hok.2 x hxm)
  simp only [dcr_eq, List.append_assoc, List.cons_append, List.nil_append] at hap
  simp only [Decl.row] at hc
  repeat' (first
   | (with_reducible refine i7 (hc) ?_)
   | (simp only [c19, qh_n, qh_r, List.length_map, hxr, hd, hw, o9, Decl.row, hap, Nat.add_assoc, SXR, simprocAttr]))
  exact IH (i + 1) _ _ (by exact ⟨_, _, rfl, rfl, rfl, rfl⟩) hil (by omega)
 ·clear IH
  have hie : i = l.length := by omega
  subst hie
  have hd := ltn hil
  repeat' (first
   | (simp only [c19, qh_n, qh_r, List.length_map, hd, SXR, simprocAttr]))
  exact ⟨hv, by rw [hW]⟩
theorem mdecls_ac {js : List O} {mv : V} {ρ : Str → Str} (h : NmC 49 js mv ρ) (l : List Decl) (hok : ao6 l) : ACalls Tryz.prog 19 [mv, .ts (l.map Decl.row)] (hpL js) js.length (.ts ((l.map (Decl.rn ρ)).map Decl.row)) (hpL js) js.length := by
 obtain ⟨v, T0, T, J, hg, _, _, hc⟩ := bi8 h l hok
 rw [dcr_map]
 exact acl_fdrop hc (gt_se rfl hg rfl (by simp) (mem_map (f := dcr ρ) (wd := 3) (fun _ => rfl) l) (fun a h => h)) (by simp only [V.cl]; exact ad1 (bk1 ρ) l) h.lt
end Go.Proofs.YtieogkafbnnjcaaGreatDoor
