/-
  A node with shared delays, in plain words; which variable takes the ak0 of which.
  What the walks of the two nodes need: maps of turns, a list of equations that grows.
  A node with shared delays: the program's walk.
-/
import Derived.Test.YtieogkafbnnjcaaGreatDoorMk
set_option linter.unusedSimpArgs false
set_option linter.unusedVariables false
namespace Go.Proofs.YtieogkafbnnjcaaGreatDoor
open Go Go.B
def EM (n : NNode) : List Int := emb n (fin (p9 n) (zer n))
theorem EM_len (n : NNode) : (EM n).length = n.eqs.length := ae0 _ _
theorem EM_low (n : NNode) : lowE (EM n) := by
 obtain ⟨_, f2, f3⟩ := bd9 (ap0 n) (at7 n)
 exact lowE_emb f2 f3
theorem EM_ge (n : NNode) {i : Nat} {m : Int} (h : (EM n)[i]? = some m) (h0 : 0 ≤ m) : ∃ (r : Nat) (q d : NEqn), m = (r : Int) ∧ n.eqs[i]? = some q ∧ isD q = true ∧ n.eqs[r]? = some d ∧ isD d = true ∧ (EM n)[r]? = some (r : Int) := by
 obtain ⟨f1, f2, f3⟩ := bd9 (ap0 n) (at7 n)
 unfold EM at *
 generalize fin (p9 n) (zer n) = p at *
 obtain ⟨q, hq, _⟩ := ats (show i < n.eqs.length by have := (List.getElem?_eq_some_iff.1 h).1; rwa [ae0] at this)
 rcases ah5 f2 hq with ⟨_, e⟩ | ⟨hD, j, m', h1, h2, e⟩
 ·rw [h] at e; cases e; omega
 ·rw [h] at e; cases e
  have h3 := f3 j m' h2
  have h4 := (List.getElem?_eq_some_iff.1 h1).1
  obtain ⟨d, hd, _⟩ := ats (show m' < (p9 n).length by omega)
  obtain ⟨g1, g2, _⟩ := bj9 hd
  have h5 := emb_at f2 hd (part_root f2 f1 j m' h2)
  rw [ab0 hd] at h5
  exact ⟨d.ix, q, d.q, ab0 hd, hq, hD, g1, g2, h5⟩
def lkR (n : NNode) (i : Nat) : Option Str := match (EM n)[i]? with
 | some m => if 0 ≤ m ∧ m ≠ (i : Int) then (n.eqs[m.toNat]?).map hd1 else none
 | none => none
theorem lkR_some (n : NNode) {i : Nat} {t : Str} (h : lkR n i = some t) : ∃ (r : Nat) (q d : NEqn), (EM n)[i]? = some (r : Int) ∧ r ≠ i ∧ n.eqs[i]? = some q ∧ isD q = true ∧ n.eqs[r]? = some d ∧ isD d = true ∧ (EM n)[r]? = some (r : Int) ∧ t = hd1 d := by
 unfold lkR at h
 split at h
 ·rename_i m hm
  split at h
  ·rename_i hc
   obtain ⟨r, q, d, rfl, h2, h3, h4, h5, h6⟩ := EM_ge n hm hc.1
   rw [Int.toNat_natCast, h4] at h
   simp only [Option.map_some, Option.some.injEq] at h
   exact ⟨r, q, d, hm, fun e => hc.2 (by rw [e]), h2, h3, h4, h5, h6, h.symm⟩
  ·cases h
 ·cases h
theorem lkR_of (n : NNode) {i r : Nat} {d : NEqn} (h : (EM n)[i]? = some (r : Int)) (hr : r ≠ i) (hd : n.eqs[r]? = some d) : lkR n i = some (hd1 d) := by
 unfold lkR
 rw [h]
 simp only
 rw [if_pos ⟨by omega, by omega⟩, Int.toNat_natCast, hd]
 rfl
theorem rg_head {E : List Int} (hE : lowE E) {i : Nat} (h : E[i]? = some (i : Int)) : ∀ m, ∃ rest, rgN E i (i + 1 + m) = i :: rest ∧ ∀ j, j ∈ rest ↔ (i < j ∧ j < i + 1 + m ∧ E[j]? = some (i : Int))
 | 0 => by
   refine ⟨[], ?_, fun j => ?_⟩
   ·rw [Nat.add_zero]
    simp only [rgN]
    rw [rgN_nil hE i (Nat.le_refl _), if_pos h]; rfl
   ·simp only [List.not_mem_nil, false_iff]; omega
 | m + 1 => by
   obtain ⟨rest, h1, h2⟩ := rg_head hE h m
   rw [show i + 1 + (m + 1) = (i + 1 + m) + 1 by omega]
   simp only [rgN, h1]
   by_cases hc : E[i + 1 + m]? = some (i : Int)
   ·refine ⟨rest ++ [i + 1 + m], by rw [if_pos hc]; rfl, fun j => ?_⟩
    rw [List.mem_append, List.mem_singleton, h2]
    constructor
    ·rintro (⟨a, b, c⟩ | rfl)
     ·exact ⟨a, by omega, c⟩
     ·exact ⟨by omega, by omega, hc⟩
    ·rintro ⟨a, b, c⟩
     by_cases hj : j = i + 1 + m
     ·exact .inr hj
     ·exact .inl ⟨a, by omega, c⟩
   ·refine ⟨rest, by rw [if_neg hc]; simp, fun j => ?_⟩
    rw [h2]
    constructor
    ·rintro ⟨a, b, c⟩; exact ⟨a, by omega, c⟩
    ·rintro ⟨a, b, c⟩
     refine ⟨a, ?_, c⟩
     have : j ≠ i + 1 + m := fun e => hc (by rw [← e]; exact c)
     omega
theorem ba9 {E : List Int} {g : List Nat} : ∀ {k : Nat}, g ∈ bg5 E k ↔ ∃ i, i < k ∧ E[i]? = some (i : Int) ∧ g = rgN E i E.length
 | 0 => by simp [bg5]
 | k + 1 => by
   simp only [bg5, List.mem_append, ba9 (k := k)]
   by_cases hc : E[k]? = some (k : Int)
   ·rw [if_pos hc, List.mem_singleton]
    constructor
    ·rintro (⟨i, a, b, c⟩ | rfl)
     ·exact ⟨i, by omega, b, c⟩
     ·exact ⟨k, by omega, hc, rfl⟩
    ·rintro ⟨i, a, b, c⟩
     by_cases hk : i = k
     ·subst hk; exact .inr c
     ·exact .inl ⟨i, by omega, b, c⟩
   ·rw [if_neg hc]
    simp only [List.not_mem_nil, or_false]
    constructor
    ·rintro ⟨i, a, b, c⟩; exact ⟨i, by omega, b, c⟩
    ·rintro ⟨i, a, b, c⟩
     refine ⟨i, ?_, b, c⟩
     have : i ≠ k := fun e => hc (by rw [← e]; exact b)
     omega
theorem part_cut (n : NNode) {g : List Nat} (h : g ∈ z9 n) : ∃ (r : Nat) (rest : List Nat) (d : NEqn), g = r :: rest ∧ n.eqs[r]? = some d ∧ isD d = true ∧ ∀ i, i ∈ rest → lkR n i = some (hd1 d) := by
 have h' := h
 rw [← ap3 n] at h'
 obtain ⟨r, hr, hE, hg⟩ := ba9.1 h'
 have hE' : (EM n)[r]? = some (r : Int) := hE
 obtain ⟨r', q, d, e, _, _, h4, h5, _⟩ := EM_ge n hE' (by omega)
 have : r' = r := by omega
 subst this
 obtain ⟨rest, h1, h2⟩ := rg_head (EM_low n) hE' ((EM n).length - (r' + 1))
 have hl : r' + 1 + ((EM n).length - (r' + 1)) = (EM n).length := by
  have := (List.getElem?_eq_some_iff.1 hE').1
  omega
 rw [hl] at h1 h2
 refine ⟨r', rest, d, by rw [hg]; exact h1, h4, h5, fun i hi => ?_⟩
 obtain ⟨a, _, c⟩ := (h2 i).1 hi
 exact lkR_of n c (by omega) h4
theorem part_all (n : NNode) {i : Nat} {t : Str} (h : lkR n i = some t) : ∃ g, g ∈ z9 n ∧ i ∈ g.drop 1 := by
 obtain ⟨r, q, d, h1, h2, _, _, _, _, h6, _⟩ := lkR_some n h
 have hlt := (List.getElem?_eq_some_iff.1 h6).1
 have hlti := (List.getElem?_eq_some_iff.1 h1).1
 obtain ⟨rest, g1, g2⟩ := rg_head (EM_low n) h6 ((EM n).length - (r + 1))
 rw [show r + 1 + ((EM n).length - (r + 1)) = (EM n).length by omega] at g1 g2
 refine ⟨rgN (EM n) r (EM n).length, ?_, ?_⟩
 ·rw [← ap3 n]
  exact ba9.2 ⟨r, hlt, h6, rfl⟩
 ·rw [g1]
  have := EM_low n i _ h1
  exact (g2 i).2 ⟨by omega, hlti, h1⟩
def aa3 (n : NNode) : Nat → List (Str × Str)
 | 0 => []
 | i + 1 => aa3 n i ++ (match n.eqs[i]?, lkR n i with
   | some q, some t => [(hd1 q, t)]
   | _, _ => [])
theorem at8 (n : NNode) : ∀ i, (aa3 n i).length ≤ i
 | 0 => Nat.le_refl _
 | i + 1 => by
   have := at8 n i
   simp only [aa3, List.length_append]
   split <;> simp <;> omega
def q9 (n : NNode) (s : Str) : Str := (bc8 (aa3 n n.eqs.length) s).getD s
def bg8 (n : NNode) (lk : Option Str) (q : NEqn) : List NEqn := match lk with
 | none => [q.rn (q9 n)]
 | some t => if bd5 (hd1 q) n.outs = true then [⟨1, [hd1 q], .mk 2 0 0 0 t.1 t.2 [], 0, (0, 0), [], (0, 0), q.ck.map (On.rn (q9 n))⟩] else []
def av5 (n : NNode) : Nat → List NEqn
 | 0 => []
 | i + 1 => av5 n i ++ (match n.eqs[i]? with
   | some q => bg8 n (lkR n i) q
   | none => [])
theorem ay4 (n : NNode) : ∀ i, (av5 n i).length ≤ i
 | 0 => Nat.le_refl _
 | i + 1 => by
   have := ay4 n i
   simp only [av5, List.length_append]
   have : (match n.eqs[i]? with
    | some q => bg8 n (lkR n i) q
    | none => []).length ≤ 1 := by
    split
    ·unfold bg8
     split
     ·simp
     ·split <;> simp
    ·simp
   omega
def al3 (n : NNode) (l : List Decl) : Nat → List Decl
 | 0 => l
 | i + 1 => match n.eqs[i]?, lkR n i with
   | some q, some _ => if bd5 (hd1 q) n.outs = true then al3 n l i else rmD (hd1 q) (al3 n l i)
   | _, _ => al3 n l i
theorem rmD_map (ρ : Str → Str) (s : Str) : ∀ l : List Decl, rmD s (l.map (Decl.rn ρ)) = (rmD s l).map (Decl.rn ρ)
 | [] => rfl
 | d :: l => by
   simp only [List.map_cons, rmD]
   rw [show hit s (Decl.rn ρ d) = hit s d from rfl, rmD_map ρ s l]
   split <;> rfl
theorem locN_map (n : NNode) (ρ : Str → Str) (l : List Decl) : ∀ i, al3 n (l.map (Decl.rn ρ)) i = (al3 n l i).map (Decl.rn ρ)
 | 0 => rfl
 | i + 1 => by
   simp only [al3, locN_map n ρ l i]
   split
   ·rw [rmD_map]; split <;> rfl
   ·rfl
theorem rmD_sub (s : Str) : ∀ (l : List Decl) (d : Decl), d ∈ rmD s l → d ∈ l
 | [], d, h => h
 | x :: l, d, h => by
   simp only [rmD] at h
   split at h
   ·exact List.mem_cons_of_mem _ h
   ·rcases List.mem_cons.1 h with rfl | h
    ·exact List.mem_cons_self ..
    ·exact List.mem_cons_of_mem _ (rmD_sub s l d h)
theorem locN_ok (n : NNode) (l : List Decl) (h : ao6 l) : ∀ i, ao6 (al3 n l i) ∧ (al3 n l i).length ≤ l.length
 | 0 => ⟨h, Nat.le_refl _⟩
 | i + 1 => by
   obtain ⟨h1, h2⟩ := locN_ok n l h i
   simp only [al3]
   split
   ·split
    ·exact ⟨h1, h2⟩
    ·refine ⟨⟨?_, fun d hd => h1.2 d (rmD_sub _ _ d hd)⟩, Nat.le_trans (rmD_len _ _) h2⟩
     have := h1.1
     unfold Lst.ok at this ⊢
     exact Nat.lt_of_le_of_lt (rmD_len _ _) this
   ·exact ⟨h1, h2⟩
def nodeN (n : NNode) : NNode := ⟨n.nm, n.ins.map (Decl.rn (q9 n)), n.outs.map (Decl.rn (q9 n)), (al3 n n.locals n.eqs.length).map (Decl.rn (q9 n)), av5 n n.eqs.length⟩
theorem irw_get {g : List Nat} {k m : Nat} (h : g[k]? = some m) : (ab7 g)[k]? = some [.i .i64 (m : Int)] := by simp [ab7, h]
theorem irw_len (g : List Nat) : (ab7 g).length = g.length := by simp [ab7]
theorem irw_cl (g : List Nat) : clL (irow g) = true := by
 have : clR (ab7 g) = true := by
  induction g with
  | nil => rfl
  | cons m g ih => simp only [ab7, List.map_cons, clR, clL, V.cl, Bool.true_and] at ih ⊢; exact ih
 simp only [irow, clL, V.cl, this, Bool.and_self]
theorem irws_cl (l : List (List Nat)) : clR (l.map irow) = true := ad1 irw_cl l
theorem prt_len (n : NNode) : (z9 n).length ≤ n.eqs.length := by
 have h1 := routs_len (E := emb n (fin (p9 n) (zer n))) (emb n (fin (p9 n) (zer n))).length
 rw [ap3, ae0] at h1
 exact h1
theorem prt_each {n : NNode} {g : List Nat} (h : g ∈ z9 n) : g.length ≤ n.eqs.length := by
 obtain ⟨_, j, rfl⟩ := outs_mem h
 have h1 := grpN_len (dl := p9 n) (p := fin (p9 n) (zer n)) (i := j) (p9 n).length
 have h2 : (p9 n).length ≤ n.eqs.length := dlL_len n.eqs 0
 unfold grp
 omega
theorem ssl_tail (x : V) (l : List Nat) : sslF 1 (.ts ([x] :: ab7 l)) (some (.i .i64 1)) none none = some (.ts (ab7 l)) := by
 have h : ((([x] : List V) :: ab7 l).all fun r => r.length == 1) = true := by
  simp only [List.all_cons, List.length_singleton, beq_self_eq_true, Bool.true_and]
  rw [List.all_eq_true]
  intro r hr
  simp [intRows_w r hr]
 simp only [sslF, evX, evIo, eO_k, vI, Option.map_some, Option.map_none]
 rw [if_pos ⟨by omega, by simp; omega, by omega, h⟩]
 simp
def tls (n : NNode) (a : Nat) : List Nat := (((z9 n).take a).map (·.drop 1)).flatten
theorem tls_succ {n : NNode} {a r : Nat} {rest : List Nat} (h : (z9 n)[a]? = some (r :: rest)) : tls n (a + 1) = tls n a ++ rest := by
 unfold tls
 rw [List.take_add_one, h]
 simp
theorem tls_all (n : NNode) {i : Nat} {t : Str} (h : lkR n i = some t) : i ∈ tls n (z9 n).length := by
 obtain ⟨g, h1, h2⟩ := part_all n h
 unfold tls
 rw [List.take_length, List.mem_flatten]
 exact ⟨_, List.mem_map.2 ⟨g, h1, rfl⟩, h2⟩
def kfn (n : NNode) (S : List Nat) (i : Nat) : Option Str := if i ∈ S then lkR n i else none
abbrev KM (n : NNode) (es : List (V × V × Nat)) (S : List Nat) : Prop := MS (.k (.i .i64)) ikey es (kfn n S)
theorem kept_put {n : NNode} {S : List Nat} {es : List (V × V × Nat)} {i : Nat} {t : Str} (h : KM n es S) (hl : lkR n i = some t) {hs : List O} {a ck : Nat} (ha : hpL hs a = .m es ck) :
  ∃ es' ck', mstB hs (.k (.i .i64)) (.i .i64 (i : Int)) (.s t.1 t.2) (.m a) = ac5 hs a (.m es' ck') ∧ KM n es' (S ++ [i]) := by
 obtain ⟨es', ck', h1, h2⟩ := h.put (fun _ => rfl) keyEq_i (fun _ => rfl) ha i t
 refine ⟨es', ck', h1, ?_⟩
 have e : (fun s => if s = i then some t else kfn n S s) = kfn n (S ++ [i]) := by
  funext s
  unfold kfn
  by_cases hs : s = i
  ·subst hs; rw [if_pos rfl, if_pos (by simp), hl]
  ·rw [if_neg hs]
   by_cases hm : s ∈ S
   ·rw [if_pos hm, if_pos (by simp [hm])]
   ·rw [if_neg hm, if_neg (by simp [hm, hs])]
 rw [e] at h2
 exact h2
theorem kfn_all (n : NNode) : kfn n (tls n (z9 n).length) = lkR n := by
 funext i
 unfold kfn
 split
 ·rfl
 ·rename_i h
  cases hl : lkR n i with
  | none => rfl
  | some t => exact (h (tls_all n hl)).elim
abbrev TM (n : NNode) (es : List (V × V × Nat)) (i : Nat) : Prop := MS (.k .s) skey es (bc8 (aa3 n i))
theorem turn_no {n : NNode} {i : Nat} (h : lkR n i = none) : aa3 n (i + 1) = aa3 n i := by
 simp only [aa3, h]
 cases n.eqs[i]? <;> simp
theorem turn_add {n : NNode} {i : Nat} {q : NEqn} {t : Str} (hq : n.eqs[i]? = some q) (h : lkR n i = some t) : aa3 n (i + 1) = aa3 n i ++ [(hd1 q, t)] := by simp only [aa3, h, hq]
theorem look_one (k t s : Str) : bc8 [(k, t)] s = if s = k then some t else none := by
 simp only [bc8]
 by_cases h : s = k
 ·subst h; rw [if_pos rfl, if_pos (by simp [aa4])]
 ·rw [if_neg h, if_neg (fun e => h (eqStr_eq e).symm)]
theorem turn_has {n : NNode} {i : Nat} {q : NEqn} {t u : Str} (hq : n.eqs[i]? = some q) (h : lkR n i = some t) (hu : bc8 (aa3 n i) (hd1 q) = some u) {M : List (V × V × Nat)} (hM : TM n M i) : TM n M (i + 1) := by
 have e : bc8 (aa3 n (i + 1)) = bc8 (aa3 n i) := by
  funext s
  rw [turn_add hq h, look_app]
  cases hs : bc8 (aa3 n i) s with
  | some v => rfl
  | none =>
    simp only
    rw [look_one, if_neg]
    intro es
    subst es
    rw [hs] at hu; cases hu
 unfold TM
 rw [e]
 exact hM
theorem turn_put {n : NNode} {i : Nat} {q : NEqn} {t : Str} (hq : n.eqs[i]? = some q) (h : lkR n i = some t) (hu : bc8 (aa3 n i) (hd1 q) = none) {M : List (V × V × Nat)} (hM : TM n M i) {hs : List O} {a ck : Nat} (ha : hpL hs a = .m M ck) :
  ∃ M' ck', mstB hs (.k .s) (.s (hd1 q).1 (hd1 q).2) (.s t.1 t.2) (.m a) = ac5 hs a (.m M' ck') ∧ TM n M' (i + 1) := by
 obtain ⟨es', ck', h1, h2⟩ := hM.put (fun _ => rfl) keyEq_s (fun _ => rfl) ha (hd1 q) t
 refine ⟨es', ck', h1, ?_⟩
 have e : (fun s => if s = hd1 q then some t else bc8 (aa3 n i) s) = bc8 (aa3 n (i + 1)) := by
  funext s
  rw [turn_add hq h, look_app, look_one]
  by_cases hs : s = hd1 q
  ·subst hs; rw [hu]
  ·rw [if_neg hs, if_neg hs]; split
   ·rename_i e; exact e
   ·rename_i e; exact e
 rw [e] at h2
 exact h2
theorem Se.monoD {h h' : Hp} {D D' : Nat → Prop} (hh : ∀ a gr cs, D a → h a = .c gr cs → h' a = .c gr cs ∧ D' a) {x y : V} (hs : Se h D x y) : Se h' D' x y := by
 induction hs with
 | same x => exact .same x
 | nil => exact .nil
 | sl a off wd len cp gr cs rows ha hD hl hb hw hr ih => exact .sl a off wd len cp gr cs rows (hh a gr cs hD ha).1 (hh a gr cs hD ha).2 hl hb hw ih
 | ag xs ys hl hr ih => exact .ag xs ys hl ih
 | tu xs ys hl hr ih => exact .tu xs ys hl ih
theorem Sl.monoD {h h' : Hp} {D D' : Nat → Prop} (hh : ∀ a gr cs, D a → h a = .c gr cs → h' a = .c gr cs ∧ D' a) : ∀ {xs ys : List V}, Sl h D xs ys → Sl h' D' xs ys
 | [], [], _ => trivial
 | _ :: _, _ :: _, hs => ⟨Se.monoD hh hs.1, Sl.monoD hh hs.2⟩
theorem Sll.monoD {h h' : Hp} {D D' : Nat → Prop} (hh : ∀ a gr cs, D a → h a = .c gr cs → h' a = .c gr cs ∧ D' a) : ∀ {xs ys : List (List V)}, Sll h D xs ys → Sll h' D' xs ys
 | [], [], _ => trivial
 | _ :: _, _ :: _, hs => ⟨Sl.monoD hh hs.1, Sll.monoD hh hs.2⟩
theorem hpL_skip {P L : List O} {a : Nat} (h : P.length ≤ a) : hpL (P ++ L) a = hpL L (a - P.length) := by
 simp only [hpL, List.getD_eq_getElem?_getD, List.getElem?_append_right h]
theorem gt_one {base wd n bytes : Nat} {v : V} {T0 T : List O} {cs xs : List V} (h : GT base wd n v T0 T cs) (hw : wd ≠ 0) (hx : xs.length = wd) (hroom : room (n + 1) bytes = true) :
  ∃ T1, (∃ t, T1 = T0 ++ t) ∧ T1.length = T.length ∧ (∀ m, ltO m T = true → ltO m T1 = true ∧ ltL m cs = true) ∧ (∀ (pre zs : List O) (rb k : Nat), pre.length = base → rb + k = base + (T.length + zs.length) →
   ah6 rb (pre ++ (T ++ (zs ++ [.no]))) k v (some xs) (some 1) wd bytes = some (.sl (base + (T.length + zs.length)) 0 wd (n + 1) none, pre ++ (T1 ++ (zs ++ [.c true (cs ++ xs)]))))
   ∧ ∀ zs : List O, GT base wd (n + 1) (.sl (base + (T.length + zs.length)) 0 wd (n + 1) none) (T1 ++ zs) (T1 ++ (zs ++ [.c true (cs ++ xs)])) (cs ++ xs) := by
 have hwb : Nat.beq wd 0 = false := by cases wd with | zero => exact (hw rfl).elim | succ n => rfl
 have hl : cs.length = n * wd := by
  rcases h with ⟨rfl, rfl, rfl, rfl⟩ | ⟨_, _, _, h⟩
  ·simp
  ·exact h
 have hcl : (cs ++ xs).length = (n + 1) * wd := by rw [List.length_append, hl, hx, Nat.add_mul, Nat.one_mul]
 rcases h with ⟨rfl, rfl, rfl, rfl⟩ | ⟨h0, rfl, rfl, _⟩
 ·refine ⟨T, ⟨[], by simp⟩, rfl, fun m h => ⟨h, rfl⟩, fun pre zs rb k hp hr => ?_, fun zs => .inr ⟨by omega, by simp, by simp, hcl⟩⟩
  rw [ap_ns rfl hroom, hr, show pre ++ (T ++ (zs ++ [.no])) = (pre ++ (T ++ zs)) ++ [.no] by simp, av0 (by simp [hp])]
  simp
 ·refine ⟨T0 ++ [.gone], ⟨_, rfl⟩, by simp, fun m h => ?_, fun pre zs rb k hp hr => ?_, fun zs => .inr ⟨by omega, by simp, by simp; omega, hcl⟩⟩
  ·have key : ∀ {a : List O} {o : O}, ltO m (a ++ [o]) = true → ltO m a = true ∧ o.lt m = true := by
    intro a
    induction a with
    | nil => intro o h; simpa [ltO] using h
    | cons x a ih =>
      intro o h
      simp only [List.cons_append, ltO, Bool.and_eq_true] at h ⊢
      obtain ⟨h1, h2⟩ := ih h.2
      exact ⟨⟨h.1, h1⟩, h2⟩
   obtain ⟨h1, h2⟩ := key h
   exact ⟨aa5 h1 rfl, h2⟩
  ·have hh : hpL (pre ++ ((T0 ++ [.c true cs]) ++ (zs ++ [.no]))) (base + T0.length) = .c true cs := by
    have : pre ++ ((T0 ++ [.c true cs]) ++ (zs ++ [.no])) = (pre ++ T0) ++ .c true cs :: (zs ++ [.no]) := by simp
    rw [this, show base + T0.length = (pre ++ T0).length by simp [hp]]
    exact hp_ap0
   rw [ap_sl rfl, hh, aw0 rfl hwb (by rw [hl]; exact Nat.beq_refl _) hroom]
   have e1 : ac5 (pre ++ ((T0 ++ [.c true cs]) ++ (zs ++ [.no]))) (base + T0.length) .gone = some ((pre ++ (T0 ++ .gone :: zs)) ++ [.no]) := by
    have : pre ++ ((T0 ++ [.c true cs]) ++ (zs ++ [.no])) = (pre ++ T0) ++ .c true cs :: (zs ++ [.no]) := by simp
    rw [this, show base + T0.length = (pre ++ T0).length by simp [hp], as0]
    simp
   rw [e1, Option.bind_some, av0 (by rw [hr]; simp [hp]; omega), hr]
   simp
structure EV (base : Nat) (ev : V) (T0 T J : List O) (rs : List (List V)) (ys : List NEqn) : Prop where
 gt : GT base 13 ys.length ev T0 T rs.flatten
 len : rs.length = ys.length
 wd : ∀ r, r ∈ rs → r.length = 13
 se : Sll (fun a => hpL T0 (a - base)) (fun a => base ≤ a) rs (ys.map NEqn.row)
 lt : ltO (base + (T ++ J).length) (T ++ J) = true
theorem EV.nil {base : Nat} : EV base .ns [] [] [] [] [] := ⟨.inl ⟨rfl, rfl, rfl, rfl⟩, rfl, by simp, trivial, rfl⟩
theorem EV.more {base : Nat} {ev : V} {T0 T J : List O} {rs : List (List V)} {ys : List NEqn} (h : EV base ev T0 T J rs ys) {X : List O} (hX : X.all ocl = true) : EV base ev T0 T (J ++ X) rs ys := by
 refine ⟨h.gt, h.len, h.wd, h.se, ?_⟩
 rw [← List.append_assoc]
 exact aa5 (ao7 h.lt (by simp)) (af4 hX)
theorem ar5 : ∀ {m : Nat} {a b : List O}, ltO m (a ++ b) = true → ltO m a = true ∧ ltO m b = true
 | m, [], b, h => ⟨rfl, h⟩
 | m, x :: a, b, h => by
   simp only [List.cons_append, ltO, Bool.and_eq_true] at h ⊢
   obtain ⟨h1, h2⟩ := ar5 h.2
   exact ⟨⟨h.1, h1⟩, h2⟩
theorem ltL_app : ∀ {m : Nat} {a b : List V}, ltL m a = true → ltL m b = true → ltL m (a ++ b) = true
 | m, [], b, _, h => h
 | m, x :: a, b, h, h' => by
   simp only [ltL, Bool.and_eq_true] at h
   simp only [List.cons_append, ltL, Bool.and_eq_true]
   exact ⟨h.1, ltL_app h.2 h'⟩
theorem EV.app {base : Nat} {ev : V} {P W T0 T J : List O} {rs : List (List V)} {ys : List NEqn} (h : EV base ev T0 T J rs ys) (hp : P.length = base) (hW : W = T ++ J) (hn : ys.length < 30000000) (r : List V) (y : NEqn) (X : List O) (hr : r.length = 13)
  (hX : ltO (base + (W.length + (X.length + 1))) X = true) (hrl : ltL (base + (W.length + (X.length + 1))) r = true) (hse : Sl (fun a => hpL X (a - (base + W.length))) (fun a => base + W.length ≤ a) r y.row) :
  ∃ (ev' : V) (T0' T' : List O), EV base ev' T0' T' [] (rs ++ [r]) (ys ++ [y]) ∧ ∀ rb k, rb + k = base + (W.length + X.length) → ah6 rb (P ++ (W ++ (X ++ [.no]))) k ev (some r) (some 1) 13 192 = some (ev', P ++ T') := by
 obtain ⟨T1, ⟨t, ht⟩, hl1, hlt, hap, hgt⟩ := gt_one (bytes := 192) h.gt (by omega) hr (p6 (by omega) (by omega))
 have hy : (ys ++ [y]).length = ys.length + 1 := by simp
 have hf : (rs ++ [r]).flatten = rs.flatten ++ r := by simp
 refine ⟨.sl (base + (T.length + (J ++ X).length)) 0 13 (ys.length + 1) none, T1 ++ (J ++ X), T1 ++ ((J ++ X) ++ [.c true (rs.flatten ++ r)]), ⟨?_, by simp [h.len], ?_, ?_, ?_⟩, fun rb k e => ?_⟩
 ·rw [hy, hf]
  exact hgt (J ++ X)
 ·intro x hx
  rcases List.mem_append.1 hx with hx | hx
  ·exact h.wd x hx
  ·simp at hx; subst hx; exact hr
 ·rw [List.map_append]
  refine Sll.app (Sl.monoD (fun a gr cs hD ha => ⟨?_, by omega⟩) hse) (Sll.monoD (fun a gr cs hD ha => ⟨?_, hD⟩) h.se)
  ·have e1 : T1 ++ (J ++ X) = (T1 ++ J) ++ X := by simp
   have e2 : (T1 ++ J).length = W.length := by rw [hW, List.length_append, List.length_append, hl1]
   show hpL (T1 ++ (J ++ X)) (a - base) = _
   rw [e1, hpL_skip (by omega), e2, ← ha]
   congr 1
   omega
  ·show hpL (T1 ++ (J ++ X)) (a - base) = _
   rw [ht, List.append_assoc]
   exact ac7 ha
 ·obtain ⟨a1, a2⟩ := ar5 h.lt
  have hle : base + (T ++ J).length ≤ base + (T1 ++ ((J ++ X) ++ [O.c true (rs.flatten ++ r)]) ++ []).length := by simp [hl1] <;> omega
  have hm : base + (W.length + (X.length + 1)) = base + (T1 ++ ((J ++ X) ++ [O.c true (rs.flatten ++ r)]) ++ []).length := by rw [hW]; simp [hl1] <;> omega
  rw [hm] at hX hrl
  generalize base + (T1 ++ ((J ++ X) ++ [O.c true (rs.flatten ++ r)]) ++ []).length = m at *
  obtain ⟨b1, b2⟩ := hlt m (ao7 a1 hle)
  rw [List.append_nil]
  refine aa5 b1 (aa5 (aa5 (ao7 a2 hle) hX) ?_)
  have : (O.c true (rs.flatten ++ r)).lt m = true := ltL_app b2 hrl
  simp only [ltO, this, Bool.and_self]
 ·have := hap P (J ++ X) rb k hp (by rw [e, hW]; simp; omega)
  rw [hW]
  simp only [List.append_assoc] at this ⊢
  rw [this]
def LV (base : Nat) (lv : V) (A : List O) (cur : List Decl) : Prop :=
 (lv = .ns ∧ cur = []) ∨ ∃ (A0 A1 : List O) (z : List V), A = A0 ++ .c true (dfl cur ++ z) :: A1 ∧ lv = .sl (base + (A0.length + 1)) 0 3 cur.length none ∧ clL z = true
theorem LV.lt {base m : Nat} {lv : V} {A : List O} {cur : List Decl} (h : LV base lv A cur) (hm : base + (A.length + 1) ≤ m) : lv.lt m = true := by
 rcases h with ⟨h, _⟩ | ⟨A0, A1, z, h1, h2, _⟩
 ·rw [h]; simp only [V.lt]
 ·rw [h2]; rw [h1] at hm; simp at hm; simp only [V.lt, decide_eq_true_eq]; omega
theorem LV.st {base : Nat} {lv : V} {A : List O} {cur : List Decl} (h : LV base lv A cur) : B.stored lv = some [lv] := by
 rcases h with ⟨h, _⟩ | ⟨A0, A1, z, h1, h2, _⟩
 ·rw [h]; rfl
 ·rw [h2]; rfl
theorem se_pref {h : Hp} {D : Nat → Prop} {a wd n : Nat} {cp : Option Nat} {gr : Bool} {rs : List (List V)} {z : List V} (ha : h a = .c gr (rs.flatten ++ z)) (hD : D a) (hn : rs.length = n) (hw : ∀ r, r ∈ rs → r.length = wd) : Se h D (.sl a 0 wd n cp) (.ts rs) := by
 refine .sl a 0 wd n cp gr _ rs ha hD hn (by rw [List.length_append, bh4 hw, hn]; omega) (fun i row e => hw row (List.mem_of_getElem? e)) (fun i j row y x e1 e2 e3 => ?_)
 have hi : i * wd + j < rs.flatten.length := by
  have h1 := (List.getElem?_eq_some_iff.1 e1).1
  have h2 : j < wd := by rw [← hw row (List.mem_of_getElem? e1)]; exact (List.getElem?_eq_some_iff.1 e2).1
  rw [bh4 hw]
  have : (i + 1) * wd ≤ rs.length * wd := Nat.mul_le_mul_right _ h1
  rw [Nat.add_mul, Nat.one_mul] at this
  omega
 rw [Nat.zero_add, List.getElem?_append_left hi, bd8 hw e1 e2] at e3
 cases e3
 exact .same _
theorem LV.se {P A S : List O} {base : Nat} {lv : V} {o : O} {cur : List Decl} (h : LV base lv A cur) (hp : P.length = base) : Se (hpL (P ++ o :: (A ++ S))) (fun _ => True) lv (.ts (cur.map Decl.row)) := by
 rcases h with ⟨h, h2⟩ | ⟨A0, A1, z, h1, h2, _⟩
 ·rw [h, h2]; exact .nil
 ·rw [h2, h1]
  refine se_pref (z := z) (gr := true) ?_ trivial (by simp) (an1 cur)
  have : P ++ o :: ((A0 ++ O.c true (dfl cur ++ z) :: A1) ++ S) = (P ++ o :: A0) ++ O.c true (dfl cur ++ z) :: (A1 ++ S) := by simp
  rw [this, show base + (A0.length + 1) = (P ++ o :: A0).length by simp [hp]]
  exact hp_ap0
theorem EV.seen {P S : List O} {base : Nat} {ev : V} {T0 T J : List O} {rs : List (List V)} {ys : List NEqn} (h : EV base ev T0 T J rs ys) (hp : P.length = base) : Se (hpL (P ++ (T ++ S))) (fun _ => True) ev (.ts (ys.map NEqn.row)) := by
 rcases h.gt with ⟨h1, h2, _, _⟩ | ⟨h1, h2, h3, _⟩
 ·rw [List.length_eq_zero_iff.1 h1, h2]; exact .nil
 ·rw [h3]
  refine Se.rowsL (rs := rs) (cs := rs.flatten) (gr := true) ?_ rfl h.len trivial h.wd (fun r hr => ?_) (Sll.monoD (fun a gr cs hD ha => ⟨?_, trivial⟩) h.se)
  ·have : P ++ (T ++ S) = (P ++ T0) ++ O.c true rs.flatten :: S := by rw [h2]; simp
   rw [this, show base + T0.length = (P ++ T0).length by simp [hp]]
   exact hp_ap0
  ·obtain ⟨q, _, rfl⟩ := List.mem_map.1 hr
   exact f0 q
  ·rw [hpL_skip (by omega), hp, h2]
   have := ac7 (m := [O.c true rs.flatten] ++ S) ha
   simpa using this
theorem hp_sh {o : O} {l : List O} {a k : Nat} : hpL (o :: l) (a + (k + 1)) = hpL l (a + k) := by rw [← Nat.add_assoc]; rfl
theorem hg_sh {o : O} {l : List O} {a k : Nat} : hg (o :: l) (a + (k + 1)) = hg l (a + k) := by rw [← Nat.add_assoc]; rfl
theorem hs_sh {o x : O} {l : List O} {a k : Nat} : ac5 (o :: l) (a + (k + 1)) x = (ac5 l (a + k) x).map (o :: ·) := by rw [← Nat.add_assoc]; rfl
theorem nn0 (n : NNode) : n.row.take 1 = [.s n.nm.1 n.nm.2] := rfl
set_option maxRecDepth 10000 in
set_option maxHeartbeats 8000000 in
theorem snode_pc (n : NNode) (hok : n.ok) : PC Tryz.prog 8 [.ag n.row] (.ag (nodeN n).row) := by
 obtain ⟨o1, o2, o3, o4, o5⟩ := id hok
 have hne := o4
 unfold Lst.ok at hne
 have hsp := sparts_pc n hok
 have hpn := prt_len n
 refine ac1 Tryz.func8 k8 rfl ?_
 repeat' (first
  | ((with_reducible refine j3 ?rdq ?_); (case rdq => refine j2 rfl ?_ ?_ <;> simp only [Option.isSome_some, u5, u4, e8, j7, b9, irws_cl, List.length_map, SXR, simprocAttr]))
  | (with_reducible refine b8 (hsp) (by simp only [SXR, b9, irws_cl]) (by simp only [SXR, b9, irws_cl]) ?_)
  | (simp only [c8, u5, u4, e8, j7, b9, irws_cl, List.length_map, SXR, simprocAttr]))
 refine o8 (X := Nat) (fun a ll hs => ∃ (es : List (V × V × Nat)) (ck : Nat), Hd (fun j => [j 0, .p 0 0, .p 1 0, .m 2, .m 3, j 5, j 6, j 7, j 8, j 9, j 10, j 11, j 12, j 13, j 14, j 15, j 16, j 17, j 18, j 19, j 20, j 21, j 22, j 23, .ts ((z9 n).map irow), .i .i64 ((z9 n).length : Int), .i .i64 (a : Int), j 27, j 28, j 29, j 30, j 31, j 32, j 33, j 34, j 35, j 36, j 37, j 38, j 39, j 40, j 41, j 42, j 43, j 44, j 45, j 46, j 47, j 48, j 49, j 50, j 51, j 52, j 53, j 54, j 55, j 56, j 57, j 58, j 59, j 60, j 61, j 62, j 63, j 64, j 65, j 66, j 67, j 68, j 69, j 70, j 71, j 72, j 73, j 74, j 75, j 76, j 77, j 78, j 79, j 80, j 81, j 82, j 83, j 84, j 85, j 86, j 87, j 88, j 89, j 90, j 91, j 92, j 93, j 94, j 95, j 96, j 97, j 98, j 99, j 100, j 101, j 102, j 103, j 104, j 105, j 106, j 107, j 108, j 109, j 110, j 111, j 112, j 113, j 114, j 115, j 116, j 117, j 118, j 119, j 120, j 121, j 122, j 123, j 124, j 125, j 126, j 127, j 128, j 129, j 130, j 131, j 132, j 133, j 134, j 135, j 136, j 137, j 138, j 139, j 140, j 141, j 142, j 143, j 144, j 145, j 146, j 147, j 148, j 149, j 150, j 151]) ll ∧ hs = [.c false n.row, .c false [.s 0 0, .ns, .ns, .ns, .ns], .m es ck, .m [] 0] ∧ KM n es (tls n a))
  (fun a => a ≤ (z9 n).length) (fun a => (z9 n).length - a) ?_ 0 _ _ (by exact ⟨[], 0, rfl, rfl, by have := MS.nil (kt := .k (.i .i64)) (kf := ikey); exact this⟩) (Nat.zero_le _)
 rintro a _ _ ⟨es, ck, e, rfl, hK⟩ ha IH
 obtain ⟨j, rfl⟩ := e.open
 clear e
 by_cases hal : a < (z9 n).length
 ·obtain ⟨g, hg, hgm⟩ := ats hal
  have hgr := mg (f := irow) hg
  obtain ⟨r, rest, d, rfl, hr, hD, hall⟩ := part_cut n hgm
  have hrl := prt_each hgm
  simp only [List.length_cons] at hrl
  have hleft : d.left.map af8 = [[.s (hd1 d).1 (hd1 d).2]] := by rw [ab8 hD]; rfl
  have hrr := mg (f := NEqn.row) hr
  have hts := tls_succ hg
  have hd := ltd hal
  have hw := l6 (n := a) (by omega)
  have hir : irow (r :: rest) = [.ts ([.i .i64 (r : Int)] :: ab7 rest)] := rfl
  have hss := ssl_tail (.i .i64 (r : Int)) rest
  rw [hir] at hgr
  repeat' (first
   | ((with_reducible refine j3 ?rdq ?_); (case rdq => refine j2 rfl ?_ ?_ <;> simp only [Option.isSome_some, u5, u4, hd, hgr, x_sslF, Option.map_none, hss, irw_len, SXR, simprocAttr]))
   | (simp only [c8, u5, u4, hd, hgr, x_sslF, Option.map_none, hss, irw_len, SXR, simprocAttr]))
  refine o8 (X := Nat) (fun b ll hs => ∃ (es : List (V × V × Nat)) (ck : Nat), Hd (fun j => [j 0, .p 0 0, .p 1 0, .m 2, .m 3, j 5, .ts ([.i .i64 (r : Int)] :: ab7 rest), j 7, j 8, j 9, j 10, j 11, j 12, j 13, j 14, j 15, j 16, j 17, j 18, j 19, j 20, j 21, j 22, j 23, .ts ((z9 n).map irow), .i .i64 ((z9 n).length : Int), .i .i64 (a : Int), j 27, j 28, j 29, j 30, .ts (ab7 rest), .i .i64 (rest.length : Int), .i .i64 (b : Int), j 34, j 35, j 36, j 37, j 38, j 39, j 40, j 41, j 42, j 43, j 44, j 45, j 46, j 47, j 48, j 49, j 50, j 51, j 52, j 53, j 54, j 55, j 56, j 57, j 58, j 59, j 60, j 61, j 62, j 63, j 64, j 65, j 66, j 67, j 68, j 69, j 70, j 71, j 72, j 73, j 74, j 75, j 76, j 77, j 78, j 79, j 80, j 81, j 82, j 83, j 84, j 85, j 86, j 87, j 88, j 89, j 90, j 91, j 92, j 93, j 94, j 95, j 96, j 97, j 98, j 99, j 100, j 101, j 102, j 103, j 104, j 105, j 106, j 107, j 108, j 109, j 110, j 111, j 112, j 113, j 114, j 115, j 116, j 117, j 118, j 119, j 120, j 121, j 122, j 123, j 124, j 125, j 126, j 127, j 128, j 129, j 130, j 131, j 132, j 133, j 134, j 135, j 136, j 137, j 138, j 139, j 140, j 141, j 142, j 143, j 144, j 145, j 146, j 147, j 148, j 149, j 150, j 151]) ll ∧ hs = [.c false n.row, .c false [.s 0 0, .ns, .ns, .ns, .ns], .m es ck, .m [] 0] ∧ KM n es (tls n a ++ rest.take b))
   (fun b => b ≤ rest.length) (fun b => rest.length - b) ?_ 0 _ _ (by exact ⟨es, ck, rfl, rfl, by rw [List.take_zero, List.append_nil]; exact hK⟩) (Nat.zero_le _)
  clear hK
  rintro b _ _ ⟨es, ck, e, rfl, hK⟩ hb IK
  obtain ⟨j, rfl⟩ := e.open
  clear e
  by_cases hbl : b < rest.length
  ·clear IH
   obtain ⟨i, hi, him⟩ := ats hbl
   have hii := irw_get hi
   have hdb := ltd hbl
   have hwb := l6 (n := b) (by omega)
   obtain ⟨es', ck', hmst, hK'⟩ := kept_put hK (hall i him) (hs := [.c false n.row, .c false [.s 0 0, .ns, .ns, .ns, .ns], .m es ck, .m [] 0]) (a := 2) (ck := ck) rfl
   rw [List.append_assoc, ← show rest.take (b + 1) = rest.take b ++ [i] by rw [List.take_add_one, hi]; rfl] at hK'
   repeat' (first
    | ((with_reducible refine j3 ?rdq ?_); (case rdq => refine j2 rfl ?_ ?_ <;> simp only [Option.isSome_some, u5, u4, hdb, hii, hwb, e8, nn4, hrr, f0, j0, hleft, hmst, SXR, simprocAttr]))
    | (simp only [c8, u5, u4, hdb, hii, hwb, e8, nn4, hrr, f0, j0, hleft, hmst, SXR, simprocAttr]))
   exact IK (b + 1) _ _ (by exact ⟨es', ck', rfl, rfl, hK'⟩) hbl (by omega)
  ·clear IK
   have hbe : b = rest.length := by omega
   subst hbe
   rw [List.take_length, ← hts] at hK
   have hdb := ltn hbl
   repeat' (first
    | ((with_reducible refine j3 ?rdq ?_); (case rdq => refine j2 rfl ?_ ?_ <;> simp only [Option.isSome_some, u5, u4, hdb, hw, SXR, simprocAttr]))
    | (simp only [c8, u5, u4, hdb, hw, SXR, simprocAttr]))
   exact IH (a + 1) _ _ (by exact ⟨es, ck, rfl, rfl, hK⟩) hal (by omega)
 ·clear IH
  have hae : a = (z9 n).length := by omega
  subst hae
  have hd := ltn hal
  rw [show KM n es (tls n (z9 n).length) = MS (.k (.i .i64)) ikey es (lkR n) by unfold KM; rw [kfn_all]] at hK
  have hk2 : ∀ (X : List O) (i : Nat), lkpE (hpL (.c false n.row :: .c false [.s 0 0, .ns, .ns, .ns, .ns] :: .m es ck :: X)) (.k (.i .i64)) false [.s 0 0] true (.m 2) (.i .i64 (i : Int)) = some (match lkR n i with
   | some t => .tu [.s t.1 t.2, .b true]
   | none => .tu [.s 0 0, .b false]) := fun X i => hK.get (fun _ => rfl) (hp := hpL (.c false n.row :: .c false [.s 0 0, .ns, .ns, .ns, .ns] :: .m es ck :: X)) (a := 2) (ck := ck) rfl i
  repeat' (first
   | ((with_reducible refine j3 ?rdq ?_); (case rdq => refine j2 rfl ?_ ?_ <;> simp only [Option.isSome_some, u5, u4, hd, e8, nn4, List.length_map, SXR, simprocAttr]))
   | (simp only [c8, u5, u4, hd, e8, nn4, List.length_map, SXR, simprocAttr]))
  refine o8 (X := Nat) (fun i ll hs => ∃ (M : List (V × V × Nat)) (cm : Nat) (G : List O), Hd (fun j => [j 0, .p 0 0, .p 1 0, .m 2, .m 3, j 5, j 6, j 7, j 8, j 9, j 10, j 11, j 12, j 13, j 14, j 15, j 16, j 17, j 18, j 19, j 20, j 21, j 22, j 23, j 24, j 25, j 26, j 27, j 28, j 29, j 30, j 31, j 32, j 33, j 34, j 35, j 36, j 37, j 38, j 39, j 40, j 41, j 42, j 43, j 44, j 45, j 46, j 47, j 48, j 49, j 50, j 51, .ts (n.eqs.map NEqn.row), .i .i64 (n.eqs.length : Int), .i .i64 (i : Int), j 55, j 56, j 57, j 58, j 59, j 60, j 61, j 62, j 63, j 64, j 65, j 66, j 67, j 68, j 69, j 70, j 71, j 72, j 73, j 74, j 75, j 76, j 77, j 78, j 79, j 80, j 81, j 82, j 83, j 84, j 85, j 86, j 87, j 88, j 89, j 90, j 91, j 92, j 93, j 94, j 95, j 96, j 97, j 98, j 99, j 100, j 101, j 102, j 103, j 104, j 105, j 106, j 107, j 108, j 109, j 110, j 111, j 112, j 113, j 114, j 115, j 116, j 117, j 118, j 119, j 120, j 121, j 122, j 123, j 124, j 125, j 126, j 127, j 128, j 129, j 130, j 131, j 132, j 133, j 134, j 135, j 136, j 137, j 138, j 139, j 140, j 141, j 142, j 143, j 144, j 145, j 146, j 147, j 148, j 149, j 150, j 151]) ll ∧ hs = .c false n.row :: .c false [.s 0 0, .ns, .ns, .ns, .ns] :: .m es ck :: .m M cm :: G ∧ TM n M i ∧ G.all ocl = true)
   (fun i => i ≤ n.eqs.length) (fun i => n.eqs.length - i) ?_ 0 _ _ (by exact ⟨[], 0, [], rfl, rfl, by have := MS.nil (kt := .k .s) (kf := skey); exact this, rfl⟩) (Nat.zero_le _)
  rintro i _ _ ⟨M, cm, G, e, rfl, hM, hG⟩ hi IH
  obtain ⟨j, rfl⟩ := e.open
  clear e
  by_cases hil : i < n.eqs.length
  ·obtain ⟨q, hq, hqm⟩ := ats hil
   have hqr := mg (f := NEqn.row) hq
   have hd := ltd hil
   have hw := l6 (n := i) (by omega)
   have hk2 := fun X => hk2 X i
   have hG' : (G ++ [O.c false q.row]).all ocl = true := by simp only [List.all_append, List.all_cons, List.all_nil, hG, t8, j5, Bool.and_self]
   cases hl : lkR n i with
   | none =>
     simp only [hl] at hk2
     have hno := turn_no hl
     repeat' (first
      | ((with_reducible refine j3 ?rdq ?_); (case rdq => refine j2 rfl ?_ ?_ <;> simp only [Option.isSome_some, u5, u4, hd, hw, hqr, hk2, p5, i5, f0, Nat.add_assoc, SXR, simprocAttr]))
      | (simp only [c8, u5, u4, hd, hw, hqr, hk2, p5, i5, f0, Nat.add_assoc, SXR, simprocAttr]))
     exact IH (i + 1) _ _ (by exact ⟨M, cm, _, rfl, rfl, by unfold TM; rw [hno]; exact hM, hG'⟩) hil (by omega)
   | some t =>
     simp only [hl] at hk2
     obtain ⟨_, q', _, _, _, hq', hD, _⟩ := lkR_some n hl
     rw [hq] at hq'
     cases hq'
     have hleft : q.left.map af8 = [[.s (hd1 q).1 (hd1 q).2]] := by rw [ab8 hD]; rfl
     have hm3 : ∀ X, lkpE (hpL (.c false n.row :: .c false [.s 0 0, .ns, .ns, .ns, .ns] :: .m es ck :: .m M cm :: X)) (.k .s) false [.s 0 0] true (.m 3) (.s (hd1 q).1 (hd1 q).2) = some (match bc8 (aa3 n i) (hd1 q) with
      | some t => .tu [.s t.1 t.2, .b true]
      | none => .tu [.s 0 0, .b false]) := fun X => hM.get (fun _ => rfl) (hp := hpL (.c false n.row :: .c false [.s 0 0, .ns, .ns, .ns, .ns] :: .m es ck :: .m M cm :: X)) (a := 3) (ck := cm) rfl (hd1 q)
     cases hu : bc8 (aa3 n i) (hd1 q) with
     | some u =>
       simp only [hu] at hm3
       have hM' := turn_has hq hl hu hM
       repeat' (first
        | ((with_reducible refine j3 ?rdq ?_); (case rdq => refine j2 rfl ?_ ?_ <;> simp only [Option.isSome_some, u5, u4, hd, hw, hqr, hk2, hm3, p5, i5, f0, j0, hleft, Nat.add_assoc, SXR, simprocAttr]))
        | (simp only [c8, u5, u4, hd, hw, hqr, hk2, hm3, p5, i5, f0, j0, hleft, Nat.add_assoc, SXR, simprocAttr]))
       exact IH (i + 1) _ _ (by exact ⟨M, cm, _, rfl, rfl, hM', hG'⟩) hil (by omega)
     | none =>
       simp only [hu] at hm3
       obtain ⟨M', cm', hmst, hM'⟩ := turn_put hq hl hu hM (hs := .c false n.row :: .c false [.s 0 0, .ns, .ns, .ns, .ns] :: .m es ck :: .m M cm :: (G ++ [.c false q.row])) (a := 3) (ck := cm) rfl
       repeat' (first
        | ((with_reducible refine j3 ?rdq ?_); (case rdq => refine j2 rfl ?_ ?_ <;> simp only [Option.isSome_some, u5, u4, hd, hw, hqr, hk2, hm3, p5, i5, f0, j0, hleft, hmst, Nat.add_assoc, SXR, simprocAttr]))
        | (simp only [c8, u5, u4, hd, hw, hqr, hk2, hm3, p5, i5, f0, j0, hleft, hmst, Nat.add_assoc, SXR, simprocAttr]))
       exact IH (i + 1) _ _ (by exact ⟨M', cm', _, rfl, rfl, hM', hG'⟩) hil (by omega)
  ·clear IH
   have hie : i = n.eqs.length := by omega
   subst hie
   have hd := ltn hil
   obtain ⟨us, hus⟩ : ∃ us : List O, us = .c false n.row :: .c false [.s 0 0, .ns, .ns, .ns, .ns] :: .m es ck :: .m M cm :: G := ⟨_, rfl⟩
   rw [← hus]
   have hU0 : ∀ ks, hpL (us ++ ks) 0 = .c false n.row := fun ks => by rw [hus]; rfl
   have hU2 : ∀ (ks : List O) (i : Nat), lkpE (hpL (us ++ ks)) (.k (.i .i64)) false [.s 0 0] true (.m 2) (.i .i64 (i : Int)) = some (match lkR n i with
    | some t => .tu [.s t.1 t.2, .b true]
    | none => .tu [.s 0 0, .b false]) := fun ks i => by rw [hus]; exact hk2 _ i
   have hU0' := hU0 []
   rw [List.append_nil] at hU0'
   have hult : ltO us.length us = true := by
    rw [hus]
    have h1 : ∀ m, (O.c false n.row).lt m = true := fun m => am5 (by rw [t8]; exact b9 n)
    have h2 : ∀ m, (O.m es ck).lt m = true := fun m => hK.lt m
    have h3 : ∀ m, (O.m M cm).lt m = true := fun m => hM.lt m
    have h4 : ∀ m, (O.c false [.s 0 0, .ns, .ns, .ns, .ns]).lt m = true := fun m => rfl
    simp only [ltO, h1, h2, h3, h4, af4 hG, Bool.and_self]
   have hnm : NmC 49 us (.m 3) (q9 n) := mname_nm (a := 3) (ck := cm) (by rw [hus]; rfl) hM hult
   have hc1 := mdecls_ac (hnm.moreo (zs := [.no]) rfl) n.ins o1
   have hc2 := mdecls_ac (hnm.moreo (zs := [.no]) rfl) n.outs o2
   obtain ⟨lv0, L0, L1, L2, hLg, hL1, hL2, hc3⟩ := bi8 (hnm.moreo (zs := [.no]) rfl) n.locals o3
   obtain ⟨A, hA⟩ : ∃ A, A = L1 ++ L2 := ⟨_, rfl⟩
   rw [← hA] at hc3
   have hAo : A.all ocl = true := by rw [hA]; simp only [List.all_append, hL1, hL2, Bool.and_self]
   have hLV : LV us.length lv0 A (al3 n (n.locals.map (Decl.rn (q9 n))) 0) := by
    rcases hLg with ⟨h1, h2, _, _⟩ | ⟨_, h2, h3, _⟩
    ·refine .inl ⟨h2, ?_⟩
     rw [List.length_eq_zero_iff.1 h1]; rfl
    ·refine .inr ⟨L0, L2, [], ?_, ?_, rfl⟩
     ·rw [hA, h2, List.append_nil, show dfl (al3 n (n.locals.map (Decl.rn (q9 n))) 0) = (n.locals.map (dcr (q9 n))).flatten by unfold dfl; rw [← dcr_map]; rfl]
      simp
     ·rw [h3, show (al3 n (n.locals.map (Decl.rn (q9 n))) 0).length = n.locals.length by simp [al3]]
      congr 1
      simp; omega
   have hst0 := hLV.st
   simp only [List.append_assoc, List.cons_append, List.nil_append] at hc3
   clear hk2 hM hK hA hL1 hL2 hLg
   repeat' (first
    | ((with_reducible refine j3 ?rdq ?_); (case rdq => refine j2 rfl ?_ ?_ <;> simp only [Option.isSome_some, u5, u4, hd, hU0, hU0', e8, nn1, nn2, nn3, nn4, nn0, hst0, List.length_map, Nat.add_assoc, SXR, simprocAttr]))
    | (with_reducible refine i7 (hc1) ?_)
    | (with_reducible refine i7 (hc2) ?_)
    | (with_reducible refine i7 (hc3) ?_)
    | (simp only [c8, u5, u4, hd, hU0, hU0', e8, nn1, nn2, nn3, nn4, nn0, hst0, List.length_map, Nat.add_assoc, SXR, simprocAttr]))
   refine o8 (X := Nat) (fun i ll hs => ∃ (lv ev : V) (A T0 T J : List O) (rs : List (List V)), Hd (fun j => [j 0, .p 0 0, .p 1 0, .m 2, .m 3, j 5, j 6, j 7, j 8, j 9, j 10, j 11, j 12, j 13, j 14, .p us.length 0, j 16, j 17, j 18, j 19, j 20, j 21, j 22, j 23, j 24, j 25, j 26, j 27, j 28, j 29, j 30, j 31, j 32, j 33, j 34, j 35, j 36, j 37, j 38, j 39, j 40, j 41, j 42, j 43, j 44, j 45, j 46, j 47, j 48, j 49, j 50, j 51, j 52, j 53, j 54, j 55, j 56, j 57, j 58, j 59, j 60, j 61, j 62, j 63, j 64, j 65, j 66, j 67, j 68, j 69, j 70, j 71, j 72, j 73, j 74, j 75, j 76, j 77, j 78, j 79, j 80, j 81, j 82, j 83, j 84, j 85, j 86, j 87, j 88, j 89, j 90, j 91, j 92, j 93, j 94, j 95, j 96, j 97, j 98, j 99, .ts (n.eqs.map NEqn.row), .i .i64 (n.eqs.length : Int), .i .i64 (i : Int), j 103, j 104, j 105, j 106, j 107, j 108, j 109, j 110, j 111, j 112, j 113, j 114, j 115, j 116, j 117, j 118, j 119, j 120, j 121, j 122, j 123, j 124, j 125, j 126, j 127, j 128, j 129, j 130, j 131, j 132, j 133, j 134, j 135, j 136, j 137, j 138, j 139, j 140, j 141, j 142, j 143, j 144, j 145, j 146, j 147, j 148, j 149, j 150, j 151]) ll ∧ hs = us ++ .c false [.s n.nm.1 n.nm.2, .ts ((n.ins.map (Decl.rn (q9 n))).map Decl.row), .ts ((n.outs.map (Decl.rn (q9 n))).map Decl.row), lv, ev] :: (A ++ (T ++ J)) ∧
     LV us.length lv A (al3 n (n.locals.map (Decl.rn (q9 n))) i) ∧ A.all ocl = true ∧ EV (us.length + (A.length + 1)) ev T0 T J rs (av5 n i))
    (fun i => i ≤ n.eqs.length) (fun i => n.eqs.length - i) ?_ 0 _ _ (by exact ⟨lv0, .ns, A, [], [], [], [], rfl, by simp, hLV, hAo, EV.nil⟩) (Nat.zero_le _)
   clear hLV hAo hst0 hc1 hc2 hc3
   rintro i _ _ ⟨lv, ev, A, T0, T, J, rs, e, rfl, hLV, hAo, hEV⟩ hi IH
   obtain ⟨j, rfl⟩ := e.open
   clear e
   by_cases hil : i < n.eqs.length
   ·obtain ⟨W, hW⟩ : ∃ W, W = T ++ J := ⟨_, rfl⟩
    rw [← hW]
    obtain ⟨q, hq, hqm⟩ := ats hil
    have hqr := mg (f := NEqn.row) hq
    have hd := ltd hil
    have hw := l6 (n := i) (by omega)
    have hk := fun ks => hU2 ks i
    have hel := ay4 n i
    have hqo : ocl (.c false q.row) = true := by rw [t8]; exact j5 q
    have hWlt : ∀ m, us.length + (A.length + 1) + W.length ≤ m → ltO m W = true := fun m hm => by
     have := hEV.lt
     rw [← hW] at this
     exact ao7 this hm
    have hlvl : ∀ m, us.length + (A.length + 1) + W.length ≤ m → lv.lt m = true := fun m hm => hLV.lt (by omega)
    have hevl : ∀ m, us.length + (A.length + 1) + W.length ≤ m → ev.lt m = true := fun m hm => hEV.gt.lt (by rw [hW] at hm; simp at hm; omega)
    have hbx : ∀ X, X.all ocl = true → ltO (us ++ .c false [.s n.nm.1 n.nm.2, .ts ((n.ins.map (Decl.rn (q9 n))).map Decl.row), .ts ((n.outs.map (Decl.rn (q9 n))).map Decl.row), lv, ev] :: (A ++ (W ++ X))).length (us ++ .c false [.s n.nm.1 n.nm.2, .ts ((n.ins.map (Decl.rn (q9 n))).map Decl.row), .ts ((n.outs.map (Decl.rn (q9 n))).map Decl.row), lv, ev] :: (A ++ (W ++ X))) = true := fun X hX => by
     have hm : us.length + (A.length + 1) + W.length ≤ (us ++ O.c false [.s n.nm.1 n.nm.2, .ts ((n.ins.map (Decl.rn (q9 n))).map Decl.row), .ts ((n.outs.map (Decl.rn (q9 n))).map Decl.row), lv, ev] :: (A ++ (W ++ X))).length := by simp; omega
     have hm2 : us.length ≤ (us ++ O.c false [.s n.nm.1 n.nm.2, .ts ((n.ins.map (Decl.rn (q9 n))).map Decl.row), .ts ((n.outs.map (Decl.rn (q9 n))).map Decl.row), lv, ev] :: (A ++ (W ++ X))).length := by simp
     generalize (us ++ O.c false [.s n.nm.1 n.nm.2, .ts ((n.ins.map (Decl.rn (q9 n))).map Decl.row), .ts ((n.outs.map (Decl.rn (q9 n))).map Decl.row), lv, ev] :: (A ++ (W ++ X))).length = m at *
     refine aa5 (ao7 hult hm2) ?_
     have h1 : (O.c false [.s n.nm.1 n.nm.2, .ts ((n.ins.map (Decl.rn (q9 n))).map Decl.row), .ts ((n.outs.map (Decl.rn (q9 n))).map Decl.row), lv, ev]).lt m = true := by simp only [O.lt, ltL, V.lt, hlvl m hm, hevl m hm, r8 _ _ (i8 _), Bool.and_self]
     have h2 : ltO m (A ++ (W ++ X)) = true := aa5 (af4 hAo) (aa5 (hWlt m hm) (af4 hX))
     simp only [ltO, h1, h2, Bool.and_self]
    cases hl : lkR n i with
    | none =>
      simp only [hl] at hk
      have heq : av5 n (i + 1) = av5 n i ++ [q.rn (q9 n)] := by simp only [av5, hq, hl, bg8]
      have hlo : al3 n (n.locals.map (Decl.rn (q9 n))) (i + 1) = al3 n (n.locals.map (Decl.rn (q9 n))) i := by simp only [al3, hq, hl]
      have hro : ocl (.c false (q.rn (q9 n)).row) = true := by rw [t8]; exact j5 _
      have hc := mequation_ac (hnm.more (hbx [.c false q.row, .no, .no] (by simp only [List.all_cons, List.all_nil, ocl, j5, Bool.and_self]))) q (o5 q hqm)
      obtain ⟨ev', T0', T', hEV', hap⟩ := hEV.app (P := us ++ .c false [.s n.nm.1 n.nm.2, .ts ((n.ins.map (Decl.rn (q9 n))).map Decl.row), .ts ((n.outs.map (Decl.rn (q9 n))).map Decl.row), lv, ev] :: A) (by simp) hW (by omega) (q.rn (q9 n)).row (q.rn (q9 n)) [.c false q.row, .c false (q.rn (q9 n)).row] (f0 _) (af4 (by simp only [List.all_cons, List.all_nil, hqo, hro, Bool.and_self])) (t9 _ _ (j5 _)) Sl.refl
      have hap' : ∀ (rb k' : Nat), rb + k' = us.length + (A.length + (W.length + 3)) → ah6 rb (us ++ .c false [.s n.nm.1 n.nm.2, .ts ((n.ins.map (Decl.rn (q9 n))).map Decl.row), .ts ((n.outs.map (Decl.rn (q9 n))).map Decl.row), lv, ev] :: (A ++ (W ++ [.c false q.row, .c false (q.rn (q9 n)).row, .no]))) k' ev (some (q.rn (q9 n)).row) (some 1) 13 192 = some (ev', us ++ .c false [.s n.nm.1 n.nm.2, .ts ((n.ins.map (Decl.rn (q9 n))).map Decl.row), .ts ((n.outs.map (Decl.rn (q9 n))).map Decl.row), lv, ev] :: (A ++ T')) := fun rb k' e => by
       have := hap rb k' (by rw [e]; simp; omega)
       simp only [List.append_assoc, List.cons_append, List.nil_append] at this ⊢
       exact this
      rw [← heq] at hEV'
      rw [← hlo] at hLV
      have hst := hEV'.gt.st
      clear hap hEV hbx hW
      repeat' (first
       | ((with_reducible refine j3 ?rdq ?_); (case rdq => refine j2 rfl ?_ ?_ <;> simp only [Option.isSome_some, u5, u4, hd, hw, hqr, hk, p5, i5, f0, hap', hst, hp_sh, hs_sh, hg_sh, Nat.add_assoc, SXR, simprocAttr]))
       | (with_reducible refine i7 (hc) ?_)
       | (simp only [c8, u5, u4, hd, hw, hqr, hk, p5, i5, f0, hap', hst, hp_sh, hs_sh, hg_sh, Nat.add_assoc, SXR, simprocAttr]))
      exact IH (i + 1) _ _ (by exact ⟨lv, ev', A, T0', T', [], _, rfl, by rw [List.append_nil], hLV, hAo, hEV'⟩) hil (by omega)
    | some t =>
      simp only [hl] at hk
      obtain ⟨_, q', _, _, _, hq', hD, _⟩ := lkR_some n hl
      rw [hq] at hq'
      cases hq'
      have hleft : q.left.map af8 = [[.s (hd1 q).1 (hd1 q).2]] := by rw [ab8 hD]; rfl
      have hX0 : ([.c false q.row, .c false [.s (hd1 q).1 (hd1 q).2]] : List O).all ocl = true := by simp only [List.all_cons, List.all_nil, ocl, clL, V.cl, j5, Bool.and_self]
      have hcf := containsf_ac (b := us.length + (A.length + (W.length + 2))) (gr := false) (s := hd1 q) (RD.ts _ n.outs) (by have := o2.1; unfold Lst.ok at this; exact this) (hbx _ hX0) (by
       have : us ++ .c false [.s n.nm.1 n.nm.2, .ts ((n.ins.map (Decl.rn (q9 n))).map Decl.row), .ts ((n.outs.map (Decl.rn (q9 n))).map Decl.row), lv, ev] :: (A ++ (W ++ [O.c false q.row, O.c false [.s (hd1 q).1 (hd1 q).2]])) = (us ++ .c false [.s n.nm.1 n.nm.2, .ts ((n.ins.map (Decl.rn (q9 n))).map Decl.row), .ts ((n.outs.map (Decl.rn (q9 n))).map Decl.row), lv, ev] :: (A ++ (W ++ [.c false q.row]))) ++ .c false [.s (hd1 q).1 (hd1 q).2] :: [] := by simp
       rw [this, show us.length + (A.length + (W.length + 2)) = (us ++ O.c false [.s n.nm.1 n.nm.2, .ts ((n.ins.map (Decl.rn (q9 n))).map Decl.row), .ts ((n.outs.map (Decl.rn (q9 n))).map Decl.row), lv, ev] :: (A ++ (W ++ [.c false q.row]))).length by simp; omega]
       exact hp_ap0)
      cases hh : bd5 (hd1 q) n.outs with
      | true =>
        rw [hh] at hcf
        have heq : av5 n (i + 1) = av5 n i ++ [⟨1, [hd1 q], .mk 2 0 0 0 t.1 t.2 [], 0, (0, 0), [], (0, 0), q.ck.map (On.rn (q9 n))⟩] := by simp only [av5, hq, hl, bg8, hh, if_true]
        have hlo : al3 n (n.locals.map (Decl.rn (q9 n))) (i + 1) = al3 n (n.locals.map (Decl.rn (q9 n))) i := by simp only [al3, hq, hl, hh, if_true]
        obtain ⟨_, _, _, _, okc, _⟩ := o5 q hqm
        have hc := bc5 (hnm.more (hbx [.c false q.row, .c false [.s (hd1 q).1 (hd1 q).2], .no, .no, .no] (by simp only [List.all_cons, List.all_nil, ocl, clL, V.cl, j5, Bool.and_self]))) q.ck okc
        obtain ⟨ck', hck'⟩ : ∃ ck', ck' = q.ck.map (On.rn (q9 n)) := ⟨_, rfl⟩
        rw [← hck'] at heq hc
        obtain ⟨ev', T0', T', hEV', hap⟩ := hEV.app (P := us ++ .c false [.s n.nm.1 n.nm.2, .ts ((n.ins.map (Decl.rn (q9 n))).map Decl.row), .ts ((n.outs.map (Decl.rn (q9 n))).map Decl.row), lv, ev] :: A) (by simp) hW (by omega) [.i .i64 1, .sl (us.length + (A.length + (W.length + 3))) 0 1 1 none, .i .i64 2, .i .i64 0, .i .i64 0, .i .i64 0, .s t.1 t.2, .ns, .i .i64 0, .s 0 0, .ns, .s 0 0, .ts (ck'.map On.row)] ⟨1, [hd1 q], .mk 2 0 0 0 t.1 t.2 [], 0, (0, 0), [], (0, 0), ck'⟩ [.c false q.row, .c false [.s (hd1 q).1 (hd1 q).2], .c false [.s (hd1 q).1 (hd1 q).2], .c false [.i .i64 1, .sl (us.length + (A.length + (W.length + 3))) 0 1 1 none, .i .i64 2, .i .i64 0, .i .i64 0, .i .i64 0, .s t.1 t.2, .ns, .i .i64 0, .s 0 0, .ns, .s 0 0, .ts (ck'.map On.row)]] rfl
         (by
           have h1 : ∀ m, ltL m q.row = true := fun m => t9 _ _ (j5 q)
           have h2 : decide (us.length + (A.length + (W.length + 3)) < us.length + (A.length + 1) + (W.length + 5)) = true := decide_eq_true (by omega)
           simp only [ltO, h1, O.lt, ltL, V.lt, List.length_cons, List.length_nil, Nat.zero_add, Nat.reduceAdd, h2, r8 _ _ (i6 _), Bool.and_self])
         (by
           have h2 : decide (us.length + (A.length + (W.length + 3)) < us.length + (A.length + 1) + (W.length + 5)) = true := decide_eq_true (by omega)
           simp only [ltL, V.lt, List.length_cons, List.length_nil, Nat.zero_add, Nat.reduceAdd, h2, r8 _ _ (i6 _), Bool.and_self])
         ⟨.same _, Se.flat' (cs := [.s (hd1 q).1 (hd1 q).2]) (gr := false) (by
          show hpL _ (us.length + (A.length + (W.length + 3)) - (us.length + (A.length + 1) + W.length)) = _
          rw [show us.length + (A.length + (W.length + 3)) - (us.length + (A.length + 1) + W.length) = 2 by omega]
          rfl) rfl rfl (show us.length + (A.length + 1) + W.length ≤ us.length + (A.length + (W.length + 3)) by omega) (fun r hr => by simp at hr; subst hr; rfl), .same _, .same _, .same _, .same _, .same _, .nil, .same _, .same _, .nil, .same _, .same _, trivial⟩
        have hap' : ∀ (rb k' : Nat), rb + k' = us.length + (A.length + (W.length + 5)) → ah6 rb (us ++ .c false [.s n.nm.1 n.nm.2, .ts ((n.ins.map (Decl.rn (q9 n))).map Decl.row), .ts ((n.outs.map (Decl.rn (q9 n))).map Decl.row), lv, ev] :: (A ++ (W ++ [.c false q.row, .c false [.s (hd1 q).1 (hd1 q).2], .c false [.s (hd1 q).1 (hd1 q).2], .c false [.i .i64 1, .sl (us.length + (A.length + (W.length + 3))) 0 1 1 none, .i .i64 2, .i .i64 0, .i .i64 0, .i .i64 0, .s t.1 t.2, .ns, .i .i64 0, .s 0 0, .ns, .s 0 0, .ts (ck'.map On.row)], .no]))) k' ev (some [.i .i64 1, .sl (us.length + (A.length + (W.length + 3))) 0 1 1 none, .i .i64 2, .i .i64 0, .i .i64 0, .i .i64 0, .s t.1 t.2, .ns, .i .i64 0, .s 0 0, .ns, .s 0 0, .ts (ck'.map On.row)]) (some 1) 13 192 = some (ev', us ++ .c false [.s n.nm.1 n.nm.2, .ts ((n.ins.map (Decl.rn (q9 n))).map Decl.row), .ts ((n.outs.map (Decl.rn (q9 n))).map Decl.row), lv, ev] :: (A ++ T')) := fun rb k' e => by
         have := hap rb k' (by rw [e]; simp; omega)
         simp only [List.append_assoc, List.cons_append, List.nil_append] at this ⊢
         exact this
        rw [← heq] at hEV'
        rw [← hlo] at hLV
        have hst := hEV'.gt.st
        clear hap hEV hbx hW
        repeat' (first
         | ((with_reducible refine j3 ?rdq ?_); (case rdq => refine j2 rfl ?_ ?_ <;> simp only [Option.isSome_some, u5, u4, hd, hw, hqr, hk, hU0, e8, nn2, p5, i5, f0, j0, o0, hleft, hap', hst, hp_sh, hs_sh, hg_sh, Nat.add_assoc, SXR, simprocAttr]))
         | (with_reducible refine i7 (hcf) ?_)
         | (with_reducible refine i7 (hc) ?_)
         | (simp only [c8, u5, u4, hd, hw, hqr, hk, hU0, e8, nn2, p5, i5, f0, j0, o0, hleft, hap', hst, hp_sh, hs_sh, hg_sh, Nat.add_assoc, SXR, simprocAttr]))
        exact IH (i + 1) _ _ (by exact ⟨lv, ev', A, T0', T', [], _, rfl, by rw [List.append_nil], hLV, hAo, hEV'⟩) hil (by omega)
      | false =>
        rw [hh] at hcf
        have heq : av5 n (i + 1) = av5 n i := by simp only [av5, hq, hl, bg8, hh, Bool.false_eq_true, if_false, List.append_nil]
        have hlo : al3 n (n.locals.map (Decl.rn (q9 n))) (i + 1) = rmD (hd1 q) (al3 n (n.locals.map (Decl.rn (q9 n))) i) := by simp only [al3, hq, hl, hh, Bool.false_eq_true, if_false]
        have hll := (locN_ok n n.locals o3 i).2
        have hl3 := o3.1
        unfold Lst.ok at hl3
        have hcl : (al3 n (n.locals.map (Decl.rn (q9 n))) i).length < 30000000 := by rw [locN_map, List.length_map]; omega
        have hEV2 := hEV.more hX0
        rw [← heq] at hEV2
        rcases hLV with ⟨hlv, hcur⟩ | ⟨A0, A1, z, hAA, hlv, hz⟩
        ·subst hlv
         have hwo := swithout_ns (hd1 q) (hbx _ hX0)
         rw [hcur] at hlo
         repeat' (first
          | ((with_reducible refine j3 ?rdq ?_); (case rdq => refine j2 rfl ?_ ?_ <;> simp only [Option.isSome_some, u5, u4, hd, hw, hqr, hk, hU0, e8, nn2, p5, i5, f0, j0, hleft, hp_sh, hs_sh, hg_sh, Nat.add_assoc, SXR, simprocAttr]))
          | (with_reducible refine i7 (hcf) ?_)
          | (with_reducible refine i7 (hwo) ?_)
          | (simp only [c8, u5, u4, hd, hw, hqr, hk, hU0, e8, nn2, p5, i5, f0, j0, hleft, hp_sh, hs_sh, hg_sh, Nat.add_assoc, SXR, simprocAttr]))
         exact IH (i + 1) _ _ (by exact ⟨.ns, ev, A, T0, T, _, rs, rfl, by rw [← List.append_assoc T, ← hW], .inl ⟨rfl, hlo⟩, hAo, hEV2⟩) hil (by omega)
        ·generalize hcu : al3 n (n.locals.map (Decl.rn (q9 n))) i = cur at *
         have hb2 := hbx _ hX0
         rw [hAA] at hb2
         obtain ⟨z', hz', hwo⟩ := swithout_ac (P := us ++ .c false [.s n.nm.1 n.nm.2, .ts ((n.ins.map (Decl.rn (q9 n))).map Decl.row), .ts ((n.outs.map (Decl.rn (q9 n))).map Decl.row), lv, ev] :: A0) (S := A1 ++ (W ++ [.c false q.row, .c false [.s (hd1 q).1 (hd1 q).2]])) (z := z) cur (hd1 q) hcl (by
           have e : us ++ O.c false [.s n.nm.1 n.nm.2, .ts ((n.ins.map (Decl.rn (q9 n))).map Decl.row), .ts ((n.outs.map (Decl.rn (q9 n))).map Decl.row), lv, ev] :: ((A0 ++ O.c true (dfl cur ++ z) :: A1) ++ (W ++ [O.c false q.row, O.c false [.s (hd1 q).1 (hd1 q).2]])) = (us ++ O.c false [.s n.nm.1 n.nm.2, .ts ((n.ins.map (Decl.rn (q9 n))).map Decl.row), .ts ((n.outs.map (Decl.rn (q9 n))).map Decl.row), lv, ev] :: A0) ++ O.c true (dfl cur ++ z) :: (A1 ++ (W ++ [O.c false q.row, O.c false [.s (hd1 q).1 (hd1 q).2]])) := by simp
           rw [e] at hb2
           have := (ar5 hb2).1
           rwa [List.length_append, List.length_cons] at this) (by
           have e : us ++ O.c false [.s n.nm.1 n.nm.2, .ts ((n.ins.map (Decl.rn (q9 n))).map Decl.row), .ts ((n.outs.map (Decl.rn (q9 n))).map Decl.row), lv, ev] :: ((A0 ++ O.c true (dfl cur ++ z) :: A1) ++ (W ++ [O.c false q.row, O.c false [.s (hd1 q).1 (hd1 q).2]])) = ((us ++ O.c false [.s n.nm.1 n.nm.2, .ts ((n.ins.map (Decl.rn (q9 n))).map Decl.row), .ts ((n.outs.map (Decl.rn (q9 n))).map Decl.row), lv, ev] :: A0) ++ [O.c true (dfl cur ++ z)]) ++ (A1 ++ (W ++ [O.c false q.row, O.c false [.s (hd1 q).1 (hd1 q).2]])) := by simp
           rw [e] at hb2
           have := (ar5 hb2).2
           rw [← e] at this
           have e2 : (us ++ O.c false [.s n.nm.1 n.nm.2, .ts ((n.ins.map (Decl.rn (q9 n))).map Decl.row), .ts ((n.outs.map (Decl.rn (q9 n))).map Decl.row), lv, ev] :: ((A0 ++ O.c true (dfl cur ++ z) :: A1) ++ (W ++ [O.c false q.row, O.c false [.s (hd1 q).1 (hd1 q).2]]))).length = (us ++ O.c false [.s n.nm.1 n.nm.2, .ts ((n.ins.map (Decl.rn (q9 n))).map Decl.row), .ts ((n.outs.map (Decl.rn (q9 n))).map Decl.row), lv, ev] :: A0).length + ((A1 ++ (W ++ [O.c false q.row, O.c false [.s (hd1 q).1 (hd1 q).2]])).length + 1) := by simp; omega
           rwa [e2] at this) hz
         rw [show (us ++ O.c false [.s n.nm.1 n.nm.2, .ts ((n.ins.map (Decl.rn (q9 n))).map Decl.row), .ts ((n.outs.map (Decl.rn (q9 n))).map Decl.row), lv, ev] :: A0).length = us.length + (A0.length + 1) by simp] at hwo
         simp only [List.append_assoc, List.cons_append, List.nil_append] at hwo
         rw [← hlv] at hwo
         obtain ⟨A', hA'⟩ : ∃ A', A' = A0 ++ O.c true (dfl (rmD (hd1 q) cur) ++ z') :: A1 := ⟨_, rfl⟩
         obtain ⟨lv', hlv'⟩ : ∃ lv', lv' = V.sl (us.length + (A0.length + 1)) 0 3 (rmD (hd1 q) cur).length none := ⟨_, rfl⟩
         have e1 : ∀ Y, A0 ++ O.c true (dfl cur ++ z) :: (A1 ++ Y) = A ++ Y := fun Y => by rw [hAA]; simp
         have e2 : ∀ Y, A0 ++ O.c true (dfl (rmD (hd1 q) cur) ++ z') :: (A1 ++ Y) = A' ++ Y := fun Y => by rw [hA']; simp
         simp only [e1, e2, ← hlv'] at hwo
         have hst : B.stored lv' = some [lv'] := by rw [hlv']; rfl
         have hAo' : A'.all ocl = true := by
          rw [hAA] at hAo
          rw [hA']
          simp only [List.all_append, List.all_cons, Bool.and_eq_true] at hAo ⊢
          exact ⟨hAo.1, by rw [t8, af6, dfl_cl, hz']; rfl, hAo.2.2⟩
         have hAl : A.length = A'.length := by rw [hAA, hA']; simp
         rw [hAl] at hEV2
         clear hbx hb2 hEV hWlt hevl hlvl e1 e2
         repeat' (first
          | ((with_reducible refine j3 ?rdq ?_); (case rdq => refine j2 rfl ?_ ?_ <;> simp only [Option.isSome_some, u5, u4, hd, hw, hqr, hk, hU0, e8, nn2, p5, i5, f0, j0, hleft, hst, hp_sh, hs_sh, hg_sh, Nat.add_assoc, SXR, simprocAttr]))
          | (with_reducible refine i7 (hcf) ?_)
          | (with_reducible refine i7 (hwo) ?_)
          | (simp only [c8, u5, u4, hd, hw, hqr, hk, hU0, e8, nn2, p5, i5, f0, j0, hleft, hst, hp_sh, hs_sh, hg_sh, Nat.add_assoc, SXR, simprocAttr]))
         exact IH (i + 1) _ _ (by exact ⟨lv', ev, A', T0, T, _, rs, rfl, by rw [← List.append_assoc T, ← hW], .inr ⟨A0, A1, z', by rw [hA', hlo], by rw [hlv', hlo], hz'⟩, hAo', hEV2⟩) hil (by omega)
   ·clear IH
    have hie : i = n.eqs.length := by omega
    subst hie
    have hd := ltn hil
    subst hus
    rw [locN_map] at hLV
    have s1 := hLV.se (P := .c false n.row :: .c false [.s n.nm.1 n.nm.2, .ts ((n.ins.map (Decl.rn (q9 n))).map Decl.row), .ts ((n.outs.map (Decl.rn (q9 n))).map Decl.row), lv, ev] :: .m es ck :: .m M cm :: G) (o := .c false [.s n.nm.1 n.nm.2, .ts ((n.ins.map (Decl.rn (q9 n))).map Decl.row), .ts ((n.outs.map (Decl.rn (q9 n))).map Decl.row), lv, ev]) (S := T ++ J) rfl
    have s2 := hEV.seen (P := (.c false n.row :: .c false [.s n.nm.1 n.nm.2, .ts ((n.ins.map (Decl.rn (q9 n))).map Decl.row), .ts ((n.outs.map (Decl.rn (q9 n))).map Decl.row), lv, ev] :: .m es ck :: .m M cm :: G) ++ .c false [.s n.nm.1 n.nm.2, .ts ((n.ins.map (Decl.rn (q9 n))).map Decl.row), .ts ((n.outs.map (Decl.rn (q9 n))).map Decl.row), lv, ev] :: A) (S := J) (by simp; omega)
    simp only [List.append_assoc, List.cons_append, List.nil_append] at s1 s2
    repeat' (first
     | ((with_reducible refine j3 ?rdq ?_); (case rdq => refine j2 rfl ?_ ?_ <;> simp only [Option.isSome_some, u5, u4, hd, Nat.add_assoc, SXR, simprocAttr]))
     | (simp only [c8, u5, u4, hd, Nat.add_assoc, SXR, simprocAttr]))
    exact Sl.ag ⟨.same _, .same _, .same _, s1, s2, trivial⟩
end Go.Proofs.YtieogkafbnnjcaaGreatDoor
