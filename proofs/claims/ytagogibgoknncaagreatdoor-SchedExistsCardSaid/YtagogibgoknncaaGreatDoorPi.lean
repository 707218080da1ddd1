/-
  meets; queues; graph.distances.
  graph.distances.
  graph.around.
-/
import Derived.Test.YtagogibgoknncaaGreatDoorPh
set_option linter.unusedSimpArgs false
set_option linter.unusedVariables false
namespace Go.Proofs.YtagogibgoknncaaGreatDoor
open Go Go.B
def meetsF (l r : List Str) : Bool := l.any fun t => hasS t r
theorem meets_pc (l r : List Str) (hl : l.length ≤ 140737488355328) (hr : r.length < 30000000) : PC Tryz.prog 7 [.ts (l.map v6), .ts (r.map v6)] (.b (meetsF l r)) := by
 have hlen : ((l.map v6).length : Int) = (l.length : Int) := by rw [List.length_map]
 refine aq9 Tryz.func7 k7 rfl ?_
 repeat' (first
  | ((with_reducible refine b8 (fun h => ?_) (fun h => ?_)) <;> simp only [h, hlen, SXR, simprocAttr])
  | (simp only [c7, hlen, SXR, simprocAttr]))
 refine m5 (X := Nat) (fun i ll hs => ∃ y : Unit, Hd (fun j => [.ts (l.map v6), .ts (r.map v6), j 2, j 3, j 4, .i .i64 (i : Int), j 6, j 7, j 8, j 9, j 10, j 11, j 12, j 13, j 14, j 15, j 16, j 17]) ll ∧ hs = [])
  (fun i => i ≤ l.length ∧ meetsF l r = ((l.drop i).any fun t => hasS t r)) (fun i => l.length - i) ?_ 0 _ _ (by exact ⟨(), rfl, rfl⟩) ⟨Nat.zero_le _, rfl⟩
 rintro i _ _ ⟨_, e, rfl⟩ ⟨hi, hinv⟩ IH
 obtain ⟨j, rfl⟩ := e.open
 clear e
 by_cases hil : i < l.length
 ·obtain ⟨t, ht, htm⟩ := ats hil
  have htr : (l.map v6)[i]? = some [.s t.1 t.2] := mg (f := v6) ht
  have hd := ltd hil
  have hw := j1 (n := i) (by omega)
  have hc : ACalls Tryz.prog 18 [.ts (r.map v6), .s t.1 t.2] (hpL []) ([] : List O).length (.b (hasS t r)) (hpL []) ([] : List O).length := r6has_ac (RC.ts _ r) hr rfl
  rw [t6 ht, List.any_cons] at hinv
  cases hb : hasS t r with
  | true =>
    rw [hb] at hc
    rw [hb, Bool.true_or] at hinv
    rw [hinv]
    repeat' (first
     | ((with_reducible refine b8 (fun h => ?_) (fun h => ?_)) <;> simp only [h, hlen, htr, hd, SXR, simprocAttr])
     | (with_reducible refine e8 (hc) ?_)
     | (simp only [c7, hlen, htr, hd, SXR, simprocAttr]))
  | false =>
    rw [hb] at hc
    rw [hb, Bool.false_or] at hinv
    repeat' (first
     | ((with_reducible refine b8 (fun h => ?_) (fun h => ?_)) <;> simp only [h, hlen, htr, hd, hw, SXR, simprocAttr])
     | (with_reducible refine e8 (hc) ?_)
     | (simp only [c7, hlen, htr, hd, hw, SXR, simprocAttr]))
    exact IH (i + 1) _ _ (by exact ⟨(), rfl, rfl⟩) ⟨hil, hinv⟩ (by omega)
 ·clear IH
  have hd := ltn hil
  rw [List.drop_eq_nil_of_le (by omega), List.any_nil] at hinv
  rw [hinv]
  repeat' (first
   | ((with_reducible refine b8 (fun h => ?_) (fun h => ?_)) <;> simp only [h, hlen, hd, SXR, simprocAttr])
   | (simp only [c7, hlen, hd, SXR, simprocAttr]))
def sslLE (wd : Nat) (x lo : V) : Option V := match x, vI lo with
 | .ns, some l => if l = 0 ∧ ((0 : Nat) : Int) = 0 then some .ns else none
 | .ts rows, some l => if 0 ≤ l ∧ l ≤ (rows.length : Int) ∧ (rows.length : Int) ≤ rows.length ∧ (rows.all fun r => r.length == wd) = true then some (.ts ((rows.drop l.toNat).take ((rows.length : Int).toNat - l.toNat))) else none
 | .sl a off wd' len cp, some l => if 0 ≤ l ∧ l ≤ (len : Int) ∧ (len : Int) ≤ len ∧ wd = wd' then some (.sl a (off + l.toNat * wd) wd ((len : Int).toNat - l.toNat) (cp.map fun c => c - l.toNat)) else none
 | _, _ => none
theorem x_sslL {sl : Nat → V} {h : Hp} {x lo : AO} {wd : Nat} : evX sl h (.ssl x (some lo) none none wd) = sslLE wd (evO sl x) (evO sl lo) := by
 simp only [evX, sslLE, evIo]
 cases evO sl x <;> cases vI (evO sl lo) <;> rfl
def QV (K : Nat) (H : List O) (qv : V) (q : List Nat) : Prop := ∃ (B : Nat) (gr : Bool) (pre : List V), K ≤ B ∧ qv = .sl B pre.length 1 q.length none ∧ hpL H B = .c gr (pre ++ fl irw q)
section
variable {K : Nat} {H : List O} {qv : V} {q : List Nat}
theorem flirw_len (q : List Nat) : (fl irw q).length = q.length := by rw [aq0 irw_w, Nat.mul_one]
theorem QV.len (h : QV K H qv q) : lenE false qv = some (.i .i64 (q.length : Int)) := by
 obtain ⟨B, gr, pre, _, rfl, _⟩ := h
 rfl
theorem QV.more (h : QV K H qv q) (X : List O) : QV K (H ++ X) qv q := by
 obtain ⟨B, gr, pre, h1, h2, h3⟩ := h
 exact ⟨B, gr, pre, h1, h2, j2 h3⟩
theorem QV.pop {v : Nat} (h : QV K H qv (v :: q)) : ∃ ad qv', iadE 1 qv (.i .i64 0) = some ad ∧ (∀ ks, ldE (hpL (H ++ ks)) 1 false ad = some (.i .i64 (v : Int))) ∧ sslLE 1 qv (.i .i64 1) = some qv' ∧ QV K H qv' q := by
 obtain ⟨B, gr, pre, h1, rfl, h3⟩ := h
 refine ⟨.p B pre.length, .sl B (pre.length + 1) 1 q.length none, ?_, fun ks => ?_, ?_, B, gr, pre ++ [.i .i64 (v : Int)], h1, by simp, ?_⟩
 ·simp [iadE, iadE.getI]
 ·rw [ld_p, j2 h3]
  exact ld1 (by simp [fl, irw, z7])
 ·show (if 0 ≤ (1 : Int) ∧ (1 : Int) ≤ (((v :: q).length : Nat) : Int) ∧ (((v :: q).length : Nat) : Int) ≤ (((v :: q).length : Nat) : Int) ∧ 1 = 1 then some (V.sl B (pre.length + Int.toNat 1 * 1) 1 ((((v :: q).length : Nat) : Int).toNat - Int.toNat 1) none) else none) = _
  rw [if_pos ⟨by omega, by simp only [List.length_cons]; omega, Int.le_refl _, rfl⟩]
  simp
 ·rw [h3]; simp [fl, irw, z7]
theorem QV.app (h : QV K H qv q) (u : Nat) (hr : room (q.length + 1) 8 = true) (hK : K ≤ H.length) :
  ∃ qv' H', (∀ rb k, rb + k = H.length + 1 → ag9 rb (H ++ [.c false [.i .i64 (u : Int)], .no]) k qv (some [.i .i64 (u : Int)]) (some 1) 1 8 = some (qv', H')) ∧ QV K H' qv' (q ++ [u]) ∧ H'.length = H.length + 2 ∧ ∀ a, a < K → hpL H' a = hpL H a := by
 obtain ⟨B, gr, pre, h1, rfl, h3⟩ := h
 have hBl := t8 h3
 have hfl := flirw_len q
 have hcut : (((pre ++ fl irw q).drop pre.length).take (q.length * 1)) ++ [V.i .i64 (u : Int)] = fl irw (q ++ [u]) := by
  rw [List.drop_left, Nat.mul_one, ← hfl, List.take_length, fl_app, as1]; rfl
 have hap : ∀ (rb k : Nat), ag9 rb (H ++ [.c false [.i .i64 (u : Int)], .no]) k (.sl B pre.length 1 q.length none) (some [.i .i64 (u : Int)]) (some 1) 1 8 =
   if gr = false then (u6 (H ++ [.c false [.i .i64 (u : Int)], .no]) (rb + k) (.c true (fl irw (q ++ [u])))).map fun h => (.sl (rb + k) 0 1 (q.length + 1) none, h)
   else (u6 (H ++ [.c false [.i .i64 (u : Int)], .no]) B .gone).bind fun h1 => (u6 h1 (rb + k) (.c true (fl irw (q ++ [u])))).map fun h => (.sl (rb + k) 0 1 (q.length + 1) none, h) := by
  intro rb k
  rw [ap_sl rfl, j2 h3]
  simp only [appO]
  rw [if_pos ⟨trivial, by omega⟩, if_neg (by simp only [fitsC, decide_eq_true_eq, List.length_append, hfl]; omega), if_pos ⟨hr, by rw [List.length_append, hfl]; omega⟩]
  by_cases hg : gr = false
  ·rw [if_pos (.inr hg), if_pos hg, hcut]
  ·rw [if_neg (by simp [hg]), if_neg hg]
   by_cases h0 : pre.length = 0
   ·have hp : pre = [] := List.length_eq_zero_iff.1 h0
    subst hp
    rw [if_pos h0]
    rw [List.length_nil, List.drop_zero] at hcut
    rw [hcut]
   ·rw [if_neg h0, hcut]
 have hend : ∀ (X : List O) (rb k : Nat), X.length = H.length → rb + k = H.length + 1 → u6 (X ++ [.c false [.i .i64 (u : Int)], .no]) (rb + k) (.c true (fl irw (q ++ [u]))) = some (X ++ [.c false [.i .i64 (u : Int)], .c true (fl irw (q ++ [u]))]) := by
  intro X rb k hX e
  rw [show X ++ [O.c false [V.i IntKind.i64 (u : Int)], .no] = (X ++ [O.c false [V.i IntKind.i64 (u : Int)]]) ++ [.no] by simp, aj7 (by simp; omega)]
  simp
 have hQ : ∀ X : List O, X.length = H.length → QV K (X ++ [.c false [.i .i64 (u : Int)], .c true (fl irw (q ++ [u]))]) (.sl (H.length + 1) 0 1 (q.length + 1) none) (q ++ [u]) := fun X hX =>
  ⟨H.length + 1, true, [], by omega, by simp, by
   rw [show X ++ [O.c false [V.i IntKind.i64 (u : Int)], .c true (fl irw (q ++ [u]))] = (X ++ [O.c false [V.i IntKind.i64 (u : Int)]]) ++ [.c true (fl irw (q ++ [u]))] by simp, show H.length + 1 = (X ++ [O.c false [V.i IntKind.i64 (u : Int)]]).length by simp [hX], ab9]
   rfl⟩
 by_cases hg : gr = false
 ·refine ⟨_, _, fun rb k e => ?_, hQ H rfl, by simp, fun a ha => o0 (by omega)⟩
  rw [hap, if_pos hg, hend H rb k rfl e, e]; rfl
 ·refine ⟨_, _, fun rb k e => ?_, hQ (H.set B .gone) (by simp), by simp, fun a ha => ?_⟩
  ·rw [hap, if_neg hg, aj6 hBl, Option.bind_some, hend _ rb k (by simp) e, e]; rfl
  ·rw [o0 (by simp; omega), i8 (by omega)]
theorem QV.se {h : List O} {D : Nat → Prop} (hq : QV K h qv q) (hD : ∀ a, K ≤ a → D a) : Se (hpL h) D qv (.ts (p6 q)) := by
 obtain ⟨B, gr, pre, h1, rfl, h3⟩ := hq
 have hfl := flirw_len q
 refine .sl B pre.length 1 q.length none gr _ (p6 q) h3 (hD B h1) (ah0 _) (by rw [List.length_append, hfl]; omega) (fun i row e => ai1 row (List.mem_of_getElem? e)) (fun i j row y x e1 e2 e3 => ?_)
 have hj : j = 0 := by
  have := ai1 row (List.mem_of_getElem? e1)
  have := (List.getElem?_eq_some_iff.1 e2).1
  omega
 subst hj
 rw [List.getElem?_append_right (by omega), show pre.length + i * 1 + 0 - pre.length = i * 1 + 0 by omega, fl_ir] at e3
 have := bb9 (wd := 1) ai1 e1 e2
 rw [this] at e3
 cases e3
 exact .same _
end
def dV : Option Nat → V
 | none => .i .i64 (-1)
 | some k => .i .i64 (k : Int)
def ae7 (N : Nat) (d : Nat → Option Nat) : List V := (List.range N).map fun k => dV (d k)
def ao1 (N : Nat) (d : Nat → Option Nat) : List (List V) := (List.range N).map fun k => [dV (d k)]
theorem dc_len (N : Nat) (d : Nat → Option Nat) : (ae7 N d).length = N := by simp [ae7]
theorem dc_get {N : Nat} {d : Nat → Option Nat} {j : Nat} (h : j < N) : (ae7 N d)[j]? = some (dV (d j)) := by simp [ae7, h]
theorem dr_get {N : Nat} {d : Nat → Option Nat} {j : Nat} (h : j < N) : (ao1 N d)[j]? = some [dV (d j)] := by simp [ao1, h]
theorem dr_len (N : Nat) (d : Nat → Option Nat) : (ao1 N d).length = N := by simp [ao1]
theorem dr_w {N : Nat} {d : Nat → Option Nat} : ∀ r, r ∈ ao1 N d → r.length = 1 := by
 intro r hr
 obtain ⟨_, _, rfl⟩ := List.mem_map.1 hr
 rfl
theorem dc_fl (N : Nat) (d : Nat → Option Nat) : ae7 N d = (ao1 N d).flatten := by
 unfold ae7 ao1
 induction List.range N with
 | nil => rfl
 | cons a l ih => rw [List.map_cons, List.map_cons, List.flatten_cons, ← ih]; rfl
theorem dV_cl (x : Option Nat) : (dV x).cl = true := by cases x <;> rfl
theorem dr_cl (N : Nat) (d : Nat → Option Nat) : clR (ao1 N d) = true := by
 unfold ao1
 induction List.range N with
 | nil => rfl
 | cons a l ih => simp only [List.map_cons, clR, ih, clL, dV_cl, Bool.and_self]
theorem dc_set (N : Nat) (d : Nat → Option Nat) (j x : Nat) : (ae7 N d).set j (.i .i64 (x : Int)) = ae7 N (aw8 d j x) := by
 apply List.ext_getElem?
 intro i
 rw [List.getElem?_set, dc_len]
 by_cases hi : i < N
 ·rw [dc_get (d := aw8 d j x) hi]
  by_cases hj : j = i
  ·subst hj; rw [if_pos rfl, if_pos hi, show aw8 d j x j = some x from if_pos rfl]; rfl
  ·rw [if_neg hj, dc_get hi, show aw8 d j x i = d i from if_neg (Ne.symm hj)]
 ·rw [List.getElem?_eq_none (l := ae7 N (aw8 d j x)) (by rw [dc_len]; omega)]
  by_cases hj : j = i
  ·subst hj; rw [if_pos rfl, if_neg hi]
  ·rw [if_neg hj, List.getElem?_eq_none (by rw [dc_len]; omega)]
def af6 (N i : Nat) : List V := (List.range N).map fun k => V.i .i64 (if k < i then -1 else 0)
theorem ic_len (N i : Nat) : (af6 N i).length = N := by simp [af6]
theorem ic_0 (N : Nat) : (List.replicate N [V.i .i64 0]).flatten = af6 N 0 := by
 rw [ncell0]; unfold m6 af6
 apply List.map_congr_left
 intro k _
 simp [z7]
theorem ic_set {N i : Nat} (h : i < N) : (af6 N i).set i (.i .i64 (-1)) = af6 N (i + 1) := by
 apply List.ext_getElem?
 intro k
 rw [List.getElem?_set, ic_len]
 by_cases hk : i = k
 ·subst hk; rw [if_pos rfl, if_pos h]; simp [af6, h]
 ·rw [if_neg hk]
  simp only [af6, List.getElem?_map]
  by_cases hkN : k < N
  ·rw [List.getElem?_range hkN]
   simp only [Option.map_some]
   have : (k < i) = (k < i + 1) := by apply propext; omega
   simp only [this]
  ·rw [List.getElem?_eq_none (by simp; omega)]; rfl
theorem ic_N (N : Nat) : af6 N N = ae7 N (fun _ => none) := by
 unfold af6 ae7
 apply List.map_congr_left
 intro k hk
 rw [if_pos (List.mem_range.1 hk)]; rfl
structure DI (js : List O) (N : Nat) (H : List O) (d : Nat → Option Nat) (qv : V) (q : List Nat) : Prop where
 len : js.length + 1 ≤ H.length
 low : ∀ a, a < js.length → hpL H a = hpL js a
 dd : hpL H js.length = .c false (ae7 N d)
 qu : QV (js.length + 1) H qv q
section
variable {js H : List O} {N : Nat} {d : Nat → Option Nat} {qv : V} {q : List Nat}
theorem DI.setd (h : DI js N H d qv q) {u : Nat} (x : Nat) (hu : u < N) : ∃ H', stpO H js.length 1 u [.i .i64 (x : Int)] (.c false (ae7 N d)) = some H' ∧ DI js N H' (aw8 d u x) qv q := by
 have hl := h.len
 have hst := stp1 (hs := H) (b := js.length) (gr := false) (cs := ae7 N d) (j := u) (x := .i .i64 (x : Int)) (by rw [dc_len]; exact hu)
 rw [dc_set, z9 (by omega)] at hst
 refine ⟨_, hst, by simpa using hl, fun a ha => ?_, m8 (by omega), ?_⟩
 ·rw [i8 (by omega)]; exact h.low a ha
 ·obtain ⟨B, gr, pre, h1, h2, h3⟩ := h.qu
  exact ⟨B, gr, pre, h1, h2, by rw [i8 (by omega)]; exact h3⟩
theorem DI.app (h : DI js N H d qv q) (u : Nat) (hr : room (q.length + 1) 8 = true) :
  ∃ qv' H', (∀ rb k, rb + k = H.length + 1 → ag9 rb (H ++ [.c false [.i .i64 (u : Int)], .no]) k qv (some [.i .i64 (u : Int)]) (some 1) 1 8 = some (qv', H')) ∧ DI js N H' d qv' (q ++ [u]) := by
 have hl := h.len
 obtain ⟨qv', H', h1, h2, h3, h4⟩ := h.qu.app u hr hl
 exact ⟨qv', H', h1, by omega, fun a ha => by rw [h4 a (by omega)]; exact h.low a ha, by rw [h4 _ (by omega)]; exact h.dd, h2⟩
end
set_option maxRecDepth 10000 in
set_option maxHeartbeats 4000000 in
theorem gdist_ac {js : List O} {bf : Nat → List Nat} {N to : Nat} (hN : N ≤ 200) (hto : to < N) (hb : ∀ w u, u ∈ bf w → u < N) (hbl : ∀ i, (bf i).length < 256) (hlt : ltO js.length js = true) :
  ACalls Tryz.prog 41 [.ts (ac5 N bf), .i .i64 (to : Int)] (hpL js) js.length (.ts (ao1 N (ai6 bf N to))) (hpL js) js.length := by
 have hmk : ∀ hs a, mksB hs a 1 8 [.i .i64 0] (.i .i64 (N : Int)) (.i .i64 (N : Int)) = (u6 hs a (.c false (af6 N 0))).map fun h => (N, h) := by
  intro hs a
  have hq : decide (N ≤ 1073741824 ∧ 8 * N ≤ 281474976710656 ∧ [V.i .i64 0].length = 1) = true := decide_eq_true ⟨by omega, by omega, rfl⟩
  rw [mks_n hq, ic_0]
 have hnl := nrows_len N bf
 have hia : ∀ w, w < N → iadE 1 (.sl js.length 0 1 N none) (.i .i64 (w : Int)) = some (.p js.length w) := fun w hw => by
  have := ae0 (a := js.length) (w := 1) (wd := 1) (c := none) hw
  rw [Nat.mul_one] at this; exact this
 refine at1 Tryz.func41 k41 rfl rfl (by simp only [V.cl]; exact dr_cl _ _) hlt ?_
 repeat' (first
  | ((with_reducible refine b8 (fun h => ?_) (fun h => ?_)) <;> simp only [h, r9, r8, ab8, hnl, hmk, af5, SXR, simprocAttr])
  | (simp only [c41, r9, r8, ab8, hnl, hmk, af5, SXR, simprocAttr]))
 refine m5 (X := Nat) (fun i ll hs => ∃ y : Unit, Hd (fun j => [.ts (ac5 N bf), .i .i64 (to : Int), j 2, j 3, j 4, .sl js.length 0 1 N none, j 6, j 7, j 8, j 9, j 10, j 11, j 12, j 13, j 14, .i .i64 (N : Int), .i .i64 (i : Int), j 17, j 18, j 19, j 20, j 21, j 22, j 23, j 24, j 25, j 26, j 27, j 28, j 29, j 30, j 31, j 32, j 33, j 34, j 35, j 36, j 37, j 38, j 39, j 40, j 41, j 42, j 43, j 44, j 45, j 46, j 47, j 48, j 49, j 50, j 51, j 52, j 53, j 54, j 55, j 56, j 57, j 58, j 59, j 60, j 61, j 62, j 63, j 64, j 65, j 66, j 67, j 68]) ll ∧ hs = js ++ [.c false (af6 N i)])
  (fun i => i ≤ N) (fun i => N - i) ?_ 0 _ _ (by exact ⟨(), rfl, rfl⟩) (Nat.zero_le _)
 clear hmk
 rintro i _ _ ⟨_, e, rfl⟩ hi IH
 obtain ⟨j, rfl⟩ := e.open
 clear e
 by_cases hil : i < N
 ·have hd := ltd hil
  have hw := j1 (n := i) (by omega)
  have hia1 := hia i hil
  have hst : ∀ hs, stpO hs js.length 1 i [.i .i64 (-1)] (.c false (af6 N i)) = u6 hs js.length (.c false (af6 N (i + 1))) := fun hs => by
   rw [stp1 (by rw [ic_len]; exact hil), ic_set hil]
  repeat' (first
   | ((with_reducible refine b8 (fun h => ?_) (fun h => ?_)) <;> simp only [h, r9, r8, hd, hw, hia1, hst, SXR, simprocAttr])
   | (simp only [c41, r9, r8, hd, hw, hia1, hst, SXR, simprocAttr]))
  exact IH (i + 1) _ _ (by exact ⟨(), rfl, rfl⟩) hil (by omega)
 ·clear IH
  have hie : i = N := by omega
  subst hie
  have hd := ltn hil
  have hia1 := hia to hto
  have hst : ∀ hs, stpO hs js.length 1 to [.i .i64 0] (.c false (af6 i i)) = u6 hs js.length (.c false (ae7 i (d0F to))) := fun hs => by
   rw [stp1 (by rw [ic_len]; exact hto), ic_N, show V.i IntKind.i64 0 = .i .i64 ((0 : Nat) : Int) from rfl, dc_set]
   rfl
  repeat' (first
   | ((with_reducible refine b8 (fun h => ?_) (fun h => ?_)) <;> simp only [h, r9, r8, hd, hia1, hst, Nat.add_assoc, SXR, simprocAttr])
   | (simp only [c41, r9, r8, hd, hia1, hst, Nat.add_assoc, SXR, simprocAttr]))
  have hDI0 : DI js i (js ++ [.c false (ae7 i (d0F to)), .c false [.i .i64 (to : Int)]]) (d0F to) (.sl (js.length + 1) 0 1 1 none) [to] :=
   ⟨by simp, fun a ha => o0 ha, ab9, ⟨js.length + 1, false, [], Nat.le_refl _, rfl, ai2⟩⟩
  have hD0 : bfF bf to (2 * i + 2) (d0F to) [to] = ai6 bf i to := rfl
  generalize ai6 bf i to = D at hD0 ⊢
  refine m5 (X := Nat × (Nat → Option Nat) × List Nat) (fun x ll hs => ∃ (H : List O) (qv : V), Hd (fun j => [.ts (ac5 i bf), .i .i64 (to : Int), j 2, j 3, j 4, .sl js.length 0 1 i none, j 6, qv, j 8, j 9, j 10, j 11, j 12, j 13, j 14, j 15, j 16, j 17, j 18, j 19, j 20, j 21, j 22, j 23, j 24, j 25, j 26, j 27, j 28, j 29, j 30, j 31, j 32, j 33, j 34, j 35, j 36, j 37, j 38, j 39, j 40, j 41, j 42, j 43, j 44, j 45, j 46, j 47, j 48, j 49, j 50, j 51, j 52, j 53, j 54, j 55, j 56, j 57, j 58, j 59, j 60, j 61, j 62, j 63, j 64, j 65, j 66, j 67, j 68]) ll ∧ hs = H ∧ DI js i H x.2.1 qv x.2.2)
   (fun x => BI bf i to x.2.1 x.2.2 ∧ 2 * cn x.2.1 i + x.2.2.length < x.1 ∧ x.1 ≤ 2 * i + 2 ∧ bfF bf to x.1 x.2.1 x.2.2 = D) (fun x => x.1) ?_ (2 * i + 2, d0F to, [to]) _ _ (by exact ⟨_, _, rfl, rfl, hDI0⟩)
   ⟨BI.start hto, by have := cn_le (d0F to) i; simp; omega, Nat.le_refl _, hD0⟩
  clear hDI0 hD0 hst hia1 hd hil hi
  rintro ⟨f, d, q⟩ _ H ⟨_, qv, e, rfl, hDI⟩ ⟨hBI, hmu, hfl, hfin⟩ IH
  obtain ⟨j, rfl⟩ := e.open
  clear e
  simp only at hBI hmu hfl hfin IH hDI ⊢
  have hql := hDI.qu.len
  cases q with
  | nil =>
    clear IH
    have hD : d = D := by cases f <;> exact hfin
    subst hD
    have hql' : lenE false qv = some (.i .i64 0) := hql
    have h0 : decide ((0 : Int) > 0) = false := by decide
    have hs5 : Se (hpL H) (fun a => js.length ≤ a) (.sl js.length 0 1 i none) (.ts (ao1 i d)) := Se.flat' hDI.dd (dc_fl _ _) (dr_len _ _) (Nat.le_refl _) dr_w
    repeat' (first
     | ((with_reducible refine b8 (fun h => ?_) (fun h => ?_)) <;> simp only [h, r9, r8, hql', h0, SXR, simprocAttr])
     | (simp only [c41, r9, r8, hql', h0, SXR, simprocAttr]))
    exact ⟨hs5, _, ag7 (by have := hDI.len; omega) hDI.low⟩
  | cons v q =>
    obtain ⟨f, rfl⟩ : ∃ g, f = g + 1 := ⟨f - 1, by omega⟩
    simp only [bfF] at hfin
    have hdv := dN_eq (hBI.qd v (by simp))
    have hvN := hBI.lt v (by rw [hdv]; simp)
    have hkN := hBI.dlt hdv
    have hql' : lenE false qv = some (.i .i64 ((q.length + 1 : Nat) : Int)) := hql
    have h0 : decide (((q.length + 1 : Nat) : Int) > 0) = true := decide_eq_true (by omega)
    obtain ⟨ad, qv', p1, p2, p3, p4⟩ := hDI.qu.pop
    have p2' := p2 []
    rw [List.append_nil] at p2'
    have hDI2 : DI js i H d qv' q := ⟨hDI.len, hDI.low, hDI.dd, p4⟩
    have hgv := al5 (L := bf) hvN
    have hil2 := ah0 (bf v)
    repeat' (first
     | ((with_reducible refine b8 (fun h => ?_) (fun h => ?_)) <;> simp only [h, r9, r8, hql', h0, p1, p2', x_sslL, p3, hgv, ab8, hil2, SXR, simprocAttr])
     | (simp only [c41, r9, r8, hql', h0, p1, p2', x_sslL, p3, hgv, ab8, hil2, SXR, simprocAttr]))
    refine m5 (X := Nat × (Nat → Option Nat) × List Nat) (fun x ll hs => ∃ (H : List O) (qv : V), Hd (fun j => [.ts (ac5 i bf), .i .i64 (to : Int), j 2, j 3, j 4, .sl js.length 0 1 i none, j 6, qv, .i .i64 (v : Int), j 9, j 10, j 11, j 12, j 13, j 14, j 15, j 16, j 17, j 18, j 19, j 20, j 21, j 22, j 23, j 24, j 25, j 26, j 27, j 28, j 29, j 30, j 31, j 32, j 33, j 34, j 35, j 36, j 37, j 38, .ts (p6 (bf v)), .i .i64 ((bf v).length : Int), .i .i64 (x.1 : Int), j 42, j 43, j 44, j 45, j 46, j 47, j 48, j 49, j 50, j 51, j 52, j 53, j 54, j 55, j 56, j 57, j 58, j 59, j 60, j 61, j 62, j 63, j 64, j 65, j 66, j 67, j 68]) ll ∧ hs = H ∧ DI js i H x.2.1 qv x.2.2)
     (fun x => x.1 ≤ (bf v).length ∧ x.2.1 v = some (dN d v) ∧ x.2.2.length + 2 * cn x.2.1 i ≤ q.length + 2 * cn d i ∧ inF to (dN d v) ((bf v).drop x.1) x.2.1 x.2.2 = inF to (dN d v) (bf v) d q) (fun x => (bf v).length - x.1) ?_ (0, d, q) _ _ (by exact ⟨_, _, rfl, rfl, hDI2⟩) ⟨Nat.zero_le _, hdv, Nat.le_refl _, rfl⟩
    clear hDI2 hDI p1 p2 p2' p3 p4 hql h0 hgv
    rintro ⟨c, d1, q1⟩ _ H ⟨_, qv, e, rfl, hDI⟩ ⟨hc, hdv1, hmu1, hin⟩ IK
    obtain ⟨j, rfl⟩ := e.open
    clear e
    simp only at hc hdv1 hmu1 hin IK hDI ⊢
    have hblv := hbl v
    have hmuq : q.length + 2 * cn d i ≤ 600 := by simp only [List.length_cons] at hmu; omega
    by_cases hcl : c < (bf v).length
    ·clear IH
     obtain ⟨u, hu, hum⟩ := ats hcl
     have huN := hb v u hum
     have hgu := an1 hu
     have hdc := ltd hcl
     have hwc := j1 (n := c) (by omega)
     rw [t6 hu] at hin
     simp only [inF] at hin
     have hia1 := hia u huN
     have hdd := hDI.dd
     have hld := ld1 (gr := false) (dc_get (d := d1) huN)
     by_cases htu : to < u
     ·have h1 : decide ((u : Int) > (to : Int)) = true := decide_eq_true (by omega)
      cases hdu : d1 u with
      | none =>
        rw [if_pos ⟨htu, hdu⟩] at hin
        have h2 : decide ((-1 : Int) < 0) = true := by decide
        rw [hdu] at hld
        simp only [dV] at hld
        have hiv := hia v hvN
        have hldv := ld1 (gr := false) (dc_get (d := d1) hvN)
        rw [hdv1] at hldv
        simp only [dV] at hldv
        have hwk := j1 (n := dN d v) (by omega)
        obtain ⟨H2, hst, hDI2⟩ := hDI.setd (dN d v + 1) huN
        obtain ⟨qv', H3, hap, hDI3⟩ := hDI2.app u (v9 (by omega) (by omega))
        have hcs := cn_set (k := dN d v + 1) hdu huN
        repeat' (first
         | ((with_reducible refine b8 (fun h => ?_) (fun h => ?_)) <;> simp only [h, r9, r8, hdc, hwc, hgu, h1, h2, hia1, hdd, hld, hiv, hldv, hwk, hst, hap, SXR, simprocAttr])
         | (simp only [c41, r9, r8, hdc, hwc, hgu, h1, h2, hia1, hdd, hld, hiv, hldv, hwk, hst, hap, SXR, simprocAttr]))
        refine IK (c + 1, aw8 d1 u (dN d v + 1), q1 ++ [u]) _ _ (by exact ⟨_, _, rfl, rfl, hDI3⟩) ⟨hcl, ?_, ?_, hin⟩ (by simp only; omega)
        ·show aw8 d1 u (dN d v + 1) v = _
         rw [show aw8 d1 u (dN d v + 1) v = d1 v from if_neg fun e => by rw [← e, hdv1] at hdu; cases hdu]; exact hdv1
        ·simp only [List.length_append, List.length_cons, List.length_nil]; omega
      | some k =>
        rw [if_neg (by rw [hdu]; simp)] at hin
        rw [hdu] at hld
        simp only [dV] at hld
        have h2 : decide ((k : Int) < 0) = false := decide_eq_false (by omega)
        repeat' (first
         | ((with_reducible refine b8 (fun h => ?_) (fun h => ?_)) <;> simp only [h, r9, r8, hdc, hwc, hgu, h1, h2, hia1, hdd, hld, SXR, simprocAttr])
         | (simp only [c41, r9, r8, hdc, hwc, hgu, h1, h2, hia1, hdd, hld, SXR, simprocAttr]))
        exact IK (c + 1, d1, q1) _ _ (by exact ⟨_, _, rfl, rfl, hDI⟩) ⟨hcl, hdv1, hmu1, hin⟩ (by simp only; omega)
     ·have h1 : decide ((u : Int) > (to : Int)) = false := decide_eq_false (by omega)
      rw [if_neg (by omega)] at hin
      repeat' (first
       | ((with_reducible refine b8 (fun h => ?_) (fun h => ?_)) <;> simp only [h, r9, r8, hdc, hwc, hgu, h1, SXR, simprocAttr])
       | (simp only [c41, r9, r8, hdc, hwc, hgu, h1, SXR, simprocAttr]))
      exact IK (c + 1, d1, q1) _ _ (by exact ⟨_, _, rfl, rfl, hDI⟩) ⟨hcl, hdv1, hmu1, hin⟩ (by simp only; omega)
    ·clear IK
     have hdc := ltn hcl
     rw [List.drop_eq_nil_of_le (by omega)] at hin
     simp only [inF] at hin
     rw [← hin] at hfin
     have hBI2 := hBI.step hb
     rw [← hin] at hBI2
     have hm := inF_mu (to := to) (k := dN d v) (n := i) (us := bf v) (d := d) (q := q) (fun u hu => hb v u hu)
     rw [← hin] at hm
     simp only at hfin hBI2 hm
     repeat' (first
      | ((with_reducible refine b8 (fun h => ?_) (fun h => ?_)) <;> simp only [h, r9, r8, hdc, SXR, simprocAttr])
      | (simp only [c41, r9, r8, hdc, SXR, simprocAttr]))
     exact IH (f, d1, q1) _ _ (by exact ⟨_, _, rfl, rfl, hDI⟩) ⟨hBI2, by simp only [List.length_cons] at hmu ⊢; omega, by simp only; omega, hfin⟩ (by simp only; omega)
theorem garound1_ac {js : List O} {a6 a9 a15 v left N w : Nat} {d : Nat → Option Nat} (h6 : hpL js a6 = .c false [.i .i64 (v : Int)]) (h9 : hpL js a9 = .c false [.ts (ao1 N d)]) (h15 : hpL js a15 = .c false [.i .i64 (left : Int)]) (hw : w < N) :
  ACalls Tryz.prog 43 [.i .i64 (w : Int), .p a6 0, .p a9 0, .p a15 0] (hpL js) js.length (.b (ar7 d v left w)) (hpL js) js.length := by
 have hdr := dr_get (d := d) hw
 by_cases hvw : v < w
 ·have h1 : decide ((w : Int) > (v : Int)) = true := decide_eq_true (by omega)
  have hg : ar7 d v left w = (d w == some left) := by unfold ar7; rw [decide_eq_true hvw, Bool.true_and]
  rw [hg]
  cases hd : d w with
  | none =>
    rw [hd] at hdr
    simp only [dV] at hdr
    have h2 : ((-1 : Int) == (left : Int)) = false := by rw [beq_eq_false_iff_ne]; omega
    rw [show ((none : Option Nat) == some left) = false from rfl]
    refine ao2 Tryz.func43 k43 rfl ?_
    repeat' (first
     | ((with_reducible refine b8 (fun h => ?_) (fun h => ?_)) <;> simp only [h, h6, h9, h15, h1, hdr, h2, SXR, simprocAttr])
     | (simp only [c43, h6, h9, h15, h1, hdr, h2, SXR, simprocAttr]))
  | some k =>
    rw [hd] at hdr
    simp only [dV] at hdr
    have h2 : ((k : Int) == (left : Int)) = (k == left) := by
     rw [Bool.eq_iff_iff, beq_iff_eq, beq_iff_eq]; omega
    rw [show (some k == some left) = (k == left) from rfl]
    cases hk : (k == left) <;> rw [hk] at h2
    all_goals
     refine ao2 Tryz.func43 k43 rfl ?_
     repeat' (first
      | ((with_reducible refine b8 (fun h => ?_) (fun h => ?_)) <;> simp only [h, h6, h9, h15, h1, hdr, h2, SXR, simprocAttr])
      | (simp only [c43, h6, h9, h15, h1, hdr, h2, SXR, simprocAttr]))
 ·have h1 : decide ((w : Int) > (v : Int)) = false := decide_eq_false (by omega)
  have hg : ar7 d v left w = false := by unfold ar7; rw [decide_eq_false hvw, Bool.false_and]
  rw [hg]
  refine ao2 Tryz.func43 k43 rfl ?_
  repeat' (first
   | ((with_reducible refine b8 (fun h => ?_) (fun h => ?_)) <;> simp only [h, h6, h9, h15, h1, SXR, simprocAttr])
   | (simp only [c43, h6, h9, h15, h1, SXR, simprocAttr]))
def fiF (p : Nat → Bool) : List Nat → Nat → Int
 | [], _ => -1
 | a :: l, i => if p a = true then (i : Int) else fiF p l (i + 1)
theorem fiF_find {p : Nat → Bool} {w : Nat} : ∀ {l : List Nat} {i : Nat}, l.find? p = some w → ∃ k, fiF p l i = ((i + k : Nat) : Int) ∧ l[k]? = some w
 | a :: l, i, h => by
   rw [List.find?_cons] at h
   cases ha : p a with
   | true =>
     rw [ha] at h
     simp only [Option.some.injEq] at h
     exact ⟨0, by simp only [fiF, ha, if_true, Nat.add_zero], by simp [h]⟩
   | false =>
     rw [ha] at h
     obtain ⟨k, h1, h2⟩ := fiF_find (l := l) (i := i + 1) h
     refine ⟨k + 1, ?_, by simpa using h2⟩
     simp only [fiF, ha]
     rw [if_neg (by simp), h1]
     congr 1; omega
theorem idxint_ac {js : List O} {a6 a9 a15 v left N : Nat} {d : Nat → Option Nat} (l : List Nat) (hl : l.length < 1000000) (hlN : ∀ w, w ∈ l → w < N) (h6 : hpL js a6 = .c false [.i .i64 (v : Int)]) (h9 : hpL js a9 = .c false [.ts (ao1 N d)]) (h15 : hpL js a15 = .c false [.i .i64 (left : Int)]) :
  ACalls Tryz.prog 42 [.ts (p6 l), .fn 43 [] [.p a6 0, .p a9 0, .p a15 0]] (hpL js) js.length (.i .i64 (fiF (ar7 d v left) l 0)) (hpL js) js.length := by
 have hlen := ah0 l
 refine ao2 Tryz.func42 k42 rfl ?_
 repeat' (first
  | ((with_reducible refine b8 (fun h => ?_) (fun h => ?_)) <;> simp only [h, hlen, SXR, simprocAttr])
  | (simp only [c42, hlen, SXR, simprocAttr]))
 refine m5 (X := Nat) (fun i ll hs => Hd (fun j => [.ts (p6 l), .fn 43 [] [.p a6 0, .p a9 0, .p a15 0], j 2, j 3, j 4, j 5, j 6, .i .i64 (l.length : Int), .i .i64 (i : Int), j 9, j 10, j 11, j 12, j 13, j 14, j 15, j 16, j 17, j 18]) ll ∧ hs = js)
  (fun i => i ≤ l.length ∧ fiF (ar7 d v left) l 0 = fiF (ar7 d v left) (l.drop i) i) (fun i => l.length - i) ?_ 0 _ _ (by exact ⟨rfl, rfl⟩) ⟨Nat.zero_le _, rfl⟩
 rintro i _ _ ⟨e, rfl⟩ ⟨hi, hinv⟩ IH
 obtain ⟨j, rfl⟩ := e.open
 clear e
 by_cases hil : i < l.length
 ·obtain ⟨w, hw, hwm⟩ := ats hil
  have hg := an1 hw
  have hd := ltd hil
  have hwi := j1 (n := i) (by omega)
  have hc := garound1_ac (left := left) h6 h9 h15 (hlN w hwm)
  rw [t6 hw] at hinv
  simp only [fiF] at hinv
  cases hb : ar7 d v left w with
  | true =>
    rw [if_pos hb] at hinv
    rw [hb] at hc
    rw [hinv]
    repeat' (first
     | ((with_reducible refine b8 (fun h => ?_) (fun h => ?_)) <;> simp only [h, hlen, hg, hd, SXR, simprocAttr])
     | (with_reducible refine e8 (hc) ?_)
     | (simp only [c42, hlen, hg, hd, SXR, simprocAttr]))
  | false =>
    rw [if_neg (by simp [hb])] at hinv
    rw [hb] at hc
    repeat' (first
     | ((with_reducible refine b8 (fun h => ?_) (fun h => ?_)) <;> simp only [h, hlen, hg, hd, hwi, SXR, simprocAttr])
     | (with_reducible refine e8 (hc) ?_)
     | (simp only [c42, hlen, hg, hd, hwi, SXR, simprocAttr]))
    exact IH (i + 1) _ _ (by exact ⟨rfl, rfl⟩) ⟨hil, hinv⟩ (by omega)
 ·clear IH
  have hd := ltn hil
  rw [List.drop_eq_nil_of_le (by omega)] at hinv
  simp only [fiF] at hinv
  rw [hinv]
  repeat' (first
   | ((with_reducible refine b8 (fun h => ?_) (fun h => ?_)) <;> simp only [h, hlen, hd, SXR, simprocAttr])
   | (simp only [c42, hlen, hd, SXR, simprocAttr]))
def arV : Option (List Nat) → V
 | none => .ns
 | some c => .ts (p6 c)
theorem ints_cl (l : List Nat) : clR (p6 l) = true := by
 have := irw_cl l
 simpa only [irow, clL, V.cl, Bool.and_true] using this
theorem arV_cl (x : Option (List Nat)) : (arV x).cl = true := by
 cases x with
 | none => rfl
 | some c => simp only [arV, V.cl, ints_cl]
structure CI (js : List O) (H : List O) (v N : Nat) (d : Nat → Option Nat) (cv : V) (c : List Nat) : Prop where
 len : js.length + 2 ≤ H.length
 low : ∀ a, a < js.length → hpL H a = hpL js a
 bv : hpL H js.length = .c false [.i .i64 (v : Int)]
 bd : hpL H (js.length + 1) = .c false [.ts (ao1 N d)]
 qu : QV (js.length + 2) H cv c
section
variable {js H : List O} {v N : Nat} {d : Nat → Option Nat} {cv : V} {c : List Nat}
theorem CI.app (h : CI js H v N d cv c) (u : Nat) (hr : room (c.length + 1) 8 = true) (X : O) :
  ∃ cv' H', (∀ rb k, rb + k = H.length + 2 → ag9 rb (H ++ [X, .c false [.i .i64 (u : Int)], .no]) k cv (some [.i .i64 (u : Int)]) (some 1) 1 8 = some (cv', H')) ∧ CI js H' v N d cv' (c ++ [u]) := by
 have hl := h.len
 obtain ⟨cv', H', h1, h2, h3, h4⟩ := (h.qu.more [X]).app u hr (by simp; omega)
 have hk : ∀ a, a < js.length + 2 → hpL H' a = hpL H a := fun a ha => by rw [h4 a ha, o0 (by omega)]
 refine ⟨cv', H', fun rb k e => ?_, by simp at h3; omega, fun a ha => by rw [hk a (by omega)]; exact h.low a ha, by rw [hk _ (by omega)]; exact h.bv, by rw [hk _ (by omega)]; exact h.bd, h2⟩
 have := h1 rb k (by simp; omega)
 rw [List.append_assoc] at this
 exact this
end
set_option maxRecDepth 10000 in
set_option maxHeartbeats 8000000 in
theorem bg9 {js : List O} {nx bf : Nat → List Nat} {N v most : Nat} (hN : N ≤ 200) (hv : v < N) (hm : most ≤ 1000) (hb : ∀ w u, u ∈ bf w → u < N) (hbl : ∀ i, (bf i).length < 256) (hnl : ∀ i, (nx i).length < 256) (hnx : ∀ w u, u ∈ nx w → u < N) (hd : ∀ u w, u ∈ bf w ↔ w ∈ nx u) (hlt : ltO js.length js = true) :
  ACalls Tryz.prog 24 [.ts (ac5 N nx), .ts (ac5 N bf), .i .i64 (v : Int), .i .i64 (most : Int)] (hpL js) js.length (arV (arF nx bf N v most)) (hpL js) js.length := by
 have hlt1 : ltO (js ++ [O.c false [.i .i64 (v : Int)], .no]).length (js ++ [O.c false [.i .i64 (v : Int)], .no]) = true := aa7 (by simp) hlt rfl
 have hgd := gdist_ac hN hv hb hbl hlt1
 have hBI := dist_BI hb hv
 have har : arF nx bf N v most = if bsF (ai6 bf N v) v (nx v) most = most then none else some (cyF nx (ai6 bf N v) v (bsF (ai6 bf N v) v (nx v) most - 1) v [v]) := rfl
 rw [har]
 generalize hA : (if bsF (ai6 bf N v) v (nx v) most = most then none else some (cyF nx (ai6 bf N v) v (bsF (ai6 bf N v) v (nx v) most - 1) v [v]) : Option (List Nat)) = A
 clear har
 generalize ai6 bf N v = D at *
 have hgv := al5 (L := nx) hv
 have hil2 := ah0 (nx v)
 refine at1 Tryz.func24 k24 rfl rfl (arV_cl A) hlt ?_
 repeat' (first
  | ((with_reducible refine b8 (fun h => ?_) (fun h => ?_)) <;> simp only [h, r9, r8, hgv, ab8, hil2, Nat.add_assoc, SXR, simprocAttr])
  | (with_reducible refine e8 (hgd) ?_)
  | (simp only [c24, r9, r8, hgv, ab8, hil2, Nat.add_assoc, SXR, simprocAttr]))
 refine m5 (X := Nat × Nat) (fun x ll hs => ∃ y : Unit, Hd (fun j => [.ts (ac5 N nx), j 1, j 2, .i .i64 (most : Int), j 4, j 5, .p js.length 0, j 7, j 8, .p (js.length + 1) 0, .i .i64 (x.2 : Int), j 11, j 12, j 13, j 14, j 15, j 16, j 17, j 18, j 19, j 20, j 21, j 22, j 23, .ts (p6 (nx v)), .i .i64 ((nx v).length : Int), .i .i64 (x.1 : Int), j 27, j 28, j 29, j 30, j 31, j 32, j 33, j 34, j 35, j 36, j 37, j 38, j 39, j 40, j 41, j 42, j 43, j 44, j 45, j 46, j 47, j 48, j 49, j 50, j 51, j 52, j 53, j 54, j 55, j 56, j 57, j 58, j 59, j 60, j 61, j 62, j 63, j 64, j 65, j 66, j 67, j 68, j 69, j 70, j 71, j 72, j 73, j 74, j 75, j 76, j 77, j 78, j 79]) ll ∧ hs = js ++ [.c false [.i .i64 (v : Int)], .c false [.ts (ao1 N D)]])
  (fun x => x.1 ≤ (nx v).length ∧ x.2 ≤ most ∧ bsF D v ((nx v).drop x.1) x.2 = bsF D v (nx v) most) (fun x => (nx v).length - x.1) ?_ (0, most) _ _ (by exact ⟨(), rfl, rfl⟩) ⟨Nat.zero_le _, Nat.le_refl _, rfl⟩
 rintro ⟨c, b⟩ _ _ ⟨_, e, rfl⟩ ⟨hc, hbm, hinv⟩ IH
 obtain ⟨j, rfl⟩ := e.open
 clear e
 simp only at hc hbm hinv IH ⊢
 have hnlv := hnl v
 by_cases hcl : c < (nx v).length
 ·obtain ⟨w, hw, hwm⟩ := ats hcl
  have hwN := hnx v w hwm
  have hgw := an1 hw
  have hdc := ltd hcl
  have hwc := j1 (n := c) (by omega)
  rw [t6 hw] at hinv
  simp only [bsF] at hinv
  have hdr := dr_get (d := D) hwN
  by_cases hvw : v ≤ w
  ·have h1 : decide ((w : Int) ≥ (v : Int)) = true := decide_eq_true (by omega)
   cases hdw : D w with
   | none =>
     rw [if_neg (by rw [hdw]; simp)] at hinv
     rw [hdw] at hdr
     simp only [dV] at hdr
     have h2 : decide ((-1 : Int) ≥ 0) = false := by decide
     repeat' (first
      | ((with_reducible refine b8 (fun h => ?_) (fun h => ?_)) <;> simp only [h, r9, r8, hdc, hwc, hgw, h1, hdr, h2, SXR, simprocAttr])
      | (simp only [c24, r9, r8, hdc, hwc, hgw, h1, hdr, h2, SXR, simprocAttr]))
     exact IH (c + 1, b) _ _ (by exact ⟨(), rfl, rfl⟩) ⟨hcl, hbm, hinv⟩ (by simp only; omega)
   | some k =>
     have hkN := hBI.dlt hdw
     have hdn : dN D w = k := by unfold dN; rw [hdw]; rfl
     rw [if_pos ⟨hvw, by rw [hdw]; simp⟩, hdn] at hinv
     rw [hdw] at hdr
     simp only [dV] at hdr
     have h2 : decide ((k : Int) ≥ 0) = true := decide_eq_true (by omega)
     have hwk := j1 (n := k) (by omega)
     have hmn : (if ((k + 1 : Nat) : Int) < (b : Int) then ((k + 1 : Nat) : Int) else (b : Int)) = ((if k + 1 < b then k + 1 else b : Nat) : Int) := by
      by_cases hkb : k + 1 < b
      ·rw [if_pos hkb, if_pos (by omega)]
      ·rw [if_neg hkb, if_neg (by omega)]
     repeat' (first
      | ((with_reducible refine b8 (fun h => ?_) (fun h => ?_)) <;> simp only [h, r9, r8, hdc, hwc, hgw, h1, hdr, h2, hwk, x_mn, mn_i, hmn, SXR, simprocAttr])
      | (simp only [c24, r9, r8, hdc, hwc, hgw, h1, hdr, h2, hwk, x_mn, mn_i, hmn, SXR, simprocAttr]))
     exact IH (c + 1, if k + 1 < b then k + 1 else b) _ _ (by exact ⟨(), rfl, rfl⟩) ⟨hcl, by simp only; split <;> omega, hinv⟩ (by simp only; omega)
  ·have h1 : decide ((w : Int) ≥ (v : Int)) = false := decide_eq_false (by omega)
   rw [if_neg (by omega)] at hinv
   repeat' (first
    | ((with_reducible refine b8 (fun h => ?_) (fun h => ?_)) <;> simp only [h, r9, r8, hdc, hwc, hgw, h1, SXR, simprocAttr])
    | (simp only [c24, r9, r8, hdc, hwc, hgw, h1, SXR, simprocAttr]))
   exact IH (c + 1, b) _ _ (by exact ⟨(), rfl, rfl⟩) ⟨hcl, hbm, hinv⟩ (by simp only; omega)
 ·clear IH
  have hdc := ltn hcl
  rw [List.drop_eq_nil_of_le (by omega)] at hinv
  simp only [bsF] at hinv
  rw [← hinv] at hA
  by_cases hbe : b = most
  ·rw [if_pos hbe] at hA
   subst hA
   have hq : ((b : Int) == (most : Int)) = true := by rw [hbe]; simp
   repeat' (first
    | ((with_reducible refine b8 (fun h => ?_) (fun h => ?_)) <;> simp only [h, r9, r8, hdc, hq, SXR, simprocAttr])
    | (simp only [c24, r9, r8, hdc, hq, SXR, simprocAttr]))
   exact ⟨.same _, _, rfl⟩
  ·rw [if_neg hbe] at hA
   have hq : ((b : Int) == (most : Int)) = false := by simp; omega
   obtain ⟨hb1, w0, hw0, hw1, hw2, hw3⟩ : b < most ∧ ∃ w, w ∈ nx v ∧ v ≤ w ∧ D w ≠ none ∧ b = dN D w + 1 := by
    rcases bh8 (d := D) (v := v) (l := nx v) (b := most) with h | ⟨h1, w, h2, h3, h4, h5⟩
    ·exact (hbe (hinv.trans h)).elim
    ·rw [← hinv] at h1 h5; exact ⟨h1, w, h2, h3, h4, h5⟩
   have hdw0 := dN_eq hw2
   repeat' (first
    | ((with_reducible refine b8 (fun h => ?_) (fun h => ?_)) <;> simp only [h, r9, r8, hdc, hq, Nat.add_assoc, SXR, simprocAttr])
    | (simp only [c24, r9, r8, hdc, hq, Nat.add_assoc, SXR, simprocAttr]))
   have hCI0 : CI js (js ++ [.c false [.i .i64 (v : Int)], .c false [.ts (ao1 N D)], .c false [.i .i64 (v : Int)]]) v N D (.sl (js.length + 2) 0 1 1 none) [v] :=
    ⟨by simp, fun a ha => o0 ha, ab9, ai2, ⟨js.length + 2, false, [], Nat.le_refl _, rfl, ai2⟩⟩
   refine m5 (X := Nat × Nat × List Nat) (fun x ll hs => ∃ (H : List O) (cv : V), Hd (fun j => [.ts (ac5 N nx), j 1, j 2, j 3, j 4, j 5, .p js.length 0, j 7, j 8, .p (js.length + 1) 0, .i .i64 (b : Int), j 11, j 12, cv, .i .i64 (x.2.1 : Int), j 15, j 16, j 17, j 18, j 19, j 20, j 21, j 22, j 23, j 24, j 25, j 26, j 27, j 28, j 29, j 30, j 31, j 32, j 33, j 34, j 35, j 36, j 37, j 38, j 39, j 40, j 41, j 42, j 43, j 44, j 45, j 46, j 47, j 48, j 49, j 50, j 51, j 52, j 53, j 54, j 55, j 56, j 57, j 58, j 59, j 60, j 61, j 62, j 63, j 64, j 65, j 66, j 67, j 68, j 69, j 70, j 71, j 72, j 73, j 74, j 75, j 76, j 77, j 78, j 79]) ll ∧ hs = H ∧ CI js H v N D cv x.2.2)
    (fun x => x.2.2.length + x.1 = b ∧ x.2.1 < N ∧ (x.1 = 0 ∨ ∃ w, w ∈ nx x.2.1 ∧ D w = some x.1) ∧ A = some (cyF nx D v x.1 x.2.1 x.2.2)) (fun x => x.1) ?_ (b - 1, v, [v]) _ _ (by exact ⟨_, _, rfl, rfl, hCI0⟩)
    ⟨by simp; omega, hv, .inr ⟨w0, hw0, by rw [hdw0]; congr 1; simp only; omega⟩, hA.symm⟩
   clear hCI0 hgd hdc hil2 hgv
   rintro ⟨lf, a, cy⟩ _ H ⟨_, cv, e, rfl, hCI⟩ ⟨hcl2, haN, hex, hfin⟩ IH
   obtain ⟨j, rfl⟩ := e.open
   clear e
   simp only at hcl2 haN hex hfin IH hCI ⊢
   have hcL := hCI.qu.len
   cases lf with
   | zero =>
     clear IH
     simp only [cyF] at hfin
     subst hfin
     have h0 : decide ((cy.length : Int) < (b : Int)) = false := decide_eq_false (by omega)
     repeat' (first
      | ((with_reducible refine b8 (fun h => ?_) (fun h => ?_)) <;> simp only [h, r9, r8, hcL, h0, SXR, simprocAttr])
      | (simp only [c24, r9, r8, hcL, h0, SXR, simprocAttr]))
     exact ⟨hCI.qu.se (fun a ha => by omega), _, ag7 (by have := hCI.len; omega) hCI.low⟩
   | succ l =>
     have h0 : decide ((cy.length : Int) < (b : Int)) = true := decide_eq_true (by omega)
     have hsub : IntKind.i64.wrap ((b : Int) - (cy.length : Int)) = ((l + 1 : Nat) : Int) := by rw [ao6 (by omega) (by omega)]; omega
     obtain ⟨w, hw, hdw⟩ := hex.resolve_left (by omega)
     obtain ⟨hvw, _⟩ := hBI.pos hdw
     have hgd2 : ar7 D v (l + 1) w = true := by unfold ar7; rw [decide_eq_true hvw, hdw]; simp
     simp only [cyF] at hfin
     cases hf : (nx a).find? (ar7 D v (l + 1)) with
     | none => exact (List.find?_eq_none.1 hf w hw hgd2).elim
     | some u =>
       rw [hf] at hfin
       simp only at hfin
       have hum := List.mem_of_find?_eq_some hf
       have huN := hnx a u hum
       have hgu := List.find?_some hf
       have hdu : D u = some (l + 1) := by
        unfold ar7 at hgu
        rw [Bool.and_eq_true] at hgu
        simpa using hgu.2
       obtain ⟨_, x, hdx, hux⟩ := hBI.pos hdu
       obtain ⟨k, hk1, hk2⟩ := fiF_find (i := 0) hf
       rw [Nat.zero_add] at hk1
       have hgk := an1 hk2
       have hga := al5 (L := nx) haN
       have hcl : (nx a).length < 256 := hnl a
       have hHb : hpL (H ++ [O.c false [.i .i64 ((l + 1 : Nat) : Int)]]) H.length = .c false [.i .i64 ((l + 1 : Nat) : Int)] := ab9
       have hix := idxint_ac (left := l + 1) (nx a) (by omega) (fun w hw => hnx a w hw) (j2 (m := [O.c false [.i .i64 ((l + 1 : Nat) : Int)]]) hCI.bv) (j2 (m := [O.c false [.i .i64 ((l + 1 : Nat) : Int)]]) hCI.bd) hHb
       rw [hk1] at hix
       obtain ⟨cv', H2, hap, hCI2⟩ := hCI.app u (v9 (by omega) (by omega)) (.c false [.i .i64 ((l + 1 : Nat) : Int)])
       repeat' (first
        | ((with_reducible refine b8 (fun h => ?_) (fun h => ?_)) <;> simp only [h, r9, r8, hcL, h0, hsub, hga, hgk, hap, Nat.add_assoc, SXR, simprocAttr])
        | (with_reducible refine e8 (hix) ?_)
        | (simp only [c24, r9, r8, hcL, h0, hsub, hga, hgk, hap, Nat.add_assoc, SXR, simprocAttr]))
       exact IH (l, u, cy ++ [u]) _ _ (by exact ⟨_, _, rfl, rfl, hCI2⟩) ⟨by simp only [List.length_append, List.length_cons, List.length_nil]; omega, huN, .inr ⟨x, (hd u x).1 hux, hdx⟩, hfin⟩ (by simp only; omega)
end Go.Proofs.YtagogibgoknncaaGreatDoor
