/-
  container/heap on a list of numbers.
  heap.Push, heap.Pop.
  graph.Order in plain Lean.
  graph.Order.
-/
import Derived.Test.YtagogibgoknncaaGreatDoorPd
set_option linter.unusedSimpArgs false
set_option linter.unusedVariables false
namespace Go.Proofs.YtagogibgoknncaaGreatDoor
open Go Go.B
def sw (l : List Nat) (i j : Nat) : List Nat := (l.set i (l.getD j 0)).set j (l.getD i 0)
theorem ah7 (l : List Nat) (i j : Nat) : (sw l i j).length = l.length := by simp [sw]
def upF : Nat → List Nat → Nat → List Nat
 | 0, l, _ => l
 | n + 1, l, j => if (j - 1) / 2 = j ∨ ¬ l.getD j 0 < l.getD ((j - 1) / 2) 0 then l else upF n (sw l ((j - 1) / 2) j) ((j - 1) / 2)
def kidF (l : List Nat) (n i : Nat) : Nat := if 2 * i + 2 < n ∧ l.getD (2 * i + 2) 0 < l.getD (2 * i + 1) 0 then 2 * i + 2 else 2 * i + 1
def ag3 : Nat → List Nat → Nat → Nat → List Nat × Nat
 | 0, l, _, i => (l, i)
 | f + 1, l, n, i => if n ≤ 2 * i + 1 ∨ ¬ l.getD (kidF l n i) 0 < l.getD i 0 then (l, i) else ag3 f (sw l i (kidF l n i)) n (kidF l n i)
structure HP (R B : Nat) (gr : Bool) (zs : List V) (H : List O) (l : List Nat) : Prop where
 box : hpL H R = .c false [.sl B 0 1 l.length none]
 arr : hpL H B = .c gr (l.map z7 ++ zs)
 ne : R ≠ B
def HB (H : List O) (B : Nat) (gr : Bool) (zs : List V) (l : List Nat) : List O := H.set B (.c gr (l.map z7 ++ zs))
section
variable {R B : Nat} {gr : Bool} {zs : List V} {H : List O} {l : List Nat}
theorem HB_len : (HB H B gr zs l).length = H.length := by simp [HB]
theorem HP.hb (h : HP R B gr zs H l) {l' : List Nat} (hl : l'.length = l.length) : HP R B gr zs (HB H B gr zs l') l' := by
 have := t8 h.arr
 exact ⟨by rw [HB, i8 h.ne, hl]; exact h.box, m8 this, h.ne⟩
theorem HP.self (h : HP R B gr zs H l) : HB H B gr zs l = H := by
 have hl := t8 h.arr
 have e := hset_same h.arr
 rw [z9 hl] at e
 exact Option.some.inj e
theorem HB_HB {l' : List Nat} : HB (HB H B gr zs l) B gr zs l' = HB H B gr zs l' := by simp [HB, List.set_set]
theorem HP.rc (h : HP R B gr zs H l) : RC z7 H (.sl B 0 1 l.length none) l := RC.sl h.arr
theorem ak1 {i x : Nat} (h : l[i]? = some x) : l.getD i 0 = x := by rw [List.getD_eq_getElem?_getD, h]; rfl
theorem llen_ac {js : List O} {n : Nat} : ACalls Tryz.prog 33 [.sl B 0 1 n none] (hpL js) js.length (.i .i64 (n : Int)) (hpL js) js.length := by
 refine ao2 Tryz.func33 k33 rfl ?_
 repeat' (first
  | ((with_reducible refine b8 (fun h => ?_) (fun h => ?_)) <;> simp only [h, af5, SXR, simprocAttr])
  | (simp only [c33, af5, SXR, simprocAttr]))
theorem ac8 {js : List O} {lv : V} (hr : RC z7 js lv l) {i j : Nat} (hi : i < l.length) (hj : j < l.length) :
  ACalls Tryz.prog 353 [lv, .i .i64 (i : Int), .i .i64 (j : Int)] (hpL js) js.length (.b (decide (l.getD i 0 < l.getD j 0))) (hpL js) js.length := by
 obtain ⟨x, hx, _⟩ := ats hi
 obtain ⟨y, hy, _⟩ := ats hj
 obtain ⟨ad, h1, h2⟩ := hr.get0 hx
 obtain ⟨ae, h3, h4⟩ := hr.get0 hy
 unfold z7 at h2 h4
 rw [ak1 hx, ak1 hy]
 have hd : decide ((x : Int) < (y : Int)) = decide (x < y) := by simp
 refine ao2 Tryz.func353 k353 rfl ?_
 repeat' (first
  | (simp only [c353, h1, h2, h3, h4, hd, SXR, simprocAttr]))
theorem ar2 (h : HP R B gr zs H l) {i j : Nat} (hi : i < l.length) (hj : j < l.length) :
  ACalls Tryz.prog 356 [.sl B 0 1 l.length none, .i .i64 (i : Int), .i .i64 (j : Int)] (hpL H) H.length (.tu []) (hpL (HB H B gr zs (sw l i j))) (HB H B gr zs (sw l i j)).length := by
 obtain ⟨x, hx, _⟩ := ats hi
 obtain ⟨y, hy, _⟩ := ats hj
 have hBl := t8 h.arr
 have ia : iadE 1 (.sl B 0 1 l.length none) (.i .i64 (i : Int)) = some (.p B i) := by
  have := ae0 (a := B) (w := 1) (wd := 1) (c := none) hi
  rw [Nat.mul_one] at this; exact this
 have ja : iadE 1 (.sl B 0 1 l.length none) (.i .i64 (j : Int)) = some (.p B j) := by
  have := ae0 (a := B) (w := 1) (wd := 1) (c := none) hj
  rw [Nat.mul_one] at this; exact this
 have hb := h.arr
 have hml : (l.map z7).length = l.length := List.length_map _
 have li : ldE.ldO 1 false i (.c gr (l.map z7 ++ zs)) = some (.i .i64 (x : Int)) := ld1 (by rw [List.getElem?_append_left (by omega)]; exact mg hx)
 have lj : ldE.ldO 1 false j (.c gr (l.map z7 ++ zs)) = some (.i .i64 (y : Int)) := ld1 (by rw [List.getElem?_append_left (by omega)]; exact mg hy)
 have s1 := stp1 (hs := H) (b := B) (gr := gr) (cs := l.map z7 ++ zs) (j := i) (x := .i .i64 (y : Int)) (by simp; omega)
 rw [z9 hBl] at s1
 obtain ⟨H1, hH1⟩ : ∃ H1, H1 = H.set B (O.c gr ((l.map z7 ++ zs).set i (.i .i64 (y : Int)))) := ⟨_, rfl⟩
 rw [← hH1] at s1
 have b1 : hpL H1 B = O.c gr ((l.map z7 ++ zs).set i (.i .i64 (y : Int))) := by rw [hH1]; exact m8 hBl
 have s2 := stp1 (hs := H1) (b := B) (gr := gr) (cs := (l.map z7 ++ zs).set i (.i .i64 (y : Int))) (j := j) (x := .i .i64 (x : Int)) (by simp; omega)
 have e2 : u6 H1 B (O.c gr (((l.map z7 ++ zs).set i (.i .i64 (y : Int))).set j (.i .i64 (x : Int)))) = some (HB H B gr zs (sw l i j)) := by
  rw [z9 (by rw [hH1]; simpa using hBl), hH1, List.set_set, HB, sw, ak1 hx, ak1 hy]
  congr 3
  rw [List.set_append_left _ _ (by omega), List.set_append_left _ _ (by simp; omega), List.map_set, List.map_set]
  rfl
 rw [e2] at s2
 refine ao2 Tryz.func356 k356 rfl ?_
 repeat' (first
  | (simp only [c356, ia, ja, hb, li, lj, s1, b1, s2, SXR, simprocAttr]))
 rfl
theorem ag1 (x : V) : evO (fun _ => x) (.s 0) = x := rfl
theorem upF_fuel : ∀ (f g j : Nat) (l : List Nat), j < f → j < g → upF f l j = upF g l j
 | 0, _, j, l, h, _ => by omega
 | _ + 1, 0, j, l, _, h => by omega
 | f + 1, g + 1, j, l, h1, h2 => by
   simp only [upF]
   split
   ·rfl
   ·rename_i hc
    exact upF_fuel f g _ _ (by omega) (by omega)
theorem hup_ac (h : HP R B gr zs H l) {j : Nat} (hj : j < l.length) (hn : l.length < 1000000) :
  ACalls Tryz.prog 55 [.ifc 83 (.p R 0), .i .i64 (j : Int)] (hpL H) H.length (.tu []) (hpL (HB H B gr zs (upF (j + 1) l j))) (HB H B gr zs (upF (j + 1) l j)).length := by
 refine ao2 Tryz.func55 k55 rfl ?_
 repeat' (first
  | ((with_reducible refine b8 (fun h => ?_) (fun h => ?_)) <;> simp only [h, SXR, simprocAttr])
  | (simp only [c55, SXR, simprocAttr]))
 refine m5 (X := Nat × List Nat) (fun x ll hs => ∃ y : Unit, Hd (fun j => [.ifc 83 (.p R 0), .i .i64 (x.1 : Int), j 2, j 3, j 4, j 5, j 6, j 7, j 8, j 9, j 10, j 11, j 12, j 13, j 14, j 15, j 16, j 17, j 18, j 19, j 20, j 21, j 22]) ll ∧ hs = HB H B gr zs x.2)
  (fun x => x.1 < l.length ∧ x.2.length = l.length ∧ upF (x.1 + 1) x.2 x.1 = upF (j + 1) l j) (fun x => x.1) ?_ (j, l) _ _ (by exact ⟨(), rfl, h.self.symm⟩) ⟨hj, rfl, rfl⟩
 rintro ⟨i, l1⟩ _ _ ⟨_, e, rfl⟩ ⟨hi, hl1, hfin⟩ IH
 obtain ⟨jj, rfl⟩ := e.open
 clear e
 simp only at hi hl1 hfin IH ⊢
 have h' := h.hb (l' := l1) hl1
 have hbx := h'.box
 match i, hi, hfin, IH with
 | 0, hi, hfin, IH =>
   clear IH
   have hw1 : IntKind.i64.wrap (-1) = -1 := by decide
   have hw2 := wrap_0
   have hb : ((0 : Int) == ((0 : Nat) : Int)) = true := rfl
   have : upF (0 + 1) l1 0 = l1 := by simp [upF]
   rw [this] at hfin
   rw [← hfin]
   repeat' (first
    | ((with_reducible refine b8 (fun h => ?_) (fun h => ?_)) <;> simp only [h, ag1, Option.map_some, hw1, hw2, hb, SXR, simprocAttr])
    | (simp only [c55, ag1, Option.map_some, hw1, hw2, hb, SXR, simprocAttr]))
   rfl
 | k + 1, hi, hfin, IH =>
   have hw1 := ab0 (n := k) (by omega)
   have hw2 : IntKind.i64.wrap ((k : Int).tdiv 2) = ((k / 2 : Nat) : Int) := by
    rw [Int.tdiv_eq_ediv_of_nonneg (by omega), show (k : Int) / 2 = ((k / 2 : Nat) : Int) by omega]
    exact ac1 (by omega)
   have hb : (((k / 2 : Nat) : Int) == ((k + 1 : Nat) : Int)) = false := by simp; omega
   have hls := ac8 h'.rc (i := k + 1) (j := k / 2) (by omega) (by omega)
   have hsw := ar2 h' (i := k / 2) (j := k + 1) (by omega) (by omega)
   rw [HB_HB] at hsw
   by_cases hc : l1.getD (k + 1) 0 < l1.getD (k / 2) 0
   ·have hd := decide_eq_true hc
    have hfin' : upF (k + 1) (sw l1 (k / 2) (k + 1)) (k / 2) = upF (j + 1) l j := by
     rw [← hfin]
     conv => rhs; unfold upF
     rw [if_neg (by simp only [Nat.add_sub_cancel]; omega)]
     rfl
    rw [hd] at hls
    repeat' (first
     | ((with_reducible refine b8 (fun h => ?_) (fun h => ?_)) <;> simp only [h, ag1, Option.map_some, hw1, hw2, hb, hbx, SXR, simprocAttr])
     | (with_reducible refine e8 (hls) ?_)
     | (with_reducible refine e8 (hsw) ?_)
     | (simp only [c55, ag1, Option.map_some, hw1, hw2, hb, hbx, SXR, simprocAttr]))
    refine IH (k / 2, sw l1 (k / 2) (k + 1)) _ _ (by exact ⟨(), rfl, rfl⟩) ⟨by show k / 2 < l.length; omega, by rw [ah7]; exact hl1, ?_⟩ (by show k / 2 < k + 1; omega)
    rw [← hfin']
    exact upF_fuel _ _ _ _ (Nat.lt_succ_self _) (by omega)
   ·have hd := decide_eq_false hc
    have : upF (k + 1 + 1) l1 (k + 1) = l1 := by
     unfold upF
     rw [if_pos (by simp only [Nat.add_sub_cancel]; exact .inr hc)]
    rw [this] at hfin
    rw [← hfin]
    rw [hd] at hls
    repeat' (first
     | ((with_reducible refine b8 (fun h => ?_) (fun h => ?_)) <;> simp only [h, ag1, Option.map_some, hw1, hw2, hb, hbx, SXR, simprocAttr])
     | (with_reducible refine e8 (hls) ?_)
     | (with_reducible refine e8 (hsw) ?_)
     | (simp only [c55, ag1, Option.map_some, hw1, hw2, hb, hbx, SXR, simprocAttr]))
    rfl
theorem an3 : ∀ (f g : Nat) (l : List Nat) (n i : Nat), n - i < f → n - i < g → ag3 f l n i = ag3 g l n i
 | 0, _, l, n, i, h, _ => by omega
 | _ + 1, 0, l, n, i, _, h => by omega
 | f + 1, g + 1, l, n, i, h1, h2 => by
   simp only [ag3]
   split
   ·rfl
   ·rename_i hc
    have hk : kidF l n i = 2 * i + 1 ∨ kidF l n i = 2 * i + 2 := by unfold kidF; split <;> simp
    exact an3 f g _ _ _ (by omega) (by omega)
set_option maxHeartbeats 1000000 in
theorem hdown_ac (h : HP R B gr zs H l) {n : Nat} (hnl : n ≤ l.length) (hn : l.length < 1000000) :
  ACalls Tryz.prog 56 [.ifc 83 (.p R 0), .i .i64 0, .i .i64 (n : Int)] (hpL H) H.length (.b (decide (((ag3 (n + 1) l n 0).2 : Int) > 0))) (hpL (HB H B gr zs (ag3 (n + 1) l n 0).1)) (HB H B gr zs (ag3 (n + 1) l n 0).1).length := by
 refine ao2 Tryz.func56 k56 rfl ?_
 repeat' (first
  | ((with_reducible refine b8 (fun h => ?_) (fun h => ?_)) <;> simp only [h, SXR, simprocAttr])
  | (simp only [c56, SXR, simprocAttr]))
 refine m5 (X := Nat × List Nat) (fun x ll hs => ∃ y : Unit, Hd (fun j => [.ifc 83 (.p R 0), .i .i64 0, .i .i64 (n : Int), j 3, j 4, j 5, j 6, .i .i64 (x.1 : Int), j 8, j 9, j 10, j 11, j 12, j 13, j 14, j 15, j 16, j 17, j 18, j 19, j 20, j 21, j 22, j 23, j 24, j 25, j 26, j 27, j 28, j 29, j 30, j 31, j 32, j 33, j 34, j 35, j 36, j 37, j 38, j 39, j 40, j 41, j 42, j 43, j 44, j 45, j 46, j 47]) ll ∧ hs = HB H B gr zs x.2)
  (fun x => x.1 ≤ l.length ∧ x.2.length = l.length ∧ ag3 (n + 1 - x.1) x.2 n x.1 = ag3 (n + 1) l n 0 ∧ x.1 ≤ n) (fun x => n - x.1) ?_ (0, l) _ _ (by exact ⟨(), rfl, h.self.symm⟩) ⟨Nat.zero_le _, rfl, rfl, Nat.zero_le _⟩
 rintro ⟨i, l1⟩ _ _ ⟨_, e, rfl⟩ ⟨hi, hl1, hfin, hin⟩ IH
 obtain ⟨jj, rfl⟩ := e.open
 clear e
 simp only at hi hl1 hfin IH hin ⊢
 have h' := h.hb (l' := l1) hl1
 have hbx := h'.box
 have hw0 : IntKind.i64.wrap (2 * (i : Int)) = ((2 * i : Nat) : Int) := by
  rw [show 2 * (i : Int) = ((2 * i : Nat) : Int) by simp]; exact ac1 (by omega)
 have hw1 := j1 (n := 2 * i) (by omega)
 have hw2 := j1 (n := 2 * i + 1) (by omega)
 rw [show n + 1 - i = (n - i) + 1 by omega] at hfin
 by_cases hc1 : n ≤ 2 * i + 1
 ·clear IH
  have hg : decide (((2 * i + 1 : Nat) : Int) ≥ (n : Int)) = true := decide_eq_true (by omega)
  have : ag3 (n - i + 1) l1 n i = (l1, i) := by simp only [ag3]; rw [if_pos (.inl hc1)]
  rw [this] at hfin
  rw [← hfin]
  repeat' (first
   | ((with_reducible refine b8 (fun h => ?_) (fun h => ?_)) <;> simp only [h, ao0, hw0, hw1, hw2, hg, SXR, simprocAttr])
   | (simp only [c56, ao0, hw0, hw1, hw2, hg, SXR, simprocAttr]))
 ·have hg : decide (((2 * i + 1 : Nat) : Int) ≥ (n : Int)) = false := decide_eq_false (by omega)
  have hz : decide (((2 * i + 1 : Nat) : Int) < 0) = false := decide_eq_false (by omega)
  have hk3 : (kidF l1 n i = 2 * i + 1 ∧ ¬ (2 * i + 2 < n)) ∨ (kidF l1 n i = 2 * i + 1 ∧ 2 * i + 2 < n ∧ ¬ l1.getD (2 * i + 2) 0 < l1.getD (2 * i + 1) 0) ∨ (kidF l1 n i = 2 * i + 2 ∧ 2 * i + 2 < n ∧ l1.getD (2 * i + 2) 0 < l1.getD (2 * i + 1) 0) := by
   unfold kidF
   by_cases q1 : 2 * i + 2 < n
   ·by_cases q2 : l1.getD (2 * i + 2) 0 < l1.getD (2 * i + 1) 0
    ·rw [if_pos ⟨q1, q2⟩]; exact .inr (.inr ⟨rfl, q1, q2⟩)
    ·rw [if_neg (fun h => q2 h.2)]; exact .inr (.inl ⟨rfl, q1, q2⟩)
   ·rw [if_neg (fun h => q1 h.1)]; exact .inl ⟨rfl, q1⟩
  by_cases hc : l1.getD (kidF l1 n i) 0 < l1.getD i 0
  ·have hfin' : ag3 (n - i) (sw l1 i (kidF l1 n i)) n (kidF l1 n i) = ag3 (n + 1) l n 0 := by
    rw [← hfin]
    conv => rhs; unfold ag3
    rw [if_neg (by rintro (q | q); exact hc1 q; exact q hc)]
   have hd := decide_eq_true hc
   rcases hk3 with ⟨hk, q1⟩ | ⟨hk, q1, q2⟩ | ⟨hk, q1, q2⟩
   ·rw [hk] at hd hfin'
    have h2 : decide (((2 * i + 1 + 1 : Nat) : Int) < (n : Int)) = false := decide_eq_false (by omega)
    have hl3 := ac8 h'.rc (i := 2 * i + 1) (j := i) (by omega) (by omega)
    rw [hd] at hl3
    have hsw := ar2 h' (i := i) (j := 2 * i + 1) (by omega) (by omega)
    rw [HB_HB] at hsw
    repeat' (first
     | ((with_reducible refine b8 (fun h => ?_) (fun h => ?_)) <;> simp only [h, ao0, ag1, Option.map_some, hw0, hw1, hw2, hg, hz, hbx, h2, SXR, simprocAttr])
     | (with_reducible refine e8 (hl3) ?_)
     | (with_reducible refine e8 (hsw) ?_)
     | (simp only [c56, ao0, ag1, Option.map_some, hw0, hw1, hw2, hg, hz, hbx, h2, SXR, simprocAttr]))
    refine IH (2 * i + 1, sw l1 i (2 * i + 1)) _ _ (by exact ⟨(), rfl, rfl⟩) ⟨by show 2 * i + 1 ≤ l.length; omega, by rw [ah7]; exact hl1, ?_, by show 2 * i + 1 ≤ n; omega⟩ (by show n - (2 * i + 1) < n - i; omega)
    rw [← hfin']
    exact an3 _ _ _ _ _ (by show n - (2 * i + 1) < n + 1 - (2 * i + 1); omega) (by omega)
   ·rw [hk] at hd hfin'
    have h2 : decide (((2 * i + 1 + 1 : Nat) : Int) < (n : Int)) = true := decide_eq_true (by omega)
    have hl2 := ac8 h'.rc (i := 2 * i + 1 + 1) (j := 2 * i + 1) (by omega) (by omega)
    rw [decide_eq_false q2] at hl2
    have hl3 := ac8 h'.rc (i := 2 * i + 1) (j := i) (by omega) (by omega)
    rw [hd] at hl3
    have hsw := ar2 h' (i := i) (j := 2 * i + 1) (by omega) (by omega)
    rw [HB_HB] at hsw
    repeat' (first
     | ((with_reducible refine b8 (fun h => ?_) (fun h => ?_)) <;> simp only [h, ao0, ag1, Option.map_some, hw0, hw1, hw2, hg, hz, hbx, h2, SXR, simprocAttr])
     | (with_reducible refine e8 (hl3) ?_)
     | (with_reducible refine e8 (hl2) ?_)
     | (with_reducible refine e8 (hsw) ?_)
     | (simp only [c56, ao0, ag1, Option.map_some, hw0, hw1, hw2, hg, hz, hbx, h2, SXR, simprocAttr]))
    refine IH (2 * i + 1, sw l1 i (2 * i + 1)) _ _ (by exact ⟨(), rfl, rfl⟩) ⟨by show 2 * i + 1 ≤ l.length; omega, by rw [ah7]; exact hl1, ?_, by show 2 * i + 1 ≤ n; omega⟩ (by show n - (2 * i + 1) < n - i; omega)
    rw [← hfin']
    exact an3 _ _ _ _ _ (by show n - (2 * i + 1) < n + 1 - (2 * i + 1); omega) (by omega)
   ·rw [hk] at hd hfin'
    have h2 : decide (((2 * i + 1 + 1 : Nat) : Int) < (n : Int)) = true := decide_eq_true (by omega)
    have hl2 := ac8 h'.rc (i := 2 * i + 1 + 1) (j := 2 * i + 1) (by omega) (by omega)
    rw [decide_eq_true q2] at hl2
    have hl3 := ac8 h'.rc (i := 2 * i + 1 + 1) (j := i) (by omega) (by omega)
    rw [hd] at hl3
    have hsw := ar2 h' (i := i) (j := 2 * i + 1 + 1) (by omega) (by omega)
    rw [HB_HB] at hsw
    repeat' (first
     | ((with_reducible refine b8 (fun h => ?_) (fun h => ?_)) <;> simp only [h, ao0, ag1, Option.map_some, hw0, hw1, hw2, hg, hz, hbx, h2, SXR, simprocAttr])
     | (with_reducible refine e8 (hl3) ?_)
     | (with_reducible refine e8 (hl2) ?_)
     | (with_reducible refine e8 (hsw) ?_)
     | (simp only [c56, ao0, ag1, Option.map_some, hw0, hw1, hw2, hg, hz, hbx, h2, SXR, simprocAttr]))
    refine IH (2 * i + 1 + 1, sw l1 i (2 * i + 1 + 1)) _ _ (by exact ⟨(), rfl, rfl⟩) ⟨by show 2 * i + 1 + 1 ≤ l.length; omega, by rw [ah7]; exact hl1, ?_, by show 2 * i + 1 + 1 ≤ n; omega⟩ (by show n - (2 * i + 1 + 1) < n - i; omega)
    rw [← hfin']
    exact an3 _ _ _ _ _ (by show n - (2 * i + 1 + 1) < n + 1 - (2 * i + 1 + 1); omega) (by omega)
  ·clear IH
   have hd := decide_eq_false hc
   have : ag3 (n - i + 1) l1 n i = (l1, i) := by simp only [ag3]; rw [if_pos (.inr hc)]
   rw [this] at hfin
   rw [← hfin]
   rcases hk3 with ⟨hk, q1⟩ | ⟨hk, q1, q2⟩ | ⟨hk, q1, q2⟩
   ·rw [hk] at hd
    have h2 : decide (((2 * i + 1 + 1 : Nat) : Int) < (n : Int)) = false := decide_eq_false (by omega)
    have hl3 := ac8 h'.rc (i := 2 * i + 1) (j := i) (by omega) (by omega)
    rw [hd] at hl3
    repeat' (first
     | ((with_reducible refine b8 (fun h => ?_) (fun h => ?_)) <;> simp only [h, ao0, ag1, Option.map_some, hw0, hw1, hw2, hg, hz, hbx, h2, SXR, simprocAttr])
     | (with_reducible refine e8 (hl3) ?_)
     | (simp only [c56, ao0, ag1, Option.map_some, hw0, hw1, hw2, hg, hz, hbx, h2, SXR, simprocAttr]))
   ·rw [hk] at hd
    have h2 : decide (((2 * i + 1 + 1 : Nat) : Int) < (n : Int)) = true := decide_eq_true (by omega)
    have hl2 := ac8 h'.rc (i := 2 * i + 1 + 1) (j := 2 * i + 1) (by omega) (by omega)
    rw [decide_eq_false q2] at hl2
    have hl3 := ac8 h'.rc (i := 2 * i + 1) (j := i) (by omega) (by omega)
    rw [hd] at hl3
    repeat' (first
     | ((with_reducible refine b8 (fun h => ?_) (fun h => ?_)) <;> simp only [h, ao0, ag1, Option.map_some, hw0, hw1, hw2, hg, hz, hbx, h2, SXR, simprocAttr])
     | (with_reducible refine e8 (hl3) ?_)
     | (with_reducible refine e8 (hl2) ?_)
     | (simp only [c56, ao0, ag1, Option.map_some, hw0, hw1, hw2, hg, hz, hbx, h2, SXR, simprocAttr]))
   ·rw [hk] at hd
    have h2 : decide (((2 * i + 1 + 1 : Nat) : Int) < (n : Int)) = true := decide_eq_true (by omega)
    have hl2 := ac8 h'.rc (i := 2 * i + 1 + 1) (j := 2 * i + 1) (by omega) (by omega)
    rw [decide_eq_true q2] at hl2
    have hl3 := ac8 h'.rc (i := 2 * i + 1 + 1) (j := i) (by omega) (by omega)
    rw [hd] at hl3
    repeat' (first
     | ((with_reducible refine b8 (fun h => ?_) (fun h => ?_)) <;> simp only [h, ao0, ag1, Option.map_some, hw0, hw1, hw2, hg, hz, hbx, h2, SXR, simprocAttr])
     | (with_reducible refine e8 (hl3) ?_)
     | (with_reducible refine e8 (hl2) ?_)
     | (simp only [c56, ao0, ag1, Option.map_some, hw0, hw1, hw2, hg, hz, hbx, h2, SXR, simprocAttr]))
end
structure FR (R B : Nat) (H : List O) (B' : Nat) (H' : List O) : Prop where
 len : H.length ≤ H'.length
 new : B' = B ∨ H.length ≤ B'
 at_ : ∀ a, a < H.length → a ≠ R → a ≠ B → hpL H' a = hpL H a
section
variable {R B : Nat} {gr : Bool} {zs : List V} {H : List O} {l : List Nat}
theorem FR.trans {R B B' B'' : Nat} {H H' H'' : List O} (h1 : FR R B H B' H') (h2 : FR R B' H' B'' H'') : FR R B H B'' H'' := by
 refine ⟨Nat.le_trans h1.len h2.len, ?_, fun a ha hr hb => ?_⟩
 ·rcases h2.new with e | e
  ·rw [e]; exact h1.new
  ·exact .inr (Nat.le_trans h1.len e)
 ·have hl := h1.len
  rw [h2.at_ a (by omega) hr (by rcases h1.new with e | e <;> omega)]
  exact h1.at_ a ha hr hb
theorem HP.more (h : HP R B gr zs H l) (X : List O) : HP R B gr zs (H ++ X) l := ⟨j2 h.box, j2 h.arr, h.ne⟩
theorem FR.hb {l' : List Nat} (hB : B < H.length) : FR R B H B (HB H B gr zs l') := ⟨by rw [HB_len]; exact Nat.le_refl _, .inl rfl, fun a ha hr hb => by rw [HB, i8 hb]⟩
theorem snoc_map (l : List Nat) (v : Nat) : (l ++ [v]).map z7 = l.map z7 ++ [z7 v] := by simp
theorem HP.push (h : HP R B gr zs H l) (v : Nat) (hroom : room (l.length + 1) 8 = true) :
  ∃ (v' : V) (H1 H2 : List O) (B' : Nat) (gr' : Bool) (zs' : List V), (∀ rb k, rb + k = H.length + 1 → ag9 rb (H ++ [.c false [.i .i64 (v : Int)], .no]) k (.sl B 0 1 l.length none) (some [.i .i64 (v : Int)]) (some 1) 1 8 = some (v', H1)) ∧
   Go.B.stored v' = some [v'] ∧ hpL H1 R = .c false [.sl B 0 1 l.length none] ∧ u6 H1 R (.c false [v']) = some H2 ∧ HP R B' gr' zs' H2 (l ++ [v]) ∧ FR R B H B' H2 := by
 have hBl := t8 h.arr
 have hRl := t8 h.box
 have hm1 : Nat.beq 1 0 = false := rfl
 have hml : (l.map z7).length = l.length := List.length_map _
 cases zs with
 | cons z zs =>
   have hh : hpL (H ++ [O.c false [.i .i64 (v : Int)], .no]) B = .c gr (l.map z7 ++ z :: zs) := j2 h.arr
   have hput : putAt (l.map z7 ++ z :: zs) (l.length * 1) [V.i .i64 (v : Int)] = (l ++ [v]).map z7 ++ zs := by
    rw [Nat.mul_one, putAt_1 _ _ _ (by simp), snoc_map, List.set_append_right _ _ (by omega), hml, Nat.sub_self]
    simp [z7]
   have hap : ∀ rb k, rb + k = H.length + 1 → ag9 rb (H ++ [.c false [.i .i64 (v : Int)], .no]) k (.sl B 0 1 l.length none) (some [.i .i64 (v : Int)]) (some 1) 1 8 = some (.sl B 0 1 (l.length + 1) none, H.set B (.c gr ((l ++ [v]).map z7 ++ zs)) ++ [.c false [.i .i64 (v : Int)], .no]) := fun rb k e => by
    have := app_fit (rb := rb) (k := k) (bytes := 8) (len := l.length) (wd := 1) (rows := [[V.i .i64 (v : Int)]]) rfl hh (by simp; omega) (by simp) (by simp)
    simp only [List.flatten_cons, List.flatten_nil, List.append_nil, List.length_cons, List.length_nil, Nat.zero_add] at this
    rw [this, hput, aj6 hBl]
    rfl
   refine ⟨_, _, _, B, gr, zs, hap, rfl, ?_, z9 (by simp; omega), ⟨?_, ?_, h.ne⟩, ⟨by simp, .inl rfl, fun a ha hr hb => ?_⟩⟩
   ·rw [o0 (by simpa using hRl), i8 h.ne]; exact h.box
   ·rw [m8 (by simp; omega)]; simp
   ·rw [i8 (Ne.symm h.ne), o0 (by simpa using hBl), m8 hBl]
   ·rw [i8 hr, o0 (by simpa using ha), i8 hb]
 | nil =>
   have harr := h.arr
   rw [List.append_nil] at harr
   have hh : hpL (H ++ [O.c false [.i .i64 (v : Int)], .no]) B = .c gr (l.map z7) := j2 harr
   cases gr with
   | false =>
     have hap : ∀ rb k, rb + k = H.length + 1 → ag9 rb (H ++ [.c false [.i .i64 (v : Int)], .no]) k (.sl B 0 1 l.length none) (some [.i .i64 (v : Int)]) (some 1) 1 8 = some (.sl (H.length + 1) 0 1 (l.length + 1) none, H ++ [.c false [.i .i64 (v : Int)], .c true ((l ++ [v]).map z7)]) := fun rb k e => by
      rw [ap_sl hm1, hh, ao_lit hm1 rfl (by rw [hml, Nat.mul_one]; exact Nat.beq_refl _) hroom, e, show H ++ [O.c false [.i .i64 (v : Int)], .no] = (H ++ [O.c false [.i .i64 (v : Int)]]) ++ [.no] by simp, aj7 (by simp), snoc_map]
      simp [z7]
     refine ⟨_, _, _, H.length + 1, true, [], hap, rfl, ?_, z9 (by simp; omega), ⟨?_, ?_, by omega⟩, ⟨by simp, .inr (by omega), fun a ha hr hb => ?_⟩⟩
     ·rw [o0 hRl]; exact h.box
     ·rw [m8 (by simp; omega)]; simp
     ·rw [i8 (by omega), ai2, List.append_nil]; rfl
     ·rw [i8 hr, o0 ha]
   | true =>
     have hap : ∀ rb k, rb + k = H.length + 1 → ag9 rb (H ++ [.c false [.i .i64 (v : Int)], .no]) k (.sl B 0 1 l.length none) (some [.i .i64 (v : Int)]) (some 1) 1 8 = some (.sl (H.length + 1) 0 1 (l.length + 1) none, H.set B .gone ++ [.c false [.i .i64 (v : Int)], .c true ((l ++ [v]).map z7)]) := fun rb k e => by
      rw [ap_sl hm1, hh, aq3 hm1 rfl (by rw [hml, Nat.mul_one]; exact Nat.beq_refl _) hroom]
      have hs : u6 (H ++ [O.c false [.i .i64 (v : Int)], .no]) B O.gone = some (H.set B .gone ++ [.c false [.i .i64 (v : Int)], .no]) := aj6 hBl
      rw [hs, Option.bind_some, show H.set B O.gone ++ [O.c false [.i .i64 (v : Int)], .no] = (H.set B .gone ++ [.c false [.i .i64 (v : Int)]]) ++ [.no] by simp, aj7 (by simp [e]), e, snoc_map]
      simp [z7]
     refine ⟨_, _, _, H.length + 1, true, [], hap, rfl, ?_, z9 (by simp; omega), ⟨?_, ?_, by omega⟩, ⟨by simp, .inr (by omega), fun a ha hr hb => ?_⟩⟩
     ·rw [o0 (by simpa using hRl), i8 h.ne]; exact h.box
     ·rw [m8 (by simp; omega)]; simp
     ·rw [i8 (by omega), show H.length + 1 = (H.set B .gone).length + 1 by simp, ai2, List.append_nil]; rfl
     ·rw [i8 hr, o0 (by simpa using ha), i8 hb]
def pushF (l : List Nat) (v : Nat) : List Nat := upF (l.length + 1) (l ++ [v]) l.length
theorem upF_len : ∀ (f : Nat) (l : List Nat) (j : Nat), (upF f l j).length = l.length
 | 0, l, j => rfl
 | f + 1, l, j => by
   simp only [upF]
   split
   ·rfl
   ·rw [upF_len, ah7]
theorem downF_len : ∀ (f : Nat) (l : List Nat) (n i : Nat), (ag3 f l n i).1.length = l.length
 | 0, l, n, i => rfl
 | f + 1, l, n, i => by
   simp only [ag3]
   split
   ·rfl
   ·rw [downF_len, ah7]
theorem hpush_ac (h : HP R B gr zs H l) (v : Nat) (hn : l.length < 100000) :
  ∃ (H' : List O) (B' : Nat) (gr' : Bool) (zs' : List V), ACalls Tryz.prog 32 [.ifc 83 (.p R 0), .ifc 3 (.i .i64 (v : Int))] (hpL H) H.length (.tu []) (hpL H') H'.length ∧ HP R B' gr' zs' H' (pushF l v) ∧ FR R B H B' H' := by
 obtain ⟨v', H1, H2, B', gr', zs', g1, g2, g3, g4, g5, g6⟩ := h.push v (v9 (by omega) (by omega))
 have hR := j2 (m := [O.no, O.no]) h.box
 have hp : ACalls Tryz.prog 355 [.p R 0, .ifc 3 (.i .i64 (v : Int))] (hpL H) H.length (.tu []) (hpL H2) H2.length := by
  refine ao2 Tryz.func355 k355 rfl ?_
  repeat' (first
   | (simp only [c355, hR, g1, g2, g3, g4, SXR, simprocAttr]))
  rfl
 have hl1 : (l ++ [v]).length = l.length + 1 := by simp
 have hbx := g5.box
 rw [hl1] at hbx
 have hlen := llen_ac (js := H2) (B := B') (n := l.length + 1)
 have hw := ab0 (n := l.length) (by omega)
 have hup := hup_ac g5 (j := l.length) (by omega) (by omega)
 refine ⟨_, B', gr', zs', ?_, g5.hb (l' := pushF l v) (upF_len _ _ _), g6.trans (FR.hb (t8 g5.arr))⟩
 refine ao2 Tryz.func32 k32 rfl ?_
 repeat' (first
  | ((with_reducible refine b8 (fun h => ?_) (fun h => ?_)) <;> simp only [h, ag1, Option.map_some, hbx, hw, SXR, simprocAttr])
  | (with_reducible refine e8 (hp) ?_)
  | (with_reducible refine e8 (hlen) ?_)
  | (with_reducible refine e8 (hup) ?_)
  | (simp only [c32, ag1, Option.map_some, hbx, hw, SXR, simprocAttr]))
 exact ⟨rfl, rfl⟩
theorem sslF1 {a n h : Nat} (h2 : h ≤ n) : sslF 1 (.sl a 0 1 n none) none (some (.i .i64 (h : Int))) none = some (.sl a 0 1 h none) := by
 simp only [sslF, evX, evIo, evO, vI, Option.map_some, Option.map_none]
 rw [if_pos ⟨by omega, by omega, by omega, trivial⟩]
 simp
theorem lpop_ac (h : HP R B gr zs H l) {m : Nat} (hm : l.length = m + 1) (hn : l.length < 100000) :
  ACalls Tryz.prog 354 [.p R 0] (hpL H) H.length (.ifc 3 (.i .i64 (l.getD m 0 : Nat))) (hpL (H.set R (.c false [.sl B 0 1 m none]))) (H.set R (.c false [.sl B 0 1 m none])).length := by
 have hR := h.box
 have hRl := t8 hR
 rw [hm] at hR
 have hw := ab0 (n := m) (by omega)
 obtain ⟨x, hx, _⟩ := ats (l := l) (i := m) (by omega)
 rw [ak1 hx]
 have hml : (l.map z7).length = l.length := List.length_map _
 have ia : iadE 1 (.sl B 0 1 (m + 1) none) (.i .i64 (m : Int)) = some (.p B m) := by
  have := ae0 (a := B) (n := m + 1) (w := 1) (wd := 1) (c := none) (Nat.lt_succ_self m)
  rw [Nat.mul_one] at this; exact this
 have hb := h.arr
 have li : ldE.ldO 1 false m (.c gr (l.map z7 ++ zs)) = some (.i .i64 (x : Int)) := ld1 (by rw [List.getElem?_append_left (by omega)]; exact mg hx)
 have hs := sslF1 (a := B) (n := m + 1) (h := m) (by omega)
 have u6 := z9 (H := H) (a := R) (o := .c false [.sl B 0 1 m none]) hRl
 refine ao2 Tryz.func354 k354 rfl ?_
 repeat' (first
  | (simp only [c354, hR, hw, ia, hb, li, x_sslF, hs, u6, af5, Option.map_some, Option.map_none, SXR, simprocAttr]))
theorem HP.pop (h : HP R B gr zs H l) {m : Nat} (hm : l.length = m + 1) : HP R B gr (z7 (l.getD m 0) :: zs) (H.set R (.c false [.sl B 0 1 m none])) (l.take m) := by
 have hRl := t8 h.box
 refine ⟨?_, ?_, h.ne⟩
 ·rw [m8 hRl, List.length_take, hm, Nat.min_eq_left (by omega)]
 ·rw [i8 (Ne.symm h.ne), h.arr]
  congr 1
  obtain ⟨x, hx, _⟩ := ats (l := l) (i := m) (by omega)
  rw [ak1 hx]
  have : l = l.take m ++ [x] := by
   conv => lhs; rw [← List.take_append_drop m l, t6 hx, List.drop_eq_nil_of_le (by omega)]
  conv => lhs; rw [this]
  simp
def ai8 (l : List Nat) : List Nat := (ag3 l.length (sw l 0 (l.length - 1)) (l.length - 1) 0).1
theorem hpop_ac (h : HP R B gr zs H l) {m : Nat} (hm : l.length = m + 1) (hn : l.length < 100000) :
  ∃ (H' : List O) (zs' : List V), ACalls Tryz.prog 34 [.ifc 83 (.p R 0)] (hpL H) H.length (.ifc 3 (.i .i64 ((ai8 l).getD m 0 : Nat))) (hpL H') H'.length ∧ HP R B gr zs' H' ((ai8 l).take m) ∧ FR R B H B H' := by
 have hbx := h.box
 have hlen := llen_ac (B := B) (js := H) (n := l.length)
 have hw := ab0 (n := m) (by omega)
 rw [← hm] at hw
 have hsw := ar2 h (i := 0) (j := m) (by omega) (by omega)
 have h1 := h.hb (l' := sw l 0 m) (ah7 _ _ _)
 have hdn := hdown_ac h1 (n := m) (by rw [ah7]; omega) (by rw [ah7]; omega)
 rw [HB_HB] at hdn
 have hpl : (ai8 l).length = l.length := by unfold ai8; rw [downF_len, ah7]
 have hpe : (ag3 (m + 1) (sw l 0 m) m 0).1 = ai8 l := by
  unfold ai8; rw [hm, Nat.add_sub_cancel]
 have h2 := h.hb (l' := ai8 l) hpl
 have hp := lpop_ac h2 (m := m) (by omega) (by omega)
 rw [hpe] at hdn
 refine ⟨_, _, ?_, h2.pop (m := m) (by omega), ?_⟩
 rotate_left
 ·refine ⟨by simp [HB_len], .inl rfl, fun a ha hr hb => ?_⟩
  rw [i8 hr, HB, i8 hb]
 refine ao2 Tryz.func34 k34 rfl ?_
 repeat' (first
  | ((with_reducible refine b8 (fun h => ?_) (fun h => ?_)) <;> simp only [h, ag1, Option.map_some, hbx, hw, h1.box, SXR, simprocAttr])
  | (with_reducible refine e8 (hlen) ?_)
  | (with_reducible refine e8 (hsw) ?_)
  | (with_reducible refine e8 (hdn) ?_)
  | (with_reducible refine e8 (hp) ?_)
  | (simp only [c34, ag1, Option.map_some, hbx, hw, h1.box, SXR, simprocAttr]))
 all_goals rfl
end
theorem sw_perm {l : List Nat} {i j : Nat} (hi : i < l.length) (hj : j < l.length) : (sw l i j).Perm l := by
 unfold sw
 rw [ak1 (List.getElem?_eq_getElem hi), ak1 (List.getElem?_eq_getElem hj)]
 exact List.set_set_perm hi hj
theorem upF_perm : ∀ (f : Nat) (l : List Nat) (j : Nat), j < l.length → (upF f l j).Perm l
 | 0, l, j, _ => List.Perm.refl _
 | f + 1, l, j, hj => by
   simp only [upF]
   split
   ·exact List.Perm.refl _
   ·exact (upF_perm f _ _ (by rw [ah7]; omega)).trans (sw_perm (by omega) hj)
theorem bh4 : ∀ (f : Nat) (l : List Nat) (n i : Nat), n ≤ l.length → i ≤ n → (ag3 f l n i).1.Perm l
 | 0, l, n, i, _, _ => List.Perm.refl _
 | f + 1, l, n, i, hn, hi => by
   simp only [ag3]
   split
   ·exact List.Perm.refl _
   ·rename_i hc
    have hk : kidF l n i < n := by
     have : ¬ n ≤ 2 * i + 1 := fun h => hc (.inl h)
     unfold kidF
     split
     ·rename_i h; exact h.1
     ·omega
    exact (bh4 f _ _ _ (by rw [ah7]; exact hn) (by omega)).trans (sw_perm (by omega) (by omega))
theorem bg1 (l : List Nat) (v : Nat) : (pushF l v).Perm (v :: l) :=
 (upF_perm _ _ _ (by simp)).trans (by simp)
theorem popF_perm {l : List Nat} {m : Nat} (hm : l.length = m + 1) : ((ai8 l).getD m 0 :: (ai8 l).take m).Perm l := by
 have hp : (ai8 l).Perm l := by
  unfold ai8
  rw [hm, Nat.add_sub_cancel]
  exact (bh4 _ _ _ _ (by rw [ah7]; omega) (Nat.zero_le _)).trans (sw_perm (by omega) (by omega))
 have hl := hp.length_eq
 obtain ⟨x, hx, _⟩ := ats (l := ai8 l) (i := m) (by omega)
 rw [ak1 hx]
 have : ai8 l = (ai8 l).take m ++ [x] := by
  conv => lhs; rw [← List.take_append_drop m (ai8 l), t6 hx, List.drop_eq_nil_of_le (by omega)]
 refine List.Perm.trans ?_ hp
 conv => rhs; rw [this]
 simpa using List.perm_append_comm (l₁ := [x]) (l₂ := (ai8 l).take m)
def ac3 (nx : Nat → List Nat) (n : Nat) (out : List Nat) : List Nat := (((List.range n).filter fun v => !out.contains v).map nx).flatten
structure IV (n : Nat) (out l W : List Nat) : Prop where
 nd : (out ++ l).Nodup
 lt : ∀ k, k ∈ out ++ l → k < n
 ct : ∀ k, k < n → (W.count k = 0 ↔ k ∈ out ++ l)
theorem IV.perm {n : Nat} {out l l' W W' : List Nat} (h : IV n out l W) (hp : l'.Perm l) (hc : ∀ k, k < n → W'.count k = W.count k) : IV n out l' W' := by
 have hp2 : (out ++ l').Perm (out ++ l) := hp.append_left out
 refine ⟨hp2.nodup_iff.2 h.nd, fun k hk => h.lt k (hp2.mem_iff.1 hk), fun k hk => ?_⟩
 rw [hc k hk, h.ct k hk, hp2.mem_iff]
def decF (W : List Nat) (w : Nat) (l : List Nat) : List Nat := if W.count w = 0 then pushF l w else l
theorem IV.dec {n : Nat} {out l W : List Nat} {w : Nat} (h : IV n out l (w :: W)) (hw : w < n) : IV n out (decF W w l) W := by
 have hno : w ∉ out ++ l := fun hm => by
  have := (h.ct w hw).2 hm
  simp at this
 unfold decF
 by_cases h0 : W.count w = 0
 ·rw [if_pos h0]
  have h1 : IV n out (w :: l) W := by
   refine ⟨?_, fun k hk => ?_, fun k hk => ?_⟩
   ·have : (out ++ w :: l).Perm (w :: (out ++ l)) := List.perm_middle
    rw [this.nodup_iff, List.nodup_cons]
    exact ⟨hno, h.nd⟩
   ·rw [List.mem_append, List.mem_cons] at hk
    rcases hk with hk | rfl | hk
    ·exact h.lt k (List.mem_append.2 (.inl hk))
    ·exact hw
    ·exact h.lt k (List.mem_append.2 (.inr hk))
   ·have := h.ct k hk
    rw [List.mem_append] at this
    rw [List.mem_append, List.mem_cons]
    by_cases hkw : k = w
    ·subst hkw; simp [h0]
    ·rw [List.count_cons_of_ne (Ne.symm hkw)] at this
     rw [this]; simp [hkw]
  exact h1.perm (bg1 l w) fun _ _ => rfl
 ·rw [if_neg h0]
  refine ⟨h.nd, h.lt, fun k hk => ?_⟩
  have := h.ct k hk
  by_cases hkw : k = w
  ·subst hkw
   constructor
   ·intro e; exact (h0 e).elim
   ·intro e; exact (hno e).elim
  ·rw [List.count_cons_of_ne (Ne.symm hkw)] at this
   exact this
def prF : List Nat → List Nat → List Nat → List Nat
 | [], _, l => l
 | w :: ws, W, l => prF ws W (decF (ws ++ W) w l)
theorem IV.pr {n : Nat} {out W : List Nat} : ∀ {ws l : List Nat}, IV n out l (ws ++ W) → (∀ w, w ∈ ws → w < n) → IV n out (prF ws W l) W
 | [], l, h, _ => h
 | w :: ws, l, h, hw => IV.pr (ws := ws) (IV.dec h (hw w (by simp))) fun x hx => hw x (by simp [hx])
theorem an5 {nx : Nat → List Nat} {k : Nat} : ∀ (a : List Nat), ((a.map nx).flatten).count k = (a.map fun v => (nx v).count k).sum
 | [] => rfl
 | x :: a => by simp only [List.map_cons, List.flatten_cons, List.count_append, List.sum_cons, an5 a]
theorem remF_pop {nx : Nat → List Nat} {n v : Nat} {out : List Nat} (hv : v < n) (ho : v ∉ out) (k : Nat) : (ac3 nx n out).count k = (nx v ++ ac3 nx n (out ++ [v])).count k := by
 have key : ∀ (a : List Nat), a.Nodup → v ∈ a → ((a.filter fun x => !out.contains x).map fun x => (nx x).count k).sum = (nx v).count k + ((a.filter fun x => !(out ++ [v]).contains x).map fun x => (nx x).count k).sum := by
  intro a
  induction a with
  | nil => intro _ h; simp at h
  | cons x a ih =>
    intro hnd hm
    rw [List.nodup_cons] at hnd
    by_cases hx : x = v
    ·subst hx
     have h1 : (!out.contains x) = true := by simpa using ho
     have h2 : (!(out ++ [x]).contains x) = false := by simp
     rw [List.filter_cons, List.filter_cons, if_pos h1, if_neg (by rw [h2]; simp)]
     rw [List.map_cons, List.sum_cons]
     congr 3
     apply List.filter_congr
     intro y hy
     have : y ≠ x := fun e => hnd.1 (e ▸ hy)
     simp [this]
    ·have hm' : v ∈ a := by
      rcases List.mem_cons.1 hm with h | h
      ·exact (hx h.symm).elim
      ·exact h
     have he : (!(out ++ [v]).contains x) = (!out.contains x) := by simp [hx]
     rw [List.filter_cons, List.filter_cons, he]
     split
     ·simp only [List.map_cons, List.sum_cons, ih hnd.2 hm']; omega
     ·exact ih hnd.2 hm'
 unfold ac3
 rw [an5, key _ List.nodup_range (List.mem_range.2 hv), List.count_append, an5]
theorem IV.pop {nx : Nat → List Nat} {n m : Nat} {out l : List Nat} (h : IV n out l (ac3 nx n out)) (hm : l.length = m + 1) : (ai8 l).getD m 0 < n ∧ IV n (out ++ [(ai8 l).getD m 0]) ((ai8 l).take m) (nx ((ai8 l).getD m 0) ++ ac3 nx n (out ++ [(ai8 l).getD m 0])) := by
 have hp := popF_perm hm
 generalize (ai8 l).getD m 0 = v at hp
 generalize (ai8 l).take m = l' at hp
 have hvl : v ∈ l := hp.mem_iff.1 (by simp)
 have hvn := h.lt v (List.mem_append.2 (.inr hvl))
 have hvo : v ∉ out := fun ho => by
  have := List.nodup_append.1 h.nd
  exact this.2.2 v ho v hvl rfl
 have hp2 : (out ++ [v] ++ l').Perm (out ++ l) := by
  rw [List.append_assoc]
  exact (hp.append_left out)
 refine ⟨hvn, hp2.nodup_iff.2 h.nd, fun k hk => h.lt k (hp2.mem_iff.1 hk), fun k hk => ?_⟩
 rw [← remF_pop hvn hvo k, h.ct k hk, hp2.mem_iff]
def rdyF (g : Nat → Nat) : Nat → List Nat
 | 0 => []
 | i + 1 => if g i = 0 then pushF (rdyF g i) i else rdyF g i
theorem az9 (g : Nat → Nat) : ∀ i, (rdyF g i).Nodup ∧ ∀ k, k ∈ rdyF g i ↔ k < i ∧ g k = 0
 | 0 => by simp [rdyF]
 | i + 1 => by
   obtain ⟨h1, h2⟩ := az9 g i
   simp only [rdyF]
   by_cases h0 : g i = 0
   ·rw [if_pos h0]
    have hp := bg1 (rdyF g i) i
    refine ⟨hp.nodup_iff.2 (List.nodup_cons.2 ⟨fun h => by have := (h2 i).1 h; omega, h1⟩), fun k => ?_⟩
    rw [hp.mem_iff, List.mem_cons, h2]
    constructor
    ·rintro (rfl | ⟨a, b⟩)
     ·exact ⟨by omega, h0⟩
     ·exact ⟨by omega, b⟩
    ·rintro ⟨a, b⟩
     by_cases hk : k = i
     ·exact .inl hk
     ·exact .inr ⟨by omega, b⟩
   ·rw [if_neg h0]
    refine ⟨h1, fun k => ?_⟩
    rw [h2]
    constructor
    ·rintro ⟨a, b⟩; exact ⟨by omega, b⟩
    ·rintro ⟨a, b⟩
     refine ⟨?_, b⟩
     rcases Nat.lt_or_ge k i with q | q
     ·exact q
     ·have : k = i := by omega
      subst this; exact (h0 b).elim
theorem IV.start {nx : Nat → List Nat} {n : Nat} : IV n [] (rdyF (fun k => (ac3 nx n []).count k) n) (ac3 nx n []) := by
 obtain ⟨h1, h2⟩ := az9 (fun k => (ac3 nx n []).count k) n
 refine ⟨by simpa using h1, fun k hk => ?_, fun k hk => ?_⟩
 ·rw [List.nil_append, h2] at hk; exact hk.1
 ·rw [List.nil_append, h2]; simp [hk]
theorem remF_nil (nx : Nat → List Nat) (n : Nat) : ac3 nx n [] = ((List.range n).map nx).flatten := by unfold ac3; rw [List.filter_eq_self.2 (by simp)]
def goF (nx : Nat → List Nat) (n : Nat) : Nat → List Nat → List Nat → List Nat
 | 0, _, out => out
 | f + 1, l, out => if l.length = 0 then out else
   goF nx n f (prF (nx ((ai8 l).getD (l.length - 1) 0)) (ac3 nx n (out ++ [(ai8 l).getD (l.length - 1) 0])) ((ai8 l).take (l.length - 1))) (out ++ [(ai8 l).getD (l.length - 1) 0])
def an9 (nx : Nat → List Nat) (n : Nat) : List Nat := goF nx n (n + 1) (rdyF (fun k => (ac3 nx n []).count k) n) []
theorem IV.len {n : Nat} {out l W : List Nat} (h : IV n out l W) : out.length + l.length ≤ n := by
 have := ad5 h.nd h.lt
 simpa using this
theorem goF_spec {nx : Nat → List Nat} {n : Nat} (hb : ∀ v w, v < n → w ∈ nx v → w < n) : ∀ (f : Nat) (l out : List Nat), IV n out l (ac3 nx n out) → n < f + out.length → IV n (goF nx n f l out) [] (ac3 nx n (goF nx n f l out))
 | 0, l, out, h, hf => by have := h.len; omega
 | f + 1, l, out, h, hf => by
   simp only [goF]
   by_cases h0 : l.length = 0
   ·rw [if_pos h0]
    rw [List.length_eq_zero_iff.1 h0] at h
    exact h
   ·rw [if_neg h0]
    obtain ⟨h1, h2⟩ := h.pop (m := l.length - 1) (by omega)
    exact goF_spec hb f _ _ (h2.pr fun w hw => hb _ w h1 hw) (by simp; omega)
theorem outF_spec {nx : Nat → List Nat} {n : Nat} (hb : ∀ v w, v < n → w ∈ nx v → w < n) : IV n (an9 nx n) [] (ac3 nx n (an9 nx n)) :=
 goF_spec hb _ _ _ IV.start (by simp)
theorem outF_stuck {nx : Nat → List Nat} {n : Nat} (hb : ∀ v w, v < n → w ∈ nx v → w < n) {k : Nat} (hk : k < n) (ho : k ∉ an9 nx n) : ∃ v, v < n ∧ v ∉ an9 nx n ∧ k ∈ nx v := by
 have h := (outF_spec hb).ct k hk
 rw [List.append_nil] at h
 have : k ∈ ac3 nx n (an9 nx n) := by
  rw [← List.count_pos_iff]
  rcases Nat.eq_zero_or_pos ((ac3 nx n (an9 nx n)).count k) with e | e
  ·exact (ho (h.1 e)).elim
  ·exact e
 simp only [ac3, List.mem_flatten, List.mem_map, List.mem_filter, List.mem_range] at this
 obtain ⟨_, ⟨v, ⟨h1, h2⟩, rfl⟩, h3⟩ := this
 exact ⟨v, h1, by simpa using h2, h3⟩
def gX (X : List Nat) : Nat → Nat := fun k => X.count k
structure GO (js H : List O) (n : Nat) (X : List Nat) (B : Nat) (gr : Bool) (zs : List V) (l : List Nat) (ov : V) (out : List Nat) : Prop where
 len : js.length + 3 ≤ H.length
 low : ∀ a, a < js.length → hpL H a = hpL js a
 inn : hpL H js.length = .c false (m6 n (gX X))
 hp : HP (js.length + 2) B gr zs H l
 BK : js.length < B
 ou : NR irw 1 H ov out
 sep : ∀ Bo o w m c, ov = .sl Bo o w m c → Bo ≠ B ∧ js.length + 2 < Bo
section
variable {js H : List O} {n : Nat} {X : List Nat} {B : Nat} {gr : Bool} {zs : List V} {l : List Nat} {ov : V} {out : List Nat}
theorem GO.fr (h : GO js H n X B gr zs l ov out) {H' : List O} {B' : Nat} {gr' : Bool} {zs' : List V} {l' : List Nat} (hp : HP (js.length + 2) B' gr' zs' H' l') (fr : FR (js.length + 2) B H B' H') : GO js H' n X B' gr' zs' l' ov out := by
 have hl := h.len
 have hBK := h.BK
 refine ⟨Nat.le_trans hl fr.len, fun a ha => ?_, ?_, hp, ?_, ?_, fun Bo o w m c e => ?_⟩
 ·rw [fr.at_ a (by omega) (by omega) (by omega)]; exact h.low a ha
 ·rw [fr.at_ _ (by omega) (by omega) (by omega)]; exact h.inn
 ·rcases fr.new with e | e <;> omega
 ·rcases h.ou with q | ⟨Bo, q1, q2⟩
  ·exact .inl q
  ·obtain ⟨s1, s2⟩ := h.sep _ _ _ _ _ q1
   refine .inr ⟨Bo, q1, ?_⟩
   rw [fr.at_ Bo (t8 q2) (by omega) s1]; exact q2
 ·obtain ⟨s1, s2⟩ := h.sep _ _ _ _ _ e
  refine ⟨?_, s2⟩
  rcases h.ou with ⟨q, _⟩ | ⟨Bo', q1, q2⟩
  ·rw [e] at q; cases q
  ·rw [e] at q1; cases q1
   have := t8 q2
   rcases fr.new with e | e <;> omega
theorem GO.setg (h : GO js H n X B gr zs l ov out) {w x : Nat} {X' : List Nat} (hw : w < n) (hX : ∀ k, X'.count k = if k = w then x else X.count k) :
  ∃ H', stpO H js.length 1 w [.i .i64 (x : Int)] (.c false (m6 n (gX X))) = some H' ∧ GO js H' n X' B gr zs l ov out := by
 have hl := h.len
 have hBK := h.BK
 have hst := stp1 (hs := H) (b := js.length) (gr := false) (cs := m6 n (gX X)) (j := w) (x := z7 x) (by rw [fc_len]; exact hw)
 rw [fc_set, z9 (by omega), show (fun k => if k = w then x else gX X k) = gX X' from funext fun k => (hX k).symm] at hst
 refine ⟨_, hst, by simpa using hl, fun a ha => ?_, m8 (by omega), ⟨?_, ?_, h.hp.ne⟩, hBK, ?_, h.sep⟩
 ·rw [i8 (by omega)]; exact h.low a ha
 ·rw [i8 (by omega)]; exact h.hp.box
 ·rw [i8 (by omega)]; exact h.hp.arr
 ·rcases h.ou with q | ⟨Bo, q1, q2⟩
  ·exact .inl q
  ·obtain ⟨s1, s2⟩ := h.sep _ _ _ _ _ q1
   refine .inr ⟨Bo, q1, ?_⟩
   rw [i8 (by omega)]; exact q2
theorem GO.app (h : GO js H n X B gr zs l ov out) (v : Nat) (hn : out.length < 1000000) :
  ∃ (ov' : V) (H' : List O), (∀ rb k, rb + k = H.length + 1 → ag9 rb (H ++ [.c false [.i .i64 (v : Int)], .no]) k ov (some [.i .i64 (v : Int)]) (some 1) 1 8 = some (ov', H')) ∧ GO js H' n X B gr zs l ov' (out ++ [v]) := by
 have hl := h.len
 have hBK := h.BK
 have hap := h.ou.app1 (by omega) irw_w v (bytes := 8) (v9 (by omega) (by omega)) [.c false [.i .i64 (v : Int)]]
 have hBl := t8 h.hp.arr
 have hother : ∀ a, a < H.length → (∀ Bo o w n c, ov = .sl Bo o w n c → a ≠ Bo) → hpL (ak8 H ov ++ ([O.c false [V.i .i64 (v : Int)]] ++ [O.c true (fl irw (out ++ [v]))])) a = hpL H a := fun a ha hB => al9 ha hB
 have hsm : ∀ a, a ≤ js.length + 2 → ∀ Bo o w n c, ov = .sl Bo o w n c → a ≠ Bo := fun a ha Bo o w n c e => by have := (h.sep _ _ _ _ _ e).2; omega
 refine ⟨_, _, fun rb k e => hap rb k (by simpa using e), by simp [p7]; omega, fun a ha => ?_, ?_, ⟨?_, ?_, h.hp.ne⟩, hBK, ?_, fun Bo o w m c e => ?_⟩
 ·rw [hother a (by omega) (hsm a (by omega))]; exact h.low a ha
 ·rw [hother _ (by omega) (hsm _ (by omega))]; exact h.inn
 ·rw [hother _ (by omega) (hsm _ (by omega))]; exact h.hp.box
 ·rw [hother B hBl (fun Bo o w n c e => (h.sep _ _ _ _ _ e).1.symm)]; exact h.hp.arr
 ·exact .inr ⟨H.length + 1, by simp, an0 (X := [O.c false [V.i IntKind.i64 (v : Int)]])⟩
 ·cases e
  exact ⟨by simp; omega, by simp; omega⟩
theorem GO.more (h : GO js H n X B gr zs l ov out) (Z : List O) : GO js (H ++ Z) n X B gr zs l ov out := by
 have hl := h.len
 refine ⟨by simp; omega, fun a ha => ?_, j2 h.inn, h.hp.more Z, h.BK, h.ou.more Z, h.sep⟩
 rw [o0 (by omega)]; exact h.low a ha
end
theorem al5 {n i : Nat} {L : Nat → List Nat} (h : i < n) : (ac5 n L)[i]? = some [.ts (p6 (L i))] := by simp [ac5, h, irow]
theorem nrows_len (n : Nat) (L : Nat → List Nat) : (ac5 n L).length = n := by simp [ac5]
theorem an1 {g : List Nat} {k m : Nat} (h : g[k]? = some m) : (p6 g)[k]? = some [.i .i64 (m : Int)] := mg h
theorem ak3 {nx : Nat → List Nat} (h : ∀ i, (nx i).length < 256) : ∀ a : List Nat, ((a.map nx).flatten).length ≤ a.length * 256
 | [] => by simp
 | x :: a => by
   have := ak3 h a
   have := h x
   simp only [List.map_cons, List.flatten_cons, List.length_append, List.length_cons]
   omega
theorem remF_len {nx : Nat → List Nat} (h : ∀ i, (nx i).length < 256) (n : Nat) (out : List Nat) : (ac3 nx n out).length ≤ n * 256 := by
 have h1 := ak3 h ((List.range n).filter fun v => !out.contains v)
 have h2 := List.length_filter_le (fun v => !out.contains v) (List.range n)
 rw [List.length_range] at h2
 have h3 := Nat.mul_le_mul_right 256 h2
 exact Nat.le_trans h1 h3
theorem se_pair {h : Hp} {D : Nat → Prop} {x y z : V} (hs : Se h D x y) : Se h D (.tu [x, z]) (.tu [y, z]) := by
 refine .tu _ _ rfl fun j a b e1 e2 => ?_
 match j with
 | 0 => simp at e1 e2; subst e1 e2; exact hs
 | 1 => simp at e1 e2; subst e1 e2; exact .same _
 | j + 2 => simp at e1
set_option maxRecDepth 10000 in
set_option maxHeartbeats 8000000 in
theorem gorder_ac {js : List O} {ev : V} {E : List (Nat × Nat)} {n : Nat} (hE : RW ag2 2 js ev E) (hn : n ≤ 200) (hl : E.length < 1000000) (hb : ∀ e, e ∈ E → e.1 < n ∧ e.2 < n) (hasc : ∀ i, Asc (nxt E i)) (hnl : ∀ i, (nxt E i).length < 256) (hlt : ltO js.length js = true) :
  ACalls Tryz.prog 20 [.i .i64 (n : Int), ev] (hpL js) js.length (.tu [if (an9 (nxt E) n).length < n then .ns else .ts (p6 (an9 (nxt E) n)), .i .i64 (if (an9 (nxt E) n).length < n then 13 else 0)]) (hpL js) js.length := by
 have hmk : ∀ hs a, mksB hs a 1 8 [.i .i64 0] (.i .i64 (n : Int)) (.i .i64 (n : Int)) = (u6 hs a (.c false (m6 n fun _ => 0))).map fun h => (n, h) := by
  intro hs a
  have hq : decide (n ≤ 1073741824 ∧ 8 * n ≤ 281474976710656 ∧ [V.i .i64 0].length = 1) = true := decide_eq_true ⟨by omega, by omega, rfl⟩
  rw [mks_n hq, ncell0]
 have hval := gvalid_ac hE hn hl hb hlt
 have hnb := ba8 hE hn hl hb hasc hnl hlt
 have hbn : ∀ v w, v < n → w ∈ nxt E v → w < n := fun v w _ hw => by
  simp only [nxt, nxF, List.mem_map, List.mem_filter] at hw
  obtain ⟨e, ⟨he, _⟩, rfl⟩ := hw
  exact (hb e (List.mem_of_mem_take he)).2
 have hnlen := nrows_len n (nxt E)
 generalize hnx : nxt E = nx at *
 have hcl : (V.tu [if (an9 nx n).length < n then .ns else .ts (p6 (an9 nx n)), .i .i64 (if (an9 nx n).length < n then 13 else 0)]).cl = true := by
  have : clR (p6 (an9 nx n)) = true := by
   have := irw_cl (an9 nx n)
   simpa only [irow, clL, V.cl, Bool.and_true] using this
  split <;> simp only [V.cl, clL, this, Bool.and_self]
 refine at1 Tryz.func20 k20 rfl rfl hcl hlt ?_
 repeat' (first
  | ((with_reducible refine b8 (fun h => ?_) (fun h => ?_)) <;> simp only [h, r9, r8, hmk, ab8, hnlen, SXR, simprocAttr])
  | (with_reducible refine e8 (hval) ?_)
  | (with_reducible refine e8 (hnb) ?_)
  | (simp only [c20, r9, r8, hmk, ab8, hnlen, SXR, simprocAttr]))
 have hia : ∀ w, w < n → iadE 1 (.sl js.length 0 1 n none) (.i .i64 (w : Int)) = some (.p js.length w) := fun w hw => by
  have := ae0 (a := js.length) (w := 1) (wd := 1) (c := none) hw
  rw [Nat.mul_one] at this; exact this
 have hld : ∀ (X : List Nat) w, w < n → ldE.ldO 1 false w (.c false (m6 n (gX X))) = some (.i .i64 (X.count w : Int)) := fun X w hw => ld1 (fc_get hw)
 refine m5 (X := Nat) (fun i ll hs => ∃ y : Unit, Hd (fun j => [.i .i64 (n : Int), j 1, j 2, j 3, j 4, j 5, .ts (ac5 n nx), .sl js.length 0 1 n none, j 8, j 9, j 10, j 11, j 12, j 13, j 14, j 15, j 16, j 17, j 18, j 19, j 20, j 21, j 22, j 23, j 24, j 25, j 26, j 27, .ts (ac5 n nx), .i .i64 (n : Int), .i .i64 (i : Int), j 31, j 32, j 33, j 34, j 35, j 36, j 37, j 38, j 39, j 40, j 41, j 42, j 43, j 44, j 45, j 46, j 47, j 48, j 49, j 50, j 51, j 52, j 53, j 54, j 55, j 56, j 57, j 58, j 59, j 60, j 61, j 62, j 63, j 64, j 65, j 66, j 67, j 68, j 69, j 70, j 71, j 72, j 73, j 74, j 75, j 76, j 77, j 78, j 79, j 80, j 81, j 82, j 83, j 84, j 85, j 86, j 87, j 88, j 89, j 90, j 91, j 92, j 93, j 94, j 95, j 96, j 97, j 98, j 99, j 100, j 101, j 102, j 103, j 104, j 105, j 106, j 107, j 108]) ll ∧ hs = js ++ [.c false (m6 n (gX ((List.range i).map nx).flatten))])
  (fun i => i ≤ n) (fun i => n - i) ?_ 0 _ _ (by exact ⟨(), rfl, rfl⟩) (Nat.zero_le _)
 rintro i _ _ ⟨_, e, rfl⟩ hi IH
 obtain ⟨j, rfl⟩ := e.open
 clear e
 by_cases hil : i < n
 ·have hgt := al5 (L := nx) hil
  have hd := ltd hil
  have hw := j1 (n := i) (by omega)
  have hil2 := ah0 (nx i)
  have hfl := ak3 hnl (List.range i)
  rw [List.length_range] at hfl
  have hfl2 : i * 256 ≤ 200 * 256 := Nat.mul_le_mul_right _ (by omega)
  have hnli := hnl i
  have htn : ((List.range (i + 1)).map nx).flatten = ((List.range i).map nx).flatten ++ nx i := by rw [List.range_succ]; simp
  repeat' (first
   | ((with_reducible refine b8 (fun h => ?_) (fun h => ?_)) <;> simp only [h, r9, r8, hd, hgt, ab8, hil2, SXR, simprocAttr])
   | (simp only [c20, r9, r8, hd, hgt, ab8, hil2, SXR, simprocAttr]))
  refine m5 (X := Nat) (fun c ll hs => ∃ y : Unit, Hd (fun j => [.i .i64 (n : Int), j 1, j 2, j 3, j 4, j 5, .ts (ac5 n nx), .sl js.length 0 1 n none, j 8, j 9, j 10, j 11, j 12, j 13, j 14, j 15, j 16, j 17, j 18, j 19, j 20, j 21, j 22, j 23, j 24, j 25, j 26, j 27, .ts (ac5 n nx), .i .i64 (n : Int), .i .i64 (i : Int), j 31, j 32, j 33, .ts (p6 (nx i)), .i .i64 ((nx i).length : Int), .i .i64 (c : Int), j 37, j 38, j 39, j 40, j 41, j 42, j 43, j 44, j 45, j 46, j 47, j 48, j 49, j 50, j 51, j 52, j 53, j 54, j 55, j 56, j 57, j 58, j 59, j 60, j 61, j 62, j 63, j 64, j 65, j 66, j 67, j 68, j 69, j 70, j 71, j 72, j 73, j 74, j 75, j 76, j 77, j 78, j 79, j 80, j 81, j 82, j 83, j 84, j 85, j 86, j 87, j 88, j 89, j 90, j 91, j 92, j 93, j 94, j 95, j 96, j 97, j 98, j 99, j 100, j 101, j 102, j 103, j 104, j 105, j 106, j 107, j 108]) ll ∧ hs = js ++ [.c false (m6 n (gX (((List.range i).map nx).flatten ++ (nx i).take c)))])
   (fun c => c ≤ (nx i).length) (fun c => (nx i).length - c) ?_ 0 _ _ (by exact ⟨(), rfl, by rw [List.take_zero, List.append_nil]⟩) (Nat.zero_le _)
  rintro c _ _ ⟨_, e, rfl⟩ hc IK
  obtain ⟨j, rfl⟩ := e.open
  clear e
  by_cases hcl : c < (nx i).length
  ·clear IH
   obtain ⟨w, hwx, hwm⟩ := ats hcl
   have hwn := hbn i w hil hwm
   have hgw := an1 hwx
   have hdc := ltd hcl
   have hwc := j1 (n := c) (by omega)
   have hia1 := hia w hwn
   have hld1 := hld (((List.range i).map nx).flatten ++ (nx i).take c) w hwn
   have hcw : (((List.range i).map nx).flatten ++ (nx i).take c).count w ≤ 100000 := by
    have := List.count_le_length (a := w) (l := ((List.range i).map nx).flatten ++ (nx i).take c)
    simp only [List.length_append, List.length_take] at this
    omega
   have hww := j1 (n := (((List.range i).map nx).flatten ++ (nx i).take c).count w) (by omega)
   have hX : ∀ k, (((List.range i).map nx).flatten ++ (nx i).take (c + 1)).count k = if k = w then (((List.range i).map nx).flatten ++ (nx i).take c).count w + 1 else (((List.range i).map nx).flatten ++ (nx i).take c).count k := fun k => by
    rw [List.take_add_one, hwx, ← List.append_assoc, List.count_append (l₂ := (some w).toList)]
    by_cases hk : k = w
    ·subst hk; simp
    ·rw [if_neg hk]
     have : List.count k (some w).toList = 0 := List.count_eq_zero.2 (by simp [hk])
     omega
   have hst : ∀ hs, stpO hs js.length 1 w [.i .i64 (((((List.range i).map nx).flatten ++ (nx i).take c).count w + 1 : Nat) : Int)] (.c false (m6 n (gX (((List.range i).map nx).flatten ++ (nx i).take c)))) = u6 hs js.length (.c false (m6 n (gX (((List.range i).map nx).flatten ++ (nx i).take (c + 1))))) := fun hs => by
    have := stp1 (hs := hs) (b := js.length) (gr := false) (cs := m6 n (gX (((List.range i).map nx).flatten ++ (nx i).take c))) (j := w) (x := z7 ((((List.range i).map nx).flatten ++ (nx i).take c).count w + 1)) (by rw [fc_len]; exact hwn)
    rw [fc_set] at this
    rw [show gX (((List.range i).map nx).flatten ++ (nx i).take (c + 1)) = _ from funext fun k => hX k]
    exact this
   repeat' (first
    | ((with_reducible refine b8 (fun h => ?_) (fun h => ?_)) <;> simp only [h, r9, r8, hdc, hwc, hgw, hia1, hld1, hww, hst, SXR, simprocAttr])
    | (simp only [c20, r9, r8, hdc, hwc, hgw, hia1, hld1, hww, hst, SXR, simprocAttr]))
   exact IK (c + 1) _ _ (by exact ⟨(), rfl, rfl⟩) hcl (by omega)
  ·clear IK
   have hce : c = (nx i).length := by omega
   subst hce
   have hdc := ltn hcl
   rw [List.take_length, ← htn]
   repeat' (first
    | ((with_reducible refine b8 (fun h => ?_) (fun h => ?_)) <;> simp only [h, r9, r8, hdc, hw, SXR, simprocAttr])
    | (simp only [c20, r9, r8, hdc, hw, SXR, simprocAttr]))
   exact IH (i + 1) _ _ (by exact ⟨(), rfl, rfl⟩) hil (by omega)
 ·clear IH
  have hie : n = i := by omega
  subst hie
  have hd := ltn hil
  rw [← remF_nil]
  repeat' (first
   | ((with_reducible refine b8 (fun h => ?_) (fun h => ?_)) <;> simp only [h, r9, r8, hd, af5, Nat.add_assoc, SXR, simprocAttr])
   | (simp only [c20, r9, r8, hd, af5, Nat.add_assoc, SXR, simprocAttr]))
  have hGO0 : GO js (js ++ [.c false (m6 n (gX (ac3 nx n []))), .c false [], .c false [.sl (js.length + 1) 0 1 0 none]]) n (ac3 nx n []) (js.length + 1) false [] (rdyF (gX (ac3 nx n [])) 0) .ns [] := by
   refine ⟨by simp, fun a ha => o0 ha, ab9, ⟨ai2, ai2, by omega⟩, by omega, .inl ⟨rfl, rfl⟩, fun Bo o w m c e => by cases e⟩
  refine m5 (X := Nat) (fun k ll hs => ∃ (H : List O) (B : Nat) (gr : Bool) (zs : List V), Hd (fun j => [.i .i64 (n : Int), j 1, j 2, j 3, j 4, j 5, .ts (ac5 n nx), .sl js.length 0 1 n none, j 8, j 9, j 10, j 11, .p (js.length + 2) 0, j 13, j 14, j 15, j 16, j 17, j 18, j 19, j 20, j 21, j 22, j 23, j 24, j 25, j 26, j 27, j 28, j 29, j 30, j 31, j 32, j 33, j 34, j 35, j 36, j 37, j 38, j 39, j 40, j 41, j 42, j 43, j 44, j 45, j 46, j 47, j 48, j 49, .sl js.length 0 1 n none, .i .i64 (n : Int), .i .i64 (k : Int), j 53, j 54, j 55, j 56, j 57, j 58, j 59, j 60, j 61, j 62, j 63, j 64, j 65, j 66, j 67, j 68, j 69, j 70, j 71, j 72, j 73, j 74, j 75, j 76, j 77, j 78, j 79, j 80, j 81, j 82, j 83, j 84, j 85, j 86, j 87, j 88, j 89, j 90, j 91, j 92, j 93, j 94, j 95, j 96, j 97, j 98, j 99, j 100, j 101, j 102, j 103, j 104, j 105, j 106, j 107, j 108]) ll ∧ hs = H ∧ GO js H n (ac3 nx n []) B gr zs (rdyF (gX (ac3 nx n [])) k) .ns [])
   (fun k => k ≤ n) (fun k => n - k) ?_ 0 _ _ (by exact ⟨_, _, _, _, rfl, rfl, hGO0⟩) (Nat.zero_le _)
  clear hGO0 hval hnb hmk hd
  rintro k _ H ⟨_, B, gr, zs, e, rfl, hGO⟩ hk IH
  obtain ⟨j, rfl⟩ := e.open
  clear e
  by_cases hkl : k < n
  ·have hd := ltd hkl
   have hw := j1 (n := k) (by omega)
   have hia1 := hia k hkl
   have hinn := hGO.inn
   have hld1 := hld (ac3 nx n []) k hkl
   have hrl : (rdyF (gX (ac3 nx n [])) k).length ≤ k := by
    obtain ⟨q1, q2⟩ := az9 (gX (ac3 nx n [])) k
    exact ad5 q1 fun x hx => ((q2 x).1 hx).1
   by_cases h0 : (ac3 nx n []).count k = 0
   ·obtain ⟨H', B', gr', zs', hp, hHP, hFR⟩ := hpush_ac hGO.hp k (by omega)
    have hb0 : (((ac3 nx n []).count k : Int) == 0) = true := by rw [h0]; rfl
    have hG2 := hGO.fr hHP hFR
    rw [show pushF (rdyF (gX (ac3 nx n [])) k) k = rdyF (gX (ac3 nx n [])) (k + 1) by simp only [rdyF]; exact (if_pos h0).symm] at hG2
    repeat' (first
     | ((with_reducible refine b8 (fun h => ?_) (fun h => ?_)) <;> simp only [h, r9, r8, hd, hw, hia1, hinn, hld1, hb0, SXR, simprocAttr])
     | (with_reducible refine e8 (hp) ?_)
     | (simp only [c20, r9, r8, hd, hw, hia1, hinn, hld1, hb0, SXR, simprocAttr]))
    exact IH (k + 1) _ _ (by exact ⟨_, _, _, _, rfl, rfl, hG2⟩) hkl (by omega)
   ·have hb0 : (((ac3 nx n []).count k : Int) == 0) = false := by simp; exact h0
    rw [show rdyF (gX (ac3 nx n [])) k = rdyF (gX (ac3 nx n [])) (k + 1) by simp only [rdyF]; exact (if_neg h0).symm] at hGO
    repeat' (first
     | ((with_reducible refine b8 (fun h => ?_) (fun h => ?_)) <;> simp only [h, r9, r8, hd, hw, hia1, hinn, hld1, hb0, SXR, simprocAttr])
     | (simp only [c20, r9, r8, hd, hw, hia1, hinn, hld1, hb0, SXR, simprocAttr]))
    exact IH (k + 1) _ _ (by exact ⟨_, _, _, _, rfl, rfl, hGO⟩) hkl (by omega)
  ·clear IH
   have hke : n = k := by omega
   subst hke
   have hd := ltn hkl
   repeat' (first
    | ((with_reducible refine b8 (fun h => ?_) (fun h => ?_)) <;> simp only [h, r9, r8, hd, SXR, simprocAttr])
    | (simp only [c20, r9, r8, hd, SXR, simprocAttr]))
   refine m5 (X := List Nat × List Nat) (fun x ll hs => ∃ (H : List O) (B : Nat) (gr : Bool) (zs : List V) (ov : V), Hd (fun j => [.i .i64 (n : Int), j 1, j 2, j 3, j 4, j 5, .ts (ac5 n nx), .sl js.length 0 1 n none, j 8, j 9, j 10, j 11, .p (js.length + 2) 0, j 13, j 14, ov, j 16, j 17, j 18, j 19, j 20, j 21, j 22, j 23, j 24, j 25, j 26, j 27, j 28, j 29, j 30, j 31, j 32, j 33, j 34, j 35, j 36, j 37, j 38, j 39, j 40, j 41, j 42, j 43, j 44, j 45, j 46, j 47, j 48, j 49, j 50, j 51, j 52, j 53, j 54, j 55, j 56, j 57, j 58, j 59, j 60, j 61, j 62, j 63, j 64, j 65, j 66, j 67, j 68, j 69, j 70, j 71, j 72, j 73, j 74, j 75, j 76, j 77, j 78, j 79, j 80, j 81, j 82, j 83, j 84, j 85, j 86, j 87, j 88, j 89, j 90, j 91, j 92, j 93, j 94, j 95, j 96, j 97, j 98, j 99, j 100, j 101, j 102, j 103, j 104, j 105, j 106, j 107, j 108]) ll ∧ hs = H ∧ GO js H n (ac3 nx n x.2) B gr zs x.1 ov x.2)
    (fun x => IV n x.2 x.1 (ac3 nx n x.2) ∧ goF nx n (n + 1 - x.2.length) x.1 x.2 = an9 nx n) (fun x => n - x.2.length) ?_ (rdyF (gX (ac3 nx n [])) n, []) _ _ (by exact ⟨_, _, _, _, _, rfl, rfl, hGO⟩) ⟨IV.start, rfl⟩
   clear hGO hd
   rintro ⟨l, out⟩ _ H ⟨_, B, gr, zs, ov, e, rfl, hGO⟩ ⟨hIV, hfin⟩ IH
   obtain ⟨j, rfl⟩ := e.open
   clear e
   simp only at hGO hIV hfin IH
   have hbx := hGO.hp.box
   have hll := hIV.len
   have hlen := llen_ac (B := B) (js := H) (n := l.length)
   have hrc := hGO.ou.rc (g := z7)
   have hol := hrc.len
   by_cases hl0 : l.length = 0
   ·clear IH
    have hg : decide ((l.length : Int) > 0) = false := decide_eq_false (by omega)
    have hfo : out = an9 nx n := by
     rw [← hfin]
     cases hx : n + 1 - out.length with
     | zero => rfl
     | succ f => simp only [goF]; rw [if_pos hl0]
    have hHs := ag7 (js := js) (H := H) (by have := hGO.len; omega) hGO.low
    by_cases hcy : out.length < n
    ·have hd2 := ltd hcy
     repeat' (first
      | ((with_reducible refine b8 (fun h => ?_) (fun h => ?_)) <;> simp only [h, r9, r8, hbx, hg, hol, hd2, SXR, simprocAttr])
      | (with_reducible refine e8 (hlen) ?_)
      | (simp only [c20, r9, r8, hbx, hg, hol, hd2, SXR, simprocAttr]))
     rw [← hfo, if_pos hcy, if_pos hcy]
     exact ⟨.same _, _, hHs⟩
    ·have hd2 := ltn hcy
     repeat' (first
      | ((with_reducible refine b8 (fun h => ?_) (fun h => ?_)) <;> simp only [h, r9, r8, hbx, hg, hol, hd2, SXR, simprocAttr])
      | (with_reducible refine e8 (hlen) ?_)
      | (simp only [c20, r9, r8, hbx, hg, hol, hd2, SXR, simprocAttr]))
     rw [← hfo, if_neg hcy, if_neg hcy]
     refine ⟨se_pair ?_, _, hHs⟩
     rcases hGO.ou with ⟨q1, q2⟩ | ⟨Bo, q1, q2⟩
     ·rw [q1, q2]; exact .nil
     ·rw [q1]
      exact Se.flat' q2 (fl_ir _) (ah0 _) (by have := (hGO.sep _ _ _ _ _ q1).2; omega) ai1
   ·have hg : decide ((l.length : Int) > 0) = true := decide_eq_true (by omega)
    obtain ⟨m, hm⟩ : ∃ m, l.length = m + 1 := ⟨l.length - 1, by omega⟩
    have hmm : l.length - 1 = m := by omega
    obtain ⟨hvn, hIV1⟩ := hIV.pop hm
    obtain ⟨H1, zs1, hp, hHP1, hFR1⟩ := hpop_ac hGO.hp hm (by omega)
    have hG1 := hGO.fr hHP1 hFR1
    have hvo : (ai8 l).getD m 0 ∉ out := fun ho => by
     have := (List.nodup_append.1 hIV1.nd).1
     exact (List.nodup_append.1 this).2.2 _ ho _ (by simp) rfl
    have hf1 : goF nx n (n + 1 - (out ++ [(ai8 l).getD m 0]).length) (prF (nx ((ai8 l).getD m 0)) (ac3 nx n (out ++ [(ai8 l).getD m 0])) ((ai8 l).take m)) (out ++ [(ai8 l).getD m 0]) = an9 nx n := by
     rw [← hfin]
     rw [show n + 1 - out.length = (n - out.length) + 1 by omega]
     conv => rhs; unfold goF
     rw [if_neg hl0, hmm]
     congr 1
     simp
    have hcn : ∀ k, (nx ((ai8 l).getD m 0) ++ ac3 nx n (out ++ [(ai8 l).getD m 0])).count k = (ac3 nx n out).count k := fun k => (remF_pop hvn hvo k).symm
    have hrl := remF_len hnl n (out ++ [(ai8 l).getD m 0])
    have hrl2 : n * 256 ≤ 200 * 256 := Nat.mul_le_mul_right _ hn
    generalize (ai8 l).getD m 0 = v at *
    generalize (ai8 l).take m = l0 at *
    have hG1' : GO js H1 n (nx v ++ ac3 nx n (out ++ [v])) B gr zs1 l0 ov out := by
     refine ⟨hG1.len, hG1.low, ?_, hG1.hp, hG1.BK, hG1.ou, hG1.sep⟩
     rw [hG1.inn, show gX (ac3 nx n out) = gX (nx v ++ ac3 nx n (out ++ [v])) from funext fun k => (hcn k).symm]
    obtain ⟨ov2, H2, hap, hG2⟩ := hG1'.app v (by omega)
    generalize hW : ac3 nx n (out ++ [v]) = W at *
    have hgt := al5 (L := nx) hvn
    have hil2 := ah0 (nx v)
    have hnv := hnl v
    repeat' (first
     | ((with_reducible refine b8 (fun h => ?_) (fun h => ?_)) <;> simp only [h, r9, r8, hbx, hg, hap, hgt, ab8, hil2, SXR, simprocAttr])
     | (with_reducible refine e8 (hlen) ?_)
     | (with_reducible refine e8 (hp) ?_)
     | (simp only [c20, r9, r8, hbx, hg, hap, hgt, ab8, hil2, SXR, simprocAttr]))
    refine m5 (X := Nat × List Nat) (fun x ll hs => ∃ (H : List O) (B : Nat) (gr : Bool) (zs : List V), Hd (fun j => [.i .i64 (n : Int), j 1, j 2, j 3, j 4, j 5, .ts (ac5 n nx), .sl js.length 0 1 n none, j 8, j 9, j 10, j 11, .p (js.length + 2) 0, j 13, j 14, ov2, j 16, j 17, j 18, j 19, j 20, j 21, j 22, j 23, j 24, j 25, j 26, j 27, j 28, j 29, j 30, j 31, j 32, j 33, j 34, j 35, j 36, j 37, j 38, j 39, j 40, j 41, j 42, j 43, j 44, j 45, j 46, j 47, j 48, j 49, j 50, j 51, j 52, j 53, j 54, j 55, j 56, j 57, j 58, j 59, j 60, j 61, j 62, j 63, j 64, j 65, j 66, j 67, j 68, j 69, j 70, j 71, j 72, j 73, j 74, j 75, j 76, j 77, j 78, j 79, j 80, .ts (p6 (nx v)), .i .i64 ((nx v).length : Int), .i .i64 (x.1 : Int), j 84, j 85, j 86, j 87, j 88, j 89, j 90, j 91, j 92, j 93, j 94, j 95, j 96, j 97, j 98, j 99, j 100, j 101, j 102, j 103, j 104, j 105, j 106, j 107, j 108]) ll ∧ hs = H ∧ GO js H n ((nx v).drop x.1 ++ W) B gr zs x.2 ov2 (out ++ [v]))
     (fun x => x.1 ≤ (nx v).length ∧ IV n (out ++ [v]) x.2 ((nx v).drop x.1 ++ W) ∧ prF ((nx v).drop x.1) W x.2 = prF (nx v) W l0) (fun x => (nx v).length - x.1) ?_ (0, l0) _ _ (by exact ⟨_, _, _, _, rfl, rfl, hG2⟩) ⟨Nat.zero_le _, hIV1, rfl⟩
    clear hG2 hG1' hG1 hap hp hHP1 hFR1 hGO hbx hlen
    rintro ⟨c, l1⟩ _ H ⟨_, B, gr, zs, e, rfl, hGO⟩ ⟨hc, hIV2, hpr⟩ IK
    obtain ⟨j, rfl⟩ := e.open
    clear e
    simp only at hGO hIV2 hpr IK hc
    by_cases hcl : c < (nx v).length
    ·clear IH
     obtain ⟨w, hwx, hwm⟩ := ats hcl
     have hwn := hbn v w hvn hwm
     have hgw := an1 hwx
     have hdc := ltd hcl
     have hwc := j1 (n := c) (by omega)
     rw [t6 hwx, List.cons_append] at hGO hIV2
     rw [t6 hwx] at hpr
     simp only [prF] at hpr
     have hll1 := hIV2.len
     generalize hX : (nx v).drop (c + 1) ++ W = X at *
     have hXl : X.length ≤ 100000 := by rw [← hX]; simp; omega
     have hcw : (w :: X).count w = X.count w + 1 := List.count_cons_self
     have hcX := List.count_le_length (a := w) (l := X)
     have hia1 := hia w hwn
     have hinn := hGO.inn
     have hld1 := hld (w :: X) w hwn
     rw [hcw] at hld1
     have hws := ab0 (n := X.count w) (by omega)
     obtain ⟨H3, hst, hG3⟩ := hGO.setg (w := w) (x := X.count w) (X' := X) hwn (fun k => by
      by_cases hk : k = w
      ·rw [if_pos hk, hk]
      ·rw [if_neg hk, List.count_cons_of_ne (Ne.symm hk)])
     have hinn3 := hG3.inn
     have hld3 := hld X w hwn
     have hIV3 := hIV2.dec hwn
     by_cases h0 : X.count w = 0
     ·have hb0 : ((X.count w : Int) == 0) = true := by rw [h0]; rfl
      obtain ⟨H', B', gr', zs', hpu, hHP, hFR⟩ := hpush_ac hG3.hp w (by simp at hll1; omega)
      have hG4 := hG3.fr hHP hFR
      rw [decF, if_pos h0] at hIV3 hpr
      repeat' (first
       | ((with_reducible refine b8 (fun h => ?_) (fun h => ?_)) <;> simp only [h, r9, r8, hdc, hwc, hgw, hia1, hinn, hld1, hws, hst, hinn3, hld3, hb0, SXR, simprocAttr])
       | (with_reducible refine e8 (hpu) ?_)
       | (simp only [c20, r9, r8, hdc, hwc, hgw, hia1, hinn, hld1, hws, hst, hinn3, hld3, hb0, SXR, simprocAttr]))
      exact IK (c + 1, pushF l1 w) _ _ (by exact ⟨_, _, _, _, rfl, rfl, by simp only [hX]; exact hG4⟩) ⟨hcl, by simp only [hX]; exact hIV3, hpr⟩ (by simp only; omega)
     ·have hb0 : ((X.count w : Int) == 0) = false := by simp; exact h0
      rw [decF, if_neg h0] at hIV3 hpr
      repeat' (first
       | ((with_reducible refine b8 (fun h => ?_) (fun h => ?_)) <;> simp only [h, r9, r8, hdc, hwc, hgw, hia1, hinn, hld1, hws, hst, hinn3, hld3, hb0, SXR, simprocAttr])
       | (simp only [c20, r9, r8, hdc, hwc, hgw, hia1, hinn, hld1, hws, hst, hinn3, hld3, hb0, SXR, simprocAttr]))
      exact IK (c + 1, l1) _ _ (by exact ⟨_, _, _, _, rfl, rfl, by simp only [hX]; exact hG3⟩) ⟨hcl, by simp only [hX]; exact hIV3, hpr⟩ (by simp only; omega)
    ·clear IK
     have hce : c = (nx v).length := by omega
     subst hce
     have hdc := ltn hcl
     rw [List.drop_eq_nil_of_le (Nat.le_refl _), List.nil_append] at hGO hIV2
     rw [List.drop_eq_nil_of_le (Nat.le_refl _)] at hpr
     simp only [prF] at hpr
     rw [← hpr] at hf1
     repeat' (first
      | ((with_reducible refine b8 (fun h => ?_) (fun h => ?_)) <;> simp only [h, r9, r8, hdc, SXR, simprocAttr])
      | (simp only [c20, r9, r8, hdc, SXR, simprocAttr]))
     exact IH (l1, out ++ [v]) _ _ (by exact ⟨_, _, _, _, _, rfl, rfl, by simp only [hW]; exact hGO⟩) ⟨by simp only [hW]; exact hIV2, hf1⟩ (by simp only [List.length_append, List.length_cons, List.length_nil]; omega)
end Go.Proofs.YtagogibgoknncaaGreatDoor
