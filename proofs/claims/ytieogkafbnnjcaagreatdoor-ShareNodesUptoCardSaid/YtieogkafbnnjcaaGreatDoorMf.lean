/-
  The division of delays into parts until nothing changes: (*sharer).refine.
  The delays of a node are collected: typeOf, newSharer.
  The delays of a node are collected: newSharer.
  The classes of equal delays: share.Parts.
  The classes of equal delays: share.Parts, the walk.
-/
import Derived.Test.YtieogkafbnnjcaaGreatDoorMe
set_option linter.unusedSimpArgs false
set_option linter.unusedVariables false
namespace Go.Proofs.YtieogkafbnnjcaaGreatDoor
open Go Go.B
theorem ar_0 {l : List V} {hs : List O} : an5 (mkS l hs) [] = some (.tu []) := rfl
theorem set_self {js : List O} {B : Nat} {o : O} (h : hpL js B = o) (hl : B < js.length) : js.set B o = js := by
 have : js[B] = o := by rw [← h]; simp [hpL, hl]
 rw [← this, List.set_getElem_self]
def mix (N q : List Nat) (i : Nat) : List Nat := N.take i ++ q.drop i
theorem mix_len {N q : List Nat} {i d : Nat} (h1 : N.length = d) (h2 : q.length = d) (hi : i ≤ d) : (mix N q i).length = d := by simp [mix, h1, h2]; omega
theorem mix_get {N q : List Nat} {i d : Nat} (h1 : N.length = d) (h2 : q.length = d) (hi : i < d) : (mix N q i)[i]? = q[i]? := by
 simp only [mix]
 rw [List.getElem?_append_right (by simp; omega)]
 simp [h1, Nat.min_eq_left (Nat.le_of_lt hi)]
theorem mix_set {N q : List Nat} {i b : Nat} (hb : N[i]? = some b) (h : i < q.length) : (mix N q i).set i b = mix N q (i + 1) := by
 have hN := (List.getElem?_eq_some_iff.1 hb).1
 simp only [mix]
 rw [List.set_append_right _ _ (by simp; omega), List.take_add_one, hb]
 have : i - (N.take i).length = 0 := by simp; omega
 rw [this, List.drop_eq_getElem_cons h, List.set_cons_zero]
 simp
def chg (N q : List Nat) (i : Nat) : Bool := !(N.take i == q.take i)
theorem chg_succ {N q : List Nat} {i a b : Nat} (ha : q[i]? = some a) (hb : N[i]? = some b) : chg N q (i + 1) = (chg N q i || !((a : Int) == (b : Int))) := by
 have e1 : N.take (i + 1) = N.take i ++ [b] := by rw [List.take_add_one, hb]; rfl
 have e2 : q.take (i + 1) = q.take i ++ [a] := by rw [List.take_add_one, ha]; rfl
 have l1 : (N.take i).length = i := by have := (List.getElem?_eq_some_iff.1 hb).1; simp; omega
 have l2 : (q.take i).length = i := by have := (List.getElem?_eq_some_iff.1 ha).1; simp; omega
 simp only [chg]
 rw [e1, e2, ← Bool.not_and]
 congr 1
 rw [Bool.eq_iff_iff]
 simp only [beq_iff_eq, Bool.and_eq_true]
 constructor
 ·intro h
  obtain ⟨h1, h2⟩ := List.append_inj h (by rw [l1, l2])
  simp at h2
  exact ⟨h1, by rw [h2]⟩
 ·rintro ⟨h1, h2⟩
  rw [h1]
  have : a = b := by omega
  rw [this]
theorem okK_eq {dl : List Dl} {p : List Nat} {i k a b : Nat} {x y : Dl} (h1 : dl[i]? = some x) (h2 : dl[k]? = some y) (h3 : p[i]? = some a) (h4 : p[k]? = some b) : okK dl p i k = (b == a && bh1 dl p x y) := by
 simp only [okK, h1, h2, h3, h4]
set_option maxRecDepth 10000 in
set_option maxHeartbeats 2000000 in
theorem srefine_ac {js : List O} {A B : Nat} {n : NNode} {dl : List Dl} {p : List Nat} (h : SH js A B n dl p) (hab : A ≠ B) (hv : vld p) :
  ACalls Tryz.prog 41 [.p A 0] (hpL js) js.length (.tu []) (hpL (js.set B (.c true (dcs dl (fin dl p))))) (js.set B (.c true (dcs dl (fin dl p)))).length := by
 have hBlt := hpL_lt h.hB
 have hdn := h.dn
 have hfin := bd9 h.len hv
 have hmk : ∀ hs a, mksB hs a 1 8 [.i .i64 0] (.i .i64 (dl.length : Int)) (.i .i64 (dl.length : Int)) = (ac5 hs a (.c false (ncs (arr dl [] 0)))).map fun h => (dl.length, h) := by
  intro hs a
  have hq : decide (dl.length ≤ 1073741824 ∧ 8 * dl.length ≤ 281474976710656 ∧ [V.i .i64 0].length = 1) = true := decide_eq_true ⟨by omega, by omega, rfl⟩
  rw [mks_n hq, ncs_zero, arr_zero]
 refine p8 Tryz.func41 k41 rfl (List.length_set ..) (by simp only [V.lt, ltL]) (by have := (h.put hab hfin.2.1).lt; rwa [List.length_set] at this) ?_
 repeat' (first
  | (simp only [c41, aa8, aa7, SXR, simprocAttr]))
 refine o8 (X := List Nat) (fun q ll hs => ∃ ks : List O, Hd (fun j => [.p A 0, j 1, j 2, j 3, j 4, j 5, j 6, j 7, j 8, j 9, j 10, j 11, j 12, j 13, j 14, j 15, j 16, j 17, j 18, j 19, j 20, j 21, j 22, j 23, j 24, j 25, j 26, j 27, j 28, j 29, j 30, j 31, j 32, j 33, j 34, j 35, j 36, j 37, j 38, j 39, j 40, j 41, j 42, j 43, j 44, j 45, j 46, j 47, j 48, j 49, j 50, j 51, j 52, j 53, j 54, j 55, j 56, j 57, j 58, j 59, j 60, j 61, j 62, j 63, j 64, j 65, j 66, j 67, j 68, j 69, j 70, j 71, j 72, j 73, j 74, j 75, j 76, j 77, j 78, j 79, j 80, j 81, j 82, j 83, j 84, j 85, j 86, j 87, j 88, j 89, j 90, j 91, j 92, j 93, j 94, j 95, j 96, j 97, j 98, j 99]) ll ∧ hs = js.set B (.c true (dcs dl q)) ++ ks ∧ ks.all ocl = true)
  (fun q => q.length = dl.length ∧ vld q ∧ fin dl p = fin dl q) (fun q => dl.length - bg6 q) ?_ p _ _ (by exact ⟨[], rfl, by rw [set_self h.hB hBlt, List.append_nil], rfl⟩) ⟨h.len, hv, rfl⟩
 rintro q _ _ ⟨ks, e, rfl, hks⟩ ⟨hql, hqv, hqf⟩ IQ
 obtain ⟨us, hus⟩ : ∃ us, us = js.set B (.c true (dcs dl q)) ++ ks := ⟨_, rfl⟩
 rw [← hus]
 obtain ⟨j, rfl⟩ := e.open
 clear e
 have hu : SH us A B n dl q := by rw [hus]; exact (h.put hab hql).more hks
 have hA := hu.A'
 have hA0 := hu.hA
 have hB := hu.B'
 have harr0 : arr dl [] 0 = arr dl q 0 := by rw [arr_zero, arr_zero]
 rw [harr0] at hmk
 have hlen := fun (us : List O) => ah2 (a := B) (o := 0) (w := 3) (n := dl.length) (c := none)
 repeat' (first
  | (simp only [c41, aa8, aa7, hA, ah2, hmk, SXR, simprocAttr]))
 refine o8 (X := Nat) (fun i ll hs => Hd (fun j => [.p A 0, j 1, .sl us.length 0 1 dl.length none, .b false, j 4, j 5, j 6, j 7, j 8, j 9, j 10, j 11, j 12, j 13, j 14, j 15, j 16, .i .i64 (dl.length : Int), .i .i64 (i : Int), j 19, j 20, j 21, j 22, j 23, j 24, j 25, j 26, j 27, j 28, j 29, j 30, j 31, j 32, j 33, j 34, j 35, j 36, j 37, j 38, j 39, j 40, j 41, j 42, j 43, j 44, j 45, j 46, j 47, j 48, j 49, j 50, j 51, j 52, j 53, j 54, j 55, j 56, j 57, j 58, j 59, j 60, j 61, j 62, j 63, j 64, j 65, j 66, j 67, j 68, j 69, j 70, j 71, j 72, j 73, j 74, j 75, j 76, j 77, j 78, j 79, j 80, j 81, j 82, j 83, j 84, j 85, j 86, j 87, j 88, j 89, j 90, j 91, j 92, j 93, j 94, j 95, j 96, j 97, j 98, j 99]) ll ∧ hs = us ++ [.c false (ncs (arr dl q i))])
  (fun i => i ≤ dl.length) (fun i => dl.length - i) ?_ 0 _ _ (by exact ⟨rfl, rfl⟩) (Nat.zero_le _)
 rintro i _ _ ⟨e, rfl⟩ hi IH
 obtain ⟨j, rfl⟩ := e.open
 clear e
 by_cases hlt : i < dl.length
 ·clear IQ
  obtain ⟨x, a, hx, ha, hxm⟩ := ats2 hu hlt
  have hd := ltd hlt
  have hw := l6 (n := i) (by omega)
  have hia : ∀ a w wd c, iadE wd (.sl a 0 w dl.length c) (.i .i64 (i : Int)) = some (.p a (i * wd)) := fun a w wd c => al4 hlt
  have hst : ∀ hs b m, stpO hs b 1 i [.i .i64 ((m : Nat) : Int)] (.c false (ncs (arr dl q i))) = ac5 hs b (.c false (ncs ((arr dl q i).set i m))) := fun hs b m => ncs_stp (by rw [arr_len hi]; exact hlt)
  have hst2 : ∀ hs b m, stpO hs b 1 i [.i .i64 ((m : Nat) : Int)] (.c false (ncs ((arr dl q i).set i i))) = ac5 hs b (.c false (ncs (((arr dl q i).set i i).set i m))) := fun hs b m => ncs_stp (by rw [List.length_set, arr_len hi]; exact hlt)
  repeat' (first
   | (simp only [c41, aa8, aa7, hd, hia, hst, Nat.mul_one, SXR, simprocAttr]))
  refine o8 (X := Nat) (fun k ll hs => Hd (fun j => [.p A 0, j 1, .sl us.length 0 1 dl.length none, .b false, .i .i64 (i : Int), j 5, j 6, j 7, j 8, j 9, j 10, j 11, j 12, j 13, j 14, j 15, j 16, .i .i64 (dl.length : Int), .i .i64 (i : Int), j 19, j 20, j 21, j 22, j 23, j 24, .i .i64 (i : Int), .i .i64 (k : Int), j 27, j 28, j 29, j 30, j 31, j 32, j 33, j 34, j 35, j 36, j 37, j 38, j 39, j 40, j 41, j 42, j 43, j 44, j 45, j 46, j 47, j 48, j 49, j 50, j 51, j 52, j 53, j 54, j 55, j 56, j 57, j 58, j 59, j 60, j 61, j 62, j 63, j 64, j 65, j 66, j 67, j 68, j 69, j 70, j 71, j 72, j 73, j 74, j 75, j 76, j 77, j 78, j 79, j 80, j 81, j 82, j 83, j 84, j 85, j 86, j 87, j 88, j 89, j 90, j 91, j 92, j 93, j 94, j 95, j 96, j 97, j 98, j 99]) ll ∧ hs = us ++ [.c false (ncs ((arr dl q i).set i i))])
   (fun k => k ≤ i ∧ ac9 (okK dl q i) 0 i = ac9 (okK dl q i) k (i - k)) (fun k => i - k) ?_ 0 _ _ (by exact ⟨rfl, rfl⟩) ⟨Nat.zero_le _, rfl⟩
  rintro k _ _ ⟨e, rfl⟩ ⟨hk, hf⟩ IK
  obtain ⟨j, rfl⟩ := e.open
  clear e
  by_cases hki : k < i
  ·obtain ⟨y, b, hy, hb, hym⟩ := ats2 hu (show k < dl.length by omega)
   have hdk := ltd hki
   have hwk := l6 (n := k) (by omega)
   have hka : ∀ a w wd c, iadE wd (.sl a 0 w dl.length c) (.i .i64 (k : Int)) = some (.p a (k * wd)) := fun a w wd c => al4 (by omega)
   have hca : ldE.ldO 1 false (i * 3 + 2) (.c true (dcs dl q)) = some (.i .i64 (a : Int)) := hu.cell hx ha (c := 2) rfl
   have hcb : ldE.ldO 1 false (k * 3 + 2) (.c true (dcs dl q)) = some (.i .i64 (b : Int)) := hu.cell hy hb (c := 2) rfl
   have hok := okK_eq hx hy ha hb
   have e1 : i - k = (i - (k + 1)) + 1 := by omega
   rw [e1] at hf
   simp only [ac9] at hf
   have hco : ∀ o, [O.c false o].all ocl = clL o := fun o => by simp [ocl]
   cases hpe : (b == a) with
   | false =>
     have hpi : ((b : Int) == (a : Int)) = false := by simp only [beq_eq_false_iff_ne, ne_eq] at hpe ⊢; omega
     rw [hpe, Bool.false_and] at hok
     rw [hok] at hf
     simp only [Bool.false_eq_true, if_false] at hf
     repeat' (first
      | (simp only [c41, aa8, aa7, hdk, hA, hB, hia, hka, hca, hcb, hpi, hwk, SXR, simprocAttr]))
     exact IK (k + 1) _ _ (by exact ⟨rfl, rfl⟩) ⟨hki, hf⟩ (by omega)
   | true =>
     have hpi : ((b : Int) == (a : Int)) = true := by simp only [beq_iff_eq] at hpe ⊢; omega
     rw [hpe, Bool.true_and] at hok
     cases hcm : bh1 dl q x y with
     | false =>
       rw [hok, hcm] at hf
       simp only [Bool.false_eq_true, if_false] at hf
       have hc := ba6 (hu.more (zs := [.c false (ncs ((arr dl q i).set i i))]) (by rw [hco]; exact ncs_cl _)) hx hy
       rw [hcm] at hc
       repeat' (first
        | (with_reducible refine i7 (hc) ?_)
        | (simp only [c41, aa8, aa7, hdk, hA, hB, hia, hka, hca, hcb, hpi, hwk, if_false, Bool.false_eq_true, SXR, simprocAttr]))
       exact IK (k + 1) _ _ (by exact ⟨rfl, rfl⟩) ⟨hki, hf⟩ (by omega)
     | true =>
       rw [hok, hcm] at hf
       simp only [if_true] at hf
       have hc := ba6 (hu.more (zs := [.c false (ncs ((arr dl q i).set i i))]) (by rw [hco]; exact ncs_cl _)) hx hy
       rw [hcm] at hc
       obtain ⟨m, hm1, hm2⟩ := arr_some hlt hki hf
       have hld : ldE.ldO 1 false k (.c false (ncs ((arr dl q i).set i i))) = some (.i .i64 (m : Int)) := ncs_ld hm1
       have hst3 := fun hs b => hst2 hs b m
       rw [hm2] at hst3
       repeat' (first
        | (with_reducible refine i7 (hc) ?_)
        | (simp only [c41, aa8, aa7, hdk, hA, hB, hia, hka, hca, hcb, hpi, hw, hld, hst3, Nat.mul_one, if_true, SXR, simprocAttr]))
       exact IH (i + 1) _ _ (by exact ⟨rfl, rfl⟩) hlt (by omega)
  ·clear IK
   have hkeq : k = i := by omega
   subst hkeq
   have hdk := ltn hki
   rw [Nat.sub_self] at hf
   rw [arr_none hlt hf]
   repeat' (first
    | (simp only [c41, aa8, aa7, hdk, hw, SXR, simprocAttr]))
   exact IH (k + 1) _ _ (by exact ⟨rfl, rfl⟩) hlt (by omega)
 ·clear IH
  have hd := ltn hlt
  have hie : i = dl.length := by omega
  subst hie
  rw [arr_all]
  have hNl := aa9 dl q
  have hA' := hu.A'
  repeat' (first
   | (simp only [c41, aa8, aa7, hd, hA, ah2, SXR, simprocAttr]))
  generalize hN : r9 dl q = N at hNl
  have hm0 : mix N q 0 = q := by simp [mix]
  have hus0 : us = us.set B (.c true (dcs dl (mix N q 0))) := by rw [hm0, set_self hu.hB (hpL_lt hu.hB)]
  refine o8 (X := Nat) (fun i ll hs => Hd (fun j => [.p A 0, j 1, .sl us.length 0 1 dl.length none, .b (chg N q i), j 4, j 5, j 6, j 7, j 8, j 9, j 10, j 11, j 12, j 13, j 14, j 15, j 16, j 17, j 18, j 19, j 20, j 21, j 22, j 23, j 24, j 25, j 26, j 27, j 28, j 29, j 30, j 31, j 32, j 33, j 34, j 35, j 36, j 37, j 38, j 39, j 40, j 41, j 42, j 43, j 44, j 45, j 46, j 47, j 48, j 49, j 50, j 51, j 52, j 53, j 54, j 55, j 56, j 57, j 58, j 59, j 60, j 61, j 62, j 63, j 64, j 65, .i .i64 (dl.length : Int), .i .i64 (i : Int), j 68, j 69, j 70, j 71, j 72, j 73, j 74, j 75, j 76, j 77, j 78, j 79, j 80, j 81, j 82, j 83, j 84, j 85, j 86, j 87, j 88, j 89, j 90, j 91, j 92, j 93, j 94, j 95, j 96, j 97, j 98, j 99]) ll ∧ hs = us.set B (.c true (dcs dl (mix N q i))) ++ [.c false (ncs N)])
   (fun i => i ≤ dl.length) (fun i => dl.length - i) ?_ 0 _ _ (by exact ⟨rfl, by rw [← hus0]⟩) (Nat.zero_le _)
  rintro i _ _ ⟨e, rfl⟩ hi IH
  obtain ⟨j, rfl⟩ := e.open
  clear e
  by_cases hlt : i < dl.length
  ·clear IQ
   have hml := mix_len hNl hql (Nat.le_of_lt hlt)
   have hum := hu.put hab hml
   have hA := hum.A'
   have hB := hum.B'
   have hul : (us.set B (.c true (dcs dl (mix N q i)))).length = us.length := List.length_set ..
   obtain ⟨x, a, hx, ha, hxm⟩ := ats2 hum hlt
   obtain ⟨b, hb⟩ : ∃ b, N[i]? = some b := ⟨N[i]'(by omega), by simp [hNl, hlt]⟩
   have hq : q[i]? = some a := by rw [← mix_get hNl hql hlt]; exact ha
   have hd := ltd hlt
   have hw := l6 (n := i) (by omega)
   have hia : ∀ a w wd c, iadE wd (.sl a 0 w dl.length c) (.i .i64 (i : Int)) = some (.p a (i * wd)) := fun a w wd c => al4 hlt
   have hca : ldE.ldO 1 false (i * 3 + 2) (.c true (dcs dl (mix N q i))) = some (.i .i64 (a : Int)) := hum.cell hx ha (c := 2) rfl
   have hld : ldE.ldO 1 false i (.c false (ncs N)) = some (.i .i64 (b : Int)) := ncs_ld hb
   have hst : ∀ hs c, stpO hs c 1 (i * 3 + 2) [.i .i64 (b : Int)] (.c true (dcs dl (mix N q i))) = ac5 hs c (.c true (dcs dl (mix N q (i + 1)))) := fun hs c => by rw [dcs_stp hlt hml, mix_set hb (by omega)]
   have hhs : ∀ zs o, ac5 (us.set B (.c true (dcs dl (mix N q i))) ++ zs) B o = some (us.set B o ++ zs) := fun zs o => by rw [hset_set (by rw [hul]; exact hpL_lt hu.hB), List.set_set]
   have hN' : hpL (us.set B (.c true (dcs dl (mix N q i))) ++ [.c false (ncs N)]) us.length = .c false (ncs N) := by rw [← hul]; exact hp_ap0
   have hch := chg_succ hq hb
   cases hc : chg N q i with
   | true =>
     rw [hc, Bool.true_or] at hch
     repeat' (first
      | (simp only [c41, aa8, aa7, hd, hw, hA, hB, hN', hia, hca, hld, hst, hhs, bne, Nat.mul_one, SXR, simprocAttr]))
     exact IH (i + 1) _ _ (by exact ⟨by rw [hch]; rfl, rfl⟩) hlt (by omega)
   | false =>
     rw [hc, Bool.false_or] at hch
     repeat' (first
      | (simp only [c41, aa8, aa7, hd, hw, hA, hB, hN', hia, hca, hld, hst, hhs, bne, Nat.mul_one, SXR, simprocAttr]))
     exact IH (i + 1) _ _ (by exact ⟨by rw [hch]; rfl, rfl⟩) hlt (by omega)
  ·clear IH
   have hd := ltn hlt
   have hie : i = dl.length := by omega
   have hmd : mix N q i = N := by simp [mix, hie, ← hql, List.take_of_length_le (show N.length ≤ q.length by omega)]
   have husN : us.set B (.c true (dcs dl N)) = js.set B (.c true (dcs dl N)) ++ ks := by rw [hus, List.set_append_left _ _ (by rw [List.length_set]; exact hBlt), List.set_set]
   rw [hmd]
   by_cases hNq : N = q
   ·have hcf : chg N q i = false := by simp [chg, hNq]
    rw [hcf]
    clear IQ
    have hff : fin dl p = N := by rw [hqf, hNq, fin_same (by rw [hN, hNq])]
    rw [hff]
    repeat' (first
     | (simp only [c41, aa8, aa7, hd, ar_0, SXR, simprocAttr]))
    exact ⟨ks ++ [.c false (ncs N)], by rw [husN, List.append_assoc]⟩
   ·have hcf : chg N q i = true := by
     have : N.take i = N := List.take_of_length_le (by omega)
     have h2 : q.take i = q := List.take_of_length_le (by omega)
     simp [chg, this, h2, hNq]
    rw [hcf]
    repeat' (first
     | (simp only [c41, aa8, aa7, hd, SXR, simprocAttr]))
    have hlt2 := aq6 hql hqv (by rw [hN]; exact hNq)
    have hle := aq7 (r9 dl q)
    rw [hN] at hlt2 hle
    refine IQ N _ _ (by exact ⟨ks ++ [.c false (ncs N)], rfl, by rw [husN, List.append_assoc], by rw [List.all_append, hks]; simp only [List.all_cons, List.all_nil, t8, ncs_cl, Bool.and_self]⟩) ⟨hNl, ?_, ?_⟩ (by omega)
    ·rw [← hN]; exact ag9 hql
    ·rw [hqf, fin_next hql hqv (by rw [hN]; exact hNq), hN]
def tyF (s : Str) : List Decl → Option Int
 | [] => none
 | d :: l => if hit s d = true then some d.ty else tyF s l
def tyN (n : NNode) (s : Str) : Int := (tyF s (n.ins ++ (n.outs ++ n.locals))).getD 0
theorem at0 (d : Decl) : d.row.take 1 = [.s d.nm.1 d.nm.2] := rfl
theorem decl_row1 (d : Decl) : (d.row.drop 1).take 1 = [.i .i64 d.ty] := rfl
theorem bk0 (d : Decl) : d.row.take 3 = d.row := rfl
theorem putd3 {a b c : V} (x : Decl) : putAt [a, b, c] 0 x.row = x.row := rfl
theorem flat_at {α : Type} {Ls : List (List α)} {o : Nat} {L : List α} (h : Ls[o]? = some L) : (Ls.drop o).flatten = L ++ (Ls.drop (o + 1)).flatten := by rw [u9 h]; rfl
set_option maxHeartbeats 1000000 in
theorem typeof_pc (n : NNode) (s : Str) (hn : n.ok) : PC Tryz.prog 69 [.ag n.row, .s s.1 s.2] (.i .i64 (tyN n s)) := by
 obtain ⟨o1, o2, o3, _, _⟩ := hn
 have l1 := o1.1; have l2 := o2.1; have l3 := o3.1
 unfold Lst.ok at l1 l2 l3
 have hall : tyF s (n.ins ++ (n.outs ++ n.locals)) = tyF s (([n.ins, n.outs, n.locals].drop 0).flatten) := by simp
 have hlen : ∀ L, L ∈ [n.ins, n.outs, n.locals] → L.length < 30000000 := by
  intro L hL
  simp only [List.mem_cons, List.not_mem_nil, or_false] at hL
  rcases hL with rfl | rfl | rfl <;> assumption
 have haix : ∀ (o : Nat) (L : List Decl), [n.ins, n.outs, n.locals][o]? = some L → aixE 3 1 false (.ag [.ts (n.ins.map Decl.row), .ts (n.outs.map Decl.row), .ts (n.locals.map Decl.row)]) (.i .i64 (o : Int)) = some (.ts (L.map Decl.row)) := by
  intro o L h
  match o, h with
  | 0, h => cases h; rfl
  | 1, h => cases h; rfl
  | 2, h => cases h; rfl
 unfold tyN
 refine v6 Tryz.func69 k69 rfl ?_
 repeat' (first
  | (simp only [c69, NNode.row, SXR, simprocAttr]))
 refine o8 (X := Nat) (fun o ll hs => ∃ js : List O, Hd (fun j => [.ag n.row, .s s.1 s.2, .p 0 0, j 3, .i .i64 0, j 5, j 6, j 7, j 8, j 9, j 10, j 11, j 12, j 13, j 14, .ag [.ts (n.ins.map Decl.row), .ts (n.outs.map Decl.row), .ts (n.locals.map Decl.row)], .i .i64 (o : Int), j 17, j 18, j 19, j 20, j 21, j 22, j 23, j 24, j 25, j 26, j 27, j 28, j 29, j 30, j 31, j 32]) ll ∧ hs = .c false n.row :: js)
  (fun o => o ≤ 3 ∧ tyF s (n.ins ++ (n.outs ++ n.locals)) = tyF s (([n.ins, n.outs, n.locals].drop o).flatten)) (fun o => 3 - o) ?_ 0 _ _ (by exact ⟨[], rfl, rfl⟩) ⟨by omega, hall⟩
 rintro o _ _ ⟨js, e, rfl⟩ ⟨ho, hinv⟩ IH
 obtain ⟨j, rfl⟩ := e.open
 clear e
 by_cases hlt : o < 3
 ·obtain ⟨L, hL, hLm⟩ : ∃ L, [n.ins, n.outs, n.locals][o]? = some L ∧ L ∈ [n.ins, n.outs, n.locals] := ⟨[n.ins, n.outs, n.locals][o], by simp [hlt], List.getElem_mem _⟩
  have hx := haix o L hL
  have hLl := hlen L hLm
  have hd : decide ((o : Int) < 3) = true := by simp; omega
  have hw := l6 (n := o) (by omega)
  rw [flat_at hL] at hinv
  generalize hR : ([n.ins, n.outs, n.locals].drop (o + 1)).flatten = R at hinv
  repeat' (first
   | (simp only [c69, hd, hx, List.length_map, SXR, simprocAttr]))
  refine o8 (X := Nat) (fun k ll hs => ∃ js : List O, Hd (fun j => [.ag n.row, .s s.1 s.2, .p 0 0, j 3, .i .i64 0, j 5, j 6, j 7, j 8, j 9, j 10, j 11, j 12, j 13, j 14, .ag [.ts (n.ins.map Decl.row), .ts (n.outs.map Decl.row), .ts (n.locals.map Decl.row)], .i .i64 (o : Int), j 17, j 18, .ts (L.map Decl.row), .i .i64 (L.length : Int), .i .i64 (k : Int), j 22, j 23, j 24, j 25, j 26, j 27, j 28, j 29, j 30, j 31, j 32]) ll ∧ hs = .c false n.row :: js)
   (fun k => k ≤ L.length ∧ tyF s (n.ins ++ (n.outs ++ n.locals)) = tyF s (L.drop k ++ R)) (fun k => L.length - k) ?_ 0 _ _ (by exact ⟨js, rfl, rfl⟩) ⟨by omega, hinv⟩
  rintro k _ _ ⟨js, e, rfl⟩ ⟨hk, hinv⟩ IK
  obtain ⟨j, rfl⟩ := e.open
  clear e
  by_cases hkl : k < L.length
  ·clear IH
   obtain ⟨x, hx, hxm⟩ := ats hkl
   have hr := mg (f := Decl.row) hx
   have hdk := ltd hkl
   have hwk := l6 (n := k) (by omega)
   rw [u9 hx] at hinv
   simp only [List.cons_append, tyF] at hinv
   cases hh : hit s x with
   | true =>
     rw [if_pos hh] at hinv
     rw [hinv]
     unfold hit at hh
     repeat' (first
      | (simp only [c69, hdk, hr, o9, bk0, at0, decl_row1, putd3, hh, Option.getD_some, Nat.add_assoc, SXR, simprocAttr]))
   | false =>
     rw [if_neg (by simp [hh])] at hinv
     unfold hit at hh
     repeat' (first
      | (simp only [c69, hdk, hr, o9, bk0, at0, decl_row1, putd3, hh, hwk, Nat.add_assoc, SXR, simprocAttr]))
     exact IK (k + 1) _ _ (by exact ⟨_, rfl, rfl⟩) ⟨hkl, hinv⟩ (by omega)
  ·clear IK
   have hdk := ltn hkl
   rw [List.drop_eq_nil_of_le (by omega), List.nil_append] at hinv
   repeat' (first
    | (simp only [c69, hdk, hw, SXR, simprocAttr]))
   exact IH (o + 1) _ _ (by exact ⟨_, rfl, rfl⟩) ⟨by omega, by rw [hR]; exact hinv⟩ (by omega)
 ·have hd : decide ((o : Int) < 3) = false := by simp; omega
  have : o = 3 := by omega
  subst this
  clear IH
  rw [hinv]
  repeat' (first
   | (simp only [c69, hd, SXR, simprocAttr]))
  rfl
def isD (q : NEqn) : Bool := q.kind == 2 && q.left.length == 1
def hd1 (q : NEqn) : Str := (q.left[0]?).getD (0, 0)
def mkDl (n : NNode) (i : Nat) (q : NEqn) : Dl := ⟨q, i, tyN n (hd1 q), hd1 q⟩
def dlL (n : NNode) : Nat → List NEqn → List Dl
 | _, [] => []
 | i, q :: l => if isD q = true then mkDl n i q :: dlL n (i + 1) l else dlL n (i + 1) l
def p9 (n : NNode) : List Dl := dlL n 0 n.eqs
theorem dlL_app (n : NNode) : ∀ (a b : List NEqn) (i : Nat), dlL n i (a ++ b) = dlL n i a ++ dlL n (i + a.length) b
 | [], b, i => by simp [dlL]
 | q :: a, b, i => by
   simp only [List.cons_append, dlL, dlL_app n a b (i + 1), List.length_cons]
   rw [show i + 1 + a.length = i + (a.length + 1) by omega]
   split <;> simp
theorem ay9 {n : NNode} {l : List NEqn} {i : Nat} {q : NEqn} (h : l[i]? = some q) : dlL n 0 (l.take (i + 1)) = dlL n 0 (l.take i) ++ (if isD q = true then [mkDl n i q] else []) := by
 have hi := (List.getElem?_eq_some_iff.1 h).1
 rw [List.take_add_one, h, Option.toList_some, dlL_app]
 congr 1
 simp only [List.length_take, Nat.min_eq_left (Nat.le_of_lt hi), Nat.zero_add, dlL]
theorem be6 {n : NNode} : ∀ {l : List NEqn} {i : Nat} {d : Dl}, d ∈ dlL n i l → ∃ k, d.ix = i + k ∧ l[k]? = some d.q ∧ isD d.q = true ∧ d = mkDl n d.ix d.q
 | q :: l, i, d, h => by
   simp only [dlL] at h
   split at h
   ·rename_i hq
    rcases List.mem_cons.1 h with rfl | h
    ·exact ⟨0, rfl, rfl, hq, rfl⟩
    ·obtain ⟨k, h1, h2, h3, h4⟩ := be6 h
     exact ⟨k + 1, by omega, by simpa using h2, h3, h4⟩
   ·obtain ⟨k, h1, h2, h3, h4⟩ := be6 h
    exact ⟨k + 1, by omega, by simpa using h2, h3, h4⟩
theorem dlL_len {n : NNode} : ∀ (l : List NEqn) (i : Nat), (dlL n i l).length ≤ l.length
 | [], i => by simp [dlL]
 | q :: l, i => by simp only [dlL]; split <;> simp <;> have := dlL_len (n := n) l (i + 1) <;> omega
theorem ab8 {q : NEqn} (h : isD q = true) : q.left = [hd1 q] := by
 simp only [isD, Bool.and_eq_true, beq_iff_eq] at h
 obtain ⟨s, hs⟩ := List.length_eq_one_iff.1 h.2
 simp [hd1, hs]
def cnF : List NEqn → Nat → Nat
 | [], c => c
 | q :: l, c => if isD q = true then cnF l (c + 3) else cnF l (c + 1)
def lpF : List NEqn → Nat → Nat → Nat
 | [], _, p => p
 | q :: l, c, p => if isD q = true then lpF l (c + 3) (c + 2) else lpF l (c + 1) p
def shv (base : Nat) (n : NNode) : V := if p9 n = [] then .ns else .sl (base + 2 + lpF n.eqs 0 0) 0 3 (p9 n).length none
def zer (n : NNode) : List Nat := List.replicate (p9 n).length 0
def shT (n : NNode) : List O := if p9 n = [] then List.replicate (cnF n.eqs 0) .gone else (List.replicate (cnF n.eqs 0) .gone).set (lpF n.eqs 0 0) (.c true (dcs (p9 n) (zer n)))
def shH (js : List O) (n : NNode) : List O := js ++ .c false n.row :: .c false [.s n.nm.1 n.nm.2, .ts (n.ins.map Decl.row), .ts (n.outs.map Decl.row), .ts (n.locals.map Decl.row), .ts (n.eqs.map NEqn.row), shv js.length n] :: shT n
theorem cnF_app : ∀ (a : List NEqn) (q : NEqn) (c : Nat), cnF (a ++ [q]) c = cnF a c + (if isD q = true then 3 else 1)
 | [], q, c => by simp only [List.nil_append, cnF]; split <;> rfl
 | x :: a, q, c => by simp only [List.cons_append, cnF]; split <;> exact cnF_app a q _
theorem lpF_app : ∀ (a : List NEqn) (q : NEqn) (c p : Nat), lpF (a ++ [q]) c p = if isD q = true then cnF a c + 2 else lpF a c p
 | [], q, c, p => by simp only [List.nil_append, lpF, cnF]
 | x :: a, q, c, p => by
   simp only [List.cons_append, lpF, cnF]
   split <;> exact lpF_app a q _ _
theorem cnF_take {l : List NEqn} {i : Nat} {q : NEqn} (h : l[i]? = some q) : cnF (l.take (i + 1)) 0 = cnF (l.take i) 0 + (if isD q = true then 3 else 1) := by
 rw [List.take_add_one, h, Option.toList_some, cnF_app]
theorem lpF_take {l : List NEqn} {i : Nat} {q : NEqn} (h : l[i]? = some q) : lpF (l.take (i + 1)) 0 0 = if isD q = true then cnF (l.take i) 0 + 2 else lpF (l.take i) 0 0 := by
 rw [List.take_add_one, h, Option.toList_some, lpF_app]
theorem bj7 : ∀ {dl : List Dl} {p : List Nat} {x : Dl} {m : Nat}, p.length = dl.length → bg9 (dl ++ [x]) (p ++ [m]) = bg9 dl p ++ [be5 x m]
 | [], [], x, m, _ => rfl
 | y :: dl, k :: p, x, m, h => by
   simp only [bg9, List.cons_append, List.zipWith_cons_cons]
   exact congrArg _ (bj7 (dl := dl) (p := p) (by simpa using h))
theorem dcs_snoc {dl : List Dl} {p : List Nat} {x : Dl} {m : Nat} (h : p.length = dl.length) : dcs dl p ++ be5 x m = dcs (dl ++ [x]) (p ++ [m]) := by
 simp only [dcs, bj7 h, List.flatten_append, List.flatten_singleton]
theorem hpL_ge {l : List O} {a : Nat} (h : l.length ≤ a) : hpL l a = .no := by
 simp only [hpL, List.getD_eq_getElem?_getD, List.getElem?_eq_none h]; rfl
theorem ay1 {l m : List O} {a : Nat} (h : a < l.length) : hpL (l ++ m) a = hpL l a := by
 simp only [hpL, List.getD_eq_getElem?_getD, List.getElem?_append_left h]
theorem forget_tail {P W S : List O} (hl : W.length = S.length) (h : ∀ i, i < S.length → hpL S i = .gone ∨ hpL S i = hpL W i) : at5 (P ++ W) (P ++ S) := by
 refine ⟨by simp [hl], fun a => ?_⟩
 rcases Nat.lt_or_ge a P.length with q | q
 ·exact .inr (by rw [ay1 q, ay1 q])
 ·obtain ⟨i, rfl⟩ : ∃ i, a = P.length + i := ⟨a - P.length, by omega⟩
  rw [bj1, bj1]
  rcases Nat.lt_or_ge i S.length with q2 | q2
  ·exact h i q2
  ·exact .inr (by rw [hpL_ge q2, hpL_ge (by omega)])
theorem gone_at {c i : Nat} (h : i < c) : hpL (List.replicate c O.gone) i = .gone := by
 simp only [hpL, List.getD_eq_getElem?_getD, List.getElem?_replicate, if_pos h]; rfl
set_option maxRecDepth 10000 in
set_option maxHeartbeats 1000000 in
theorem newsh_ac (js : List O) (n : NNode) (hok : n.ok) : ACalls Tryz.prog 40 [.ag n.row] (hpL js) js.length (.p (js.length + 1) 0) (hpL (shH js n)) (shH js n).length := by
 obtain ⟨_, _, _, o4, o5⟩ := id hok
 have hne := o4
 unfold Lst.ok at hne
 refine ac_forget Tryz.func40 k40 rfl ?_
 repeat' (first
  | ((with_reducible refine j3 ?rdq ?_); (case rdq => refine j2 rfl ?_ ?_ <;> simp only [Option.isSome_some, qf_n, qf_r, NNode.row, List.length_map, SXR, simprocAttr]))
  | (simp only [c40, qf_n, qf_r, NNode.row, List.length_map, SXR, simprocAttr]))
 refine o8 (X := Nat) (fun i ll hs => ∃ (v : V) (T0 T J : List O), Hd (fun j => [.ag n.row, .p js.length 0, .np, .p (js.length + 1) 0, j 4, j 5, j 6, j 7, j 8, j 9, .ts (n.eqs.map NEqn.row), .i .i64 (n.eqs.length : Int), .i .i64 (i : Int), j 13, j 14, j 15, j 16, j 17, j 18, j 19, j 20, j 21, j 22, j 23, j 24, j 25, j 26, j 27, j 28, j 29, j 30, j 31, j 32, j 33, j 34, j 35, j 36, j 37, j 38, j 39, j 40, j 41, j 42, j 43, j 44]) ll ∧ hs = js ++ .c false n.row :: .c false [.s n.nm.1 n.nm.2, .ts (n.ins.map Decl.row), .ts (n.outs.map Decl.row), .ts (n.locals.map Decl.row), .ts (n.eqs.map NEqn.row), v] :: (T ++ J) ∧
   GT (js.length + 2) 3 (dlL n 0 (n.eqs.take i)).length v T0 T (dcs (dlL n 0 (n.eqs.take i)) (List.replicate (dlL n 0 (n.eqs.take i)).length 0)) ∧ T.length + J.length = cnF (n.eqs.take i) 0 ∧ (0 < (dlL n 0 (n.eqs.take i)).length → T0.length = lpF (n.eqs.take i) 0 0))
  (fun i => i ≤ n.eqs.length) (fun i => n.eqs.length - i) ?_ 0 _ _ (by exact ⟨.ns, [], [], [], rfl, rfl, .inl ⟨rfl, rfl, rfl, rfl⟩, rfl, fun h => absurd h (by simp [dlL])⟩) (Nat.zero_le _)
 rintro i _ _ ⟨v, T0, T, J, e, rfl, hGT, hTl, hT0⟩ hi IH
 obtain ⟨j, rfl⟩ := e.open
 clear e
 by_cases hlt : i < n.eqs.length
 ·obtain ⟨q, hq, hqm⟩ := ats hlt
  have hqr := mg (f := NEqn.row) hq
  have hd := ltd hlt
  have hw := l6 (n := i) (by omega)
  have hcn := cnF_take hq
  have hlp := lpF_take hq
  have hdl := ay9 (n := n) hq
  obtain ⟨W, hW⟩ : ∃ W, W = T ++ J := ⟨_, rfl⟩
  rw [← hW]
  have next : isD q = false → ∃ (v' : V) (T0' T' J' : List O), W ++ [.c false q.row] = T' ++ J' ∧ v' = v ∧ GT (js.length + 2) 3 (dlL n 0 (n.eqs.take (i + 1))).length v' T0' T' (dcs (dlL n 0 (n.eqs.take (i + 1))) (List.replicate (dlL n 0 (n.eqs.take (i + 1))).length 0)) ∧ T'.length + J'.length = cnF (n.eqs.take (i + 1)) 0 ∧ (0 < (dlL n 0 (n.eqs.take (i + 1))).length → T0'.length = lpF (n.eqs.take (i + 1)) 0 0) := by
   intro hD
   rw [hD] at hcn hlp hdl
   simp only [Bool.false_eq_true, if_false, List.append_nil] at hcn hlp hdl
   rw [hdl, hcn, hlp]
   exact ⟨v, T0, T, J ++ [.c false q.row], by rw [hW, List.append_assoc], rfl, hGT, by simp; omega, hT0⟩
  have hkd : isD q = (q.kind == 2 && q.left.length == 1) := rfl
  cases hk : (q.kind == 2) with
  | false =>
    rw [hk, Bool.false_and] at hkd
    obtain ⟨v', T0', T', J', e1, rfl, e2, e3, e4⟩ := next hkd
    repeat' (first
     | ((with_reducible refine j3 ?rdq ?_); (case rdq => refine j2 rfl ?_ ?_ <;> simp only [Option.isSome_some, qf_n, qf_r, List.length_map, hd, hw, hqr, hk, f0, i5, p7, p5, Nat.add_assoc, SXR, simprocAttr]))
     | (simp only [c40, qf_n, qf_r, List.length_map, hd, hw, hqr, hk, f0, i5, p7, p5, Nat.add_assoc, SXR, simprocAttr]))
    exact IH (i + 1) _ _ (by exact ⟨_, T0', T', J', rfl, by rw [e1], e2, e3, e4⟩) hlt (by omega)
  | true =>
    rw [hk, Bool.true_and] at hkd
    cases hl : (q.left.length == 1) with
    | false =>
      rw [hl] at hkd
      obtain ⟨v', T0', T', J', e1, rfl, e2, e3, e4⟩ := next hkd
      have hli : ((q.left.length : Int) == 1) = false := by simp only [beq_eq_false_iff_ne, ne_eq] at hl ⊢; omega
      repeat' (first
       | ((with_reducible refine j3 ?rdq ?_); (case rdq => refine j2 rfl ?_ ?_ <;> simp only [Option.isSome_some, qf_n, qf_r, List.length_map, hd, hw, hqr, hk, hli, f0, i5, p7, j0, p5, Nat.add_assoc, SXR, simprocAttr]))
       | (simp only [c40, qf_n, qf_r, List.length_map, hd, hw, hqr, hk, hli, f0, i5, p7, j0, p5, Nat.add_assoc, SXR, simprocAttr]))
      exact IH (i + 1) _ _ (by exact ⟨_, T0', T', J', rfl, by rw [e1], e2, e3, e4⟩) hlt (by omega)
    | true =>
      rw [hl] at hkd
      have hli : ((q.left.length : Int) == 1) = true := by simp only [beq_iff_eq] at hl ⊢; omega
      have hleft : q.left.map af8 = [[.s (hd1 q).1 (hd1 q).2]] := by rw [ab8 hkd]; rfl
      have h11 : (((1 : Nat) : Int) == 1) = true := rfl
      have hty := typeof_pc n (hd1 q) hok
      simp only [NNode.row] at hty
      rw [hkd] at hcn hlp hdl
      simp only [if_true] at hcn hlp hdl
      have hroom := p6 (n := (dlL n 0 (n.eqs.take i)).length + 1) (b := 24) (by have := dlL_len (n := n) (n.eqs.take i) 0; simp at this; omega) (by omega)
      obtain ⟨T1, ⟨t, hT1⟩, hT1l, hap, hgt⟩ := hGT.app (by omega) (show ([.i .i64 (i : Int), .i .i64 (tyN n (hd1 q)), .i .i64 0] : List V).length = 3 from rfl) hroom
      have hap' : ∀ (z b : O) (rb k' : Nat), rb + k' = js.length + (W.length + 4) → ah6 rb (js ++ .c false [.s n.nm.1 n.nm.2, .ts (n.ins.map Decl.row), .ts (n.outs.map Decl.row), .ts (n.locals.map Decl.row), .ts (n.eqs.map NEqn.row)] :: .c false [.s n.nm.1 n.nm.2, .ts (n.ins.map Decl.row), .ts (n.outs.map Decl.row), .ts (n.locals.map Decl.row), .ts (n.eqs.map NEqn.row), v] :: (W ++ [z, b, .no])) k' v (some [.i .i64 (i : Int), .i .i64 (tyN n (hd1 q)), .i .i64 0]) (some 1) 3 24
        = some (.sl (js.length + (W.length + 4)) 0 3 ((dlL n 0 (n.eqs.take i)).length + 1) none, js ++ .c false [.s n.nm.1 n.nm.2, .ts (n.ins.map Decl.row), .ts (n.outs.map Decl.row), .ts (n.locals.map Decl.row), .ts (n.eqs.map NEqn.row)] :: .c false [.s n.nm.1 n.nm.2, .ts (n.ins.map Decl.row), .ts (n.outs.map Decl.row), .ts (n.locals.map Decl.row), .ts (n.eqs.map NEqn.row), v] :: (T1 ++ J ++ [z, b, .c true (dcs (dlL n 0 (n.eqs.take (i + 1))) (List.replicate ((dlL n 0 (n.eqs.take i)).length + 1) 0))])) := by
       intro z b rb k' h
       have := hap (js ++ [.c false [.s n.nm.1 n.nm.2, .ts (n.ins.map Decl.row), .ts (n.outs.map Decl.row), .ts (n.locals.map Decl.row), .ts (n.eqs.map NEqn.row)], .c false [.s n.nm.1 n.nm.2, .ts (n.ins.map Decl.row), .ts (n.outs.map Decl.row), .ts (n.locals.map Decl.row), .ts (n.eqs.map NEqn.row), v]]) (J ++ [z, b]) rb k' (by simp) (by rw [h, hW]; simp; omega)
       rw [show js.length + 2 + (T.length + (J ++ [z, b]).length) = js.length + (W.length + 4) by rw [hW]; simp; omega] at this
       have hdc := dcs_snoc (dl := dlL n 0 (n.eqs.take i)) (p := List.replicate (dlL n 0 (n.eqs.take i)).length 0) (x := mkDl n i q) (m := 0) (by simp)
       rw [← hdl, ← List.replicate_succ'] at hdc
       rw [show ([.i .i64 (i : Int), .i .i64 (tyN n (hd1 q)), .i .i64 0] : List V) = be5 (mkDl n i q) 0 from rfl, hdc] at this
       rw [show ([.i .i64 (i : Int), .i .i64 (tyN n (hd1 q)), .i .i64 0] : List V) = be5 (mkDl n i q) 0 from rfl]
       rw [hW] at this ⊢
       simp only [List.append_assoc, List.cons_append, List.nil_append] at this ⊢
       exact this
      repeat' (first
       | ((with_reducible refine j3 ?rdq ?_); (case rdq => refine j2 rfl ?_ ?_ <;> simp only [Option.isSome_some, qf_n, qf_r, List.length_map, NNode.row, hd, hw, hqr, hk, hli, h11, hleft, hap', i8, ad8, f0, i5, p7, j0, p5, Nat.add_assoc, SXR, simprocAttr]))
       | (with_reducible refine b8 (hty) (by simp only [SXR, i8, ad8]) (by simp only [SXR, i8, ad8]) ?_)
       | (simp only [c40, qf_n, qf_r, List.length_map, NNode.row, hd, hw, hqr, hk, hli, h11, hleft, hap', i8, ad8, f0, i5, p7, j0, p5, Nat.add_assoc, SXR, simprocAttr]))
      refine IH (i + 1) _ _ ?_ hlt (by omega)
      refine ⟨.sl (js.length + (W.length + 4)) 0 3 ((dlL n 0 (n.eqs.take i)).length + 1) none, T1 ++ (J ++ [.c false q.row, .c false [.i .i64 (i : Int), .i .i64 (tyN n (hd1 q)), .i .i64 0]]), T1 ++ (J ++ [.c false q.row, .c false [.i .i64 (i : Int), .i .i64 (tyN n (hd1 q)), .i .i64 0], .c true (dcs (dlL n 0 (n.eqs.take (i + 1))) (List.replicate ((dlL n 0 (n.eqs.take i)).length + 1) 0))]), [], by exact rfl, by simp [NNode.row, List.replicate_succ], ?_, ?_, ?_⟩
      ·have hg := hgt (J ++ [.c false q.row, .c false [.i .i64 (i : Int), .i .i64 (tyN n (hd1 q)), .i .i64 0]])
       have hdc := dcs_snoc (dl := dlL n 0 (n.eqs.take i)) (p := List.replicate (dlL n 0 (n.eqs.take i)).length 0) (x := mkDl n i q) (m := 0) (by simp)
       rw [← hdl, ← List.replicate_succ'] at hdc
       rw [show ([.i .i64 (i : Int), .i .i64 (tyN n (hd1 q)), .i .i64 0] : List V) = be5 (mkDl n i q) 0 from rfl] at hg ⊢
       rw [hdc, show js.length + 2 + (T.length + (J ++ [O.c false q.row, O.c false (be5 (mkDl n i q) 0)]).length) = js.length + (W.length + 4) by rw [hW]; simp; omega] at hg
       have hln : (dlL n 0 (n.eqs.take (i + 1))).length = (dlL n 0 (n.eqs.take i)).length + 1 := by rw [hdl]; simp
       rw [hln]
       simp only [List.append_assoc, List.cons_append, List.nil_append] at hg ⊢
       exact hg
      ·rw [hcn]; simp; omega
      ·intro _
       rw [hlp]; simp; omega
 ·clear IH
  have hd := ltn hlt
  have hie : i = n.eqs.length := by omega
  subst hie
  rw [List.take_length] at hGT hTl hT0
  obtain ⟨W, hW⟩ : ∃ W, W = T ++ J := ⟨_, rfl⟩
  rw [← hW]
  repeat' (first
   | ((with_reducible refine j3 ?rdq ?_); (case rdq => refine j2 rfl ?_ ?_ <;> simp only [Option.isSome_some, qf_n, qf_r, List.length_map, NNode.row, hd, SXR, simprocAttr]))
   | (simp only [c40, qf_n, qf_r, List.length_map, NNode.row, hd, SXR, simprocAttr]))
  have hWl : W.length = (shT n).length := by
   rw [hW, List.length_append, hTl]
   unfold shT
   split <;> simp
  have hv : v = shv js.length n := by
   unfold shv p9
   rcases hGT with ⟨h0, rfl, _, _⟩ | ⟨h0, _, rfl, _⟩
   ·rw [if_pos (List.length_eq_zero_iff.1 h0)]
   ·rw [if_neg (by intro h; rw [h] at h0; simp at h0), hT0 h0]
  have := forget_tail (P := js ++ [.c false [.s n.nm.1 n.nm.2, .ts (n.ins.map Decl.row), .ts (n.outs.map Decl.row), .ts (n.locals.map Decl.row), .ts (n.eqs.map NEqn.row)], .c false [.s n.nm.1 n.nm.2, .ts (n.ins.map Decl.row), .ts (n.outs.map Decl.row), .ts (n.locals.map Decl.row), .ts (n.eqs.map NEqn.row), v]]) (W := W) (S := shT n) hWl (fun a ha => by
   unfold shT p9 zer at ha ⊢
   rcases hGT with ⟨h0, _, _, _⟩ | ⟨h0, hT, _, _⟩
   ·rw [if_pos (List.length_eq_zero_iff.1 h0)] at ha ⊢
    exact .inl (gone_at (by simpa using ha))
   ·have hne : ¬ dlL n 0 n.eqs = [] := by intro h; rw [h] at h0; simp at h0
    rw [if_neg hne] at ha ⊢
    rw [List.length_set, List.length_replicate] at ha
    by_cases hal : a = lpF n.eqs 0 0
    ·refine .inr ?_
     rw [hal, av1 (by rw [List.length_replicate, ← hal]; exact ha), hW, hT, ← hT0 h0, List.append_assoc, List.singleton_append]
     exact hp_ap0.symm
    ·rw [bj2 hal]
     exact .inl (gone_at ha))
  rw [hv] at this ⊢
  unfold shH
  simpa [NNode.row] using this
theorem lpF_lt : ∀ (l : List NEqn) (c p : Nat), (p < c ∨ ∃ q, q ∈ l ∧ isD q = true) → lpF l c p < cnF l c
 | [], c, p, h => by
   rcases h with h | ⟨q, hq, _⟩
   ·exact h
   ·cases hq
 | x :: l, c, p, h => by
   simp only [lpF, cnF]
   split
   ·exact lpF_lt l _ _ (.inl (by omega))
   ·rename_i hx
    refine lpF_lt l _ _ ?_
    rcases h with h | ⟨q, hq, hd⟩
    ·exact .inl (by omega)
    ·rcases List.mem_cons.1 hq with rfl | hq
     ·exact (hx hd).elim
     ·exact .inr ⟨q, hq, hd⟩
theorem dlOf_lt {n : NNode} (h : p9 n ≠ []) : lpF n.eqs 0 0 < cnF n.eqs 0 := by
 refine lpF_lt _ _ _ (.inr ?_)
 obtain ⟨d, hd⟩ := List.exists_mem_of_ne_nil _ h
 obtain ⟨k, _, h2, h3, _⟩ := be6 hd
 exact ⟨d.q, List.mem_of_getElem? h2, h3⟩
theorem ltO_gone {n c : Nat} : ltO n (List.replicate c .gone) = true := by
 induction c with
 | zero => rfl
 | succ c ih => simp only [List.replicate_succ, ltO, O.lt, ih, Bool.and_self]
theorem aa5 {n : Nat} : ∀ {a b : List O}, ltO n a = true → ltO n b = true → ltO n (a ++ b) = true
 | [], b, _, h => h
 | o :: a, b, h, h' => by simp only [ltO, Bool.and_eq_true] at h; simp only [List.cons_append, ltO, h.1, aa5 h.2 h', Bool.and_self]
theorem af4 {n : Nat} {a : List O} (h : a.all ocl = true) : ltO n a = true := by simpa using ah1 (n := n) (m := n) (Nat.le_refl _) (js := []) (zs := a) rfl h
theorem ap0 (n : NNode) : (zer n).length = (p9 n).length := by simp [zer]
theorem at7 (n : NNode) : vld (zer n) := by
 intro i m h
 have := List.mem_of_getElem? h
 simp only [zer, List.mem_replicate] at this
 omega
theorem shH_len (js : List O) (n : NNode) : (shH js n).length = js.length + (cnF n.eqs 0 + 2) := by
 simp only [shH, shT, List.length_append, List.length_cons]
 split <;> simp
theorem shH_SH {js : List O} {n : NNode} (hjs : js.all ocl = true) (hok : n.ok) (h : p9 n ≠ []) : SH (shH js n) (js.length + 1) (js.length + 2 + lpF n.eqs 0 0) n (p9 n) (zer n) := by
 have hlp := dlOf_lt h
 refine ⟨?_, ?_, ap0 n, fun d hd => ?_, ?_, ?_⟩
 ·unfold shH shv
  rw [if_neg h, bj1]
  rfl
 ·unfold shH shT
  rw [if_neg h, show js.length + 2 + lpF n.eqs 0 0 = js.length + (lpF n.eqs 0 0 + 1 + 1) by omega, bj1, hp_s, hp_s]
  exact av1 (by simpa using hlp)
 ·obtain ⟨k, h1, h2, h3, h4⟩ := be6 hd
  have e : d.ix = k := by omega
  refine ⟨by rw [e]; exact h2, ?_, hok.2.2.2.2 _ (List.mem_of_getElem? h2)⟩
  have := ab8 h3
  rw [this, h4]; rfl
 ·have := dlL_len (n := n) n.eqs 0
  have := hok.2.2.2.1
  unfold Lst.ok at this
  unfold p9; omega
 ·have hl := shH_len js n
  refine aa5 (af4 hjs) ?_
  simp only [ltO, Bool.and_eq_true]
  refine ⟨am5 (by simp only [ocl, b9]), ?_, ?_⟩
  ·unfold shv
   rw [if_neg h]
   simp only [O.lt, ltL, V.lt, r8 _ _ (i8 _), r8 _ _ (ad8 _), Bool.true_and, Bool.and_true, decide_eq_true_eq, hl]
   omega
  ·unfold shT
   rw [if_neg h]
   exact ltO_set (by simp only [O.lt]; exact t9 _ _ (dcs_cl _ _)) ltO_gone
theorem srefine0_ac {hs : List O} {A : Nat} {n : NNode} (hA : hpL hs A = .c false [.s n.nm.1 n.nm.2, .ts (n.ins.map Decl.row), .ts (n.outs.map Decl.row), .ts (n.locals.map Decl.row), .ts (n.eqs.map NEqn.row), .ns]) (hlt : ltO hs.length hs = true) :
  ACalls Tryz.prog 41 [.p A 0] (hpL hs) hs.length (.tu []) (hpL hs) hs.length := by
 have hA' : ∀ zs, hpL (hs ++ zs) A = .c false [.s n.nm.1 n.nm.2, .ts (n.ins.map Decl.row), .ts (n.outs.map Decl.row), .ts (n.locals.map Decl.row), .ts (n.eqs.map NEqn.row), .ns] := fun zs => ac7 hA
 have hmk : ∀ hs a, mksB hs a 1 8 [.i .i64 0] (.i .i64 0) (.i .i64 0) = (ac5 hs a (.c false [])).map fun h => (0, h) := by
  intro hs a
  have := mks_n (hs := hs) (a := a) (m := 0) (wd := 1) (bytes := 8) (kk := .i64) (kk' := .i64) (zero := [.i .i64 0]) (by decide)
  exact this
 refine p8 Tryz.func41 k41 rfl rfl (by simp only [V.lt, ltL]) hlt ?_
 repeat' (first
  | (with_reducible refine al2 ?_)
  | (simp only [c41, aa8, aa7, ar_0, hA', hA, hmk, ah2, Int.natCast_zero, decide_false, decide_true, Int.lt_irrefl, SXR, simprocAttr]))
 exact ⟨_, rfl⟩
def ab7 (g : List Nat) : List (List V) := g.map fun (m : Nat) => [.i .i64 (m : Int)]
theorem intRows_flat (g : List Nat) : (ab7 g).flatten = ncs g := by
 induction g with
 | nil => rfl
 | cons m g ih => simp only [ab7, List.map_cons, List.flatten_cons] at ih ⊢; rw [ih]; rfl
theorem intRows_w {g : List Nat} : ∀ r, r ∈ ab7 g → r.length = 1 := by
 intro r hr
 obtain ⟨m, _, rfl⟩ := List.mem_map.1 hr
 rfl
def irow (g : List Nat) : List V := [.ts (ab7 g)]
def bf7 (dl : List Dl) (p : List Nat) (i : Nat) : Nat → List Nat
 | 0 => []
 | k + 1 => bf7 dl p i k ++ (match dl[k]?, p[k]? with | some x, some m => if m = i then [x.ix] else [] | _, _ => [])
def grp (dl : List Dl) (p : List Nat) (i : Nat) : List Nat := bf7 dl p i dl.length
def ai8 (dl : List Dl) (p : List Nat) : Nat → List (List Nat)
 | 0 => []
 | i + 1 => ai8 dl p i ++ (if grp dl p i = [] then [] else [grp dl p i])
def z9 (n : NNode) : List (List Nat) := ai8 (p9 n) (fin (p9 n) (zer n)) (p9 n).length
theorem bd6 {dl : List Dl} {p : List Nat} {i k m : Nat} {x : Dl} (hx : dl[k]? = some x) (hm : p[k]? = some m) : bf7 dl p i (k + 1) = bf7 dl p i k ++ (if m = i then [x.ix] else []) := by
 simp only [bf7, hx, hm]
theorem ncs_snoc (l : List Nat) (m : Nat) : ncs l ++ [.i .i64 (m : Int)] = ncs (l ++ [m]) := by simp [ncs]
theorem drow_0 (d : Dl) (m : Nat) : (be5 d m).take 1 = [.i .i64 (d.ix : Int)] := rfl
theorem drow_t3 (d : Dl) (m : Nat) : (be5 d m).take 3 = be5 d m := rfl
theorem grpN_len {dl : List Dl} {p : List Nat} {i : Nat} : ∀ k, (bf7 dl p i k).length ≤ k
 | 0 => Nat.le_refl _
 | k + 1 => by
   simp only [bf7, List.length_append]
   have := grpN_len (dl := dl) (p := p) (i := i) k
   split
   ·split <;> simp <;> omega
   ·simp; omega
theorem outsN_len {dl : List Dl} {p : List Nat} : ∀ i, (ai8 dl p i).length ≤ i
 | 0 => Nat.le_refl _
 | i + 1 => by
   simp only [ai8, List.length_append]
   have := outsN_len (dl := dl) (p := p) i
   split <;> simp <;> omega
theorem hp_mid {us W I0 K : List O} {o : O} : hpL (us ++ (W ++ ((I0 ++ [o]) ++ K))) (us.length + W.length + I0.length) = o := by
 have : us ++ (W ++ ((I0 ++ [o]) ++ K)) = (us ++ W ++ I0) ++ o :: K := by simp
 rw [this, show us.length + W.length + I0.length = (us ++ W ++ I0).length by simp; omega]
 exact hp_ap0
set_option maxRecDepth 10000 in
set_option maxHeartbeats 2000000 in
theorem sparts_pc (n : NNode) (hok : n.ok) : PC Tryz.prog 16 [.ag n.row] (.ts ((z9 n).map irow)) := by
 have hns := newsh_ac [.c false n.row] n hok
 by_cases hde : p9 n = []
 ·have hsh : shH [.c false n.row] n = .c false n.row :: .c false n.row :: .c false [.s n.nm.1 n.nm.2, .ts (n.ins.map Decl.row), .ts (n.outs.map Decl.row), .ts (n.locals.map Decl.row), .ts (n.eqs.map NEqn.row), .ns] :: List.replicate (cnF n.eqs 0) .gone := by
   simp only [shH, shv, shT, if_pos hde, List.cons_append, List.nil_append]
  have hpo : z9 n = [] := by simp only [z9, hde, List.length_nil, ai8]
  rw [hsh] at hns
  have hrf := srefine0_ac (hs := .c false n.row :: .c false n.row :: .c false [.s n.nm.1 n.nm.2, .ts (n.ins.map Decl.row), .ts (n.outs.map Decl.row), .ts (n.locals.map Decl.row), .ts (n.eqs.map NEqn.row), .ns] :: List.replicate (cnF n.eqs 0) .gone) (A := 2) (n := n) rfl (by
   simp only [ltO, t9 _ _ (b9 n), Bool.true_and, O.lt, ltL, V.lt, r8 _ _ (i8 _), r8 _ _ (ad8 _), ltO_gone, Bool.and_self])
  rw [hpo]
  refine ac1 Tryz.func16 k16 rfl ?_
  repeat' (first
   | (with_reducible refine al2 ?_)
   | (with_reducible refine i7 (hns) ?_)
   | (with_reducible refine i7 (hrf) ?_)
   | (simp only [c16, u5, u4, e8, j7, Int.natCast_zero, decide_false, decide_true, Int.lt_irrefl, SXR, simprocAttr]))
  exact .nil
 ·have hSH := shH_SH (js := [.c false n.row]) (n := n) (by simp only [List.all_cons, List.all_nil, ocl, b9, Bool.and_self]) hok hde
  have hab : ([O.c false n.row].length + 1) ≠ ([O.c false n.row].length + 2 + lpF n.eqs 0 0) := by omega
  have hrf := srefine_ac hSH hab (at7 n)
  have hfin := bd9 (ap0 n) (at7 n)
  have hu := hSH.put hab hfin.2.1
  unfold z9
  generalize hp : fin (p9 n) (zer n) = p at hrf hu hfin
  generalize hus : (shH [.c false n.row] n).set ([O.c false n.row].length + 2 + lpF n.eqs 0 0) (.c true (dcs (p9 n) p)) = us at hrf hu
  generalize hB : ([O.c false n.row].length + 2 + lpF n.eqs 0 0) = B at hu
  generalize p9 n = dl at hu hfin
  simp only [List.length_singleton] at hns hrf hu
  generalize shH [.c false n.row] n = s0 at hns hrf
  clear hus hSH hde hab hp
  have hA := hu.A'
  have hA0 := hu.hA
  have hB' := hu.B'
  have hdn := hu.dn
  have hpl := hu.len
  refine ac1 Tryz.func16 k16 rfl ?_
  repeat' (first
   | (with_reducible refine i7 (hns) ?_)
   | (with_reducible refine i7 (hrf) ?_)
   | (simp only [c16, u5, u4, e8, j7, hA0, ah2, SXR, simprocAttr]))
  refine o8 (X := Nat) (fun i ll hs => ∃ (v : V) (T0 T J : List O) (rs : List (List V)), Hd (fun j => [j 0, j 1, j 2, .p 2 0, v, j 5, j 6, j 7, j 8, j 9, j 10, j 11, j 12, j 13, j 14, j 15, j 16, .i .i64 (dl.length : Int), .i .i64 (i : Int), j 19, j 20, j 21, j 22, j 23, j 24, j 25, j 26, j 27, j 28, j 29, j 30, j 31, j 32, j 33, j 34, j 35, j 36, j 37, j 38, j 39, j 40, j 41, j 42, j 43, j 44, j 45, j 46, j 47, j 48, j 49, j 50, j 51, j 52, j 53, j 54, j 55]) ll ∧ hs = us ++ (T ++ J) ∧
    GT us.length 1 (ai8 dl p i).length v T0 T rs.flatten ∧ rs.length = (ai8 dl p i).length ∧ (∀ r, r ∈ rs → r.length = 1) ∧ Sll (hpL (us ++ T0)) (fun _ => True) rs ((ai8 dl p i).map irow))
   (fun i => i ≤ dl.length) (fun i => dl.length - i) ?_ 0 _ _ (by exact ⟨.ns, [], [], [], [], rfl, by simp, .inl ⟨rfl, rfl, rfl, rfl⟩, rfl, by simp, trivial⟩) (Nat.zero_le _)
  rintro i _ _ ⟨v, T0, T, J, rs, e, rfl, hGT, hrl, hrw, hse⟩ hi IH
  obtain ⟨j, rfl⟩ := e.open
  clear e
  by_cases hlt : i < dl.length
  ·have hd := ltd hlt
   have hw := l6 (n := i) (by omega)
   obtain ⟨W, hW⟩ : ∃ W, W = T ++ J := ⟨_, rfl⟩
   rw [← hW]
   repeat' (first
    | (simp only [c16, u5, u4, hd, hA, ah2, SXR, simprocAttr]))
   refine o8 (X := Nat) (fun k ll hs => ∃ (v' : V) (I0 I K : List O), Hd (fun j => [j 0, j 1, j 2, .p 2 0, v, .i .i64 (i : Int), v', j 7, j 8, j 9, j 10, j 11, j 12, j 13, j 14, j 15, j 16, .i .i64 (dl.length : Int), .i .i64 (i : Int), j 19, j 20, j 21, j 22, j 23, .sl B 0 3 dl.length none, .i .i64 (dl.length : Int), .i .i64 (k : Int), j 27, j 28, j 29, j 30, j 31, j 32, j 33, j 34, j 35, j 36, j 37, j 38, j 39, j 40, j 41, j 42, j 43, j 44, j 45, j 46, j 47, j 48, j 49, j 50, j 51, j 52, j 53, j 54, j 55]) ll ∧ hs = us ++ (W ++ (I ++ K)) ∧
     GT (us.length + W.length) 1 (bf7 dl p i k).length v' I0 I (ncs (bf7 dl p i k)))
    (fun k => k ≤ dl.length) (fun k => dl.length - k) ?_ 0 _ _ (by exact ⟨.ns, [], [], [], rfl, by simp, .inl ⟨rfl, rfl, rfl, rfl⟩⟩) (Nat.zero_le _)
   rintro k _ _ ⟨v', I0, I, K, e, rfl, hIT⟩ hk IK
   obtain ⟨j, rfl⟩ := e.open
   clear e
   obtain ⟨Z, hZ⟩ : ∃ Z, Z = W ++ (I ++ K) := ⟨_, rfl⟩
   rw [← hZ]
   by_cases hkl : k < dl.length
   ·clear IH
    obtain ⟨x, m, hx, hm, hxm⟩ := ats2 hu hkl
    have hdk := ltd hkl
    have hwk := l6 (n := k) (by omega)
    have hka : ∀ a w wd c, iadE wd (.sl a 0 w dl.length c) (.i .i64 (k : Int)) = some (.p a (k * wd)) := fun a w wd c => al4 hkl
    have hrow := hu.row hx hm
    have hc0 : ldE.ldO 1 false (k * 3) (.c true (dcs dl p)) = some (.i .i64 (x.ix : Int)) := hu.cell hx hm (c := 0) rfl
    have hgs := bd6 (i := i) hx hm
    by_cases hmi : m = i
    ·have hmb : ((m : Int) == (i : Int)) = true := by rw [hmi]; simp
     rw [if_pos hmi] at hgs
     have hroom := p6 (n := (bf7 dl p i k).length + 1) (b := 8) (by have := grpN_len (dl := dl) (p := p) (i := i) k; omega) (by omega)
     obtain ⟨I1, _, hI1l, hap, hgt⟩ := hIT.app (by omega) (show ([.i .i64 (x.ix : Int)] : List V).length = 1 from rfl) hroom
     have hap' : ∀ (z b : O) (rb k' : Nat), rb + k' = us.length + (Z.length + 2) → ah6 rb (us ++ (Z ++ [z, b, .no])) k' v' (some [.i .i64 (x.ix : Int)]) (some 1) 1 8
       = some (.sl (us.length + (Z.length + 2)) 0 1 ((bf7 dl p i k).length + 1) none, us ++ (W ++ (I1 ++ K) ++ [z, b, .c true (ncs (bf7 dl p i (k + 1)))])) := by
      intro z b rb k' h
      have := hap (us ++ W) (K ++ [z, b]) rb k' (by simp) (by rw [h, hZ]; simp; omega)
      rw [show us.length + W.length + (I.length + (K ++ [z, b]).length) = us.length + (Z.length + 2) by rw [hZ]; simp; omega, ncs_snoc, ← hgs] at this
      rw [hZ] at this ⊢
      simp only [List.append_assoc, List.cons_append, List.nil_append] at this ⊢
      exact this
     repeat' (first
      | (simp only [c16, u5, u4, hdk, hwk, hka, hA, hB', hrow, hc0, hmb, hap', put3, ao4, bj8, drow_0, drow_t3, Nat.add_assoc, SXR, simprocAttr]))
     refine IK (k + 1) _ _ ?_ hkl (by omega)
     refine ⟨.sl (us.length + (Z.length + 2)) 0 1 ((bf7 dl p i k).length + 1) none, I1 ++ (K ++ [.c false (be5 x m), .c false [.i .i64 (x.ix : Int)]]), I1 ++ (K ++ [.c false (be5 x m), .c false [.i .i64 (x.ix : Int)], .c true (ncs (bf7 dl p i (k + 1)))]), [], by exact rfl, by simp, ?_⟩
     have hg := hgt (K ++ [.c false (be5 x m), .c false [.i .i64 (x.ix : Int)]])
     rw [show us.length + W.length + (I.length + (K ++ [O.c false (be5 x m), O.c false [V.i .i64 (x.ix : Int)]]).length) = us.length + (Z.length + 2) by rw [hZ]; simp; omega, ncs_snoc, ← hgs] at hg
     have hln : (bf7 dl p i (k + 1)).length = (bf7 dl p i k).length + 1 := by rw [hgs]; simp
     rw [hln]
     simp only [List.append_assoc, List.cons_append, List.nil_append] at hg ⊢
     exact hg
    ·have hmb : ((m : Int) == (i : Int)) = false := by simp only [beq_eq_false_iff_ne, ne_eq]; omega
     rw [if_neg hmi, List.append_nil] at hgs
     repeat' (first
      | (simp only [c16, u5, u4, hdk, hwk, hka, hA, hB', hrow, hmb, put3, ao4, bj8, drow_t3, Nat.add_assoc, SXR, simprocAttr]))
     refine IK (k + 1) _ _ ?_ hkl (by omega)
     exact ⟨v', I0, I, K ++ [.c false (be5 x m)], by exact rfl, by rw [hZ]; simp, by rw [hgs]; exact hIT⟩
   ·clear IK
    have hdk := ltn hkl
    have hke : k = dl.length := by omega
    rw [hke, show bf7 dl p i dl.length = grp dl p i from rfl] at hIT
    clear hke
    have hos : ai8 dl p (i + 1) = ai8 dl p i ++ (if grp dl p i = [] then [] else [grp dl p i]) := rfl
    by_cases hge : grp dl p i = []
    ·rw [if_pos hge, List.append_nil] at hos
     rw [hge] at hIT
     have hvn : v' = .ns := by
      rcases hIT with ⟨_, h, _, _⟩ | ⟨h, _⟩
      ·exact h
      ·simp at h
     rw [hvn]
     have hg0 : decide ((0 : Int) > 0) = false := by decide
     repeat' (first
      | (simp only [c16, u5, u4, hdk, hw, hg0, SXR, simprocAttr]))
     refine IH (i + 1) _ _ ?_ hlt (by omega)
     exact ⟨v, T0, T, J ++ (I ++ K), rs, by exact rfl, by rw [hZ, hW]; simp, by rw [hos]; exact hGT, by rw [hos]; exact hrl, hrw, by rw [hos]; exact hse⟩
    ·rw [if_neg hge] at hos
     have hgl : 0 < (grp dl p i).length := List.length_pos_iff.2 hge
     obtain ⟨hvs, hIl⟩ : v' = .sl (us.length + W.length + I0.length) 0 1 (grp dl p i).length none ∧ I = I0 ++ [.c true (ncs (grp dl p i))] := by
      rcases hIT with ⟨h, _⟩ | ⟨_, h1, h2, _⟩
      ·omega
      ·exact ⟨h2, h1⟩
     have hlen : lenE false v' = some (.i .i64 ((grp dl p i).length : Int)) := by rw [hvs]; rfl
     have hsto : Go.B.stored v' = some [v'] := by rw [hvs]; rfl
     have hg0 : decide (((grp dl p i).length : Int) > 0) = true := by simp only [decide_eq_true_eq]; omega
     have hroom := p6 (n := (ai8 dl p i).length + 1) (b := 24) (by have := outsN_len (dl := dl) (p := p) i; omega) (by omega)
     obtain ⟨T1, ⟨t, hT1⟩, hT1l, hap, hgt⟩ := hGT.app (by omega) (show ([v'] : List V).length = 1 from rfl) hroom
     have hap' : ∀ (b : O) (rb k' : Nat), rb + k' = us.length + (Z.length + 1) → ah6 rb (us ++ (Z ++ [b, .no])) k' v (some [v']) (some 1) 1 24
       = some (.sl (us.length + (Z.length + 1)) 0 1 ((ai8 dl p i).length + 1) none, us ++ (T1 ++ (J ++ (I ++ K)) ++ [b, .c true (rs.flatten ++ [v'])])) := by
      intro b rb k' h
      have := hap us (J ++ (I ++ K) ++ [b]) rb k' rfl (by rw [h, hZ, hW]; simp; omega)
      rw [show us.length + (T.length + (J ++ (I ++ K) ++ [b]).length) = us.length + (Z.length + 1) by rw [hZ, hW]; simp; omega] at this
      rw [hZ, hW] at this ⊢
      simp only [List.append_assoc, List.cons_append, List.nil_append] at this ⊢
      exact this
     repeat' (first
      | (simp only [c16, u5, u4, hdk, hw, hlen, hsto, hg0, hap', Nat.add_assoc, SXR, simprocAttr]))
     refine IH (i + 1) _ _ ?_ hlt (by omega)
     refine ⟨.sl (us.length + (Z.length + 1)) 0 1 ((ai8 dl p i).length + 1) none, T1 ++ (J ++ (I ++ K) ++ [.c false [v']]), T1 ++ (J ++ (I ++ K) ++ [.c false [v'], .c true (rs.flatten ++ [v'])]), [], rs ++ [[v']], by exact rfl, by simp, ?_, by rw [hos]; simp [hrl], ?_, ?_⟩
     ·have hg := hgt (J ++ (I ++ K) ++ [.c false [v']])
      rw [show us.length + (T.length + (J ++ (I ++ K) ++ [O.c false [v']]).length) = us.length + (Z.length + 1) by rw [hZ, hW]; simp; omega] at hg
      have hln : (ai8 dl p (i + 1)).length = (ai8 dl p i).length + 1 := by rw [hos]; simp
      rw [hln, List.flatten_append, List.flatten_singleton]
      simp only [List.append_assoc, List.cons_append, List.nil_append] at hg ⊢
      exact hg
     ·intro r hr
      rcases List.mem_append.1 hr with h | h
      ·exact hrw r h
      ·simp at h; subst h; rfl
     ·rw [hos, List.map_append]
      refine Sll.app (x := [v']) (y := irow (grp dl p i)) (show Sl _ _ [v'] [.ts (ab7 (grp dl p i))] from ⟨?_, trivial⟩) (Sll.mono (fun a gr cs h => ?_) (fun _ h => h) hse)
      ·rw [hvs]
       refine Se.flat' (gr := true) (cs := ncs (grp dl p i)) ?_ (intRows_flat _).symm (by simp [ab7]) trivial intRows_w
       have := hp_mid (us := us) (W := T1 ++ J) (I0 := I0) (K := K ++ [.c false [v']]) (o := .c true (ncs (grp dl p i)))
       rw [show us.length + (T1 ++ J).length + I0.length = us.length + W.length + I0.length by rw [hW]; simp [hT1l]] at this
       rw [hvs] at this
       rw [hIl]
       simp only [List.append_assoc, List.cons_append, List.nil_append] at this ⊢
       exact this
      ·rw [hT1]
       have : us ++ (T0 ++ t ++ (J ++ (I ++ K) ++ [O.c false [v']])) = (us ++ T0) ++ (t ++ (J ++ (I ++ K) ++ [O.c false [v']])) := by simp
       rw [this]
       exact ac7 h
  ·clear IH
   have hd := ltn hlt
   have hie : i = dl.length := by omega
   rw [hie] at hGT hrl hse
   repeat' (first
    | (simp only [c16, u5, u4, hd, SXR, simprocAttr]))
   rcases hGT with ⟨h0, rfl, _, _⟩ | ⟨_, hT, rfl, _⟩
   ·rw [List.length_eq_zero_iff.1 h0]; exact .nil
   ·refine Se.rowsL (rs := rs) (cs := rs.flatten) (gr := true) ?_ rfl hrl trivial hrw (fun r hr => ?_) (Sll.mono (fun a gr cs h => ?_) (fun _ h => h) hse)
    ·have := hp_mid (us := us) (W := []) (I0 := T0) (K := J) (o := .c true rs.flatten)
     rw [hT]
     simpa using this
    ·obtain ⟨g, _, rfl⟩ := List.mem_map.1 hr
     rfl
    ·rw [hT]
     have : us ++ (T0 ++ [O.c true rs.flatten] ++ J) = (us ++ T0) ++ ([O.c true rs.flatten] ++ J) := by simp
     rw [this]
     exact ac7 h
end Go.Proofs.YtieogkafbnnjcaaGreatDoor
