/-
  One division of the reference.
  The reference's divisions are the program's: in plain words.
  One division of the reference is one division of the program.
  The reference's numbers: the last division.
-/
import Derived.Test.YtieogkafbnnjcaaGreatDoorMh
import Derived.Test.YtieogkafbnnjcaaGreatDoorMg
set_option linter.unusedSimpArgs false
set_option linter.unusedVariables false
namespace Go.Proofs.YtieogkafbnnjcaaGreatDoor
open Go Go.B
def rokK (n : NNode) (p out : List Int) (i j : Nat) : Bool := match n.eqs[i]?, n.eqs[j]?, p[i]?, p[j]?, out[j]? with
 | some a, some b, some u, some v, some o => isD b && o == (j : Int) && v == u && aw8 n p b a
 | _, _, _, _, _ => false
def rval (n : NNode) (p out : List Int) (i : Nat) : Int := match n.eqs[i]? with
 | some q => if isD q = true then (match ac9 (rokK n p out i) 0 i with
   | some j => (j : Int)
   | none => (i : Int)) else (p[i]?).getD 0
 | none => 0
def af9 (n : NNode) (p : List Int) : Nat → List Int
 | 0 => []
 | i + 1 => af9 n p i ++ [rval n p (af9 n p i) i]
theorem aq8 (n : NNode) (p : List Int) : ∀ i, (af9 n p i).length = i
 | 0 => rfl
 | i + 1 => by simp only [af9, List.length_append, aq8 n p i, List.length_singleton]
theorem rokK_eq {n : NNode} {p out : List Int} {i j : Nat} {a b : NEqn} {u v o : Int} (h1 : n.eqs[i]? = some a) (h2 : n.eqs[j]? = some b) (h3 : p[i]? = some u) (h4 : p[j]? = some v) (h5 : out[j]? = some o) : rokK n p out i j = (isD b && o == (j : Int) && v == u && aw8 n p b a) := by
 simp only [rokK, h1, h2, h3, h4, h5]
set_option maxHeartbeats 2000000 in
theorem rrefine_ac {js : List O} {pv : V} (n : NNode) (p : List Int) (hr : RP js pv p) (hlt : ltO js.length js = true) (hok : n.ok) (hp : p.length = n.eqs.length) :
  ACalls Tryz.prog 54 [.ag n.row, pv] (hpL js) js.length (.ts (al6 (af9 n p p.length))) (hpL js) js.length := by
 have hne := hok.2.2.2.1
 unfold Lst.ok at hne
 have hpl := hr.len
 refine ai1 Tryz.func54 k54 rfl rfl (by simp only [V.cl, aq3]) hlt ?_
 repeat' (first
  | ((with_reducible refine j3 ?rdq ?_); (case rdq => refine j2 rfl ?_ ?_ <;> simp only [Option.isSome_some, ae7, ae6, SXR, simprocAttr]))
  | (simp only [c54, ae7, ae6, SXR, simprocAttr]))
 refine o8 (X := Nat) (fun i ll hs => ∃ (v : V) (T0 T J : List O), Hd (fun j => [.ag n.row, pv, .p js.length 0, j 3, .ns, v, .i .i64 (i : Int), j 7, j 8, j 9, j 10, j 11, j 12, j 13, j 14, j 15, j 16, j 17, j 18, j 19, j 20, j 21, j 22, j 23, j 24, j 25, j 26, j 27, j 28, j 29, j 30, j 31, j 32, j 33, j 34, j 35, j 36, j 37, j 38, j 39, j 40, j 41, j 42, j 43, j 44, j 45, j 46, j 47, j 48, j 49, j 50, j 51, j 52, j 53, j 54, j 55, j 56, j 57, j 58, j 59, j 60, j 61, j 62, j 63, j 64, j 65, j 66, j 67, j 68]) ll ∧ hs = js ++ .c false n.row :: (T ++ J) ∧
   GT (js.length + 1) 1 i v T0 T (zcs (af9 n p i)) ∧ T.all ocl = true ∧ J.all ocl = true)
  (fun i => i ≤ p.length) (fun i => p.length - i) ?_ 0 _ _ (by exact ⟨.ns, [], [], [], rfl, rfl, .inl ⟨rfl, rfl, rfl, rfl⟩, rfl, rfl⟩) (Nat.zero_le _)
 rintro i _ _ ⟨v, T0, T, J, e, rfl, hGT, hTc, hJc⟩ hi IH
 obtain ⟨j, rfl⟩ := e.open
 clear e
 obtain ⟨W, hW⟩ : ∃ W, W = T ++ J := ⟨_, rfl⟩
 rw [← hW]
 by_cases hil : i < p.length
 ·obtain ⟨q, hq, hqm⟩ := ats (show i < n.eqs.length by omega)
  obtain ⟨u, hu, _⟩ := ats hil
  obtain ⟨au, hur, hul⟩ := hr.get _ _ hu
  have hqr := mg (f := NEqn.row) hq
  have hd := ltd hil
  have hw := l6 (n := i) (by omega)
  have hc := ar0 q
  have hroom := p6 (n := i + 1) (b := 8) (by omega) (by omega)
  obtain ⟨m, hm⟩ : ∃ m, m = rval n p (af9 n p i) i := ⟨_, rfl⟩
  have hnx : zcs (af9 n p i) ++ [.i .i64 m] = zcs (af9 n p (i + 1)) := by rw [zcs_snoc, hm]; rfl
  obtain ⟨v', T0', T', J', hgt, hap, hoc⟩ := hGT.appR (rows := [[.i .i64 m]]) (bytes := 8) (by omega) (by simp) hroom (J ++ [.c false [.i .i64 m]])
  have hfl : ([[.i .i64 m]] : List (List V)).flatten = [.i .i64 m] := rfl
  have hll : ([[.i .i64 m]] : List (List V)).length = 1 := rfl
  rw [hfl, hll, hnx] at hgt
  rw [hfl, hnx] at hoc
  obtain ⟨hTc', hJc'⟩ := hoc hTc (by simp only [List.all_append, List.all_cons, List.all_nil, hJc, t8, clL, V.cl, Bool.and_self]) (zcs_cl _)
  have hap' : ∀ (rb k' : Nat), rb + k' = js.length + (W.length + 2) → ah6 rb (js ++ .c false n.row :: (W ++ [.c false [.i .i64 m], .no])) k' v (some [.i .i64 m]) (some 1) 1 8
    = some (v', js ++ .c false n.row :: (T' ++ J')) := by
   intro rb k' h
   have := hap (js ++ [.c false n.row]) rb k' (by simp) (by rw [h, hW]; simp; omega)
   rw [hfl, hll] at this
   rw [hW]
   simp only [List.append_assoc, List.cons_append, List.nil_append] at this ⊢
   exact this
  clear hap hoc hnx hfl hll
  cases hD : isD q with
  | false =>
    obtain rfl : m = u := by rw [hm]; simp only [rval, hq, hD, Bool.false_eq_true, if_false, hu, Option.getD_some]
    rw [hD] at hc
    repeat' (first
     | ((with_reducible refine j3 ?rdq ?_); (case rdq => refine j2 rfl ?_ ?_ <;> simp only [Option.isSome_some, ae7, ae6, hpl, hur, hul, e8, nn4, List.length_map, hqr, hd, hw, f0, i5, j5, hap', Nat.add_assoc, SXR, simprocAttr]))
     | (with_reducible refine b8 (hc) (by simp only [SXR, j5]) (by simp only [SXR, j5]) ?_)
     | (simp only [c54, ae7, ae6, hpl, hur, hul, e8, nn4, List.length_map, hqr, hd, hw, f0, i5, j5, hap', Nat.add_assoc, SXR, simprocAttr]))
    exact IH (i + 1) _ _ (by exact ⟨v', T0', T', J', rfl, rfl, hgt, hTc', hJc'⟩) hil (by omega)
  | true =>
    rw [hD] at hc
    have hro : RP (js ++ .c false n.row :: W) v (af9 n p i) := by
     rcases hGT with ⟨h1, h2, h3, h4⟩ | ⟨h1, h2, h3, h4⟩
     ·subst h1; rw [h2]; exact RP.ns _
     ·have h5 : hpL (js ++ .c false n.row :: W) (js.length + 1 + T0.length) = .c true (zcs (af9 n p i)) := by
       rw [hW, h2, show js ++ O.c false n.row :: (T0 ++ [O.c true (zcs (af9 n p i))] ++ J) = (js ++ .c false n.row :: T0) ++ .c true (zcs (af9 n p i)) :: J by simp, show js.length + 1 + T0.length = (js ++ O.c false n.row :: T0).length by simp; omega]
       exact hp_ap0
      have := RP.sl h5
      rw [aq8] at this
      rw [h3]; exact this
    have hWc : W.all ocl = true := by rw [hW]; simp only [List.all_append, hTc, hJc, Bool.and_self]
    have hlt' : ltO (js ++ .c false n.row :: W).length (js ++ .c false n.row :: W) = true := ah1 (by simp) hlt (by simp only [List.all_cons, t8, b9, hWc, Bool.and_self])
    have hm' : m = match ac9 (rokK n p (af9 n p i) i) 0 i with
      | some j => (j : Int)
      | none => (i : Int) := by rw [hm]; simp only [rval, hq, hD, if_true]
    clear hm
    repeat' (first
     | ((with_reducible refine j3 ?rdq ?_); (case rdq => refine j2 rfl ?_ ?_ <;> simp only [Option.isSome_some, ae7, ae6, hpl, hur, hul, e8, nn4, List.length_map, hqr, hd, hw, f0, i5, j5, Nat.add_assoc, SXR, simprocAttr]))
     | (with_reducible refine b8 (hc) (by simp only [SXR, j5]) (by simp only [SXR, j5]) ?_)
     | (simp only [c54, ae7, ae6, hpl, hur, hul, e8, nn4, List.length_map, hqr, hd, hw, f0, i5, j5, Nat.add_assoc, SXR, simprocAttr]))
    refine o8 (X := Nat) (fun k ll hs => Hd (fun j => [.ag n.row, pv, .p js.length 0, j 3, .ns, v, .i .i64 (i : Int), .i .i64 (i : Int), .i .i64 (k : Int), j 9, j 10, j 11, j 12, j 13, j 14, j 15, j 16, j 17, j 18, j 19, j 20, j 21, j 22, j 23, j 24, j 25, j 26, j 27, j 28, j 29, j 30, j 31, j 32, j 33, j 34, j 35, j 36, j 37, j 38, j 39, j 40, j 41, j 42, j 43, j 44, j 45, j 46, j 47, j 48, j 49, j 50, j 51, j 52, j 53, j 54, j 55, j 56, j 57, j 58, j 59, j 60, j 61, j 62, j 63, j 64, j 65, j 66, j 67, j 68]) ll ∧ hs = js ++ .c false n.row :: W)
     (fun k => k ≤ i ∧ ac9 (rokK n p (af9 n p i) i) 0 i = ac9 (rokK n p (af9 n p i) i) k (i - k)) (fun k => i - k) ?_ 0 _ _ (by exact ⟨rfl, rfl⟩) ⟨Nat.zero_le _, rfl⟩
    rintro k _ _ ⟨e, rfl⟩ ⟨hk, hf⟩ IK
    obtain ⟨j, rfl⟩ := e.open
    clear e
    by_cases hki : k < i
    ·obtain ⟨b, hb, hbm⟩ := ats (show k < n.eqs.length by omega)
     obtain ⟨vk, hvk, _⟩ := ats (show k < p.length by omega)
     obtain ⟨o, ho, _⟩ := ats (show k < (af9 n p i).length by rw [aq8]; exact hki)
     obtain ⟨ak, hkr, hkl⟩ := hr.get _ _ hvk
     obtain ⟨ao, hor, hol⟩ := hro.get0 ho
     have hbr := mg (f := NEqn.row) hb
     have hcb := ar0 b
     have hdk := ltd hki
     have hwk := l6 (n := k) (by omega)
     have hrk := rokK_eq hq hb hu hvk ho
     rw [show i - k = (i - (k + 1)) + 1 by omega] at hf
     simp only [ac9] at hf
     cases hDb : isD b with
     | false =>
       rw [hDb] at hcb hrk
       simp only [Bool.false_and] at hrk
       rw [hrk] at hf
       simp only [Bool.false_eq_true, if_false] at hf
       repeat' (first
        | ((with_reducible refine j3 ?rdq ?_); (case rdq => refine j2 rfl ?_ ?_ <;> simp only [Option.isSome_some, ae7, ae6, e8, nn4, List.length_map, hbr, hdk, hwk, f0, i5, j5, Nat.add_assoc, SXR, simprocAttr]))
        | (with_reducible refine b8 (hcb) (by simp only [SXR, j5]) (by simp only [SXR, j5]) ?_)
        | (simp only [c54, ae7, ae6, e8, nn4, List.length_map, hbr, hdk, hwk, f0, i5, j5, Nat.add_assoc, SXR, simprocAttr]))
       exact IK (k + 1) _ _ (by exact ⟨rfl, rfl⟩) ⟨hki, hf⟩ (by omega)
     | true =>
       rw [hDb] at hcb hrk
       cases hoe : (o == (k : Int)) with
       | false =>
         rw [hoe] at hrk
         simp only [Bool.and_false, Bool.false_and] at hrk
         rw [hrk] at hf
         simp only [Bool.false_eq_true, if_false] at hf
         repeat' (first
          | ((with_reducible refine j3 ?rdq ?_); (case rdq => refine j2 rfl ?_ ?_ <;> simp only [Option.isSome_some, ae7, ae6, e8, nn4, List.length_map, hbr, hdk, hwk, hor, hol, hoe, f0, i5, j5, Nat.add_assoc, SXR, simprocAttr]))
          | (with_reducible refine b8 (hcb) (by simp only [SXR, j5]) (by simp only [SXR, j5]) ?_)
          | (simp only [c54, ae7, ae6, e8, nn4, List.length_map, hbr, hdk, hwk, hor, hol, hoe, f0, i5, j5, Nat.add_assoc, SXR, simprocAttr]))
         exact IK (k + 1) _ _ (by exact ⟨rfl, rfl⟩) ⟨hki, hf⟩ (by omega)
       | true =>
         rw [hoe] at hrk
         cases hve : (vk == u) with
         | false =>
           rw [hve] at hrk
           simp only [Bool.and_false, Bool.false_and] at hrk
           rw [hrk] at hf
           simp only [Bool.false_eq_true, if_false] at hf
           repeat' (first
            | ((with_reducible refine j3 ?rdq ?_); (case rdq => refine j2 rfl ?_ ?_ <;> simp only [Option.isSome_some, ae7, ae6, e8, nn4, List.length_map, hbr, hdk, hwk, hor, hol, hoe, hur, hul, hkr, hkl, hve, f0, i5, j5, Nat.add_assoc, SXR, simprocAttr]))
            | (with_reducible refine b8 (hcb) (by simp only [SXR, j5]) (by simp only [SXR, j5]) ?_)
            | (simp only [c54, ae7, ae6, e8, nn4, List.length_map, hbr, hdk, hwk, hor, hol, hoe, hur, hul, hkr, hkl, hve, f0, i5, j5, Nat.add_assoc, SXR, simprocAttr]))
           exact IK (k + 1) _ _ (by exact ⟨rfl, rfl⟩) ⟨hki, hf⟩ (by omega)
         | true =>
           have hal := ralike_ac n p (hr.more (.c false n.row :: W)) hlt' hok hp hb hq hDb hD
           rw [hve] at hrk
           cases hle : aw8 n p b q with
           | false =>
             rw [hle] at hrk hal
             simp only [Bool.and_false] at hrk
             rw [hrk] at hf
             simp only [Bool.false_eq_true, if_false] at hf
             repeat' (first
              | ((with_reducible refine j3 ?rdq ?_); (case rdq => refine j2 rfl ?_ ?_ <;> simp only [Option.isSome_some, ae7, ae6, e8, j7, nn4, List.length_map, hbr, hdk, hwk, hor, hol, hoe, hur, hul, hkr, hkl, hve, f0, i5, j5, Nat.add_assoc, SXR, simprocAttr]))
              | (with_reducible refine i7 (hal) ?_)
              | (with_reducible refine b8 (hcb) (by simp only [SXR, j5]) (by simp only [SXR, j5]) ?_)
              | (simp only [c54, ae7, ae6, e8, j7, nn4, List.length_map, hbr, hdk, hwk, hor, hol, hoe, hur, hul, hkr, hkl, hve, f0, i5, j5, Nat.add_assoc, SXR, simprocAttr]))
             exact IK (k + 1) _ _ (by exact ⟨rfl, rfl⟩) ⟨hki, hf⟩ (by omega)
           | true =>
             rw [hle] at hrk hal
             simp only [Bool.and_self] at hrk
             rw [hrk] at hf
             simp only [if_true] at hf
             obtain rfl : m = (k : Int) := by rw [hm', hf]
             repeat' (first
              | ((with_reducible refine j3 ?rdq ?_); (case rdq => refine j2 rfl ?_ ?_ <;> simp only [Option.isSome_some, ae7, ae6, e8, j7, nn4, List.length_map, hbr, hdk, hw, hor, hol, hoe, hur, hul, hkr, hkl, hve, f0, i5, j5, hap', Nat.add_assoc, SXR, simprocAttr]))
              | (with_reducible refine i7 (hal) ?_)
              | (with_reducible refine b8 (hcb) (by simp only [SXR, j5]) (by simp only [SXR, j5]) ?_)
              | (simp only [c54, ae7, ae6, e8, j7, nn4, List.length_map, hbr, hdk, hw, hor, hol, hoe, hur, hul, hkr, hkl, hve, f0, i5, j5, hap', Nat.add_assoc, SXR, simprocAttr]))
             exact IH (i + 1) _ _ (by exact ⟨v', T0', T', J', rfl, rfl, hgt, hTc', hJc'⟩) hil (by omega)
    ·clear IK
     have hke : k = i := by omega
     subst hke
     rw [Nat.sub_self] at hf
     simp only [ac9] at hf
     obtain rfl : m = (k : Int) := by rw [hm', hf]
     have hdk := ltn hki
     repeat' (first
      | ((with_reducible refine j3 ?rdq ?_); (case rdq => refine j2 rfl ?_ ?_ <;> simp only [Option.isSome_some, ae7, ae6, hdk, hw, hap', Nat.add_assoc, SXR, simprocAttr]))
      | (simp only [c54, ae7, ae6, hdk, hw, hap', Nat.add_assoc, SXR, simprocAttr]))
     exact IH (k + 1) _ _ (by exact ⟨v', T0', T', J', rfl, rfl, hgt, hTc', hJc'⟩) hil (by omega)
 ·have hie : i = p.length := by omega
  rw [← hie]
  have hd := ltn hil
  clear IH
  repeat' (first
   | ((with_reducible refine j3 ?rdq ?_); (case rdq => refine j2 rfl ?_ ?_ <;> simp only [Option.isSome_some, ae7, ae6, hpl, hd, SXR, simprocAttr]))
   | (simp only [c54, ae7, ae6, hpl, hd, SXR, simprocAttr]))
  refine ⟨?_, _, rfl⟩
  rcases hGT with ⟨h1, h2, h3, h4⟩ | ⟨h1, h2, h3, h4⟩
  ·subst h1; rw [h2]; exact .nil
  ·have h5 : hpL (js ++ .c false n.row :: W) (js.length + 1 + T0.length) = .c true (zcs (af9 n p i)) := by
    rw [hW, h2, show js ++ O.c false n.row :: (T0 ++ [O.c true (zcs (af9 n p i))] ++ J) = (js ++ .c false n.row :: T0) ++ .c true (zcs (af9 n p i)) :: J by simp, show js.length + 1 + T0.length = (js ++ O.c false n.row :: T0).length by simp; omega]
    exact hp_ap0
   rw [h3]
   exact Se.flat' h5 (bh3 _).symm (by rw [ab9, aq8]) (show js.length ≤ js.length + 1 + T0.length by omega) zrows_w
mutual
theorem exB_to : ∀ (x y : Ex), exB x y = true → x = y
 | .mk k op t v nl nn l, .mk k' op' t' v' nl' nn' l', h => by
   simp only [exB, Bool.and_eq_true, beq_iff_eq] at h
   obtain ⟨⟨⟨⟨⟨rfl, rfl⟩, rfl⟩, rfl⟩, h5⟩, h6⟩ := h
   have h5 := eqStr_eq h5
   cases h5
   rw [exsB_to l l' h6]
theorem exsB_to : ∀ (x y : List Ex), exsB x y = true → x = y
 | [], [], _ => rfl
 | x :: l, y :: m, h => by
   simp only [exsB, Bool.and_eq_true] at h
   rw [exB_to x y h.1, exsB_to l m h.2]
 | [], _ :: _, h => by simp [exsB] at h
 | _ :: _, [], h => by simp [exsB] at h
end
mutual
theorem exB_self : ∀ (x : Ex), exB x x = true
 | .mk k op t v nl nn l => by simp only [exB, beq_self_eq_true, aa4, exsB_self l, Bool.and_self]
theorem exsB_self : ∀ (x : List Ex), exsB x x = true
 | [] => rfl
 | x :: l => by simp only [exsB, exB_self x, exsB_self l, Bool.and_self]
end
theorem exB_iff {x y : Ex} : exB x y = true ↔ x = y := ⟨exB_to x y, fun h => by subst h; exact exB_self x⟩
theorem cks_iff {a b : List On} : eqB bf9 a b = true ↔ a = b := ⟨eqB_eq eqOn_eq, fun h => by subst h; exact cks_refl a⟩
def bg7 (dl : List Dl) (p : List Nat) (x y : Dl) : Prop := x.q.init = y.q.init ∧ x.ty = y.ty ∧ x.q.ck = y.q.ck ∧ (x.q.right = y.q.right ∨ (src dl p x.q ≥ 0 ∧ src dl p x.q = src dl p y.q))
theorem cmpB_iff {dl : List Dl} {p : List Nat} {x y : Dl} : bh1 dl p x y = true ↔ bg7 dl p x y := by
 simp only [bh1, bg7, Bool.and_eq_true, Bool.or_eq_true, beq_iff_eq, decide_eq_true_eq, cks_iff, exB_iff, and_assoc]
theorem src_eq {dl : List Dl} {p : List Nat} {x y : Dl} (h : x.q.right = y.q.right) : src dl p x.q = src dl p y.q := by simp only [src, h]
theorem like_symm {dl : List Dl} {p : List Nat} {x y : Dl} (h : bg7 dl p x y) : bg7 dl p y x := by
 obtain ⟨h1, h2, h3, h4⟩ := h
 refine ⟨h1.symm, h2.symm, h3.symm, ?_⟩
 rcases h4 with h | ⟨h, h'⟩
 ·exact .inl h.symm
 ·exact .inr ⟨by rw [← h']; exact h, h'.symm⟩
theorem like_trans {dl : List Dl} {p : List Nat} {x y z : Dl} (h : bg7 dl p x y) (g : bg7 dl p y z) : bg7 dl p x z := by
 obtain ⟨h1, h2, h3, h4⟩ := h
 obtain ⟨g1, g2, g3, g4⟩ := g
 refine ⟨h1.trans g1, h2.trans g2, h3.trans g3, ?_⟩
 rcases h4 with h | ⟨h, h'⟩ <;> rcases g4 with g | ⟨g, g'⟩
 ·exact .inl (h.trans g)
 ·exact .inr ⟨by rw [src_eq h]; exact g, by rw [src_eq h]; exact g'⟩
 ·exact .inr ⟨h, by rw [h', src_eq g]⟩
 ·exact .inr ⟨h, h'.trans g'⟩
theorem bc2 {dl : List Dl} {p : List Nat} {i k : Nat} : okK dl p i k = true ↔ ∃ x y a, dl[i]? = some x ∧ dl[k]? = some y ∧ p[i]? = some a ∧ p[k]? = some a ∧ bg7 dl p x y := by
 constructor
 ·intro h
  obtain ⟨x, y, a, h1, h2, h3, h4, h5⟩ := okK_part h
  exact ⟨x, y, a, h1, h2, h3, h4, cmpB_iff.1 h5⟩
 ·rintro ⟨x, y, a, h1, h2, h3, h4, h5⟩
  rw [okK_eq h1 h2 h3 h4, cmpB_iff.2 h5]
  simp
theorem okK_trans {dl : List Dl} {p : List Nat} {i j k : Nat} (h : okK dl p i j = true) (g : okK dl p j k = true) : okK dl p i k = true := by
 obtain ⟨x, y, a, h1, h2, h3, h4, h5⟩ := bc2.1 h
 obtain ⟨y', z, b, g1, g2, g3, g4, g5⟩ := bc2.1 g
 rw [h2] at g1; cases g1
 rw [h4] at g3; cases g3
 exact bc2.2 ⟨x, z, a, h1, g2, h3, g4, like_trans h5 g5⟩
theorem first_root {dl : List Dl} {p : List Nat} (hl : p.length = dl.length) {i t : Nat} (hi : i < dl.length) (h : ac9 (okK dl p i) 0 i = some t) : t < i ∧ okK dl p i t = true ∧ (∀ k, k < t → okK dl p i k = false) ∧ (r9 dl p)[t]? = some t ∧ (r9 dl p)[i]? = some t := by
 have hmin : ∀ (r k0 : Nat), ac9 (okK dl p i) k0 r = some t → ∀ k, k0 ≤ k → k < t → okK dl p i k = false := by
  intro r
  induction r with
  | zero => intro k0 h; simp [ac9] at h
  | succ r ih =>
    intro k0 h k hk1 hk2
    simp only [ac9] at h
    split at h
    ·cases h; omega
    ·rename_i hc
     by_cases e : k = k0
     ·subst e; simpa using hc
     ·exact ih _ h k (by omega) hk2
 obtain ⟨_, h2, h3⟩ := av2 h
 have hm := fun k hk => hmin _ _ h k (Nat.zero_le _) hk
 have hti : t < i := by omega
 have hroot : (r9 dl p)[t]? = some t := by
  rcases am3 hl (show t < dl.length by omega) with ⟨q, _⟩ | ⟨k, m, hk, ho, _, _⟩
  ·exact q
  ·have := hm k hk
   rw [okK_trans h3 ho] at this
   cases this
 refine ⟨hti, h3, hm, hroot, ?_⟩
 unfold r9 at hroot ⊢
 rw [am1 hi, h]
 simp only [pick]
 rw [nxt_pre hti (Nat.le_of_lt hi), hroot]
 rfl
theorem findK_of {c : Nat → Bool} {m : Nat} (h : c m = true) : ∀ {r k0 : Nat}, k0 ≤ m → m < k0 + r → (∀ k, k0 ≤ k → k < m → c k = false) → ac9 c k0 r = some m
 | 0, k0, h1, h2, _ => by omega
 | r + 1, k0, h1, h2, h3 => by
   simp only [ac9]
   by_cases e : k0 = m
   ·subst e; rw [if_pos h]
   ·rw [if_neg (by rw [h3 k0 (Nat.le_refl _) (by omega)]; simp)]
    exact findK_of h (by omega) (by omega) (fun k hk1 hk2 => h3 k (by omega) hk2)
theorem findK_no {c : Nat → Bool} : ∀ {r k0 : Nat}, (∀ k, k0 ≤ k → k < k0 + r → c k = false) → ac9 c k0 r = none
 | 0, _, _ => rfl
 | r + 1, k0, h => by
   simp only [ac9]
   rw [if_neg (by rw [h k0 (Nat.le_refl _) (by omega)]; simp)]
   exact findK_no fun k h1 h2 => h k (by omega) (by omega)
def embF (dl : List Dl) (m : Nat) : Int := match dl[m]? with
 | some d => (d.ix : Int)
 | none => -1
def embL (dl : List Dl) : List NEqn → List Nat → List Int
 | [], _ => []
 | q :: l, p => if isD q = true then (match p with
   | m :: p' => embF dl m :: embL dl l p'
   | [] => -1 :: embL dl l []) else -1 :: embL dl l p
def emb (n : NNode) (p : List Nat) : List Int := embL (p9 n) n.eqs p
theorem embL_len (dl : List Dl) : ∀ (l : List NEqn) (p : List Nat), (embL dl l p).length = l.length
 | [], _ => rfl
 | q :: l, p => by
   simp only [embL]
   split
   ·split <;> simp only [List.length_cons, embL_len dl l]
   ·simp only [List.length_cons, embL_len dl l]
theorem embL_get (dl : List Dl) (n : NNode) : ∀ (l : List NEqn) (i k : Nat) (p : List Nat) {q : NEqn}, p.length = (dlL n i l).length → l[k]? = some q →
  (isD q = false ∧ (embL dl l p)[k]? = some (-1)) ∨ (isD q = true ∧ ∃ (j m : Nat), (dlL n i l)[j]? = some (mkDl n (i + k) q) ∧ p[j]? = some m ∧ (embL dl l p)[k]? = some (embF dl m))
 | [], i, k, p, q, _, h => by simp at h
 | q0 :: l, i, 0, p, q, hl, h => by
   simp only [List.getElem?_cons_zero, Option.some.injEq] at h
   subst h
   simp only [embL, dlL] at hl ⊢
   cases hD : isD q0 with
   | false => exact .inl ⟨rfl, by simp⟩
   | true =>
     simp only [hD, if_true] at hl
     cases p with
     | nil => simp at hl
     | cons m p' => exact .inr ⟨rfl, 0, m, by simp, by simp, by simp⟩
 | q0 :: l, i, k + 1, p, q, hl, h => by
   simp only [List.getElem?_cons_succ] at h
   simp only [embL, dlL] at hl ⊢
   have e : i + 1 + k = i + (k + 1) := by omega
   cases hD : isD q0 with
   | false =>
     simp only [hD, Bool.false_eq_true, if_false] at hl ⊢
     have := embL_get dl n l (i + 1) k p hl h
     rw [e] at this
     simpa using this
   | true =>
     simp only [hD, if_true] at hl ⊢
     cases p with
     | nil => simp at hl
     | cons m p' =>
       have := embL_get dl n l (i + 1) k p' (by simpa using hl) h
       rw [e] at this
       rcases this with ⟨h1, h2⟩ | ⟨h1, j, m', h2, h3, h4⟩
       ·exact .inl ⟨h1, by simpa using h2⟩
       ·exact .inr ⟨h1, j + 1, m', by simpa using h2, by simpa using h3, by simpa using h4⟩
theorem ae0 (n : NNode) (p : List Nat) : (emb n p).length = n.eqs.length := embL_len _ _ _
theorem ah5 {n : NNode} {p : List Nat} (hl : p.length = (p9 n).length) {i : Nat} {q : NEqn} (h : n.eqs[i]? = some q) :
  (isD q = false ∧ (emb n p)[i]? = some (-1)) ∨ (isD q = true ∧ ∃ (j m : Nat), (p9 n)[j]? = some (mkDl n i q) ∧ p[j]? = some m ∧ (emb n p)[i]? = some (embF (p9 n) m)) := by
 have := embL_get (p9 n) n n.eqs 0 i p hl h
 rw [Nat.zero_add] at this
 exact this
theorem ao8 {n : NNode} {i j : Nat} {x y : Dl} (hx : (p9 n)[i]? = some x) (hy : (p9 n)[j]? = some y) : (i < j ↔ x.ix < y.ix) ∧ (i = j ↔ x.ix = y.ix) := by
 have hp := (dlL_asc (n := n) n.eqs 0).1
 have h1 := List.getElem?_eq_some_iff.1 hx
 have h2 := List.getElem?_eq_some_iff.1 hy
 have key : ∀ {a b : Nat} {u v : Dl} (ha : (p9 n)[a]? = some u) (hb : (p9 n)[b]? = some v), a < b → u.ix < v.ix := by
  intro a b u v ha hb hab
  obtain ⟨ha1, ha2⟩ := List.getElem?_eq_some_iff.1 ha
  obtain ⟨hb1, hb2⟩ := List.getElem?_eq_some_iff.1 hb
  have := List.pairwise_iff_getElem.1 hp a b ha1 hb1 hab
  change ((p9 n)[a]).ix < ((p9 n)[b]).ix at this
  rw [ha2, hb2] at this
  exact this
 rcases Nat.lt_trichotomy i j with h | h | h
 ·have := key hx hy h
  exact ⟨⟨fun _ => this, fun _ => h⟩, ⟨fun e => by omega, fun e => by omega⟩⟩
 ·subst h
  rw [hx] at hy; cases hy
  exact ⟨⟨fun h => by omega, fun h => by omega⟩, ⟨fun _ => rfl, fun _ => rfl⟩⟩
 ·have := key hy hx h
  exact ⟨⟨fun e => by omega, fun e => by omega⟩, ⟨fun e => by omega, fun e => by omega⟩⟩
theorem ab0 {n : NNode} {m : Nat} {d : Dl} (h : (p9 n)[m]? = some d) : embF (p9 n) m = (d.ix : Int) := by simp only [embF, h]
theorem bj9 {n : NNode} {j : Nat} {d : Dl} (h : (p9 n)[j]? = some d) : n.eqs[d.ix]? = some d.q ∧ isD d.q = true ∧ d = mkDl n d.ix d.q := by
 obtain ⟨k, h1, h2, h3, h4⟩ := be6 (List.mem_of_getElem? h)
 rw [Nat.zero_add] at h1
 subst h1
 exact ⟨h2, h3, h4⟩
theorem emb_at {n : NNode} {p : List Nat} (hl : p.length = (p9 n).length) {j m : Nat} {d : Dl} (h : (p9 n)[j]? = some d) (hm : p[j]? = some m) : (emb n p)[d.ix]? = some (embF (p9 n) m) := by
 obtain ⟨h1, h2, h3⟩ := bj9 h
 rcases ah5 hl h1 with ⟨g, _⟩ | ⟨_, j', m', g1, g2, g3⟩
 ·rw [h2] at g; cases g
 ·have := (ao8 h g1).2.2 (by rw [h3]; rfl)
  subst this
  rw [hm] at g2; cases g2
  exact g3
theorem ofG_no {s : Str} {c : Nat → Option NEqn} : ∀ (r i : Nat), (∀ m, i ≤ m → m < i + r → ∃ q, c m = some q) → ofG s c i r = -1 → ∀ m, i ≤ m → m < i + r → ∀ q, c m = some q → ¬ (isD q = true ∧ aa4 (hd1 q) s = true)
 | 0, i, _, _, m, h1, h2 => by omega
 | r + 1, i, hc, h, m, h1, h2 => by
   obtain ⟨q0, hq0⟩ := hc i (Nat.le_refl _) (by omega)
   simp only [ofG, hq0] at h
   by_cases hq : isD q0 = true ∧ aa4 (hd1 q0) s = true
   ·rw [if_pos hq] at h; omega
   ·rw [if_neg hq] at h
    intro q hqm
    by_cases e : m = i
    ·subst e; rw [hq0] at hqm; cases hqm; exact hq
    ·exact ofG_no r (i + 1) (fun m h1 h2 => hc m (by omega) (by omega)) h m (by omega) (by omega) q hqm
theorem srcL_spec {s : Str} : ∀ (dl : List Dl) (p : List Nat), p.length = dl.length → (srcL s dl p = -1 ∧ ∀ d, d ∈ dl → aa4 d.s s = false) ∨ ∃ (t : Nat) (d : Dl) (m : Nat), dl[t]? = some d ∧ p[t]? = some m ∧ srcL s dl p = (m : Int) ∧ aa4 d.s s = true ∧ ∀ (t' : Nat), t' < t → ∀ d', dl[t']? = some d' → aa4 d'.s s = false
 | [], p, h => by
   have : p = [] := List.length_eq_zero_iff.1 h
   subst this
   exact .inl ⟨rfl, fun d hd => by cases hd⟩
 | d :: dl, [], h => by simp at h
 | d :: dl, m :: p, h => by
   simp only [srcL]
   cases hs : aa4 d.s s with
   | true =>
     rw [if_pos rfl]
     exact .inr ⟨0, d, m, rfl, rfl, rfl, hs, fun t' ht => by omega⟩
   | false =>
     rw [if_neg (by simp)]
     rcases srcL_spec dl p (by simpa using h) with ⟨h1, h2⟩ | ⟨t, d', m', h1, h2, h3, h4, h5⟩
     ·refine .inl ⟨h1, fun x hx => ?_⟩
      rcases List.mem_cons.1 hx with rfl | hx
      ·exact hs
      ·exact h2 x hx
     ·refine .inr ⟨t + 1, d', m', by simpa using h1, by simpa using h2, h3, h4, fun t' ht x hx => ?_⟩
      cases t' with
      | zero => simp only [List.getElem?_cons_zero, Option.some.injEq] at hx; subst hx; exact hs
      | succ t' => exact h5 t' (by omega) x (by simpa using hx)
theorem of_src {n : NNode} {p : List Nat} (hl : p.length = (p9 n).length) (s : Str) : (ofI n s = -1 ∧ srcL s (p9 n) p = -1) ∨ ∃ m : Nat, srcL s (p9 n) p = (m : Int) ∧ 0 ≤ ofI n s ∧ aw5 (emb n p) (ofI n s) = embF (p9 n) m ∧ m ∈ p := by
 have hcm : ∀ m, 0 ≤ m → m < 0 + n.eqs.length → ∃ q, (fun i => n.eqs[i]?) m = some q := fun m _ h => ⟨n.eqs[m]'(by omega), by simp only; rw [List.getElem?_eq_getElem]⟩
 rcases srcL_spec (s := s) (p9 n) p hl with ⟨h1, h2⟩ | ⟨t, d, m, h1, h2, h3, h4, h5⟩
 ·rcases ofG_rng (s := s) (c := fun i => n.eqs[i]?) n.eqs.length 0 with g | ⟨k, _, g2, g3, ⟨q, g4, g5, g6⟩, _⟩
  ·exact .inl ⟨g, h1⟩
  ·rcases ah5 hl g4 with ⟨u, _⟩ | ⟨_, j, m, u1, u2, u3⟩
   ·rw [g5] at u; cases u
   ·have := h2 _ (List.mem_of_getElem? u1)
    change aa4 (hd1 q) s = false at this
    rw [g6] at this; cases this
 ·obtain ⟨d1, d2, d3⟩ := bj9 h1
  have hds : d.s = hd1 d.q := by rw [d3]; rfl
  have hlt := (List.getElem?_eq_some_iff.1 d1).1
  rcases ofG_rng (s := s) (c := fun i => n.eqs[i]?) n.eqs.length 0 with g | ⟨k, _, g2, g3, ⟨q, g4, g5, g6⟩, g7⟩
  ·have := ofG_no n.eqs.length 0 hcm g d.ix (Nat.zero_le _) (by omega) d.q d1
   exact (this ⟨d2, by rw [← hds]; exact h4⟩).elim
  ·refine .inr ⟨m, h3, by unfold ofI; rw [g3]; omega, ?_, List.mem_of_getElem? h2⟩
   rcases ah5 hl g4 with ⟨u, _⟩ | ⟨_, j, m', u1, u2, u3⟩
   ·rw [g5] at u; cases u
   ·have hjt : j = t := by
     rcases Nat.lt_trichotomy j t with h | h | h
     ·have := h5 j h _ u1
      change aa4 (hd1 q) s = false at this
      rw [g6] at this; cases this
     ·exact h
     ·have := (ao8 h1 u1).1.1 h
      change d.ix < k at this
      exact (g7 d.ix (Nat.zero_le _) this d.q d1 ⟨d2, by rw [← hds]; exact h4⟩).elim
    subst hjt
    rw [h2] at u2; cases u2
    unfold ofI
    rw [g3]
    simp only [aw5, Int.toNat_natCast, u3, Option.getD_some]
theorem ao3 {n : NNode} {a b : Nat} (ha : a < (p9 n).length) (hb : b < (p9 n).length) (h : embF (p9 n) a = embF (p9 n) b) : a = b := by
 obtain ⟨x, hx, _⟩ := ats ha
 obtain ⟨y, hy, _⟩ := ats hb
 rw [ab0 hx, ab0 hy] at h
 exact (ao8 hx hy).2.2 (by omega)
theorem alike_iff {n : NNode} {p : List Nat} (hl : p.length = (p9 n).length) (hv : vld p) {i j : Nat} {x y : Dl} (hx : (p9 n)[i]? = some x) (hy : (p9 n)[j]? = some y) : aw8 n (emb n p) x.q y.q = true ↔ bg7 (p9 n) p x y := by
 have hxt : x.ty = tyN n (hd1 x.q) := by rw [(bj9 hx).2.2]; rfl
 have hyt : y.ty = tyN n (hd1 y.q) := by rw [(bj9 hy).2.2]; rfl
 have hb : ∀ m, m ∈ p → m < (p9 n).length := by
  intro m hm
  obtain ⟨k, hk, e⟩ := List.getElem_of_mem hm
  have := hv k m (by rw [List.getElem?_eq_getElem hk, e])
  omega
 have hpos : ∀ m, m < (p9 n).length → (0 : Int) ≤ embF (p9 n) m := by
  intro m hm
  obtain ⟨d, hd, _⟩ := ats hm
  rw [ab0 hd]; omega
 simp only [aw8, bg7, Bool.and_eq_true, Bool.or_eq_true, beq_iff_eq, decide_eq_true_eq, cks_iff, exB_iff, and_assoc, hxt, hyt]
 constructor
 ·rintro ⟨h1, h2, h3, h4⟩
  refine ⟨h1, h3, h2, ?_⟩
  rcases h4 with h4 | ⟨k1, k2, k3, k4, k5⟩
  ·exact .inl h4
  ·right
   simp only [src, k1, k2, if_true]
   rcases of_src hl x.q.right.nm with ⟨a1, _⟩ | ⟨m, a1, a2, a3, a4⟩
   ·omega
   rcases of_src hl y.q.right.nm with ⟨b1, _⟩ | ⟨m', b1, b2, b3, b4⟩
   ·omega
   rw [a3, b3] at k5
   have := ao3 (hb m a4) (hb m' b4) k5
   subst this
   rw [a1, b1]
   exact ⟨by omega, rfl⟩
 ·rintro ⟨h1, h2, h3, h4⟩
  refine ⟨h1, h3, h2, ?_⟩
  rcases h4 with h4 | ⟨k1, k2⟩
  ·exact .inl h4
  ·right
   by_cases e1 : x.q.right.k = 2
   ·by_cases e2 : y.q.right.k = 2
    ·simp only [src, e1, e2, if_true] at k1 k2
     rcases of_src hl x.q.right.nm with ⟨_, a1⟩ | ⟨m, a1, a2, a3, a4⟩
     ·rw [a1] at k1; omega
     rcases of_src hl y.q.right.nm with ⟨_, b1⟩ | ⟨m', b1, b2, b3, b4⟩
     ·rw [k2, b1] at k1; omega
     rw [a1, b1] at k2
     have : m = m' := by omega
     subst this
     exact ⟨e1, e2, a2, b2, by rw [a3, b3]⟩
    ·simp only [src, e1, e2, if_true, if_false] at k1 k2
     rw [k2] at k1; omega
   ·simp only [src, e1, if_false] at k1
    omega
theorem rnext_emb {n : NNode} {p : List Nat} (hl : p.length = (p9 n).length) (hv : vld p) : ∀ i, i ≤ n.eqs.length → af9 n (emb n p) i = (emb n (r9 (p9 n) p)).take i
 | 0, _ => by simp [af9]
 | i + 1, hi => by
   have ih := rnext_emb hl hv i (by omega)
   have hnl : (r9 (p9 n) p).length = (p9 n).length := aa9 _ _
   have hnv := ag9 (dl := p9 n) hl
   obtain ⟨q, hq, _⟩ := ats (show i < n.eqs.length by omega)
   simp only [af9]
   rw [ih, List.take_add_one]
   congr 1
   have hlt : ∀ {k m : Nat}, p[k]? = some m → m < (p9 n).length := fun {k m} h => by
    have := hv k m h
    have := (List.getElem?_eq_some_iff.1 h).1
    omega
   have hlt' : ∀ {k m : Nat}, (r9 (p9 n) p)[k]? = some m → m < (p9 n).length := fun {k m} h => by
    have := hnv k m h
    have := (List.getElem?_eq_some_iff.1 h).1
    omega
   suffices hs : (emb n (r9 (p9 n) p))[i]? = some (rval n (emb n p) ((emb n (r9 (p9 n) p)).take i) i) by rw [hs]; rfl
   rcases ah5 hl hq with ⟨hD, he⟩ | ⟨hD, j, m, hj, hm, he⟩
   ·rcases ah5 hnl hq with ⟨_, he'⟩ | ⟨hD', _⟩
    ·rw [he']
     simp only [rval, hq, hD, Bool.false_eq_true, if_false, he, Option.getD_some]
    ·rw [hD] at hD'; cases hD'
   ·have hjl := (List.getElem?_eq_some_iff.1 hj).1
    obtain ⟨N, hN⟩ : ∃ N, (r9 (p9 n) p)[j]? = some N := ⟨_, List.getElem?_eq_getElem (by rw [hnl]; exact hjl)⟩
    have he' : (emb n (r9 (p9 n) p))[i]? = some (embF (p9 n) N) := emb_at hnl hj hN
    rw [he']
    simp only [rval, hq, hD, if_true]
    have hro : ∀ k, k < i → (rokK n (emb n p) ((emb n (r9 (p9 n) p)).take i) i k = true ↔ ∃ t d, (p9 n)[t]? = some d ∧ d.ix = k ∧ t < j ∧ (r9 (p9 n) p)[t]? = some t ∧ okK (p9 n) p j t = true) := by
     intro k hk
     obtain ⟨b, hb, _⟩ := ats (show k < n.eqs.length by omega)
     rcases ah5 hl hb with ⟨hDb, hbe⟩ | ⟨hDb, t, mt, ht, hmt, hbe⟩
     ·constructor
      ·intro h
       simp only [rokK, hq, hb, he, hbe] at h
       split at h
       ·rename_i a1 b1 u1 v1 o1 e1 e2 e3 e4 e5
        cases e2
        simp [hDb] at h
       ·cases h
      ·rintro ⟨t, d, h1, h2, _, _, _⟩
       obtain ⟨d1, d2, _⟩ := bj9 h1
       rw [h2, hb] at d1
       cases d1
       rw [hDb] at d2; cases d2
     ·have htl := (List.getElem?_eq_some_iff.1 ht).1
      have htj : t < j := (ao8 ht hj).1.2 hk
      obtain ⟨Nt, hNt⟩ : ∃ Nt, (r9 (p9 n) p)[t]? = some Nt := ⟨_, List.getElem?_eq_getElem (by rw [hnl]; exact htl)⟩
      have hRk : ((emb n (r9 (p9 n) p)).take i)[k]? = some (embF (p9 n) Nt) := by
       rw [List.getElem?_take_of_lt hk]
       exact emb_at hnl ht hNt
      rw [rokK_eq hq hb he hbe hRk]
      have hkt : ((k : Nat) : Int) = embF (p9 n) t := by rw [ab0 ht]; rfl
      simp only [hDb, Bool.true_and, Bool.and_eq_true, beq_iff_eq, hkt]
      have hal := alike_iff hl hv ht hj
      change aw8 n (emb n p) b q = true ↔ _ at hal
      rw [hal]
      constructor
      ·rintro ⟨⟨h1, h2⟩, h3⟩
       have e1 := ao3 (hlt' hNt) htl h1
       have e2 := ao3 (hlt hmt) (hlt hm) h2
       subst e1 e2
       exact ⟨_, _, ht, rfl, htj, hNt, bc2.2 ⟨_, _, _, hj, ht, hm, hmt, like_symm h3⟩⟩
      ·rintro ⟨t', d, h1, h2, h3, h4, h5⟩
       have := (ao8 h1 ht).2.2 h2
       subst this
       rw [ht] at h1; cases h1
       rw [hNt] at h4; cases h4
       obtain ⟨x, y, a, g1, g2, g3, g4, g5⟩ := bc2.1 h5
       rw [hj] at g1; cases g1
       rw [ht] at g2; cases g2
       rw [hm] at g3; cases g3
       rw [hmt] at g4; cases g4
       exact ⟨⟨rfl, rfl⟩, like_symm g5⟩
    cases hf : ac9 (okK (p9 n) p j) 0 j with
    | none =>
      have hall := av3 hf
      have hNj : N = j := by
       have := am1 (dl := p9 n) (p := p) hjl
       rw [hf] at this
       simp only [pick] at this
       change (r9 (p9 n) p)[j]? = some j at this
       rw [hN] at this
       exact Option.some.inj this
      subst hNj
      have : ac9 (rokK n (emb n p) ((emb n (r9 (p9 n) p)).take i) i) 0 i = none := by
       refine findK_no fun k _ hk => ?_
       cases hr : rokK n (emb n p) ((emb n (r9 (p9 n) p)).take i) i k with
       | false => rfl
       | true =>
         obtain ⟨t, d, _, _, h3, _, h5⟩ := (hro k (by omega)).1 hr
         rw [hall t (Nat.zero_le _) (by omega)] at h5
         cases h5
      rw [this, ab0 hj]
      rfl
    | some t =>
      obtain ⟨h1, h2, h3, h4, h5⟩ := first_root hl hjl hf
      obtain rfl : t = N := Option.some.inj (h5.symm.trans hN)
      obtain ⟨d, hd, _⟩ := ats (show t < (p9 n).length by omega)
      have hdi : d.ix < i := (ao8 hd hj).1.1 h1
      have : ac9 (rokK n (emb n p) ((emb n (r9 (p9 n) p)).take i) i) 0 i = some d.ix := by
       refine findK_of ((hro d.ix hdi).2 ⟨t, d, hd, rfl, h1, h4, h2⟩) (Nat.zero_le _) (by omega) fun k _ hk => ?_
       cases hr : rokK n (emb n p) ((emb n (r9 (p9 n) p)).take i) i k with
       | false => rfl
       | true =>
         obtain ⟨t', d', g1, g2, g3, g4, g5⟩ := (hro k (by omega)).1 hr
         have : t' < t := (ao8 g1 hd).1.2 (by omega)
         rw [h3 t' this] at g5
         cases g5
      rw [this, ab0 hd]
theorem rnext_all {n : NNode} {p : List Nat} (hl : p.length = (p9 n).length) (hv : vld p) : af9 n (emb n p) (emb n p).length = emb n (r9 (p9 n) p) := by
 rw [ae0, rnext_emb hl hv _ (Nat.le_refl _)]
 exact List.take_of_length_le (by rw [ae0]; exact Nat.le_refl _)
theorem emb_inj {n : NNode} {p q : List Nat} (hp : p.length = (p9 n).length) (hq : q.length = (p9 n).length) (hvp : vld p) (hvq : vld q) (h : emb n p = emb n q) : p = q := by
 apply List.ext_getElem?
 intro j
 by_cases hj : j < (p9 n).length
 ·obtain ⟨d, hd, _⟩ := ats hj
  obtain ⟨a, ha, _⟩ := ats (show j < p.length by omega)
  obtain ⟨b, hb, _⟩ := ats (show j < q.length by omega)
  have h1 := emb_at hp hd ha
  have h2 := emb_at hq hd hb
  rw [h, h2] at h1
  have e := Option.some.inj h1
  have e1 := hvp j a ha
  have e2 := hvq j b hb
  rw [ha, hb, ao3 (by omega) (by omega) e]
 ·rw [List.getElem?_eq_none (by omega), List.getElem?_eq_none (by omega)]
def bf8 (n : NNode) : Nat → Int
 | 0 => -1
 | i + 1 => match n.eqs[i]? with
   | some q => if isD q = true then (if bf8 n i < 0 then (i : Int) else bf8 n i) else bf8 n i
   | none => bf8 n i
def numv (n : NNode) (i : Nat) : Int := match n.eqs[i]? with
 | some q => if isD q = true then bf8 n (i + 1) else -1
 | none => -1
def num0 (n : NNode) : Nat → List Int
 | 0 => []
 | i + 1 => num0 n i ++ [numv n i]
theorem fstD_dl (n : NNode) : ∀ i, i ≤ n.eqs.length → bf8 n i = match (dlL n 0 (n.eqs.take i))[0]? with
  | some d => (d.ix : Int)
  | none => -1
 | 0, _ => by simp [bf8, dlL]
 | i + 1, hi => by
   obtain ⟨q, hq, _⟩ := ats (show i < n.eqs.length by omega)
   have ih := fstD_dl n i (by omega)
   rw [ay9 hq]
   simp only [bf8, hq]
   cases hl : dlL n 0 (n.eqs.take i) with
   | nil =>
     rw [hl] at ih
     simp only [List.getElem?_nil] at ih
     rw [ih]
     cases hD : isD q <;> simp [mkDl]
   | cons d l =>
     rw [hl] at ih
     simp only [List.getElem?_cons_zero] at ih
     rw [ih]
     have : ¬ ((d.ix : Int) < 0) := Int.not_lt.2 (Int.natCast_nonneg _)
     cases hD : isD q <;> simp [this]
theorem num0_emb (n : NNode) : ∀ i, i ≤ n.eqs.length → num0 n i = (emb n (zer n)).take i
 | 0, _ => by simp [num0]
 | i + 1, hi => by
   obtain ⟨q, hq, _⟩ := ats (show i < n.eqs.length by omega)
   simp only [num0]
   rw [num0_emb n i (by omega), List.take_add_one]
   congr 1
   suffices hs : (emb n (zer n))[i]? = some (numv n i) by rw [hs]; rfl
   rcases ah5 (ap0 n) hq with ⟨hD, he⟩ | ⟨hD, j, m, hj, hm, he⟩
   ·rw [he]; simp only [numv, hq, hD, Bool.false_eq_true, if_false]
   ·have hm0 : m = 0 := by
     have := List.mem_of_getElem? hm
     exact List.eq_of_mem_replicate this
    subst hm0
    rw [he]
    simp only [numv, hq, hD, if_true]
    rw [fstD_dl n (i + 1) hi]
    have hpre : p9 n = dlL n 0 (n.eqs.take (i + 1)) ++ dlL n (0 + (n.eqs.take (i + 1)).length) (n.eqs.drop (i + 1)) := by
     rw [← dlL_app, List.take_append_drop]; rfl
    have hne : 0 < (dlL n 0 (n.eqs.take (i + 1))).length := by
     rw [ay9 hq, hD]; simp
    have h0 : (p9 n)[0]? = (dlL n 0 (n.eqs.take (i + 1)))[0]? := by
     conv => lhs; rw [hpre]
     exact List.getElem?_append_left hne
    simp only [embF, h0]
    all_goals (generalize (dlL n 0 (n.eqs.take (i + 1)))[0]? = o; cases o <;> rfl)
set_option maxHeartbeats 2000000 in
theorem numbers_pc (n : NNode) (hok : n.ok) : PC Tryz.prog 25 [.ag n.row] (.ts (al6 (emb n (fin (p9 n) (zer n))))) := by
 have hne := hok.2.2.2.1
 unfold Lst.ok at hne
 refine ac1 Tryz.func25 k25 rfl ?_
 repeat' (first
  | (simp only [c25, u5, u4, SXR, simprocAttr]))
 refine o8 (X := Nat) (fun i ll hs => ∃ (v : V) (T0 T J : List O), Hd (fun j => [.ag n.row, .p 0 0, .ns, v, .i .i64 (bf8 n i), .i .i64 (i : Int), j 6, j 7, j 8, j 9, j 10, j 11, j 12, j 13, j 14, j 15, j 16, j 17, j 18, j 19, j 20, j 21, j 22, j 23, j 24, j 25, j 26, j 27, j 28, j 29, j 30, j 31, j 32, j 33, j 34, j 35, j 36, j 37]) ll ∧ hs = .c false n.row :: (T ++ J) ∧
   GT 1 1 i v T0 T (zcs (num0 n i)) ∧ T.all ocl = true ∧ J.all ocl = true)
  (fun i => i ≤ n.eqs.length) (fun i => n.eqs.length - i) ?_ 0 _ _ (by exact ⟨.ns, [], [], [], rfl, rfl, .inl ⟨rfl, rfl, rfl, rfl⟩, rfl, rfl⟩) (Nat.zero_le _)
 rintro i _ _ ⟨v, T0, T, J, e, rfl, hGT, hTc, hJc⟩ hi IH
 obtain ⟨j, rfl⟩ := e.open
 clear e
 obtain ⟨W, hW⟩ : ∃ W, W = T ++ J := ⟨_, rfl⟩
 rw [← hW]
 by_cases hil : i < n.eqs.length
 ·obtain ⟨q, hq, hqm⟩ := ats hil
  have hqr := mg (f := NEqn.row) hq
  have hd := ltd hil
  have hw := l6 (n := i) (by omega)
  have hc := ar0 q
  have hroom := p6 (n := i + 1) (b := 8) (by omega) (by omega)
  obtain ⟨m, hm⟩ : ∃ m, m = numv n i := ⟨_, rfl⟩
  have hnx : zcs (num0 n i) ++ [.i .i64 m] = zcs (num0 n (i + 1)) := by rw [zcs_snoc, hm]; rfl
  obtain ⟨v', T0', T', J', hgt, hap, hoc⟩ := hGT.appR (rows := [[.i .i64 m]]) (bytes := 8) (by omega) (by simp) hroom (J ++ [.c false [.i .i64 m]])
  have hfl : ([[.i .i64 m]] : List (List V)).flatten = [.i .i64 m] := rfl
  have hll : ([[.i .i64 m]] : List (List V)).length = 1 := rfl
  rw [hfl, hll, hnx] at hgt
  rw [hfl, hnx] at hoc
  obtain ⟨hTc', hJc'⟩ := hoc hTc (by simp only [List.all_append, List.all_cons, List.all_nil, hJc, t8, clL, V.cl, Bool.and_self]) (zcs_cl _)
  have hap' : ∀ (rb k' : Nat), rb + k' = W.length + 2 → ah6 rb (.c false n.row :: (W ++ [.c false [.i .i64 m], .no])) k' v (some [.i .i64 m]) (some 1) 1 8
    = some (v', .c false n.row :: (T' ++ J')) := by
   intro rb k' h
   have := hap [.c false n.row] rb k' rfl (by rw [h, hW]; simp; omega)
   rw [hfl, hll] at this
   rw [hW]
   simp only [List.append_assoc, List.cons_append, List.nil_append] at this ⊢
   exact this
  clear hap hoc hnx hfl hll
  cases hD : isD q with
  | false =>
    obtain rfl : m = -1 := by rw [hm]; simp only [numv, hq, hD, Bool.false_eq_true, if_false]
    have hfs : bf8 n (i + 1) = bf8 n i := by simp only [bf8, hq, hD, Bool.false_eq_true, if_false]
    rw [hD] at hc
    repeat' (first
     | (with_reducible refine b8 (hc) (by simp only [SXR, j5]) (by simp only [SXR, j5]) ?_)
     | (simp only [c25, u5, u4, e8, nn4, List.length_map, hqr, hd, hw, f0, i5, j5, hap', Nat.add_assoc, SXR, simprocAttr]))
    exact IH (i + 1) _ _ (by rw [hfs]; exact ⟨v', T0', T', J', rfl, rfl, hgt, hTc', hJc'⟩) hil (by omega)
  | true =>
    rw [hD] at hc
    have hme : m = bf8 n (i + 1) := by rw [hm]; simp only [numv, hq, hD, if_true]
    by_cases hneg : bf8 n i < 0
    ·have hnb : decide (bf8 n i < 0) = true := by simpa using hneg
     have hfs : bf8 n (i + 1) = (i : Int) := by simp only [bf8, hq, hD, if_true, if_pos hneg]
     obtain rfl : m = (i : Int) := by rw [hme, hfs]
     repeat' (first
      | (with_reducible refine b8 (hc) (by simp only [SXR, j5]) (by simp only [SXR, j5]) ?_)
      | (simp only [c25, u5, u4, e8, nn4, List.length_map, hqr, hd, hw, hnb, f0, i5, j5, hap', Nat.add_assoc, SXR, simprocAttr]))
     exact IH (i + 1) _ _ (by rw [hfs]; exact ⟨v', T0', T', J', rfl, rfl, hgt, hTc', hJc'⟩) hil (by omega)
    ·have hnb : decide (bf8 n i < 0) = false := by simpa using hneg
     have hfs : bf8 n (i + 1) = bf8 n i := by simp only [bf8, hq, hD, if_true, if_neg hneg]
     obtain rfl : m = bf8 n i := by rw [hme, hfs]
     repeat' (first
      | (with_reducible refine b8 (hc) (by simp only [SXR, j5]) (by simp only [SXR, j5]) ?_)
      | (simp only [c25, u5, u4, e8, nn4, List.length_map, hqr, hd, hw, hnb, f0, i5, j5, hap', Nat.add_assoc, SXR, simprocAttr]))
     exact IH (i + 1) _ _ (by rw [hfs]; exact ⟨v', T0', T', J', rfl, rfl, hgt, hTc', hJc'⟩) hil (by omega)
 ·clear IH
  have hie : i = n.eqs.length := by omega
  have hd := ltn hil
  have hn0 := num0_emb n i hi
  rw [hie, List.take_of_length_le (by rw [ae0]; exact Nat.le_refl _), ← hie] at hn0
  rw [hn0] at hGT
  obtain ⟨us, hus⟩ : ∃ us, us = O.c false n.row :: W := ⟨_, rfl⟩
  have hA0 : hpL us 0 = .c false n.row := by rw [hus]; rfl
  have hlt : ltO us.length us = true := by
   refine af4 ?_
   rw [hus, hW]
   simp only [List.all_cons, List.all_append, t8, b9, hTc, hJc, Bool.and_self]
  have hRS : RP us v (emb n (zer n)) ∧ Se (hpL us) (fun _ => True) v (.ts (al6 (emb n (zer n)))) := by
   have hel := ae0 n (zer n)
   rcases hGT with ⟨h1, h2, h3, h4⟩ | ⟨h1, h2, h3, h4⟩
   ·have : emb n (zer n) = [] := List.length_eq_zero_iff.1 (by omega)
    rw [this, h2]
    exact ⟨RP.ns _, .nil⟩
   ·have h5 : hpL us (1 + T0.length) = .c true (zcs (emb n (zer n))) := by
     rw [hus, hW, h2, show O.c false n.row :: (T0 ++ [O.c true (zcs (emb n (zer n)))] ++ J) = (.c false n.row :: T0) ++ .c true (zcs (emb n (zer n))) :: J by simp, show 1 + T0.length = (O.c false n.row :: T0).length by simp; omega]
     exact hp_ap0
    have h6 := RP.sl h5
    rw [hel, ← hie] at h6
    rw [h3]
    exact ⟨h6, Se.flat' h5 (bh3 _).symm (by rw [ab9, hel, hie]) trivial zrows_w⟩
  rw [← hus]
  clear hGT hn0 hus hW hTc hJc
  repeat' (first
   | (simp only [c25, u5, u4, e8, nn4, List.length_map, hA0, hd, SXR, simprocAttr]))
  refine o8 (X := List Nat) (fun P ll hs => ∃ (pv : V), Hd (fun j => [.ag n.row, .p 0 0, .ns, pv, j 4, j 5, j 6, j 7, j 8, j 9, j 10, j 11, j 12, j 13, j 14, j 15, j 16, j 17, j 18, j 19, j 20, j 21, j 22, j 23, j 24, j 25, j 26, j 27, j 28, j 29, j 30, j 31, j 32, j 33, j 34, j 35, j 36, j 37]) ll ∧ hs = us ∧ RP us pv (emb n P) ∧ Se (hpL us) (fun _ => True) pv (.ts (al6 (emb n P))))
   (fun P => P.length = (p9 n).length ∧ vld P ∧ fin (p9 n) (zer n) = fin (p9 n) P) (fun P => (p9 n).length - bg6 P) ?_ (zer n) _ _ (by exact ⟨v, rfl, rfl, hRS.1, hRS.2⟩) ⟨ap0 n, at7 n, rfl⟩
  rintro P _ hs ⟨pv, e, rfl, hrp, hse⟩ ⟨hPl, hPv, hPf⟩ IQ
  obtain ⟨j, rfl⟩ := e.open
  clear e hRS
  have hrr := rrefine_ac n (emb n P) hrp hlt hok (ae0 n P)
  rw [rnext_all hPl hPv] at hrr
  have hsm := rsamel_ac (RP.ts hs (emb n (r9 (p9 n) P))) hrp ((ae0 _ _).trans (ae0 _ _).symm) (by rw [ae0]; exact hne) hlt
  have hnl : (r9 (p9 n) P).length = (p9 n).length := aa9 _ _
  by_cases hsame : r9 (p9 n) P = P
  ·rw [hPf, fin_same hsame]
   have hb : (emb n (r9 (p9 n) P) == emb n P) = true := by rw [hsame]; simp
   rw [hb] at hsm
   repeat' (first
    | (with_reducible refine i7 (hrr) ?_)
    | (with_reducible refine i7 (hsm) ?_)
    | (simp only [c25, u5, u4, e8, j7, hA0, SXR, simprocAttr]))
   exact hse
  ·have hb : (emb n (r9 (p9 n) P) == emb n P) = false := by
    rw [beq_eq_false_iff_ne]
    exact fun h => hsame (emb_inj hnl hPl (ag9 hPl) hPv h)
   rw [hb] at hsm
   repeat' (first
    | (with_reducible refine i7 (hrr) ?_)
    | (with_reducible refine i7 (hsm) ?_)
    | (simp only [c25, u5, u4, e8, j7, hA0, SXR, simprocAttr]))
   have h1 := aq6 hPl hPv hsame
   have h2 := aq7 (r9 (p9 n) P)
   exact IQ (r9 (p9 n) P) _ _ (by exact ⟨_, rfl, rfl, RP.ts _ _, .same _⟩) ⟨hnl, ag9 hPl, by rw [hPf, fin_next hPl hPv hsame]⟩ (by omega)
end Go.Proofs.YtieogkafbnnjcaaGreatDoor
