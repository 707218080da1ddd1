/-
  graph.Cycle.
  SchedExists.
-/
import Derived.Test.YtagogibgoknncaaGreatDoorPi
set_option linter.unusedSimpArgs false
set_option linter.unusedVariables false
namespace Go.Proofs.YtagogibgoknncaaGreatDoor
open Go Go.B
theorem RW.arr {α : Type} {f : α → List V} {wd B : Nat} {gr : Bool} {js : List O} {l : List α} (hB : hpL js B = .c gr (fl f l)) (hf : ∀ x, (f x).length = wd) : RW f wd js (.sl B 0 wd l.length none) l := by
 refine ⟨af5, fun i x hx => ⟨.p B (i * wd), ae0 (List.getElem?_eq_some_iff.1 hx).1, fun ks => ?_⟩⟩
 rw [ld_p, j2 hB]
 refine ld_row (p := fl f (l.take i)) (s := fl f (l.drop (i + 1))) ?_ ?_ (hf x)
 ·conv => lhs; rw [← List.take_append_drop i l, t6 hx]
  simp [fl]
 ·rw [aq0 hf, List.length_take, Nat.min_eq_left (Nat.le_of_lt (List.getElem?_eq_some_iff.1 hx).1)]
def ae6 (L : List (Nat × Nat)) (i : Nat) : List V := fl ag2 (L.take i) ++ (List.replicate (L.length - i) [V.i .i64 0, .i .i64 0]).flatten
theorem ec_0 (L : List (Nat × Nat)) : ae6 L 0 = (List.replicate L.length [V.i .i64 0, .i .i64 0]).flatten := by simp [ae6, fl]
theorem ec_N (L : List (Nat × Nat)) : ae6 L L.length = fl ag2 L := by simp [ae6]
theorem ec_len {L : List (Nat × Nat)} {i : Nat} (h : i ≤ L.length) : (ae6 L i).length = L.length * 2 := by
 unfold ae6
 rw [List.length_append, aq0 bc1, List.length_take, Nat.min_eq_left h, as0 (wd := 2) (fun r hr => by rw [(List.mem_replicate.1 hr).2]; rfl), List.length_replicate]
 omega
theorem put_mid (A R : List V) (a b x y : V) : putAt (A ++ a :: b :: R) A.length [x, y] = A ++ x :: y :: R := by
 simp only [putAt]
 rw [List.set_append_right _ _ (Nat.le_refl _), Nat.sub_self, List.set_cons_zero, List.set_append_right _ _ (by omega), show A.length + 1 - A.length = 1 by omega]
 rfl
theorem ec_put {L : List (Nat × Nat)} {i : Nat} {x : Nat × Nat} (h : L[i]? = some x) : putAt (ae6 L i) (i * 2) (ag2 x) = ae6 L (i + 1) := by
 have hi := (List.getElem?_eq_some_iff.1 h).1
 have hA : (fl ag2 (L.take i)).length = i * 2 := by rw [aq0 bc1, List.length_take, Nat.min_eq_left (by omega)]
 unfold ae6
 rw [show L.length - i = (L.length - (i + 1)) + 1 by omega, List.replicate_succ, List.flatten_cons, List.take_add_one, h, fl_app]
 simp only [List.cons_append, List.nil_append, Option.toList_some, as1]
 rw [← hA]
 simp only [ag2]
 rw [put_mid]
 simp
theorem cyF_len {nx : Nat → List Nat} {d : Nat → Option Nat} {v : Nat} : ∀ {l a : Nat} {c : List Nat}, c.length ≤ (cyF nx d v l a c).length ∧ (cyF nx d v l a c).length ≤ c.length + l
 | 0, a, c => ⟨Nat.le_refl _, Nat.le_refl _⟩
 | l + 1, a, c => by
   simp only [cyF]
   split
   ·exact ⟨Nat.le_refl _, by omega⟩
   ·rename_i w _
    have := cyF_len (nx := nx) (d := d) (v := v) (l := l) (a := w) (c := c ++ [w])
    simp only [List.length_append, List.length_cons, List.length_nil] at this
    omega
theorem arF_len {nx bf : Nat → List Nat} {n v most : Nat} {c : List Nat} (h : arF nx bf n v most = some c) : 1 ≤ c.length ∧ c.length ≤ most := by
 unfold arF at h
 split at h
 ·cases h
 ·rename_i hne
  cases h
  rcases bh8 (d := ai6 bf n v) (v := v) (l := nx v) (b := most) with h | ⟨h1, w, h2, h3, h4, h5⟩
  ·exact (hne h).elim
  ·have := cyF_len (nx := nx) (d := ai6 bf n v) (v := v) (l := bsF (ai6 bf n v) v (nx v) most - 1) (a := v) (c := [v])
   simp only [List.length_cons, List.length_nil] at this
   omega
theorem gcF_len {nx bf : Nat → List Nat} {n : Nat} : ∀ {k : Nat} {c : List Nat}, gcF nx bf n k = some c → 1 ≤ c.length ∧ c.length ≤ n + 1
 | 0, c, h => by simp [gcF] at h
 | k + 1, c, h => by
   simp only [gcF] at h
   split at h
   ·exact gcF_len h
   ·rename_i c' hc
    cases h
    have h1 := arF_len hc
    refine ⟨h1.1, Nat.le_trans h1.2 ?_⟩
    cases hg : gcF nx bf n k with
    | none => exact Nat.le_refl _
    | some b => exact (gcF_len hg).2
theorem isn_c {c : List Nat} (h : 1 ≤ c.length) : isNil 0 (.ts (p6 c)) = some false := by
 cases c with
 | nil => simp at h
 | cons a l => rfl
set_option maxRecDepth 10000 in
set_option maxHeartbeats 8000000 in
theorem gcycle_ac {js : List O} {ev : V} {E : List (Nat × Nat)} {N : Nat} (hE : RW ag2 2 js ev E) (hN : N ≤ 200) (hl : E.length < 1000000) (hb : ∀ e, e ∈ E → e.1 < N ∧ e.2 < N) (hasc : ∀ i, Asc (nxt E i)) (hnl : ∀ i, (nxt E i).length < 256)
  (hasc2 : ∀ i, Asc (nxt (E.map an8) i)) (hnl2 : ∀ i, (nxt (E.map an8) i).length < 256) (hd : ∀ u w, u ∈ nxt (E.map an8) w ↔ w ∈ nxt E u) (hlt : ltO js.length js = true) :
  ACalls Tryz.prog 9 [.i .i64 (N : Int), ev] (hpL js) js.length (.tu [arV (gcF (nxt E) (nxt (E.map an8)) N N), .i .i64 (if gcF (nxt E) (nxt (E.map an8)) N N = none then 8 else 0)]) (hpL js) js.length := by
 have hval := gvalid_ac hE hN hl hb hlt
 have hnb := ba8 hE hN hl hb hasc hnl hlt
 have hlen := hE.len
 have hSl : (E.map an8).length = E.length := List.length_map ..
 have hmk : ∀ hs a, mksB hs a 2 16 [.i .i64 0, .i .i64 0] (.i .i64 0) (.i .i64 (E.length : Int)) = (u6 hs a (.c false (ae6 (E.map an8) 0))).map fun h => (0, h) := by
  intro hs a
  show (if 0 ≤ (0 : Int) ∧ (0 : Int) ≤ (E.length : Int) ∧ (E.length : Int) ≤ 1073741824 ∧ (16 : Nat) * (E.length : Int) ≤ 281474976710656 ∧ [V.i .i64 0, V.i .i64 0].length = 2 then (u6 hs a (.c false (List.replicate (E.length : Int).toNat [V.i .i64 0, V.i .i64 0]).flatten)).map fun h => ((0 : Int).toNat, h) else none) = _
  rw [if_pos ⟨by omega, by omega, by omega, by omega, rfl⟩, ec_0, hSl, Int.toNat_natCast]
  rfl
 have hcl : (V.tu [arV (gcF (nxt E) (nxt (E.map an8)) N N), .i .i64 (if gcF (nxt E) (nxt (E.map an8)) N N = none then 8 else 0)]).cl = true := by
  simp only [V.cl, clL, arV_cl, Bool.and_self]
 refine at1 Tryz.func9 k9 rfl rfl hcl hlt ?_
 repeat' (first
  | ((with_reducible refine b8 (fun h => ?_) (fun h => ?_)) <;> simp only [h, r9, r8, hlen, hmk, SXR, simprocAttr])
  | (with_reducible refine e8 (hval) ?_)
  | (with_reducible refine e8 (hnb) ?_)
  | (simp only [c9, r9, r8, hlen, hmk, SXR, simprocAttr]))
 refine m5 (X := Nat) (fun i ll hs => ∃ zs : List O, Hd (fun j => [.i .i64 (N : Int), j 1, j 2, j 3, j 4, j 5, .ts (ac5 N (nxt E)), .sl js.length 0 2 i none, j 8, j 9, j 10, j 11, j 12, j 13, j 14, j 15, j 16, j 17, j 18, j 19, j 20, j 21, j 22, j 23, j 24, ev, .i .i64 (E.length : Int), .i .i64 (i : Int), j 28, j 29, j 30, j 31, j 32, j 33, j 34, j 35, j 36, j 37, j 38, j 39, j 40, j 41, j 42, j 43, j 44, j 45, j 46, j 47, j 48, j 49, j 50, j 51, j 52, j 53, j 54, j 55, j 56, j 57, j 58, j 59, j 60, j 61, j 62, j 63, j 64]) ll ∧ hs = js ++ .c false (ae6 (E.map an8) i) :: zs ∧ zs.all ocl = true)
  (fun i => i ≤ E.length) (fun i => E.length - i) ?_ 0 _ _ (by exact ⟨[], rfl, rfl, rfl⟩) (Nat.zero_le _)
 clear hval hnb hmk
 rintro i _ _ ⟨zs, e, rfl, hzs⟩ hi IH
 obtain ⟨j, rfl⟩ := e.open
 clear e
 by_cases hil : i < E.length
 ·obtain ⟨x, hx, hxm⟩ := ats hil
  obtain ⟨ad, g1, g2⟩ := hE.get i x hx
  have g2' : ∀ ks, ldE (hpL (js ++ ks)) 2 true ad = some (.ag [.i .i64 (x.1 : Int), .i .i64 (x.2 : Int)]) := g2
  have hdc := ltd hil
  have hw := j1 (n := i) (by omega)
  have hput := ec_put (L := E.map an8) (i := i) (x := an8 x) (by rw [List.getElem?_map, hx]; rfl)
  have hap : ∀ (rb k : Nat) (ks : List O), ag9 rb (js ++ .c false (ae6 (E.map an8) i) :: ks) k (.sl js.length 0 2 i none) (some [.i .i64 (x.2 : Int), .i .i64 (x.1 : Int)]) (some 1) 2 16 = some (.sl js.length 0 2 (i + 1) none, js ++ .c false (ae6 (E.map an8) (i + 1)) :: ks) := fun rb k ks => by
   have := app_fit (hs := js ++ .c false (ae6 (E.map an8) i) :: ks) (rb := rb) (k := k) (a := js.length) (len := i) (wd := 2) (bytes := 16) (gr := false) (cs := ae6 (E.map an8) i) (rows := [ag2 (an8 x)]) rfl ab9 (by simp) (by rw [ec_len (by omega)]; simp only [List.length_cons, List.length_nil]; omega) (fun h => by simp at h)
   simp only [List.flatten_cons, List.flatten_nil, List.append_nil, List.length_cons, List.length_nil, Nat.zero_add, hput] at this
   refine Eq.trans this ?_
   rw [hs_ap0]
   rfl
  repeat' (first
   | ((with_reducible refine b8 (fun h => ?_) (fun h => ?_)) <;> simp only [h, r9, r8, hdc, hw, g1, g2', hap, Nat.add_assoc, SXR, simprocAttr])
   | (simp only [c9, r9, r8, hdc, hw, g1, g2', hap, Nat.add_assoc, SXR, simprocAttr]))
  exact IH (i + 1) _ _ (by exact ⟨_, rfl, rfl, by simp only [List.all_append, List.all_cons, List.all_nil, hzs]; rfl⟩) hil (by omega)
 ·clear IH
  have hie : i = E.length := by omega
  subst hie
  have hdc := ltn hil
  have hec : ae6 (E.map an8) E.length = fl ag2 (E.map an8) := by rw [← hSl]; exact ec_N _
  rw [hec]
  obtain ⟨H, hH⟩ : ∃ H, H = js ++ .c false (fl ag2 (E.map an8)) :: zs := ⟨_, rfl⟩
  have hHl : ltO H.length H = true := by
   rw [hH]
   refine aa7 (by simp) hlt ?_
   simp only [List.all_cons, ac4, fl_cl bc2, hzs, Bool.and_self]
  have hHb : hpL H js.length = .c false (fl ag2 (E.map an8)) := by rw [hH]; exact ab9
  have hRW := RW.arr hHb bc1
  rw [hSl] at hRW
  have hb2 : ∀ e, e ∈ E.map an8 → e.1 < N ∧ e.2 < N := fun e he => by
   obtain ⟨x, hx, rfl⟩ := List.mem_map.1 he
   exact ⟨(hb x hx).2, (hb x hx).1⟩
  have hnb2 := ba8 hRW hN (by omega) hb2 hasc2 hnl2 hHl
  have hHe : ∃ Z, H = js ++ Z := ⟨_, hH⟩
  rw [← hH]
  clear hH
  repeat' (first
   | ((with_reducible refine b8 (fun h => ?_) (fun h => ?_)) <;> simp only [h, r9, r8, hdc, SXR, simprocAttr])
   | (with_reducible refine e8 (hnb2) ?_)
   | (simp only [c9, r9, r8, hdc, SXR, simprocAttr]))
  have hbn : ∀ w u, u ∈ nxt (E.map an8) w → u < N := fun w u hu => by
   simp only [nxt, nxF, List.mem_map, List.mem_filter] at hu
   obtain ⟨e, ⟨he, _⟩, rfl⟩ := hu
   exact (hb2 e (List.mem_of_mem_take he)).2
  have hbn2 : ∀ w u, u ∈ nxt E w → u < N := fun w u hu => by
   simp only [nxt, nxF, List.mem_map, List.mem_filter] at hu
   obtain ⟨e, ⟨he, _⟩, rfl⟩ := hu
   exact (hb e (List.mem_of_mem_take he)).2
  generalize nxt (E.map an8) = bf at *
  generalize nxt E = nx at *
  have hwN := j1 (n := N) (by omega)
  refine m5 (X := Nat) (fun k ll hs => ∃ y : Unit, Hd (fun j => [.i .i64 (N : Int), j 1, j 2, j 3, j 4, j 5, .ts (ac5 N nx), j 7, j 8, j 9, .ts (ac5 N bf), arV (gcF nx bf N k), j 12, j 13, j 14, j 15, j 16, j 17, j 18, j 19, j 20, j 21, j 22, j 23, j 24, j 25, j 26, j 27, j 28, j 29, j 30, j 31, j 32, j 33, j 34, j 35, j 36, j 37, j 38, j 39, j 40, j 41, j 42, .i .i64 (N : Int), .i .i64 (k : Int), j 45, j 46, j 47, j 48, j 49, j 50, j 51, j 52, j 53, j 54, j 55, j 56, j 57, j 58, j 59, j 60, j 61, j 62, j 63, j 64]) ll ∧ hs = H)
   (fun k => k ≤ N) (fun k => N - k) ?_ 0 _ _ (by exact ⟨(), rfl, rfl⟩) (Nat.zero_le _)
  clear hnb2 hdc
  rintro k _ _ ⟨_, e, rfl⟩ hk IH
  obtain ⟨j, rfl⟩ := e.open
  clear e
  by_cases hkl : k < N
  ·have hdk := ltd hkl
   have hwk := j1 (n := k) (by omega)
   have hstep : gcF nx bf N (k + 1) = match arF nx bf N k (mostF N (gcF nx bf N k)) with
    | none => gcF nx bf N k
    | some c => some c := rfl
   cases hg : gcF nx bf N k with
   | none =>
     rw [hg] at hstep
     simp only [mostF] at hstep
     have har := bg9 (nx := nx) (bf := bf) (v := k) (most := N + 1) hN hkl (by omega) hbn hnl2 hnl hbn2 hd hHl
     have hn0 : isNil 0 .ns = some true := rfl
     cases ha : arF nx bf N k (N + 1) with
     | none =>
       rw [ha] at har hstep
       simp only [arV] at har ⊢
       repeat' (first
        | ((with_reducible refine b8 (fun h => ?_) (fun h => ?_)) <;> simp only [h, r9, r8, hdk, hwk, hwN, hn0, SXR, simprocAttr])
        | (with_reducible refine e8 (har) ?_)
        | (simp only [c9, r9, r8, hdk, hwk, hwN, hn0, SXR, simprocAttr]))
       exact IH (k + 1) _ _ (by rw [hstep]; exact ⟨(), rfl, rfl⟩) hkl (by omega)
     | some c =>
       have hc := arF_len ha
       have hnc := isn_c hc.1
       rw [ha] at har hstep
       simp only [arV] at har ⊢
       repeat' (first
        | ((with_reducible refine b8 (fun h => ?_) (fun h => ?_)) <;> simp only [h, r9, r8, hdk, hwk, hwN, hn0, hnc, SXR, simprocAttr])
        | (with_reducible refine e8 (har) ?_)
        | (simp only [c9, r9, r8, hdk, hwk, hwN, hn0, hnc, SXR, simprocAttr]))
       exact IH (k + 1) _ _ (by rw [hstep]; exact ⟨(), rfl, rfl⟩) hkl (by omega)
   | some b =>
     have hbl := gcF_len hg
     have hnb := isn_c hbl.1
     have hbi := ah0 b
     rw [hg] at hstep
     simp only [mostF] at hstep
     have har := bg9 (nx := nx) (bf := bf) (v := k) (most := b.length) hN hkl (by omega) hbn hnl2 hnl hbn2 hd hHl
     cases ha : arF nx bf N k b.length with
     | none =>
       have hn0 : isNil 0 .ns = some true := rfl
       rw [ha] at har hstep
       simp only [arV] at har ⊢
       repeat' (first
        | ((with_reducible refine b8 (fun h => ?_) (fun h => ?_)) <;> simp only [h, r9, r8, hdk, hwk, hwN, hn0, hnb, ab8, hbi, SXR, simprocAttr])
        | (with_reducible refine e8 (har) ?_)
        | (simp only [c9, r9, r8, hdk, hwk, hwN, hn0, hnb, ab8, hbi, SXR, simprocAttr]))
       exact IH (k + 1) _ _ (by rw [hstep]; exact ⟨(), rfl, rfl⟩) hkl (by omega)
     | some c =>
       have hc := arF_len ha
       have hnc := isn_c hc.1
       rw [ha] at har hstep
       simp only [arV] at har ⊢
       repeat' (first
        | ((with_reducible refine b8 (fun h => ?_) (fun h => ?_)) <;> simp only [h, r9, r8, hdk, hwk, hwN, hnb, hnc, ab8, hbi, SXR, simprocAttr])
        | (with_reducible refine e8 (har) ?_)
        | (simp only [c9, r9, r8, hdk, hwk, hwN, hnb, hnc, ab8, hbi, SXR, simprocAttr]))
       exact IH (k + 1) _ _ (by rw [hstep]; exact ⟨(), rfl, rfl⟩) hkl (by omega)
  ·clear IH
   have hke : k = N := by omega
   subst hke
   have hdk := ltn hkl
   obtain ⟨Z, hZ⟩ := hHe
   cases hg : gcF nx bf k k with
   | none =>
     have hn0 : isNil 0 .ns = some true := rfl
     simp only [arV, if_true]
     repeat' (first
      | ((with_reducible refine b8 (fun h => ?_) (fun h => ?_)) <;> simp only [h, r9, r8, hdk, hn0, SXR, simprocAttr])
      | (simp only [c9, r9, r8, hdk, hn0, SXR, simprocAttr]))
     exact ⟨.same _, Z, hZ⟩
   | some c =>
     have hnc := isn_c (gcF_len hg).1
     simp only [arV]
     rw [if_neg (by simp)]
     repeat' (first
      | ((with_reducible refine b8 (fun h => ?_) (fun h => ?_)) <;> simp only [h, r9, r8, hdk, hnc, SXR, simprocAttr])
      | (simp only [c9, r9, r8, hdk, hnc, SXR, simprocAttr]))
     exact ⟨.same _, Z, hZ⟩
structure EI (r : List V) (H : List O) (lv : V) (E : List (Nat × Nat)) : Prop where
 nr : hpL H 0 = .c false r
 ou : NR ag2 2 H lv E
 oK : ∀ B o w m c, lv = .sl B o w m c → 1 ≤ B
 lt : ltO H.length H = true
theorem EI.app {r : List V} {H : List O} {lv : V} {E : List (Nat × Nat)} (h : EI r H lv E) (e : Nat × Nat) (hn : E.length < 1000000) :
  ∃ (lv' : V) (H' : List O), (∀ rb k, rb + k = H.length + 1 → ag9 rb (H ++ [.c false [.i .i64 (e.1 : Int), .i .i64 (e.2 : Int)], .no]) k lv (some [.i .i64 (e.1 : Int), .i .i64 (e.2 : Int)]) (some 1) 2 16 = some (lv', H')) ∧ EI r H' lv' (E ++ [e]) := by
 have hl0 := t8 h.nr
 have hap := h.ou.app1 (by omega) bc1 e (bytes := 16) (v9 (by omega) (by omega)) [.c false (ag2 e)]
 have hother : ∀ a, a < 1 → hpL (ak8 H lv ++ ([O.c false (ag2 e)] ++ [O.c true (fl ag2 (E ++ [e]))])) a = hpL H a := fun a ha => al9 (by omega) (fun B o w n c q => by have := h.oK _ _ _ _ _ q; omega)
 refine ⟨_, _, fun rb k q => hap rb k (by simpa using q), ?_, ?_, fun B o w m c q => ?_, ?_⟩
 ·rw [hother 0 (by omega)]; exact h.nr
 ·exact .inr ⟨H.length + 1, by simp, an0 (X := [O.c false (ag2 e)])⟩
 ·cases q; simp
 ·refine aa7 (n := H.length) (by simp [p7]) (bb3 h.lt) ?_
  simp only [List.cons_append, List.nil_append, List.all_cons, List.all_nil, ac4, fl_cl bc2, bc2, Bool.and_self]
theorem wt_meets {q o : NEqn} (ho : (o.kind == 2) = false) : ay2 (o9 q) o = meetsF o.left (o9 q) := by
 unfold ay2 meetsF
 rw [if_neg (by simp [ho])]
set_option maxRecDepth 10000 in
set_option maxHeartbeats 8000000 in
theorem exists_pc (n : NNode) (hw : n.okw) (haw : PC Tryz.prog 5 [] (.b true)) : PC Tryz.prog 3 [.ag n.row] (.b true) := by
 have hsm := small_pc n hw
 have hncl := aj4 n
 cases hs : ao3 n.eqs with
 | false =>
   rw [hs] at hsm
   refine aq9 Tryz.func3 k3 rfl ?_
   repeat' (first
    | ((with_reducible refine b8 (fun h => ?_) (fun h => ?_)) <;> simp only [h, hncl, i9, i5, SXR, simprocAttr])
    | (with_reducible refine j9 (hsm) (by simp only [SXR, hncl]) (by simp only [SXR, hncl]) ?_)
    | (with_reducible refine j9 (haw) (by simp only [SXR, hncl]) (by simp only [SXR, hncl]) ?_)
    | (simp only [c3, hncl, i9, i5, SXR, simprocAttr]))
 | true =>
   rw [hs] at hsm
   have hk := small_ok hw hs
   have hb := small_nb hw hs
   have hN := hb.n
   have hEI0 : EI n.row [.c false n.row] .ns [] := by
    refine ⟨rfl, .inl ⟨rfl, rfl⟩, fun B o w m c e => (by cases e), bg5 (by rw [ac4]; exact aj4 n)⟩
   have hso := sorder_pc n hk hb
   have hsocl := ordV_cl (al4 n.eqs)
   refine aq9 Tryz.func3 k3 rfl ?_
   repeat' (first
    | ((with_reducible refine b8 (fun h => ?_) (fun h => ?_)) <;> simp only [h, hncl, i9, i5, SXR, simprocAttr])
    | (with_reducible refine j9 (hsm) (by simp only [SXR, hncl]) (by simp only [SXR, hncl]) ?_)
    | (simp only [c3, hncl, i9, i5, SXR, simprocAttr]))
   refine m5 (X := Nat) (fun u ll hs => ∃ (H : List O) (lv : V), Hd (fun j => [j 0, .p 0 0, j 2, lv, .i .i64 (u : Int), j 5, j 6, j 7, j 8, j 9, j 10, j 11, j 12, j 13, j 14, j 15, j 16, j 17, j 18, j 19, j 20, j 21, j 22, j 23, j 24, j 25, j 26, j 27, j 28, j 29, j 30, j 31, j 32, j 33, j 34, j 35, j 36, j 37, j 38, j 39, j 40, j 41, j 42, j 43, j 44, j 45, j 46, j 47, j 48, j 49, j 50, j 51, j 52, j 53, j 54, j 55, j 56, j 57, j 58, j 59, j 60, j 61, j 62, j 63, j 64, j 65, j 66, j 67, j 68, j 69, j 70, j 71, j 72, j 73, j 74, j 75, j 76, j 77, j 78, j 79, j 80, j 81, j 82, j 83, j 84, j 85]) ll ∧ hs = H ∧ EI n.row H lv (exE n.eqs u))
    (fun u => u ≤ n.eqs.length) (fun u => n.eqs.length - u) ?_ 0 _ _ (by exact ⟨_, _, rfl, rfl, hEI0⟩) (Nat.zero_le _)
   clear hEI0
   rintro u _ H ⟨_, lv, e, rfl, hEI⟩ hu IH
   obtain ⟨j, rfl⟩ := e.open
   clear e
   have hn0 := hEI.nr
   by_cases hul : u < n.eqs.length
   ·obtain ⟨q, hq, hqm⟩ := ats hul
    have hqr := mg (f := NEqn.row) hq
    have hd := ltd hul
    have hw := j1 (n := u) (by omega)
    have hqo := hk.2.2.2.2 q hqm
    have hrl := hb.r q hqm
    have hrd := rreads_pc q hqo (by omega)
    have hqc := au2 q
    have hrc := am6 (o9 q)
    have hrl2 : (o9 q).length < 30000000 := by have := bg0 q; omega
    have hEI1 : EI n.row H lv (exE n.eqs u ++ (tbF n.eqs 0 u).map fun i => (i, u)) := by
     rw [show tbF n.eqs 0 u = [] from rfl, List.map_nil, List.append_nil]; exact hEI
    repeat' (first
     | ((with_reducible refine b8 (fun h => ?_) (fun h => ?_)) <;> simp only [h, nn4, i9, i5, List.length_map, hn0, hqr, hd, i6, i4, hqc, hrc, SXR, simprocAttr])
     | (with_reducible refine j9 (hrd) (by simp only [SXR, hqc, hrc]) (by simp only [SXR, hqc, hrc]) ?_)
     | (simp only [c3, nn4, i9, i5, List.length_map, hn0, hqr, hd, i6, i4, hqc, hrc, SXR, simprocAttr]))
    clear hEI
    refine m5 (X := Nat) (fun i ll hs => ∃ (H : List O) (lv : V), Hd (fun j => [j 0, .p 0 0, j 2, lv, .i .i64 (u : Int), .ts ((o9 q).map v6), .i .i64 (i : Int), j 7, j 8, j 9, j 10, j 11, j 12, j 13, j 14, j 15, j 16, j 17, j 18, j 19, j 20, j 21, j 22, j 23, j 24, j 25, j 26, j 27, j 28, j 29, j 30, j 31, j 32, j 33, j 34, j 35, j 36, j 37, j 38, j 39, j 40, j 41, j 42, j 43, j 44, j 45, j 46, j 47, j 48, j 49, j 50, j 51, j 52, j 53, j 54, j 55, j 56, j 57, j 58, j 59, j 60, j 61, j 62, j 63, j 64, j 65, j 66, j 67, j 68, j 69, j 70, j 71, j 72, j 73, j 74, j 75, j 76, j 77, j 78, j 79, j 80, j 81, j 82, j 83, j 84, j 85]) ll ∧ hs = H ∧ EI n.row H lv (exE n.eqs u ++ (tbF n.eqs i u).map fun i => (i, u)))
     (fun i => i ≤ n.eqs.length) (fun i => n.eqs.length - i) ?_ 0 _ _ (by exact ⟨_, _, rfl, rfl, hEI1⟩) (Nat.zero_le _)
    clear hEI1 hn0
    rintro i _ H ⟨_, lv, e, rfl, hEI⟩ hi IK
    obtain ⟨w, rfl⟩ := e.open
    clear e
    have hn0 := hEI.nr
    by_cases hil : i < n.eqs.length
    ·clear IH
     obtain ⟨o, ho, hom⟩ := ats hil
     have hor := mg (f := NEqn.row) ho
     have hdi := ltd hil
     have hwi := j1 (n := i) (by omega)
     have hoc := au2 o
     have hwe := wt_at hq ho
     have hok := hk.2.2.2.2 o hom
     have hol := hok.1
     unfold Lst.ok at hol
     have hlc := am6 o.left
     cases hkd : (o.kind == 2) with
     | true =>
       have hkn : (o.kind != 2) = false := by simp only [bne, hkd, Bool.not_true]
       have hwf : wt n.eqs u i = false := by rw [hwe]; unfold ay2; rw [if_pos hkd]
       have hE2 : EI n.row H lv (exE n.eqs u ++ (tbF n.eqs (i + 1) u).map fun i => (i, u)) := by
        rw [tbF_succ, if_neg (by simp [hwf])]; exact hEI
       repeat' (first
        | ((with_reducible refine b8 (fun h => ?_) (fun h => ?_)) <;> simp only [h, nn4, i9, i5, List.length_map, hn0, hor, hdi, hwi, i6, i4, v8, ab1, hkn, hoc, SXR, simprocAttr])
        | (simp only [c3, nn4, i9, i5, List.length_map, hn0, hor, hdi, hwi, i6, i4, v8, ab1, hkn, hoc, SXR, simprocAttr]))
       exact IK (i + 1) _ _ (by exact ⟨_, _, rfl, rfl, hE2⟩) hil (by omega)
     | false =>
       have hkn : (o.kind != 2) = true := by simp only [bne, hkd, Bool.not_false]
       have hmp := meets_pc o.left (o9 q) hol hrl2
       rw [wt_meets hkd] at hwe
       cases hm : meetsF o.left (o9 q) with
       | false =>
         rw [hm] at hmp hwe
         have hE2 : EI n.row H lv (exE n.eqs u ++ (tbF n.eqs (i + 1) u).map fun i => (i, u)) := by
          rw [tbF_succ, if_neg (by simp [hwe])]; exact hEI
         repeat' (first
          | ((with_reducible refine b8 (fun h => ?_) (fun h => ?_)) <;> simp only [h, nn4, i9, i5, List.length_map, hn0, hor, hdi, hwi, i6, i4, v8, ab1, ac6, hkn, hoc, hrc, hlc, SXR, simprocAttr])
          | (with_reducible refine j9 (hmp) (by simp only [SXR, hoc, hrc, hlc]) (by simp only [SXR, hoc, hrc, hlc]) ?_)
          | (simp only [c3, nn4, i9, i5, List.length_map, hn0, hor, hdi, hwi, i6, i4, v8, ab1, ac6, hkn, hoc, hrc, hlc, SXR, simprocAttr]))
         exact IK (i + 1) _ _ (by exact ⟨_, _, rfl, rfl, hE2⟩) hil (by omega)
       | true =>
         rw [hm] at hmp hwe
         have htl := tbF_len n.eqs i u
         have hxl := exE_len n.eqs u
         have hx2 : u * n.eqs.length ≤ 200 * 200 := Nat.mul_le_mul (by omega) hN
         obtain ⟨lv', H', hap, hE2⟩ := hEI.app (i, u) (by rw [List.length_append, List.length_map]; omega)
         have hE3 : EI n.row H' lv' (exE n.eqs u ++ (tbF n.eqs (i + 1) u).map fun i => (i, u)) := by
          rw [tbF_succ, if_pos hwe, List.map_append, ← List.append_assoc]; exact hE2
         simp only at hap
         repeat' (first
          | ((with_reducible refine b8 (fun h => ?_) (fun h => ?_)) <;> simp only [h, nn4, i9, i5, List.length_map, hn0, hor, hdi, hwi, i6, i4, v8, ab1, ac6, hkn, hoc, hrc, hlc, hap, SXR, simprocAttr])
          | (with_reducible refine j9 (hmp) (by simp only [SXR, hoc, hrc, hlc]) (by simp only [SXR, hoc, hrc, hlc]) ?_)
          | (simp only [c3, nn4, i9, i5, List.length_map, hn0, hor, hdi, hwi, i6, i4, v8, ab1, ac6, hkn, hoc, hrc, hlc, hap, SXR, simprocAttr]))
         exact IK (i + 1) _ _ (by exact ⟨_, _, rfl, rfl, hE3⟩) hil (by omega)
    ·clear IK
     have hie : i = n.eqs.length := by omega
     subst hie
     have hdi := ltn hil
     repeat' (first
      | ((with_reducible refine b8 (fun h => ?_) (fun h => ?_)) <;> simp only [h, nn4, i9, i5, List.length_map, hn0, hdi, hw, SXR, simprocAttr])
      | (simp only [c3, nn4, i9, i5, List.length_map, hn0, hdi, hw, SXR, simprocAttr]))
     exact IH (u + 1) _ _ (by exact ⟨_, _, rfl, rfl, hEI⟩) hul (by omega)
   ·clear IH
    have hue : u = n.eqs.length := by omega
    subst hue
    have hd := ltn hul
    have hxl := exE_len n.eqs n.eqs.length
    have hx2 : n.eqs.length * n.eqs.length ≤ 200 * 200 := Nat.mul_le_mul hN hN
    have hgc := gcycle_ac (hEI.ou.rw bc1) hN (by omega) (fun e he => exE_lt (Nat.le_refl _) he) (nxt_ex_asc n.eqs) (fun i => by have := nxt_ex_len n.eqs i; omega) (nxt_exb_asc n.eqs) (fun i => by have := nxt_exb_len n.eqs i; omega) (fun u w => by rw [ap3, am8]) hEI.lt
    have hgi := gc_iff n.eqs
    cases hr : al4 n.eqs with
    | none =>
      rw [hr] at hso hsocl hgi
      simp only [ordV] at hso hsocl
      rw [if_neg (fun h => hgi.1 h rfl)] at hgc
      generalize arV (gcF (nxt (exE n.eqs n.eqs.length)) (nxt ((exE n.eqs n.eqs.length).map an8)) n.eqs.length n.eqs.length) = gv at hgc
      repeat' (first
       | ((with_reducible refine b8 (fun h => ?_) (fun h => ?_)) <;> simp only [h, beq_self_eq_true, nn4, i9, i5, List.length_map, hn0, hd, hncl, SXR, simprocAttr])
       | (with_reducible refine e8 (hgc) ?_)
       | (with_reducible refine j9 (hso) (by simp only [SXR, hncl]) (by simp only [SXR, hncl]) ?_)
       | (with_reducible refine j9 (haw) (by simp only [SXR, hncl]) (by simp only [SXR, hncl]) ?_)
       | (simp only [c3, beq_self_eq_true, nn4, i9, i5, List.length_map, hn0, hd, hncl, SXR, simprocAttr]))
    | some l =>
      rw [hr] at hso hsocl hgi
      simp only [ordV] at hso hsocl
      rw [if_pos (hgi.2 (by simp))] at hgc
      generalize arV (gcF (nxt (exE n.eqs n.eqs.length)) (nxt ((exE n.eqs n.eqs.length).map an8)) n.eqs.length n.eqs.length) = gv at hgc
      have hic := ints_cl l
      repeat' (first
       | ((with_reducible refine b8 (fun h => ?_) (fun h => ?_)) <;> simp only [h, beq_self_eq_true, nn4, i9, i5, List.length_map, hn0, hd, hncl, hic, SXR, simprocAttr])
       | (with_reducible refine e8 (hgc) ?_)
       | (with_reducible refine j9 (hso) (by simp only [SXR, hncl, hic]) (by simp only [SXR, hncl, hic]) ?_)
       | (with_reducible refine j9 (haw) (by simp only [SXR, hncl, hic]) (by simp only [SXR, hncl, hic]) ?_)
       | (simp only [c3, beq_self_eq_true, nn4, i9, i5, List.length_map, hn0, hd, hncl, hic, SXR, simprocAttr]))
end Go.Proofs.YtagogibgoknncaaGreatDoor
