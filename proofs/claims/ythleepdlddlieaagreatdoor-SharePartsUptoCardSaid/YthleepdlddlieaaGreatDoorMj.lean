/-
  The reference's parts: from the numbers.
  The reference's parts: the walk.
  Two lists of parts that are the same; the law.
-/
import Derived.Test.YthleepdlddlieaaGreatDoorMi
set_option linter.unusedSimpArgs false
set_option linter.unusedVariables false
namespace Go.Proofs.YthleepdlddlieaaGreatDoor
open Go Go.B
def rgN (E : List Int) (i : Nat) : Nat → List Nat
  | 0 => []
  | k + 1 => rgN E i k ++ (if E[k]? = some (i : Int) then [k] else [])
def routs (E : List Int) : Nat → List (List Nat)
  | 0 => []
  | i + 1 => routs E i ++ (if E[i]? = some (i : Int) then [rgN E i E.length] else [])
theorem rgN_len {E : List Int} {i : Nat} : ∀ k, (rgN E i k).length ≤ k
  | 0 => Nat.le_refl _
  | k + 1 => by
    simp only [rgN, List.length_append]
    have := rgN_len (E := E) (i := i) k
    split <;> simp <;> omega
theorem routs_len {E : List Int} : ∀ i, (routs E i).length ≤ i
  | 0 => Nat.le_refl _
  | i + 1 => by
    simp only [routs, List.length_append]
    have := routs_len (E := E) i
    split <;> simp <;> omega
/-- no equation before has the number -/
def lowE (E : List Int) : Prop := ∀ (k : Nat) (m : Int), E[k]? = some m → m ≤ (k : Int)
theorem rgN_nil {E : List Int} (hE : lowE E) {i : Nat} : ∀ k, k ≤ i → rgN E i k = []
  | 0, _ => rfl
  | k + 1, h => by
    have ih := rgN_nil hE (i := i) k (by omega)
    simp only [rgN, ih, List.nil_append]
    refine if_neg fun e => ?_
    have := hE k _ e
    omega
theorem lowE_emb {n : NNode} {p : List Nat} (hl : p.length = (dlOf n).length) (hv : vld p) : lowE (emb n p) := by
  intro k m h
  obtain ⟨q, hq, _⟩ := ats (show k < n.eqs.length by have := (List.getElem?_eq_some_iff.1 h).1; rwa [emb_len] at this)
  rcases emb_get hl hq with ⟨_, e⟩ | ⟨_, j, m', h1, h2, e⟩
  · rw [h] at e; cases e; omega
  · rw [h] at e; cases e
    have h3 := hv j m' h2
    have h4 := (List.getElem?_eq_some_iff.1 h1).1
    obtain ⟨d, hd, _⟩ := ats (show m' < (dlOf n).length by omega)
    rw [embF_some hd]
    rcases Nat.lt_or_ge m' j with h5 | h5
    · have := (dl_inj hd h1).1.1 h5
      change d.ix < k at this
      omega
    · have : m' = j := by omega
      subst this
      rw [hd] at h1; cases h1
      exact Int.le_refl _
/-- the delays among the first equations -/
def cnt (n : NNode) (k : Nat) : Nat := (dlL n 0 (n.eqs.take k)).length
theorem cnt_at {n : NNode} {k : Nat} {q : NEqn} (hq : n.eqs[k]? = some q) : (isD q = false → cnt n (k + 1) = cnt n k) ∧ (isD q = true → cnt n (k + 1) = cnt n k + 1 ∧ (dlOf n)[cnt n k]? = some (mkDl n k q)) := by
  have h := dlL_take (n := n) hq
  constructor
  · intro hD
    rw [hD] at h
    simp only [Bool.false_eq_true, if_false, List.append_nil] at h
    unfold cnt
    rw [h]
  · intro hD
    rw [hD] at h
    simp only [if_true] at h
    refine ⟨by unfold cnt; rw [h]; simp, ?_⟩
    have hpre : dlOf n = dlL n 0 (n.eqs.take (k + 1)) ++ dlL n (0 + (n.eqs.take (k + 1)).length) (n.eqs.drop (k + 1)) := by
      rw [← dlL_app, List.take_append_drop]; rfl
    have hln : cnt n k < (dlL n 0 (n.eqs.take (k + 1))).length := by rw [h]; simp [cnt]
    rw [hpre, List.getElem?_append_left hln, h]
    unfold cnt
    rw [List.getElem?_append_right (Nat.le_refl _)]
    simp
theorem cnt_all (n : NNode) : cnt n n.eqs.length = (dlOf n).length := by unfold cnt; rw [List.take_length]; rfl
theorem rgN_grp {n : NNode} {p : List Nat} (hl : p.length = (dlOf n).length) (hv : vld p) {a : Nat} {x : Dl} (hx : (dlOf n)[a]? = some x) : ∀ k, k ≤ n.eqs.length → rgN (emb n p) x.ix k = grpN (dlOf n) p a (cnt n k)
  | 0, _ => by simp [rgN, cnt, dlL, grpN]
  | k + 1, hk => by
    obtain ⟨q, hq, _⟩ := ats (show k < n.eqs.length by omega)
    simp only [rgN]
    rw [rgN_grp hl hv hx k (by omega)]
    obtain ⟨c1, c2⟩ := cnt_at hq
    rcases emb_get hl hq with ⟨hD, e⟩ | ⟨hD, j, m, h1, h2, e⟩
    · rw [c1 hD, e, if_neg (by simp), List.append_nil]
    · obtain ⟨c3, c4⟩ := c2 hD
      have hj : cnt n k = j := (dl_inj c4 h1).2.2 rfl
      rw [c3, hj, grpN_succ h1 h2, e]
      congr 1
      have hml : m < (dlOf n).length := by
        have := hv j m h2
        have := (List.getElem?_eq_some_iff.1 h1).1
        omega
      have hal := (List.getElem?_eq_some_iff.1 hx).1
      by_cases hma : m = a
      · subst hma
        rw [if_pos rfl, if_pos (by rw [embF_some hx])]
        rfl
      · rw [if_neg hma, if_neg (fun h => hma (embF_inj hml hal (by rw [embF_some hx]; exact Option.some.inj h)))]
theorem part_root {dl : List Dl} {p : List Nat} (hl : p.length = dl.length) (hfix : nextP dl p = p) : ∀ (k m : Nat), p[k]? = some m → p[m]? = some m := by
  intro k
  induction k using Nat.strongRecOn with
  | ind k ih =>
    intro m hm
    have hk : k < dl.length := by rw [← hl]; exact (List.getElem?_eq_some_iff.1 hm).1
    rcases nextP_get hl hk with ⟨h1, _⟩ | ⟨k', m', hk', _, h2, h3⟩
    · rw [hfix, hm] at h1; cases h1; exact hm
    · rw [hfix] at h2 h3
      rw [hm] at h3; cases h3
      exact ih k' hk' m h2
theorem routs_outs {n : NNode} {p : List Nat} (hl : p.length = (dlOf n).length) (hv : vld p) (hfix : nextP (dlOf n) p = p) : ∀ i, i ≤ n.eqs.length → routs (emb n p) i = outsN (dlOf n) p (cnt n i)
  | 0, _ => by simp [routs, cnt, dlL, outsN]
  | i + 1, hi => by
    obtain ⟨q, hq, _⟩ := ats (show i < n.eqs.length by omega)
    simp only [routs]
    rw [routs_outs hl hv hfix i (by omega)]
    obtain ⟨c1, c2⟩ := cnt_at hq
    rcases emb_get hl hq with ⟨hD, e⟩ | ⟨hD, j, m, h1, h2, e⟩
    · rw [c1 hD, e, if_neg (by simp), List.append_nil]
    · obtain ⟨c3, c4⟩ := c2 hD
      have hj : cnt n i = j := (dl_inj c4 h1).2.2 rfl
      rw [c3, hj, e]
      simp only [outsN]
      congr 1
      have hjl := (List.getElem?_eq_some_iff.1 h1).1
      have hml : m < (dlOf n).length := by
        have := hv j m h2
        omega
      have hE : rgN (emb n p) i (emb n p).length = grp (dlOf n) p j := by
        have := rgN_grp hl hv h1 n.eqs.length (Nat.le_refl _)
        rw [cnt_all] at this
        rw [emb_len]
        exact this
      have hmem : ∀ z : Dl × Nat, z ∈ pz (dlOf n) p j → False ∨ m = j := by
        intro z hz
        obtain ⟨hz2, k, _, hk2⟩ := pz_mem hz
        rw [hz2] at hk2
        have := part_root hl hfix k j hk2
        rw [h2] at this
        exact .inr (Option.some.inj this)
      by_cases hmj : m = j
      · subst hmj
        rw [if_pos (by rw [embF_some h1]; rfl), hE]
        rw [if_neg]
        rw [grp_zip hl]
        intro hnil
        have hz : (mkDl n i q, m) ∈ pz (dlOf n) p m := by
          refine List.mem_filter.2 ⟨?_, by simp⟩
          refine List.mem_of_getElem? (i := m) ?_
          rw [List.getElem?_zip_eq_some]
          exact ⟨h1, h2⟩
        rw [List.map_eq_nil_iff] at hnil
        rw [hnil] at hz
        cases hz
      · rw [if_neg (fun h => hmj (embF_inj hml hjl (by rw [embF_some h1]; exact Option.some.inj h)))]
        rw [if_pos]
        rw [grp_zip hl, List.map_eq_nil_iff]
        cases hpz : pz (dlOf n) p j with
        | nil => rfl
        | cons z l => exact ((hmem z (by rw [hpz]; exact List.mem_cons_self ..)).elim id hmj).elim
theorem routs_parts (n : NNode) : routs (emb n (fin (dlOf n) (zer n))) (emb n (fin (dlOf n) (zer n))).length = partsOf n := by
  obtain ⟨h1, h2, h3⟩ := fin_fix (zer_len n) (zer_vld n)
  rw [emb_len, routs_outs h2 h3 h1 _ (Nat.le_refl _), cnt_all]
  rfl
set_option maxRecDepth 10000 in
set_option maxHeartbeats 2000000 in
theorem rparts_pc (n : NNode) (hok : n.ok) : PC Tryz.prog 9 [.ag n.row] (.ts ((partsOf n).map irow)) := by
  have hnum := numbers_pc n hok
  obtain ⟨_, f2, f3⟩ := fin_fix (zer_len n) (zer_vld n)
  have hlow := lowE_emb f2 f3
  have hne := hok.2.2.2.1
  unfold Lst.ok at hne
  rw [← routs_parts n]
  have hEl := emb_len n (fin (dlOf n) (zer n))
  generalize emb n (fin (dlOf n) (zer n)) = E at hnum hlow hEl
  rw [← hEl] at hne
  refine pc_frz Tryz.func9 k9 rfl ?_
  obtain ⟨us, hus⟩ : ∃ us, us = [O.c false n.row] := ⟨_, rfl⟩
  repeat' (first
    | (with_reducible refine pcl_intro (hnum) (by simp only [SXR, nnode_cl, zrows_cl]) (by simp only [SXR, nnode_cl, zrows_cl]) ?_)
    | (simp only [c9, qt_n, qt_r, nnode_len, nnode_take, nnode_cl, zrows_cl, SXR, noA, isAl, kA, udf, AOp.dst, Nat.beq, putAt, bldE, evIo, isNil, Nat.ble, Int.reduceAdd, Int.reduceSub, Int.reduceNeg, Int.reduceBNe, Nat.reduceEqDiff, Nat.reduceSub, Nat.reduceAdd, Nat.reduceLeDiff, Nat.reduceBEq, Nat.reduceLT, Nat.reduceMul, Int.reduceBEq, Int.reduceLT, Int.reduceLE, reduceIte, reduceCtorEq]))
  refine Lp_ind (X := Nat) (fun i ll hs => ∃ (v : V) (T0 T J : List O) (rs : List (List V)), Hd (fun j => [.ag n.row, .p 0 0, .ns, .ts (zrows E), v, .i .i64 (i : Int), j 6, j 7, j 8, j 9, j 10, j 11, j 12, j 13, j 14, j 15, j 16, j 17, j 18, j 19, j 20, j 21, j 22, j 23, j 24, j 25, j 26, j 27, j 28, j 29, j 30, j 31, j 32, j 33, j 34, j 35, j 36, j 37, j 38, j 39, j 40, j 41, j 42, j 43]) ll ∧ hs = us ++ (T ++ J) ∧
      GT us.length 1 (routs E i).length v T0 T rs.flatten ∧ rs.length = (routs E i).length ∧ (∀ r, r ∈ rs → r.length = 1) ∧ Sll (hpL (us ++ T0)) (fun _ => True) rs ((routs E i).map irow))
    (fun i => i ≤ E.length) (fun i => E.length - i) ?_ 0 _ _ (by exact ⟨.ns, [], [], [], [], rfl, by rw [hus]; rfl, .inl ⟨rfl, rfl, rfl, rfl⟩, rfl, by simp, trivial⟩) (Nat.zero_le _)
  clear hus
  rintro i _ _ ⟨v, T0, T, J, rs, e, rfl, hGT, hrl, hrw, hse⟩ hi IH
  obtain ⟨j, rfl⟩ := e.open
  clear e
  by_cases hlt : i < E.length
  · have hd := ltd hlt
    have hw := wrap_big (n := i) (by omega)
    obtain ⟨ei, hei, _⟩ := ats hlt
    have her := zrows_get hei
    obtain ⟨W, hW⟩ : ∃ W, W = T ++ J := ⟨_, rfl⟩
    rw [← hW]
    have hos : routs E (i + 1) = routs E i ++ (if E[i]? = some (i : Int) then [rgN E i E.length] else []) := rfl
    cases hei0 : (ei == (i : Int)) with
    | false =>
      rw [if_neg (by rw [hei]; intro h; have := Option.some.inj h; simp [this] at hei0), List.append_nil] at hos
      repeat' (first
        | (simp only [c9, qt_n, qt_r, zrows_len, her, hd, hw, hei0, bne, Bool.not_false, SXR, noA, isAl, kA, udf, AOp.dst, Nat.beq, putAt, bldE, evIo, isNil, Nat.ble, Int.reduceAdd, Int.reduceSub, Int.reduceNeg, Int.reduceBNe, Nat.reduceEqDiff, Nat.reduceSub, Nat.reduceAdd, Nat.reduceLeDiff, Nat.reduceBEq, Nat.reduceLT, Nat.reduceMul, Int.reduceBEq, Int.reduceLT, Int.reduceLE, reduceIte, reduceCtorEq]))
      refine IH (i + 1) _ _ ?_ hlt (by omega)
      exact ⟨v, T0, T, J, rs, by exact rfl, by rw [hW], by rw [hos]; exact hGT, by rw [hos]; exact hrl, hrw, by rw [hos]; exact hse⟩
    | true =>
      rw [if_pos (by rw [hei]; simp only [beq_iff_eq] at hei0; rw [hei0])] at hos
      repeat' (first
        | (simp only [c9, qt_n, qt_r, zrows_len, her, hd, hei0, bne, Bool.not_true, SXR, noA, isAl, kA, udf, AOp.dst, Nat.beq, putAt, bldE, evIo, isNil, Nat.ble, Int.reduceAdd, Int.reduceSub, Int.reduceNeg, Int.reduceBNe, Nat.reduceEqDiff, Nat.reduceSub, Nat.reduceAdd, Nat.reduceLeDiff, Nat.reduceBEq, Nat.reduceLT, Nat.reduceMul, Int.reduceBEq, Int.reduceLT, Int.reduceLE, reduceIte, reduceCtorEq]))
      refine Lp_ind (X := Nat) (fun k ll hs => ∃ (v' : V) (I0 I K : List O), Hd (fun j => [.ag n.row, .p 0 0, .ns, .ts (zrows E), v, .i .i64 (i : Int), v', .i .i64 (k : Int), j 8, j 9, j 10, j 11, j 12, j 13, j 14, j 15, j 16, j 17, j 18, j 19, j 20, j 21, j 22, j 23, j 24, j 25, j 26, j 27, j 28, j 29, j 30, j 31, j 32, j 33, j 34, j 35, j 36, j 37, j 38, j 39, j 40, j 41, j 42, j 43]) ll ∧ hs = us ++ (W ++ (I ++ K)) ∧
          GT (us.length + W.length) 1 (rgN E i k).length v' I0 I (ncs (rgN E i k)))
        (fun k => i ≤ k ∧ k ≤ E.length) (fun k => E.length - k) ?_ i _ _ (by exact ⟨.ns, [], [], [], rfl, by simp, by rw [rgN_nil hlow i (Nat.le_refl _)]; exact .inl ⟨rfl, rfl, rfl, rfl⟩⟩) ⟨Nat.le_refl _, Nat.le_of_lt hlt⟩
      rintro k _ _ ⟨v', I0, I, K, e, rfl, hIT⟩ ⟨hik, hk⟩ IK
      obtain ⟨j, rfl⟩ := e.open
      clear e
      obtain ⟨Z, hZ⟩ : ∃ Z, Z = W ++ (I ++ K) := ⟨_, rfl⟩
      rw [← hZ]
      by_cases hkl : k < E.length
      · clear IH
        obtain ⟨m, hm, _⟩ := ats hkl
        have hmr := zrows_get hm
        have hdk := ltd hkl
        have hwk := wrap_big (n := k) (by omega)
        have hgs : rgN E i (k + 1) = rgN E i k ++ (if E[k]? = some (i : Int) then [k] else []) := rfl
        cases hmi : (m == (i : Int)) with
        | true =>
          rw [if_pos (by rw [hm]; simp only [beq_iff_eq] at hmi; rw [hmi])] at hgs
          have hroom := room_ok (n := (rgN E i k).length + 1) (b := 8) (by have := rgN_len (E := E) (i := i) k; omega) (by omega)
          obtain ⟨I1, _, hI1l, hap, hgt⟩ := hIT.app (by omega) (show ([.i .i64 (k : Int)] : List V).length = 1 from rfl) hroom
          have hap' : ∀ (b : O) (rb k' : Nat), rb + k' = us.length + (Z.length + 1) → appB rb (us ++ (Z ++ [b, .no])) k' v' (some [.i .i64 (k : Int)]) (some 1) 1 8
              = some (.sl (us.length + (Z.length + 1)) 0 1 ((rgN E i k).length + 1) none, us ++ (W ++ (I1 ++ K) ++ [b, .c true (ncs (rgN E i (k + 1)))])) := by
            intro b rb k' h
            have := hap (us ++ W) (K ++ [b]) rb k' (by simp) (by rw [h, hZ]; simp; omega)
            rw [show us.length + W.length + (I.length + (K ++ [b]).length) = us.length + (Z.length + 1) by rw [hZ]; simp; omega, ncs_snoc, ← hgs] at this
            rw [hZ] at this ⊢
            simp only [List.append_assoc, List.cons_append, List.nil_append] at this ⊢
            exact this
          repeat' (first
            | (simp only [c9, qt_n, qt_r, zrows_len, hmr, hdk, hwk, hmi, hap', Nat.add_assoc, SXR, noA, isAl, kA, udf, AOp.dst, Nat.beq, putAt, bldE, evIo, isNil, Nat.ble, Int.reduceAdd, Int.reduceSub, Int.reduceNeg, Int.reduceBNe, Nat.reduceEqDiff, Nat.reduceSub, Nat.reduceAdd, Nat.reduceLeDiff, Nat.reduceBEq, Nat.reduceLT, Nat.reduceMul, Int.reduceBEq, Int.reduceLT, Int.reduceLE, reduceIte, reduceCtorEq]))
          refine IK (k + 1) _ _ ?_ ⟨by omega, hkl⟩ (by omega)
          refine ⟨.sl (us.length + (Z.length + 1)) 0 1 ((rgN E i k).length + 1) none, I1 ++ (K ++ [.c false [.i .i64 (k : Int)]]), I1 ++ (K ++ [.c false [.i .i64 (k : Int)], .c true (ncs (rgN E i (k + 1)))]), [], by exact rfl, by simp, ?_⟩
          have hg := hgt (K ++ [.c false [.i .i64 (k : Int)]])
          rw [show us.length + W.length + (I.length + (K ++ [O.c false [V.i .i64 (k : Int)]]).length) = us.length + (Z.length + 1) by rw [hZ]; simp; omega, ncs_snoc, ← hgs] at hg
          have hln : (rgN E i (k + 1)).length = (rgN E i k).length + 1 := by rw [hgs]; simp
          rw [hln]
          simp only [List.append_assoc, List.cons_append, List.nil_append] at hg ⊢
          exact hg
        | false =>
          rw [if_neg (by rw [hm]; intro h; have := Option.some.inj h; simp [this] at hmi), List.append_nil] at hgs
          repeat' (first
            | (simp only [c9, qt_n, qt_r, zrows_len, hmr, hdk, hwk, hmi, Nat.add_assoc, SXR, noA, isAl, kA, udf, AOp.dst, Nat.beq, putAt, bldE, evIo, isNil, Nat.ble, Int.reduceAdd, Int.reduceSub, Int.reduceNeg, Int.reduceBNe, Nat.reduceEqDiff, Nat.reduceSub, Nat.reduceAdd, Nat.reduceLeDiff, Nat.reduceBEq, Nat.reduceLT, Nat.reduceMul, Int.reduceBEq, Int.reduceLT, Int.reduceLE, reduceIte, reduceCtorEq]))
          refine IK (k + 1) _ _ ?_ ⟨by omega, hkl⟩ (by omega)
          exact ⟨v', I0, I, K, by exact rfl, by rw [hZ], by rw [hgs]; exact hIT⟩
      · clear IK
        have hdk := ltn hkl
        have hke : k = E.length := by omega
        subst hke
        have hgl : 0 < (rgN E i E.length).length := by
          have : i ∈ rgN E i E.length := by
            have key : ∀ k, i < k → i ∈ rgN E i k := by
              intro k
              induction k with
              | zero => intro h; omega
              | succ k ih =>
                intro h
                simp only [rgN, List.mem_append]
                by_cases e : k = i
                · subst e
                  right
                  rw [if_pos (by rw [hei]; simp only [beq_iff_eq] at hei0; rw [hei0])]
                  exact List.mem_cons_self ..
                · exact .inl (ih (by omega))
            exact key _ hlt
          exact List.length_pos_of_mem this
        obtain ⟨hvs, hIl⟩ : v' = .sl (us.length + W.length + I0.length) 0 1 (rgN E i E.length).length none ∧ I = I0 ++ [.c true (ncs (rgN E i E.length))] := by
          rcases hIT with ⟨h, _⟩ | ⟨_, h1, h2, _⟩
          · omega
          · exact ⟨h2, h1⟩
        have hsto : Go.B.stored v' = some [v'] := by rw [hvs]; rfl
        have hroom := room_ok (n := (routs E i).length + 1) (b := 24) (by have := routs_len (E := E) i; omega) (by omega)
        obtain ⟨T1, ⟨t, hT1⟩, hT1l, hap, hgt⟩ := hGT.app (by omega) (show ([v'] : List V).length = 1 from rfl) hroom
        have hap' : ∀ (b : O) (rb k' : Nat), rb + k' = us.length + (Z.length + 1) → appB rb (us ++ (Z ++ [b, .no])) k' v (some [v']) (some 1) 1 24
            = some (.sl (us.length + (Z.length + 1)) 0 1 ((routs E i).length + 1) none, us ++ (T1 ++ (J ++ (I ++ K)) ++ [b, .c true (rs.flatten ++ [v'])])) := by
          intro b rb k' h
          have := hap us (J ++ (I ++ K) ++ [b]) rb k' rfl (by rw [h, hZ, hW]; simp; omega)
          rw [show us.length + (T.length + (J ++ (I ++ K) ++ [b]).length) = us.length + (Z.length + 1) by rw [hZ, hW]; simp; omega] at this
          rw [hZ, hW] at this ⊢
          simp only [List.append_assoc, List.cons_append, List.nil_append] at this ⊢
          exact this
        repeat' (first
          | (simp only [c9, qt_n, qt_r, zrows_len, hdk, hw, hsto, hap', Nat.add_assoc, SXR, noA, isAl, kA, udf, AOp.dst, Nat.beq, putAt, bldE, evIo, isNil, Nat.ble, Int.reduceAdd, Int.reduceSub, Int.reduceNeg, Int.reduceBNe, Nat.reduceEqDiff, Nat.reduceSub, Nat.reduceAdd, Nat.reduceLeDiff, Nat.reduceBEq, Nat.reduceLT, Nat.reduceMul, Int.reduceBEq, Int.reduceLT, Int.reduceLE, reduceIte, reduceCtorEq]))
        refine IH (i + 1) _ _ ?_ hlt (by omega)
        refine ⟨.sl (us.length + (Z.length + 1)) 0 1 ((routs E i).length + 1) none, T1 ++ (J ++ (I ++ K) ++ [.c false [v']]), T1 ++ (J ++ (I ++ K) ++ [.c false [v'], .c true (rs.flatten ++ [v'])]), [], rs ++ [[v']], by exact rfl, by simp, ?_, by rw [hos]; simp [hrl], ?_, ?_⟩
        · have hg := hgt (J ++ (I ++ K) ++ [.c false [v']])
          rw [show us.length + (T.length + (J ++ (I ++ K) ++ [O.c false [v']]).length) = us.length + (Z.length + 1) by rw [hZ, hW]; simp; omega] at hg
          have hln : (routs E (i + 1)).length = (routs E i).length + 1 := by rw [hos]; simp
          rw [hln, List.flatten_append, List.flatten_singleton]
          simp only [List.append_assoc, List.cons_append, List.nil_append] at hg ⊢
          exact hg
        · intro r hr
          rcases List.mem_append.1 hr with h | h
          · exact hrw r h
          · simp at h; subst h; rfl
        · rw [hos, List.map_append]
          refine Sll.app (x := [v']) (y := irow (rgN E i E.length)) (show Sl _ _ [v'] [.ts (intRows (rgN E i E.length))] from ⟨?_, trivial⟩) (Sll.mono (fun a gr cs h => ?_) (fun _ h => h) hse)
          · rw [hvs]
            refine Se.flat' (gr := true) (cs := ncs (rgN E i E.length)) ?_ (intRows_flat _).symm (by simp [intRows]) trivial intRows_w
            have := hp_mid (us := us) (W := T1 ++ J) (I0 := I0) (K := K ++ [.c false [v']]) (o := .c true (ncs (rgN E i E.length)))
            rw [show us.length + (T1 ++ J).length + I0.length = us.length + W.length + I0.length by rw [hW]; simp [hT1l]] at this
            rw [hvs] at this
            rw [hIl]
            simp only [List.append_assoc, List.cons_append, List.nil_append] at this ⊢
            exact this
          · rw [hT1]
            have : us ++ (T0 ++ t ++ (J ++ (I ++ K) ++ [O.c false [v']])) = (us ++ T0) ++ (t ++ (J ++ (I ++ K) ++ [O.c false [v']])) := by simp
            rw [this]
            exact hpL_more h
  · clear IH
    have hd := ltn hlt
    have hie : i = E.length := by omega
    rw [hie] at hGT hrl hse
    repeat' (first
      | (simp only [c9, qt_n, qt_r, zrows_len, hd, SXR, noA, isAl, kA, udf, AOp.dst, Nat.beq, putAt, bldE, evIo, isNil, Nat.ble, Int.reduceAdd, Int.reduceSub, Int.reduceNeg, Int.reduceBNe, Nat.reduceEqDiff, Nat.reduceSub, Nat.reduceAdd, Nat.reduceLeDiff, Nat.reduceBEq, Nat.reduceLT, Nat.reduceMul, Int.reduceBEq, Int.reduceLT, Int.reduceLE, reduceIte, reduceCtorEq]))
    rcases hGT with ⟨h0, rfl, _, _⟩ | ⟨_, hT, rfl, _⟩
    · rw [List.length_eq_zero_iff.1 h0]; exact .nil
    · refine Se.rowsL (rs := rs) (cs := rs.flatten) (gr := true) ?_ rfl hrl trivial hrw (fun r hr => ?_) (Sll.mono (fun a gr cs h => ?_) (fun _ h => h) hse)
      · have := hp_mid (us := us) (W := []) (I0 := T0) (K := J) (o := .c true rs.flatten)
        rw [hT]
        simpa using this
      · obtain ⟨g, _, rfl⟩ := List.mem_map.1 hr
        rfl
      · rw [hT]
        have : us ++ (T0 ++ [O.c true rs.flatten] ++ J) = (us ++ T0) ++ ([O.c true rs.flatten] ++ J) := by simp
        rw [this]
        exact hpL_more h
theorem irw_get {g : List Nat} {k m : Nat} (h : g[k]? = some m) : (intRows g)[k]? = some [.i .i64 (m : Int)] := by simp [intRows, h]
theorem irw_len (g : List Nat) : (intRows g).length = g.length := by simp [intRows]
theorem irw_cl (g : List Nat) : clL (irow g) = true := by
  have : clR (intRows g) = true := by
    induction g with
    | nil => rfl
    | cons m g ih => simp only [intRows, List.map_cons, clR, clL, V.cl, Bool.true_and] at ih ⊢; exact ih
  simp only [irow, clL, V.cl, this, Bool.and_self]
theorem irws_cl (l : List (List Nat)) : clR (l.map irow) = true := clR_map irw_cl l
theorem prt_len (n : NNode) : (partsOf n).length ≤ n.eqs.length := by
  have h1 := routs_len (E := emb n (fin (dlOf n) (zer n))) (emb n (fin (dlOf n) (zer n))).length
  rw [routs_parts, emb_len] at h1
  exact h1
theorem prt_each {n : NNode} {g : List Nat} (h : g ∈ partsOf n) : g.length ≤ n.eqs.length := by
  obtain ⟨_, j, rfl⟩ := outs_mem h
  have h1 := grpN_len (dl := dlOf n) (p := fin (dlOf n) (zer n)) (i := j) (dlOf n).length
  have h2 : (dlOf n).length ≤ n.eqs.length := dlL_len n.eqs 0
  unfold grp
  omega
set_option maxHeartbeats 1000000 in
theorem lists_pc (l : List (List Nat)) (hn : l.length < 30000000) (hg : ∀ g, g ∈ l → g.length < 30000000) : PC Tryz.prog 7 [.ts (l.map irow), .ts (l.map irow)] (.b true) := by
  have hne : ((l.length : Int) != (l.length : Int)) = false := by simp
  refine pc_of Tryz.func7 k7 rfl ?_
  repeat' (first
    | (simp only [c7, List.length_map, hne, SXR, noA, isAl, kA, udf, AOp.dst, Nat.beq, putAt, bldE, evIo, isNil, Nat.ble, Int.reduceAdd, Int.reduceSub, Int.reduceNeg, Int.reduceBNe, Nat.reduceEqDiff, Nat.reduceSub, Nat.reduceAdd, Nat.reduceLeDiff, Nat.reduceBEq, Nat.reduceLT, Nat.reduceMul, Int.reduceBEq, Int.reduceLT, Int.reduceLE, reduceIte, reduceCtorEq]))
  refine Lp_ind (X := Nat) (fun i ll hs => ∃ js : List O, Hd (fun j => [.ts (l.map irow), .ts (l.map irow), j 2, j 3, .b false, .i .i64 (i : Int), j 6, j 7, j 8, j 9, j 10, j 11, j 12, j 13, j 14, j 15, j 16, j 17, j 18, j 19, j 20, j 21, j 22, j 23, j 24, j 25, j 26, j 27, j 28, j 29, j 30, j 31, j 32, j 33, j 34, j 35, j 36, j 37, j 38, j 39, j 40, j 41, j 42, j 43, j 44, j 45, j 46, j 47, j 48, j 49, j 50, j 51, j 52]) ll ∧ hs = js)
    (fun i => i ≤ l.length) (fun i => l.length - i) ?_ 0 _ _ (by exact ⟨[], rfl, rfl⟩) (Nat.zero_le _)
  rintro i _ _ ⟨js, e, rfl⟩ hi IH
  obtain ⟨j, rfl⟩ := e.open
  clear e
  by_cases hlt : i < l.length
  · obtain ⟨g, hgi, hgm⟩ := ats hlt
    have hgr := mg (f := irow) hgi
    have hd := ltd hlt
    have hw := wrap_big (n := i) (by omega)
    have hgl := hg g hgm
    have hge : ((g.length : Int) != (g.length : Int)) = false := by simp
    repeat' (first
      | (simp only [c7, List.length_map, hgr, irow, irw_len, hd, hge, SXR, noA, isAl, kA, udf, AOp.dst, Nat.beq, putAt, bldE, evIo, isNil, Nat.ble, Int.reduceAdd, Int.reduceSub, Int.reduceNeg, Int.reduceBNe, Nat.reduceEqDiff, Nat.reduceSub, Nat.reduceAdd, Nat.reduceLeDiff, Nat.reduceBEq, Nat.reduceLT, Nat.reduceMul, Int.reduceBEq, Int.reduceLT, Int.reduceLE, reduceIte, reduceCtorEq]))
    refine Lp_ind (X := Nat) (fun k ll hs => ∃ js : List O, Hd (fun j => [.ts (l.map irow), .ts (l.map irow), j 2, j 3, .b false, .i .i64 (i : Int), .i .i64 (k : Int), j 7, j 8, j 9, j 10, j 11, j 12, j 13, j 14, j 15, j 16, j 17, j 18, j 19, j 20, j 21, j 22, j 23, j 24, j 25, j 26, j 27, j 28, j 29, j 30, j 31, j 32, j 33, j 34, j 35, j 36, j 37, j 38, j 39, j 40, j 41, j 42, j 43, j 44, j 45, j 46, j 47, j 48, j 49, j 50, j 51, j 52]) ll ∧ hs = js)
      (fun k => k ≤ g.length) (fun k => g.length - k) ?_ 0 _ _ (by exact ⟨_, rfl, rfl⟩) (Nat.zero_le _)
    rintro k _ _ ⟨js, e, rfl⟩ hk IK
    obtain ⟨j, rfl⟩ := e.open
    clear e
    by_cases hkl : k < g.length
    · clear IH
      obtain ⟨m, hm, _⟩ := ats hkl
      have hmr := irw_get hm
      have hdk := ltd hkl
      have hwk := wrap_big (n := k) (by omega)
      have hme : ((m : Int) != (m : Int)) = false := by simp
      repeat' (first
        | (simp only [c7, List.length_map, hgr, irow, irw_len, hmr, hdk, hwk, hme, SXR, noA, isAl, kA, udf, AOp.dst, Nat.beq, putAt, bldE, evIo, isNil, Nat.ble, Int.reduceAdd, Int.reduceSub, Int.reduceNeg, Int.reduceBNe, Nat.reduceEqDiff, Nat.reduceSub, Nat.reduceAdd, Nat.reduceLeDiff, Nat.reduceBEq, Nat.reduceLT, Nat.reduceMul, Int.reduceBEq, Int.reduceLT, Int.reduceLE, reduceIte, reduceCtorEq]))
      exact IK (k + 1) _ _ (by exact ⟨_, rfl, rfl⟩) hkl (by omega)
    · clear IK
      have hdk := ltn hkl
      repeat' (first
        | (simp only [c7, List.length_map, hgr, irow, irw_len, hdk, hw, SXR, noA, isAl, kA, udf, AOp.dst, Nat.beq, putAt, bldE, evIo, isNil, Nat.ble, Int.reduceAdd, Int.reduceSub, Int.reduceNeg, Int.reduceBNe, Nat.reduceEqDiff, Nat.reduceSub, Nat.reduceAdd, Nat.reduceLeDiff, Nat.reduceBEq, Nat.reduceLT, Nat.reduceMul, Int.reduceBEq, Int.reduceLT, Int.reduceLE, reduceIte, reduceCtorEq]))
      exact IH (i + 1) _ _ (by exact ⟨_, rfl, rfl⟩) hlt (by omega)
  · clear IH
    have hd := ltn hlt
    repeat' (first
      | (simp only [c7, List.length_map, hd, SXR, noA, isAl, kA, udf, AOp.dst, Nat.beq, putAt, bldE, evIo, isNil, Nat.ble, Int.reduceAdd, Int.reduceSub, Int.reduceNeg, Int.reduceBNe, Nat.reduceEqDiff, Nat.reduceSub, Nat.reduceAdd, Nat.reduceLeDiff, Nat.reduceBEq, Nat.reduceLT, Nat.reduceMul, Int.reduceBEq, Int.reduceLT, Int.reduceLE, reduceIte, reduceCtorEq]))
theorem parts_pc (n : NNode) (hok : n.ok) (haw : PC Tryz.prog 6 [] (.b true)) : PC Tryz.prog 3 [.ag n.row] (.b true) := by
  have hlg := large_pc n hok
  cases hlb : largeB n with
  | true =>
    rw [hlb] at hlg
    refine pc_of Tryz.func3 k3 rfl ?_
    repeat' (first
      | ((with_reducible refine k_cons ?rdq ?_); (case rdq => refine rck_mk rfl ?_ ?_ <;> simp only [Option.isSome_some, nnode_len, nnode_take, nnode_cl, SXR, noA, isAl, kA, udf, AOp.dst, Nat.beq, putAt, bldE, evIo, isNil, Nat.ble, Int.reduceAdd, Int.reduceSub, Int.reduceNeg, Int.reduceBNe, Nat.reduceEqDiff, Nat.reduceSub, Nat.reduceAdd, Nat.reduceLeDiff, Nat.reduceBEq, Nat.reduceLT, Nat.reduceMul, Int.reduceBEq, Int.reduceLT, Int.reduceLE, reduceIte, reduceCtorEq]))
      | (with_reducible refine pcl_intro (hlg) (by simp only [SXR, nnode_cl]) (by simp only [SXR, nnode_cl]) ?_)
      | (with_reducible refine pcl_intro (haw) (by simp only [SXR, nnode_cl]) (by simp only [SXR, nnode_cl]) ?_)
      | (simp only [c3, nnode_len, nnode_take, nnode_cl, SXR, noA, isAl, kA, udf, AOp.dst, Nat.beq, putAt, bldE, evIo, isNil, Nat.ble, Int.reduceAdd, Int.reduceSub, Int.reduceNeg, Int.reduceBNe, Nat.reduceEqDiff, Nat.reduceSub, Nat.reduceAdd, Nat.reduceLeDiff, Nat.reduceBEq, Nat.reduceLT, Nat.reduceMul, Int.reduceBEq, Int.reduceLT, Int.reduceLE, reduceIte, reduceCtorEq]))
  | false =>
    rw [hlb] at hlg
    have hne := hok.2.2.2.1
    unfold Lst.ok at hne
    have hsp := sparts_pc n hok
    have hrp := rparts_pc n hok
    have hls := lists_pc (partsOf n) (by have := prt_len n; omega) (fun g hg => by have := prt_each hg; omega)
    refine pc_of Tryz.func3 k3 rfl ?_
    repeat' (first
      | ((with_reducible refine k_cons ?rdq ?_); (case rdq => refine rck_mk rfl ?_ ?_ <;> simp only [Option.isSome_some, nnode_len, nnode_take, nnode_cl, irws_cl, SXR, noA, isAl, kA, udf, AOp.dst, Nat.beq, putAt, bldE, evIo, isNil, Nat.ble, Int.reduceAdd, Int.reduceSub, Int.reduceNeg, Int.reduceBNe, Nat.reduceEqDiff, Nat.reduceSub, Nat.reduceAdd, Nat.reduceLeDiff, Nat.reduceBEq, Nat.reduceLT, Nat.reduceMul, Int.reduceBEq, Int.reduceLT, Int.reduceLE, reduceIte, reduceCtorEq]))
      | (with_reducible refine pcl_intro (hlg) (by simp only [SXR, nnode_cl, irws_cl]) (by simp only [SXR, nnode_cl, irws_cl]) ?_)
      | (with_reducible refine pcl_intro (haw) (by simp only [SXR, nnode_cl, irws_cl]) (by simp only [SXR, nnode_cl, irws_cl]) ?_)
      | (with_reducible refine pcl_intro (hsp) (by simp only [SXR, nnode_cl, irws_cl]) (by simp only [SXR, nnode_cl, irws_cl]) ?_)
      | (with_reducible refine pcl_intro (hrp) (by simp only [SXR, nnode_cl, irws_cl]) (by simp only [SXR, nnode_cl, irws_cl]) ?_)
      | (with_reducible refine pcl_intro (hls) (by simp only [SXR, nnode_cl, irws_cl]) (by simp only [SXR, nnode_cl, irws_cl]) ?_)
      | (simp only [c3, nnode_len, nnode_take, nnode_cl, irws_cl, SXR, noA, isAl, kA, udf, AOp.dst, Nat.beq, putAt, bldE, evIo, isNil, Nat.ble, Int.reduceAdd, Int.reduceSub, Int.reduceNeg, Int.reduceBNe, Nat.reduceEqDiff, Nat.reduceSub, Nat.reduceAdd, Nat.reduceLeDiff, Nat.reduceBEq, Nat.reduceLT, Nat.reduceMul, Int.reduceBEq, Int.reduceLT, Int.reduceLE, reduceIte, reduceCtorEq]))
end Go.Proofs.YthleepdlddlieaaGreatDoor
