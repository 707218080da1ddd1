/-
  SchedRight.
-/
import Derived.Test.YtpbgbokclgbdlaaGreatDoorSt
set_option linter.unusedSimpArgs false
set_option linter.unusedVariables false
namespace Go.Proofs.YtpbgbokclgbdlaaGreatDoor
open Go Go.B
theorem edgF_dep {eqs : List NEqn} {e : Nat × Nat} : ∀ {j : Nat}, e ∈ al6 eqs j → e.1 ∈ al7 eqs e.2
 | 0, h => by simp [al6] at h
 | j + 1, h => by
   simp only [al6, List.mem_append, List.mem_map] at h
   rcases h with h | ⟨i, h1, rfl⟩
   ·exact edgF_dep h
   ·exact h1
theorem nod_right {eqs : List NEqn} {l : List Nat} (h : ab0 eqs = some l) : al3 (l.map (ar7 eqs)) = true := by
 simp only [al3, Bool.not_eq_true']
 rw [List.any_eq_false]
 intro e he
 have := nod_dep h (edgF_dep he)
 simp only [bad, decide_eq_true_eq]
 omega
def ssl2E (wd : Nat) (x lo hi : V) : Option V := match x, vI lo, vI hi with
 | .ns, some l, some h => if l = 0 ∧ h = 0 then some .ns else none
 | .ts rows, some l, some h => if 0 ≤ l ∧ l ≤ h ∧ h ≤ rows.length ∧ (rows.all fun r => r.length == wd) = true then some (.ts ((rows.drop l.toNat).take (h.toNat - l.toNat))) else none
 | .sl a off wd' len cp, some l, some h => if 0 ≤ l ∧ l ≤ h ∧ h ≤ len ∧ wd = wd' then some (.sl a (off + l.toNat * wd) wd (h.toNat - l.toNat) (cp.map fun c => c - l.toNat)) else none
 | _, _, _ => none
theorem x_ssl2 {sl : Nat → V} {h : Hp} {x lo hi : AO} {wd : Nat} : evX sl h (.ssl x (some lo) (some hi) none wd) = ssl2E wd (evO sl x) (evO sl lo) (evO sl hi) := by
 simp only [evX, ssl2E, evIo]
 cases evO sl x <;> cases vI (evO sl lo) <;> cases vI (evO sl hi) <;> rfl
theorem ssl2_one {l : List NEqn} {q : NEqn} {i : Nat} (h : l[i]? = some q) : ssl2E 13 (.ts (l.map NEqn.row)) (.i .i64 (i : Int)) (.i .i64 ((i + 1 : Nat) : Int)) = some (.ts [q.row]) := by
 have hi := (List.getElem?_eq_some_iff.1 h).1
 have e : (((l.map NEqn.row).drop (i : Int).toNat).take (((i + 1 : Nat) : Int).toNat - (i : Int).toNat)) = [q.row] := by
  rw [Int.toNat_natCast, Int.toNat_natCast, show i + 1 - i = 1 by omega, v6 (mg (f := NEqn.row) h)]; rfl
 have hall : ((l.map NEqn.row).all fun r => r.length == 13) = true := by
  rw [List.all_eq_true]
  intro r hr
  obtain ⟨x, _, rfl⟩ := List.mem_map.1 hr
  simp [i7]
 show (if 0 ≤ (i : Int) ∧ (i : Int) ≤ ((i + 1 : Nat) : Int) ∧ ((i + 1 : Nat) : Int) ≤ ((l.map NEqn.row).length : Int) ∧ ((l.map NEqn.row).all fun r => r.length == 13) = true then some (V.ts (((l.map NEqn.row).drop (i : Int).toNat).take (((i + 1 : Nat) : Int).toNat - (i : Int).toNat))) else none) = _
 rw [if_pos ⟨by omega, by omega, by rw [List.length_map]; omega, hall⟩, e]
set_option maxRecDepth 10000 in
set_option maxHeartbeats 8000000 in
theorem right_pc (n : NNode) (hw : n.okw) (haw : PC Tryz.prog 7 [] (.b true)) : PC Tryz.prog 4 [.ag n.row] (.b true) := by
 have hsm := small_pc n hw
 have hncl := t7 n
 cases hs : al2 n.eqs with
 | false =>
   rw [hs] at hsm
   refine u4 Tryz.func4 k4 rfl ?_
   repeat' (first
    | ((with_reducible refine o0 ?rdq ?_); (case rdq => refine m9 rfl ?_ ?_ <;> simp only [Option.isSome_some, hncl, i6, f0, SXR, simprocAttr]))
    | (with_reducible refine b8 (hsm) (by simp only [SXR, hncl]) (by simp only [SXR, hncl]) ?_)
    | (with_reducible refine b8 (haw) (by simp only [SXR, hncl]) (by simp only [SXR, hncl]) ?_)
    | (simp only [c4, hncl, i6, f0, SXR, simprocAttr]))
 | true =>
   rw [hs] at hsm
   have hk := small_ok hw hs
   have hb := ay9 hw hs
   have hN := hb.n
   have hso := bb4 n hk hb
   have hnd := ay8 n hk hb
   cases hr : ab0 n.eqs with
   | none =>
     have hn0 : ay5 n = none := by simp only [ay5, hr, Option.map_none]
     rw [hr] at hso
     rw [hn0] at hnd
     simp only [ordV] at hso
     simp only [nodV] at hnd
     refine u4 Tryz.func4 k4 rfl ?_
     repeat' (first
      | ((with_reducible refine o0 ?rdq ?_); (case rdq => refine m9 rfl ?_ ?_ <;> simp only [Option.isSome_some, hncl, i6, f0, SXR, simprocAttr]))
      | (with_reducible refine b8 (hsm) (by simp only [SXR, hncl]) (by simp only [SXR, hncl]) ?_)
      | (with_reducible refine b8 (hso) (by simp only [SXR, hncl]) (by simp only [SXR, hncl]) ?_)
      | (with_reducible refine b8 (hnd) (by simp only [SXR, hncl]) (by simp only [SXR, hncl]) ?_)
      | (with_reducible refine b8 (haw) (by simp only [SXR, hncl]) (by simp only [SXR, hncl]) ?_)
      | (simp only [c4, hncl, i6, f0, SXR, simprocAttr]))
   | some l =>
     have hn1 : ay5 n = some { n with eqs := l.map (ar7 n.eqs) } := by simp only [ay5, hr, Option.map_some]
     have hri := sright_pc { n with eqs := l.map (ar7 n.eqs) } (nodR_ok hk hn1) (nodR_nb hb hn1)
     rw [show ({ n with eqs := l.map (ar7 n.eqs) } : NNode).eqs = l.map (ar7 n.eqs) from rfl, nod_right hr] at hri
     rw [hr] at hso
     rw [hn1] at hnd
     simp only [ordV] at hso
     simp only [nodV] at hnd
     obtain ⟨l1, l2, l3⟩ := aa5 hr
     have hlen := ag6 l
     have hic : clR (p6 l) = true := by
      have := irw_cl l
      simpa only [irow, clL, V.cl, Bool.and_true] using this
     have cd1 := m5 n.ins
     have cd2 := m5 n.outs
     have cd3 := m5 n.locals
     have cd4 := ar9 n.eqs
     have hMl : (l.map (ar7 n.eqs)).length = l.length := List.length_map ..
     have hMat : ∀ i q, (l.map (ar7 n.eqs))[i]? = some q ↔ ∃ v, l[i]? = some v ∧ ar7 n.eqs v = q := fun i q => by
      rw [List.getElem?_map, Option.map_eq_some_iff]
     have hok1 : ∀ q, q ∈ n.eqs → ({ n with eqs := [q] } : NNode).ok := fun q hq => by
      obtain ⟨o1, o2, o3, o4, o5⟩ := hk
      exact ⟨o1, o2, o3, by unfold Lst.ok; simp, fun x hx => by rw [List.mem_singleton.1 hx]; exact o5 q hq⟩
     have hmk : ∀ hs a, mksB hs a 1 1 [.b false] (.i .i64 (l.length : Int)) (.i .i64 (l.length : Int)) = (aa3 hs a (.c false (z7 l.length fun _ => false))).map fun h => (l.length, h) := by
      intro hs a
      have hq : decide (l.length ≤ 1073741824 ∧ 1 * l.length ≤ 281474976710656 ∧ [V.b false].length = 1) = true := decide_eq_true ⟨by omega, by omega, rfl⟩
      rw [mks_n hq, ← bc_false, show ∀ m, (List.replicate m [V.b false]).flatten = List.replicate m (V.b false) from fun m => by
       induction m with
       | zero => rfl
       | succ m ih => rw [List.replicate_succ, List.flatten_cons, ih, List.replicate_succ]; rfl]
     simp only [NNode.row] at hsm hso hnd hri ⊢
     generalize hM : l.map (ar7 n.eqs) = M at *
     have cd5 := ar9 M
     have hM0 : (M.length : Int) = (l.length : Int) := by rw [hMl]
     have hN0 : (n.eqs.length : Int) = (l.length : Int) := by rw [l3]
     refine u4 Tryz.func4 k4 rfl ?_
     repeat' (first
      | ((with_reducible refine o0 ?rdq ?_); (case rdq => refine m9 rfl ?_ ?_ <;> simp only [Option.isSome_some, cd1, cd2, cd3, cd4, cd5, hic, hlen, hM0, hN0, hmk, List.length_map, bne_self_eq_false, SXR, simprocAttr]))
      | (with_reducible refine b8 (hsm) (by simp only [SXR, cd1, cd2, cd3, cd4, cd5, hic]) (by simp only [SXR, cd1, cd2, cd3, cd4, cd5, hic]) ?_)
      | (with_reducible refine b8 (hso) (by simp only [SXR, cd1, cd2, cd3, cd4, cd5, hic]) (by simp only [SXR, cd1, cd2, cd3, cd4, cd5, hic]) ?_)
      | (with_reducible refine b8 (hnd) (by simp only [SXR, cd1, cd2, cd3, cd4, cd5, hic]) (by simp only [SXR, cd1, cd2, cd3, cd4, cd5, hic]) ?_)
      | (with_reducible refine b8 (hri) (by simp only [SXR, cd1, cd2, cd3, cd4, cd5, hic]) (by simp only [SXR, cd1, cd2, cd3, cd4, cd5, hic]) ?_)
      | (with_reducible refine b8 (haw) (by simp only [SXR, cd1, cd2, cd3, cd4, cd5, hic]) (by simp only [SXR, cd1, cd2, cd3, cd4, cd5, hic]) ?_)
      | (simp only [c4, cd1, cd2, cd3, cd4, cd5, hic, hlen, hM0, hN0, hmk, List.length_map, bne_self_eq_false, SXR, simprocAttr]))
     refine m4 (X := Nat) (fun i ll hs => ∃ J : List O, Hd (fun j => [j 0, .p 0 0, j 2, .ts (p6 l), j 4, .p 1 0, j 6, .sl 2 0 1 l.length none, .i .i64 (i : Int), j 9, j 10, j 11, j 12, j 13, j 14, j 15, j 16, j 17, j 18, j 19, j 20, j 21, j 22, j 23, j 24, j 25, j 26, j 27, j 28, j 29, j 30, j 31, j 32, j 33, j 34, j 35, j 36, j 37, j 38, j 39, j 40, j 41, j 42, j 43, j 44, j 45, j 46, j 47, j 48, j 49, j 50, j 51, j 52, j 53, j 54, j 55, j 56, j 57, j 58, j 59, j 60, j 61, j 62, j 63, j 64, j 65, j 66, j 67, j 68, j 69, j 70, j 71, j 72, j 73, j 74, j 75, j 76, j 77, j 78, j 79, j 80, j 81, j 82, j 83, j 84, j 85, j 86, j 87, j 88, j 89, j 90, j 91, j 92, j 93, j 94, j 95, j 96, j 97, j 98, j 99, j 100, j 101, j 102, j 103, j 104, j 105, j 106, j 107, j 108, j 109, j 110, j 111, j 112, j 113, j 114, j 115, j 116, j 117, j 118, j 119, j 120, j 121]) ll ∧ hs = .c false [.s n.nm.1 n.nm.2, .ts (n.ins.map Decl.row), .ts (n.outs.map Decl.row), .ts (n.locals.map Decl.row), .ts (n.eqs.map NEqn.row)] :: .c false [.s n.nm.1 n.nm.2, .ts (n.ins.map Decl.row), .ts (n.outs.map Decl.row), .ts (n.locals.map Decl.row), .ts (M.map NEqn.row)] :: .c false (z7 l.length fun k => (l.take i).contains k) :: J)
      (fun i => i ≤ l.length) (fun i => l.length - i) ?_ 0 _ _ (by exact ⟨[], rfl, rfl⟩) (Nat.zero_le _)
     rintro i _ _ ⟨J, e, rfl⟩ hi IH
     obtain ⟨j, rfl⟩ := e.open
     clear e hsm hso hnd hri hmk
     by_cases hil : i < l.length
     ·obtain ⟨v, hv, hvm⟩ := ats hil
      have hvn := l2 v hvm
      obtain ⟨q, hq, hqm⟩ := ats hvn
      have hMq : M[i]? = some q := (hMat i q).2 ⟨v, hv, ah8 hq⟩
      have hgv := ak2 hv
      have hd := ltd hil
      have hw := j0 (n := i) (by omega)
      have hwv := j0 (n := v) (by omega)
      have h0 : decide ((v : Int) < 0) = false := decide_eq_false (by omega)
      have h1 : decide ((v : Int) ≥ (l.length : Int)) = false := decide_eq_false (by omega)
      have hia : ∀ a, iadE 1 (.sl a 0 1 l.length none) (.i .i64 (v : Int)) = some (.p a v) := fun a => by
       have := ac0 (a := a) (w := 1) (wd := 1) (c := none) (show v < l.length by omega)
       rw [Nat.mul_one] at this; exact this
      have hdv : (l.take i).contains v = false := by
       have hnd2 : (l.take (i + 1)).Nodup := l1.sublist (List.take_sublist _ _)
       rw [List.take_add_one, hv, Option.toList_some, List.nodup_append] at hnd2
       have hx := hnd2.2.2
       cases hc : (l.take i).contains v with
       | false => rfl
       | true => exact (hx v (by simpa using hc) v (by simp) rfl).elim
      have hld : ldE.ldO 1 false v (.c false (z7 l.length fun k => (l.take i).contains k)) = some (.b false) := by
       rw [ld1 (gr := false) (bc_get (N := l.length) (d := fun k => (l.take i).contains k) (show v < l.length by omega)), hdv]
      have hst : ∀ hs : List O, stpO hs 2 1 v [.b true] (.c false (z7 l.length fun k => (l.take i).contains k)) = aa3 hs 2 (.c false (z7 l.length fun k => (l.take (i + 1)).contains k)) := fun hs => by
       rw [stp1 (by rw [bc_len]; omega), bc_set]
       congr 3
       funext k
       rw [List.take_add_one, hv, Option.toList_some]
       by_cases hkv : k = v
       ·simp [hkv]
       ·simp [hkv]
      have hs1 := ssl2_one hq
      have hs2 := ssl2_one hMq
      have hsame := ao0 { n with eqs := [q] } (hok1 q hqm)
      have hqc : clR [q.row] = true := by simp only [clR, ac5, Bool.and_self]
      simp only [NNode.row, List.map_cons, List.map_nil] at hsame
      repeat' (first
       | ((with_reducible refine o0 ?rdq ?_); (case rdq => refine m9 rfl ?_ ?_ <;> simp only [Option.isSome_some, hgv, hd, hw, hwv, h0, h1, hia, hld, hst, x_ssl2, hs1, hs2, cd1, cd2, cd3, hqc, o9, hlen, Nat.add_assoc, hp_sh, hs_sh, hg_sh, SXR, simprocAttr]))
       | (with_reducible refine b8 (hsame) (by simp only [SXR, cd1, cd2, cd3, hqc, o9]) (by simp only [SXR, cd1, cd2, cd3, hqc, o9]) ?_)
       | (simp only [c4, hgv, hd, hw, hwv, h0, h1, hia, hld, hst, x_ssl2, hs1, hs2, cd1, cd2, cd3, hqc, o9, hlen, Nat.add_assoc, hp_sh, hs_sh, hg_sh, SXR, simprocAttr]))
      exact IH (i + 1) _ _ (by exact ⟨_, rfl, rfl⟩) hil (by omega)
     ·clear IH
      have hd := ltn hil
      repeat' (first
       | ((with_reducible refine o0 ?rdq ?_); (case rdq => refine m9 rfl ?_ ?_ <;> simp only [Option.isSome_some, hd, hlen, SXR, simprocAttr]))
       | (with_reducible refine b8 (haw) (by simp only [SXR]) (by simp only [SXR]) ?_)
       | (simp only [c4, hd, hlen, SXR, simprocAttr]))
end Go.Proofs.YtpbgbokclgbdlaaGreatDoor
