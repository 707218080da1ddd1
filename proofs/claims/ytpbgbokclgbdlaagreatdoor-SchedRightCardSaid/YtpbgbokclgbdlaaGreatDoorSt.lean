/-
  SchedStable.
-/
import Derived.Test.YtpbgbokclgbdlaaGreatDoorPg
set_option linter.unusedSimpArgs false
set_option linter.unusedVariables false
namespace Go.Proofs.YtpbgbokclgbdlaaGreatDoor
open Go Go.B
theorem lst_len {α β : Type} {l : List α} {m : List β} (h : Lst.ok l) (e : m.length = l.length) : Lst.ok m := by unfold Lst.ok at h ⊢; omega
theorem nodR_ok {n m : NNode} (hk : n.ok) (h : ay5 n = some m) : m.ok := by
 simp only [ay5] at h
 obtain ⟨l, hl, e⟩ := Option.map_eq_some_iff.1 h
 obtain ⟨h1, h2, h3⟩ := aa5 hl
 subst e
 obtain ⟨o1, o2, o3, o4, o5⟩ := hk
 refine ⟨o1, o2, o3, lst_len o4 (by simp [h3]), fun q hq => ?_⟩
 obtain ⟨v, hv, rfl⟩ := List.mem_map.1 hq
 obtain ⟨x, hx, hxm⟩ := ats (h2 v hv)
 rw [ah8 hx]; exact o5 x hxm
theorem nodR_nb {n m : NNode} (hb : NB n.eqs) (h : ay5 n = some m) : NB m.eqs := by
 simp only [ay5] at h
 obtain ⟨l, hl, e⟩ := Option.map_eq_some_iff.1 h
 obtain ⟨h1, h2, h3⟩ := aa5 hl
 subst e
 have hx : ∀ q, q ∈ l.map (ar7 n.eqs) → q ∈ n.eqs := fun q hq => by
  obtain ⟨v, hv, rfl⟩ := List.mem_map.1 hq
  obtain ⟨x, hx, hxm⟩ := ats (h2 v hv)
  rw [ah8 hx]; exact hxm
 exact ⟨by simp only [List.length_map, h3]; exact hb.n, fun q hq => hb.l q (hx q hq), fun q hq => hb.r q (hx q hq)⟩
theorem nodR_twice {n m : NNode} (hc : ∀ i j, i < n.eqs.length → j < n.eqs.length → ckF n.eqs i = ckF n.eqs j) (h : ay5 n = some m) : ay5 m = some m := by
 simp only [ay5] at h
 obtain ⟨l, hl, e⟩ := Option.map_eq_some_iff.1 h
 obtain ⟨h1, h2, h3⟩ := aa5 hl
 have hme : m.eqs = l.map (ar7 n.eqs) := by rw [← e]
 have hlen : m.eqs.length = n.eqs.length := by rw [hme]; simp [h3]
 have hck : ∀ i, i < m.eqs.length → ∃ v, v < n.eqs.length ∧ ckF m.eqs i = ckF n.eqs v := fun i hi => by
  have hil : i < l.length := by rw [hlen] at hi; omega
  obtain ⟨v, hv, hvm⟩ := ats hil
  obtain ⟨q, hq, _⟩ := ats (h2 v hvm)
  refine ⟨v, h2 v hvm, ?_⟩
  simp only [ckF, hme, List.getElem?_map, hv, Option.map_some, ah8 hq, hq]
 have hr := ordRes_range (eqs := m.eqs) (fun i j hi => by rw [hme] at hi; exact nod_dep hl hi) (fun i j hi hj => by
  obtain ⟨v, hv, ev⟩ := hck i hi
  obtain ⟨u, hu, eu⟩ := hck j hj
  rw [ev, eu]; exact hc v u hv hu)
 simp only [ay5, hr, Option.map_some, nod_range]
set_option maxRecDepth 10000 in
set_option maxHeartbeats 4000000 in
theorem stable_pc (n : NNode) (hw : n.okw) (haw : PC Tryz.prog 7 [] (.b true)) : PC Tryz.prog 5 [.ag n.row] (.b true) := by
 have hsm := small_pc n hw
 have hncl := t7 n
 cases hs : al2 n.eqs with
 | false =>
   rw [hs] at hsm
   refine u4 Tryz.func5 k5 rfl ?_
   repeat' (first
    | (with_reducible refine b8 (hsm) (by simp only [SXR, hncl]) (by simp only [SXR, hncl]) ?_)
    | (with_reducible refine b8 (haw) (by simp only [SXR, hncl]) (by simp only [SXR, hncl]) ?_)
    | (simp only [c5, hncl, i6, f0, SXR, simprocAttr]))
 | true =>
   rw [hs] at hsm
   have hk := small_ok hw hs
   have hb := ay9 hw hs
   have hN := hb.n
   refine u4 Tryz.func5 k5 rfl ?_
   repeat' (first
    | (with_reducible refine b8 (hsm) (by simp only [SXR, hncl]) (by simp only [SXR, hncl]) ?_)
    | (with_reducible refine b8 (haw) (by simp only [SXR, hncl]) (by simp only [SXR, hncl]) ?_)
    | (simp only [c5, hncl, i6, f0, SXR, simprocAttr]))
   refine m4 (X := Nat) (fun i ll hs => ∃ y : Unit, Hd (fun j => [j 0, .p 0 0, j 2, .i .i64 ((i + 1 : Nat) : Int), j 4, j 5, j 6, j 7, j 8, j 9, j 10, j 11, j 12, j 13, j 14, j 15, j 16, j 17, j 18, j 19, j 20, j 21, j 22, j 23, j 24, j 25, j 26, j 27, j 28, j 29, j 30, j 31, j 32, j 33, j 34, j 35, j 36, j 37, j 38, j 39, j 40, j 41, j 42, j 43, j 44, j 45, j 46, j 47, j 48, j 49, j 50, j 51, j 52, j 53, j 54, j 55]) ll ∧ hs = [.c false n.row])
    (fun i => i ≤ n.eqs.length ∧ ∀ k, k ≤ i → k < n.eqs.length → ckF n.eqs k = ckF n.eqs 0) (fun i => n.eqs.length - i) ?_ 0 _ _ (by exact ⟨(), rfl, rfl⟩) ⟨Nat.zero_le _, fun k hk _ => by rw [Nat.le_zero.1 hk]⟩
   rintro i _ _ ⟨_, e, rfl⟩ ⟨hi, hinv⟩ IH
   obtain ⟨j, rfl⟩ := e.open
   clear e
   by_cases hil : i + 1 < n.eqs.length
   ·obtain ⟨q, hq, hqm⟩ := ats hil
    obtain ⟨q0, hq0, hq0m⟩ := ats (l := n.eqs) (i := 0) (by omega)
    have hqr := mg (f := NEqn.row) hq
    have hqr0 : (n.eqs.map NEqn.row)[0]? = some q0.row := mg hq0
    have hd := ltd hil
    have hw := j0 (n := i + 1) (by omega)
    have hck := bg9 q.ck q0.ck (hk.2.2.2.2 q hqm).2.2.2.2.1
    have hoc := m0 q.ck
    have hoc0 := m0 q0.ck
    cases hne : eqB az9 q.ck q0.ck with
    | false =>
      rw [hne] at hck
      repeat' (first
       | (with_reducible refine b8 (hck) (by simp only [SXR, hoc, hoc0]) (by simp only [SXR, hoc, hoc0]) ?_)
       | (with_reducible refine b8 (haw) (by simp only [SXR, hoc, hoc0]) (by simp only [SXR, hoc, hoc0]) ?_)
       | (simp only [c5, nn4, i6, f0, List.length_map, hqr, hqr0, hd, i7, i8, m8, hoc, hoc0, SXR, simprocAttr]))
    | true =>
      rw [hne] at hck
      have hcc := cks_iff.1 hne
      repeat' (first
       | (with_reducible refine b8 (hck) (by simp only [SXR, hoc, hoc0]) (by simp only [SXR, hoc, hoc0]) ?_)
       | (with_reducible refine b8 (haw) (by simp only [SXR, hoc, hoc0]) (by simp only [SXR, hoc, hoc0]) ?_)
       | (simp only [c5, nn4, i6, f0, List.length_map, hqr, hqr0, hd, hw, i7, i8, m8, hoc, hoc0, SXR, simprocAttr]))
      refine IH (i + 1) _ _ (by exact ⟨(), rfl, rfl⟩) ⟨by omega, fun k hk hkl => ?_⟩ (by omega)
      by_cases hki : k = i + 1
      ·subst hki
       simp only [ckF, hq, hq0, hcc]
      ·exact hinv k (by omega) hkl
   ·clear IH
    have hd := ltn hil
    have hnd := ay8 n hk hb
    cases hr : ay5 n with
    | none =>
      rw [hr] at hnd
      simp only [nodV] at hnd
      repeat' (first
       | (with_reducible refine b8 (hnd) (by simp only [SXR, hncl]) (by simp only [SXR, hncl]) ?_)
       | (with_reducible refine b8 (haw) (by simp only [SXR, hncl]) (by simp only [SXR, hncl]) ?_)
       | (simp only [c5, nn4, i6, f0, List.length_map, hd, hncl, SXR, simprocAttr]))
    | some m =>
      have hnm := ay8 m (nodR_ok hk hr) (nodR_nb hb hr)
      rw [nodR_twice (fun a b ha hb => by rw [hinv a (by omega) ha, hinv b (by omega) hb]) hr] at hnm
      rw [hr] at hnd
      have hsame := ao0 m (nodR_ok hk hr)
      have hmcl := t7 m
      have hml := i6 m
      have hmt := f0 m
      have hmp : ∀ a b c d e : V, putAt [a, b, c, d, e] 0 m.row = m.row := fun a b c d e => rfl
      simp only [nodV] at hnd hnm
      generalize m.row = r at *
      repeat' (first
       | (with_reducible refine b8 (hnd) (by simp only [SXR, hncl, hmcl]) (by simp only [SXR, hncl, hmcl]) ?_)
       | (with_reducible refine b8 (hnm) (by simp only [SXR, hncl, hmcl]) (by simp only [SXR, hncl, hmcl]) ?_)
       | (with_reducible refine b8 (hsame) (by simp only [SXR, hncl, hmcl]) (by simp only [SXR, hncl, hmcl]) ?_)
       | (with_reducible refine b8 (haw) (by simp only [SXR, hncl, hmcl]) (by simp only [SXR, hncl, hmcl]) ?_)
       | (simp only [c5, nn4, i6, f0, List.length_map, hd, hncl, hmcl, hml, hmt, hmp, SXR, simprocAttr]))
end Go.Proofs.YtpbgbokclgbdlaaGreatDoor
