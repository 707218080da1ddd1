/-
  Copies.
  Copies of declarations and equations.
  sched.Node.
  A node is the same as itself.
  sched.Right.
  Whether a node is small.
  A small node has few equations, short lists and small expressions.
  The order in plain Lean: what is waited for comes first.
-/
import Derived.Test.YtpbgbokclgbdlaaGreatDoorPf
set_option linter.unusedSimpArgs false
set_option linter.unusedVariables false
namespace Go.Proofs.YtpbgbokclgbdlaaGreatDoor
open Go Go.B
theorem room_l {α : Type} {l : List α} {n b : Nat} (hn : n ≤ l.length) (hb : l.length * b ≤ 140737488355328) (h0 : 0 < b) : room n b = true := by
 refine decide_eq_true ⟨Nat.le_trans (Nat.mul_le_mul_right b hn) hb, ?_⟩
 have := Nat.mul_le_mul_left l.length (show 1 ≤ b from h0)
 omega
theorem sons_pc (l : List On) (hn : l.length ≤ 4398046511104) : PC Tryz.prog 41 [.ts (l.map On.row)] (.ts (l.map On.row)) := by
 have hr0 : NR On.row 3 [] .ns ([] : List On) := .inl ⟨rfl, rfl⟩
 obtain ⟨H2, v2, hS, _, hap⟩ := (NS.refl (f := On.row) (wd := 3) (js := []) (v := .ns) (l := [])).app hr0 (by omega) ap4 on_cl (bytes := 32) l (room_l (l := l) (by simp) (by omega) (by omega)) (X := []) rfl
 have hap' := hap 0 0 rfl
 have hseen : (l.map On.row).all (fun r => r.length == 3) = true := bh5 ap4 l
 have hln : (l.map On.row).length = l.length := List.length_map _
 have hfl : (l.map On.row).flatten = fl On.row l := rfl
 simp only [List.nil_append] at hap' hS
 refine ag3 Tryz.func41 k41 rfl ?_
 repeat' (first
  | (simp only [c41, aa0, z9, hseen, ax2, nl_ts, hln, hfl, hap', SXR, simprocAttr]))
 exact (hS.nr hr0).se ap4
def z6 : List V := [.i .i64 0, .i .i64 0, .i .i64 0, .i .i64 0, .s 0 0, .ns]
def zc (l : List Ex) (i : Nat) : List V := (Ex.rows (l.take i)).flatten ++ (List.replicate (l.length - i) z6).flatten
theorem zc_all (l : List Ex) : zc l l.length = (Ex.rows l).flatten := by unfold zc; rw [List.take_length, Nat.sub_self]; simp
theorem zc_len0 (l : List Ex) (i : Nat) : ((Ex.rows (l.take i)).flatten).length = (l.take i).length * 6 := by
 rw [wid_fl (fun r hr => rows_w r hr), i4]
theorem zc_st {l : List Ex} {i : Nat} {x : Ex} (h : l[i]? = some x) {hs : List O} {b : Nat} : stpO hs b 6 (i * 6) x.row (.c false (zc l i)) = aa3 hs b (.c false (zc l (i + 1))) := by
 have hi := (List.getElem?_eq_some_iff.1 h).1
 have e : zc l i = (Ex.rows (l.take i)).flatten ++ (z6 ++ (List.replicate (l.length - (i + 1)) z6).flatten) := by
  unfold zc
  rw [show l.length - i = (l.length - (i + 1)) + 1 by omega, List.replicate_succ, List.flatten_cons]
 have hl := zc_len0 l i
 rw [List.length_take, Nat.min_eq_left (by omega)] at hl
 rw [stp_c (by rw [j5]; rfl) (by rw [Nat.ble_eq, e, List.length_append, List.length_append, hl]; simp [z6]), e, putAt_mid hl.symm (by rw [j5]; rfl)]
 have : zc l (i + 1) = (Ex.rows (l.take i)).flatten ++ (x.row ++ (List.replicate (l.length - (i + 1)) z6).flatten) := by
  unfold zc
  rw [List.take_add_one, h, af4, af4]
  simp
 rw [this]
set_option maxHeartbeats 2000000 in
theorem bd0 : ∀ (N : Nat) (e : Ex), e.sz < N → e.ok → e.sz < 1000000 → PC Tryz.prog 62 [xg e, .s 0 0, .s 0 0] (xg e)
 | 0, e, h, _, _ => by omega
 | N + 1, e, hN, hok, hs6 => by
   have hvar := ax6 e
   obtain ⟨k, op, t, w, nl, nn, args⟩ := e
   simp only [Ex.ok] at hok
   simp only [Ex.sz] at hN hs6
   simp only [Ex.k] at hvar
   obtain ⟨hn, hoks⟩ := hok
   unfold Lst.ok at hn
   have hal := au4 args
   have hmk : ∀ hs a, mksB hs a 6 72 [.i .i64 0, .i .i64 0, .i .i64 0, .i .i64 0, .s 0 0, .ns] (.i .i64 (args.length : Int)) (.i .i64 (args.length : Int)) = (aa3 hs a (.c false (zc args 0))).map fun h => (args.length, h) := by
    intro hs a
    have hq : decide (args.length ≤ 1073741824 ∧ 72 * args.length ≤ 281474976710656 ∧ [V.i .i64 0, .i .i64 0, .i .i64 0, .i .i64 0, .s 0 0, .ns].length = 6) = true := decide_eq_true ⟨by omega, by omega, rfl⟩
    rw [mks_n hq]
    simp [zc, z6, Ex.rows]
   simp only [xg, Ex.row] at hvar ⊢
   refine ag3 Tryz.func62 k62 rfl ?_
   by_cases hnm : nl = 0 ∧ nn = 0
   ·obtain ⟨rfl, rfl⟩ := hnm
    repeat' (first
     | ((with_reducible refine o6 (fun h => ?_) (fun h => ?_)) <;> simp only [h, aa0, z9, i9, i4, hmk, SXR, simprocAttr])
     | (with_reducible refine b8 (hvar) (by simp only [SXR, i9]) (by simp only [SXR, i9]) ?_)
     | (simp only [c62, aa0, z9, i9, i4, hmk, SXR, simprocAttr]))
    all_goals
     refine m4 (X := Nat) (fun i ll hs => ∃ zs : List O, Hd (fun j => [j 0, .s 0 0, .s 0 0, .p 0 0, j 4, j 5, .p 1 0, .sl 2 0 6 args.length none, j 8, j 9, j 10, j 11, j 12, j 13, j 14, j 15, j 16, j 17, j 18, j 19, j 20, j 21, j 22, j 23, j 24, .ts (Ex.rows args), .i .i64 (args.length : Int), .i .i64 (i : Int), j 28, j 29, j 30, j 31, j 32, j 33, j 34, j 35, j 36, j 37, j 38, j 39, j 40, j 41, j 42]) ll ∧ hs = .c false [.i .i64 k, .i .i64 op, .i .i64 t, .i .i64 w, .s 0 0, .ts (Ex.rows args)] :: .c false [.i .i64 0, .i .i64 0, .i .i64 0, .i .i64 0, .s 0 0, .ns] :: .c false (zc args i) :: zs)
      (fun i => i ≤ args.length) (fun i => args.length - i) ?_ 0 _ _ (by exact ⟨[], rfl, rfl⟩) (Nat.zero_le _)
     rintro i _ _ ⟨zs, e, rfl⟩ hi IH
     obtain ⟨j, rfl⟩ := e.open
     clear e
     by_cases hil : i < args.length
     ·obtain ⟨x, hx, hxm⟩ := ai0 hil
      have hxr : (Ex.rows args)[i]? = some x.row := by rw [ad3, hx]; rfl
      have hd := ltd hil
      have hw := j0 (n := i) (by omega)
      have hsz := ap3 hxm
      have hc := bd0 N x (by omega) (ag5 hoks hxm) (by omega)
      have hst := fun hs b => zc_st hx (hs := hs) (b := b)
      have hia : iadE 6 (.sl 2 0 6 args.length none) (.i .i64 (i : Int)) = some (.p 2 (i * 6)) := ac0 hil
      have hcl := j4 x
      unfold xg at hc
      repeat' (first
       | ((with_reducible refine o6 (fun h => ?_) (fun h => ?_)) <;> simp only [h, aa0, z9, i4, hxr, hd, hw, j5, j3, ad4, hia, hst, hcl, SXR, simprocAttr])
       | (with_reducible refine b8 (hc) (by simp only [SXR, hcl]) (by simp only [SXR, hcl]) ?_)
       | (simp only [c62, aa0, z9, i4, hxr, hd, hw, j5, j3, ad4, hia, hst, hcl, SXR, simprocAttr]))
      exact IH (i + 1) _ _ (by exact ⟨zs ++ [.c false x.row], rfl, rfl⟩) hil (by omega)
     ·clear IH
      have hie : i = args.length := by omega
      subst hie
      have hd := ltn hil
      rw [zc_all]
      repeat' (first
       | ((with_reducible refine o6 (fun h => ?_) (fun h => ?_)) <;> simp only [h, aa0, z9, i4, hd, SXR, simprocAttr])
       | (simp only [c62, aa0, z9, i4, hd, SXR, simprocAttr]))
      exact Sl.ag ⟨.same _, .same _, .same _, .same _, .same _, Se.flat' (gr := false) (cs := (Ex.rows args).flatten) rfl rfl (i4 _) trivial rows_w, trivial⟩
   ·have hq : (nl == 0 && nn == 0) = false := by simpa using hnm
    repeat' (first
     | ((with_reducible refine o6 (fun h => ?_) (fun h => ?_)) <;> simp only [h, aa0, z9, i9, i4, hmk, hq, SXR, simprocAttr])
     | (with_reducible refine b8 (hvar) (by simp only [SXR, i9]) (by simp only [SXR, i9]) ?_)
     | (simp only [c62, aa0, z9, i9, i4, hmk, hq, SXR, simprocAttr]))
    all_goals
     refine m4 (X := Nat) (fun i ll hs => ∃ zs : List O, Hd (fun j => [j 0, .s 0 0, .s 0 0, .p 0 0, j 4, j 5, .p 1 0, .sl 2 0 6 args.length none, j 8, j 9, j 10, j 11, j 12, j 13, j 14, j 15, j 16, j 17, j 18, j 19, j 20, j 21, j 22, j 23, j 24, .ts (Ex.rows args), .i .i64 (args.length : Int), .i .i64 (i : Int), j 28, j 29, j 30, j 31, j 32, j 33, j 34, j 35, j 36, j 37, j 38, j 39, j 40, j 41, j 42]) ll ∧ hs = .c false [.i .i64 k, .i .i64 op, .i .i64 t, .i .i64 w, .s nl nn, .ts (Ex.rows args)] :: .c false [.i .i64 0, .i .i64 0, .i .i64 0, .i .i64 0, .s 0 0, .ns] :: .c false (zc args i) :: zs)
      (fun i => i ≤ args.length) (fun i => args.length - i) ?_ 0 _ _ (by exact ⟨[], rfl, rfl⟩) (Nat.zero_le _)
     rintro i _ _ ⟨zs, e, rfl⟩ hi IH
     obtain ⟨j, rfl⟩ := e.open
     clear e
     by_cases hil : i < args.length
     ·obtain ⟨x, hx, hxm⟩ := ai0 hil
      have hxr : (Ex.rows args)[i]? = some x.row := by rw [ad3, hx]; rfl
      have hd := ltd hil
      have hw := j0 (n := i) (by omega)
      have hsz := ap3 hxm
      have hc := bd0 N x (by omega) (ag5 hoks hxm) (by omega)
      have hst := fun hs b => zc_st hx (hs := hs) (b := b)
      have hia : iadE 6 (.sl 2 0 6 args.length none) (.i .i64 (i : Int)) = some (.p 2 (i * 6)) := ac0 hil
      have hcl := j4 x
      unfold xg at hc
      repeat' (first
       | ((with_reducible refine o6 (fun h => ?_) (fun h => ?_)) <;> simp only [h, aa0, z9, i4, hxr, hd, hw, j5, j3, ad4, hia, hst, hcl, SXR, simprocAttr])
       | (with_reducible refine b8 (hc) (by simp only [SXR, hcl]) (by simp only [SXR, hcl]) ?_)
       | (simp only [c62, aa0, z9, i4, hxr, hd, hw, j5, j3, ad4, hia, hst, hcl, SXR, simprocAttr]))
      exact IH (i + 1) _ _ (by exact ⟨zs ++ [.c false x.row], rfl, rfl⟩) hil (by omega)
     ·clear IH
      have hie : i = args.length := by omega
      subst hie
      have hd := ltn hil
      rw [zc_all]
      repeat' (first
       | ((with_reducible refine o6 (fun h => ?_) (fun h => ?_)) <;> simp only [h, aa0, z9, i4, hd, SXR, simprocAttr])
       | (simp only [c62, aa0, z9, i4, hd, SXR, simprocAttr]))
      exact Sl.ag ⟨.same _, .same _, .same _, .same _, .same _, Se.flat' (gr := false) (cs := (Ex.rows args).flatten) rfl rfl (i4 _) trivial rows_w, trivial⟩
theorem bj7 (e : Ex) (hok : e.ok) (hs : e.sz < 1000000) : PC Tryz.prog 42 [xg e] (xg e) := by
 have hc := bd0 (e.sz + 1) e (Nat.lt_succ_self _) hok hs
 have hcl := j4 e
 unfold xg at hc
 refine u4 Tryz.func42 k42 rfl ?_
 repeat' (first
  | (with_reducible refine b8 (hc) (by simp only [SXR, hcl]) (by simp only [SXR, hcl]) ?_)
  | (simp only [c42, j5, j3, ad4, hcl, SXR, simprocAttr]))
theorem bc0 (l : List Decl) (hok : bg5 l) : PC Tryz.prog 26 [.ts (l.map Decl.row)] (.ts (l.map Decl.row)) := by
 have hn := hok.1
 refine ag3 Tryz.func26 k26 rfl ?_
 repeat' (first
  | (simp only [c26, aa0, z9, List.length_map, SXR, simprocAttr]))
 refine m4 (X := Nat) (fun i ll hs => ∃ (v : V) (T0 T J : List O), Hd (fun j => [j 0, j 1, j 2, v, j 4, j 5, .ts (l.map Decl.row), .i .i64 (l.length : Int), .i .i64 (i : Int), j 9, j 10, j 11, j 12, j 13, j 14, j 15, j 16, j 17, j 18, j 19, j 20, j 21]) ll ∧ hs = T ++ J ∧ GT 0 3 i v T0 T (cells Decl.row l i))
  (fun i => i ≤ l.length) (fun i => l.length - i) ?_ 0 _ _ (by exact ⟨.ns, [], [], [], rfl, by simp, .inl ⟨rfl, rfl, rfl, rfl⟩⟩) (Nat.zero_le _)
 rintro i _ _ ⟨v, T0, T, J, e, rfl, hGT⟩ hi IH
 obtain ⟨j, rfl⟩ := e.open
 clear e
 by_cases hil : i < l.length
 ·obtain ⟨W, hW⟩ : ∃ W, W = T ++ J := ⟨_, rfl⟩
  rw [← hW]
  obtain ⟨x, hx, hxm⟩ := ats hil
  have hxr := mg (f := Decl.row) hx
  have hd := ltd hil
  have hw := j0 (n := i) (by omega)
  have hroom := room_l (l := l) (n := i + 1) (b := 48) hil (by omega) (by omega)
  have hc := sons_pc x.ck (hok.2 x hxm)
  obtain ⟨v', T0', T', J', hgt, hap, _⟩ := gt_app (P := []) rfl hGT hW (by omega) (show x.row.length = 3 from rfl) hroom [.c false x.row, .c false x.row]
  rw [ao9 hx] at hgt
  have hap' : ∀ (rb k' : Nat), rb + k' = W.length + 2 → ah2 rb (W ++ [.c false x.row, .c false x.row, .no]) k' v (some x.row) (some 1) 3 48 = some (v', T' ++ J') := fun rb k' e => hap rb k' (by simpa using e)
  have hoc := m0 x.ck
  simp only [Decl.row] at hap'
  clear hap hGT hW
  repeat' (first
   | (with_reducible refine b8 (hc) (by simp only [SXR, ao7, Decl.row, hoc]) (by simp only [SXR, ao7, Decl.row, hoc]) ?_)
   | (simp only [c26, aa0, z9, List.length_map, hxr, hd, hw, ao7, Decl.row, hap', hoc, Nat.add_assoc, SXR, simprocAttr]))
  exact IH (i + 1) _ _ (by exact ⟨v', T0', T', J', rfl, rfl, hgt⟩) hil (by omega)
 ·clear IH
  have hie : i = l.length := by omega
  subst hie
  have hd := ltn hil
  repeat' (first
   | (simp only [c26, aa0, z9, List.length_map, hd, SXR, simprocAttr]))
  exact gt_se (P := []) rfl hGT au0 (by simp) (mem_map (f := Decl.row) (wd := 3) (fun _ => rfl) l) (fun _ _ => trivial)
theorem clone1 {α : Type} {f : α → List V} {wd bytes : Nat} (l : List α) (hw : wd ≠ 0) (hf : ∀ x, (f x).length = wd) (hroom : room l.length bytes = true) (pre : List O) (h2 : pre.length = 2) :
  ∃ (X : O) (vl : V), ah2 2 (pre ++ [.no]) 0 .ns (some (fl f l)) (some l.length) wd bytes = some (vl, pre ++ [X]) ∧ B.stored vl = some [vl] ∧ ∀ (h : Hp), h 2 = X → Se h (fun _ => True) vl (.ts (l.map f)) := by
 cases l with
 | nil => exact ⟨.no, .ns, rfl, rfl, fun _ _ => .nil⟩
 | cons x l =>
   refine ⟨.c true (fl f (x :: l)), .sl 2 0 wd (l.length + 1) none, ?_, rfl, fun h hh => Se.flat' hh rfl (by simp) trivial (mem_map hf _)⟩
   rw [List.length_cons] at hroom ⊢
   rw [ap_ns_s hroom, ag7 (by simp [h2])]
   rfl
set_option maxRecDepth 10000 in
set_option maxHeartbeats 4000000 in
theorem sequation_pc (q : NEqn) (hk : q.ok) (hl : rsz q < 1000000) : PC Tryz.prog 27 [.ag q.row] (.ag q.row) := by
 obtain ⟨kind, left, right, init, node, args, every, ck⟩ := q
 obtain ⟨h1, h2, h3, h4, h5, h6⟩ := hk
 simp only [rsz] at hl
 simp only at h1 h2 h3 h4 h5 h6
 unfold Lst.ok at h1 h3
 have hal := au4 args
 have hcr := bj7 right h2 (by omega)
 have hco := sons_pc ck (by omega)
 obtain ⟨k, op, t, w, nl, nn, ra⟩ := right
 have hzc := i9 ra
 have hoc := m0 ck
 have hseen : (left.map z8).all (fun r => r.length == 1) = true := bh5 v8 left
 have hln : (left.map z8).length = left.length := List.length_map _
 have hfl : (left.map z8).flatten = fl z8 left := rfl
 obtain ⟨X, vl, hap, hvl, hse⟩ := clone1 (f := z8) (wd := 1) (bytes := 16) left (by omega) v8 (u9 (by omega) (by omega)) [.c false (NEqn.row ⟨kind, left, .mk k op t w nl nn ra, init, node, args, every, ck⟩), .c false [.i .i64 0, .ns, .i .i64 0, .i .i64 0, .i .i64 0, .i .i64 0, .s 0 0, .ns, .i .i64 0, .s 0 0, .ns, .s 0 0, .ns]] rfl
 simp only [xg, Ex.row] at hcr
 simp only [NEqn.row, Ex.row, List.cons_append, List.nil_append] at hap ⊢
 refine ag3 Tryz.func27 k27 rfl ?_
 repeat' (first
  | (with_reducible refine b8 (hcr) (by simp only [SXR, hzc, hoc]) (by simp only [SXR, hzc, hoc]) ?_)
  | (with_reducible refine b8 (hco) (by simp only [SXR, hzc, hoc]) (by simp only [SXR, hzc, hoc]) ?_)
  | (simp only [c27, aa0, z9, hseen, ax2, nl_ts, hln, hfl, hap, hvl, hzc, hoc, i4, SXR, simprocAttr]))
 refine m4 (X := Nat) (fun i ll hs => ∃ (v : V) (T0 T J : List O), Hd (fun j => [j 0, .p 0 0, .p 1 0, v, j 4, j 5, j 6, j 7, j 8, j 9, j 10, j 11, j 12, j 13, j 14, .ts (Ex.rows args), .i .i64 (args.length : Int), .i .i64 (i : Int), j 18, j 19, j 20, j 21, j 22, j 23, j 24, j 25, j 26, j 27, j 28, j 29, j 30, j 31, j 32, j 33]) ll ∧ hs = .c false [.i .i64 kind, vl, .i .i64 k, .i .i64 op, .i .i64 t, .i .i64 w, .s nl nn, .ts (Ex.rows ra), .i .i64 init, .s node.1 node.2, .ts (Ex.rows args), .s every.1 every.2, .ts (ck.map On.row)] :: .c false [.i .i64 0, .ns, .i .i64 0, .i .i64 0, .i .i64 0, .i .i64 0, .s 0 0, .ns, .i .i64 0, .s 0 0, .ns, .s 0 0, .ns] :: X :: (T ++ J) ∧ GT 3 6 i v T0 T (cells Ex.row args i))
  (fun i => i ≤ args.length) (fun i => args.length - i) ?_ 0 _ _ (by exact ⟨.ns, [], [], [], rfl, rfl, .inl ⟨rfl, rfl, rfl, rfl⟩⟩) (Nat.zero_le _)
 clear hap hcr
 rintro i _ _ ⟨v, T0, T, J, e, rfl, hGT⟩ hi IH
 obtain ⟨j, rfl⟩ := e.open
 clear e
 by_cases hil : i < args.length
 ·obtain ⟨W, hW⟩ : ∃ W, W = T ++ J := ⟨_, rfl⟩
  rw [← hW]
  obtain ⟨x, hx, hxm⟩ := ai0 hil
  have hxr : (Ex.rows args)[i]? = some x.row := by rw [ad3, hx]; rfl
  have hd := ltd hil
  have hw := j0 (n := i) (by omega)
  have hsz := ap3 hxm
  have hcx := bj7 x (ag5 h4 hxm) (by omega)
  unfold xg at hcx
  have hxc := j4 x
  obtain ⟨v', T0', T', J', hgt, hap, _⟩ := gt_app (P := [.c false [.i .i64 kind, vl, .i .i64 k, .i .i64 op, .i .i64 t, .i .i64 w, .s nl nn, .ts (Ex.rows ra), .i .i64 init, .s node.1 node.2, .ts (Ex.rows args), .s every.1 every.2, .ts (ck.map On.row)], .c false [.i .i64 0, .ns, .i .i64 0, .i .i64 0, .i .i64 0, .i .i64 0, .s 0 0, .ns, .i .i64 0, .s 0 0, .ns, .s 0 0, .ns], X]) (bytes := 72) rfl hGT hW (by omega) (j5 x) (u9 (by omega) (by omega)) [.c false x.row, .c false x.row]
  rw [ao9 hx] at hgt
  have hap' : ∀ (rb k' : Nat), rb + k' = W.length + 5 → ah2 rb (.c false [.i .i64 kind, vl, .i .i64 k, .i .i64 op, .i .i64 t, .i .i64 w, .s nl nn, .ts (Ex.rows ra), .i .i64 init, .s node.1 node.2, .ts (Ex.rows args), .s every.1 every.2, .ts (ck.map On.row)] :: .c false [.i .i64 0, .ns, .i .i64 0, .i .i64 0, .i .i64 0, .i .i64 0, .s 0 0, .ns, .i .i64 0, .s 0 0, .ns, .s 0 0, .ns] :: X :: (W ++ [.c false x.row, .c false x.row, .no])) k' v (some x.row) (some 1) 6 72 = some (v', .c false [.i .i64 kind, vl, .i .i64 k, .i .i64 op, .i .i64 t, .i .i64 w, .s nl nn, .ts (Ex.rows ra), .i .i64 init, .s node.1 node.2, .ts (Ex.rows args), .s every.1 every.2, .ts (ck.map On.row)] :: .c false [.i .i64 0, .ns, .i .i64 0, .i .i64 0, .i .i64 0, .i .i64 0, .s 0 0, .ns, .i .i64 0, .s 0 0, .ns, .s 0 0, .ns] :: X :: (T' ++ J')) := fun rb k' e => hap rb k' (by simp; omega)
  clear hap hGT hW
  repeat' (first
   | (with_reducible refine b8 (hcx) (by simp only [SXR, hxc]) (by simp only [SXR, hxc]) ?_)
   | (simp only [c27, aa0, z9, i4, hxr, hd, hw, j5, j3, ad4, hap', hxc, Nat.add_assoc, SXR, simprocAttr]))
  exact IH (i + 1) _ _ (by exact ⟨v', T0', T', J', rfl, rfl, hgt⟩) hil (by omega)
 ·clear IH
  have hie : i = args.length := by omega
  subst hie
  have hd := ltn hil
  have hvs := hGT.st
  repeat' (first
   | (with_reducible refine b8 (hco) (by simp only [SXR, hoc]) (by simp only [SXR, hoc]) ?_)
   | (simp only [c27, aa0, z9, i4, hd, hoc, hvl, hvs, SXR, simprocAttr]))
  exact Sl.ag ⟨.same _, hse _ rfl, .same _, .same _, .same _, .same _, .same _, .same _, .same _, .same _, gt_se (P := [_, _, X]) (J := J) rfl hGT (by rw [au0, af4]) (i4 args) rows_w (fun _ _ => trivial), .same _, .same _, trivial⟩
def ar7 (eqs : List NEqn) (i : Nat) : NEqn := match eqs[i]? with
 | some q => q
 | none => ⟨0, [], .mk 0 0 0 0 0 0 [], 0, (0, 0), [], (0, 0), []⟩
def ay5 (n : NNode) : Option NNode := (ab0 n.eqs).map fun l => { n with eqs := l.map (ar7 n.eqs) }
def nodV : Option NNode → V
 | none => .tu [.ag [.s 0 0, .ns, .ns, .ns, .ns], .i .i64 13]
 | some m => .tu [.ag m.row, .i .i64 0]
theorem be1 {eqs : List NEqn} : ∀ (f : Nat) (out l : List Nat), out.Nodup → (∀ v, v ∈ out → v < eqs.length) → eqs.length < f + out.length → ordF eqs f out = some l → l.Nodup ∧ (∀ v, v ∈ l → v < eqs.length) ∧ l.length = eqs.length
 | 0, out, l, h1, h2, h3, h => by have := af5 h1 h2; omega
 | f + 1, out, l, h1, h2, h3, h => by
   simp only [ordF] at h
   split at h
   ·cases h
    have := af5 h1 h2
    exact ⟨h1, h2, by omega⟩
   ·split at h
    ·cases h
    ·rename_i v hv
     obtain ⟨q1, q2, q3⟩ := an8 hv
     have hvo : v ∉ out := by simpa using q2
     refine be1 f _ l ?_ ?_ (by simp; omega) h
     ·rw [List.nodup_append]
      exact ⟨h1, by simp, fun a ha b hb => by simp at hb; rintro rfl; exact hvo (hb ▸ ha)⟩
     ·intro x hx
      rcases List.mem_append.1 hx with h | h
      ·exact h2 x h
      ·simp at h; omega
theorem aa5 {eqs : List NEqn} {l : List Nat} (h : ab0 eqs = some l) : l.Nodup ∧ (∀ v, v ∈ l → v < eqs.length) ∧ l.length = eqs.length := by
 simp only [ab0] at h
 split at h
 ·cases h
 ·exact be1 _ _ _ List.nodup_nil (by simp) (by simp) h
theorem ah8 {eqs : List NEqn} {i : Nat} {q : NEqn} (h : eqs[i]? = some q) : ar7 eqs i = q := by simp only [ar7, h]
theorem hp_sh {o : O} {l : List O} {a k : Nat} : hpL (o :: l) (a + (k + 1)) = hpL l (a + k) := by rw [← Nat.add_assoc]; rfl
theorem hg_sh {o : O} {l : List O} {a k : Nat} : hg (o :: l) (a + (k + 1)) = hg l (a + k) := by rw [← Nat.add_assoc]; rfl
theorem hs_sh {o x : O} {l : List O} {a k : Nat} : aa3 (o :: l) (a + (k + 1)) x = (aa3 l (a + k) x).map (o :: ·) := by rw [← Nat.add_assoc]; rfl
set_option maxRecDepth 10000 in
set_option maxHeartbeats 4000000 in
theorem ay8 (n : NNode) (hk : n.ok) (hb : NB n.eqs) : PC Tryz.prog 10 [.ag n.row] (nodV (ay5 n)) := by
 have hN := hb.n
 have hso := bb4 n hk hb
 have hcl := ordV_cl (ab0 n.eqs)
 have hncl := t7 n
 obtain ⟨o1, o2, o3, o4, o5⟩ := hk
 have d1 := bc0 n.ins o1
 have d2 := bc0 n.outs o2
 have d3 := bc0 n.locals o3
 have c1 := m5 n.ins
 have c2 := m5 n.outs
 have c3 := m5 n.locals
 have c4 := ar9 n.eqs
 cases hr : ab0 n.eqs with
 | none =>
   rw [hr] at hso hcl
   simp only [ordV] at hso hcl
   simp only [ay5, hr, Option.map_none, nodV]
   refine u4 Tryz.func10 k10 rfl ?_
   repeat' (first
    | ((with_reducible refine o0 ?rdq ?_); (case rdq => refine m9 rfl ?_ ?_ <;> simp only [Option.isSome_some, hcl, hncl, i6, f0, SXR, simprocAttr]))
    | (with_reducible refine b8 (hso) (by simp only [SXR, hcl, hncl]) (by simp only [SXR, hcl, hncl]) ?_)
    | (simp only [c10, hcl, hncl, i6, f0, SXR, simprocAttr]))
 | some l =>
   obtain ⟨l1, l2, l3⟩ := aa5 hr
   rw [hr] at hso hcl
   simp only [ordV] at hso hcl
   simp only [ay5, hr, Option.map_some, nodV]
   have hlen := ag6 l
   simp only [NNode.row] at hso hncl ⊢
   refine ag3 Tryz.func10 k10 rfl ?_
   repeat' (first
    | ((with_reducible refine o0 ?rdq ?_); (case rdq => refine m9 rfl ?_ ?_ <;> simp only [Option.isSome_some, hcl, hncl, c1, c2, c3, c4, aa0, z9, ap5, hlen, SXR, simprocAttr]))
    | (with_reducible refine b8 (hso) (by simp only [SXR, hcl, hncl, c1, c2, c3, c4]) (by simp only [SXR, hcl, hncl, c1, c2, c3, c4]) ?_)
    | (with_reducible refine b8 (d1) (by simp only [SXR, hcl, hncl, c1, c2, c3, c4]) (by simp only [SXR, hcl, hncl, c1, c2, c3, c4]) ?_)
    | (with_reducible refine b8 (d2) (by simp only [SXR, hcl, hncl, c1, c2, c3, c4]) (by simp only [SXR, hcl, hncl, c1, c2, c3, c4]) ?_)
    | (with_reducible refine b8 (d3) (by simp only [SXR, hcl, hncl, c1, c2, c3, c4]) (by simp only [SXR, hcl, hncl, c1, c2, c3, c4]) ?_)
    | (simp only [c10, hcl, hncl, c1, c2, c3, c4, aa0, z9, ap5, hlen, SXR, simprocAttr]))
   refine m4 (X := Nat) (fun i ll hs => ∃ (v : V) (T0 T J : List O), Hd (fun j => [j 0, .p 0 0, .p 1 0, j 3, j 4, j 5, .p 2 0, j 7, j 8, j 9, j 10, j 11, j 12, j 13, j 14, j 15, j 16, j 17, j 18, j 19, j 20, j 21, j 22, j 23, j 24, j 25, j 26, j 27, j 28, j 29, .ts (p6 l), .i .i64 (l.length : Int), .i .i64 (i : Int), j 33, j 34, j 35, j 36, j 37, j 38, j 39, j 40, j 41, j 42, j 43, j 44, j 45, j 46, j 47, j 48]) ll ∧ hs = .c false [.s n.nm.1 n.nm.2, .ts (n.ins.map Decl.row), .ts (n.outs.map Decl.row), .ts (n.locals.map Decl.row), .ts (n.eqs.map NEqn.row)] :: .c false [.s 0 0, .ns, .ns, .ns, .ns] :: .c false [.s n.nm.1 n.nm.2, .ts (n.ins.map Decl.row), .ts (n.outs.map Decl.row), .ts (n.locals.map Decl.row), v] :: (T ++ J) ∧ GT 3 13 i v T0 T (cells NEqn.row (l.map (ar7 n.eqs)) i))
    (fun i => i ≤ l.length) (fun i => l.length - i) ?_ 0 _ _ (by exact ⟨.ns, [], [], [], rfl, rfl, .inl ⟨rfl, rfl, rfl, rfl⟩⟩) (Nat.zero_le _)
   rintro i _ _ ⟨v, T0, T, J, e, rfl, hGT⟩ hi IH
   obtain ⟨j, rfl⟩ := e.open
   clear e
   have hvs := hGT.st
   by_cases hil : i < l.length
   ·obtain ⟨W, hW⟩ : ∃ W, W = T ++ J := ⟨_, rfl⟩
    rw [← hW]
    obtain ⟨m, hm, hmm⟩ := ats hil
    obtain ⟨q, hq, hqm⟩ := ats (l2 m hmm)
    have hqr := mg (f := NEqn.row) hq
    have hgm := ak2 hm
    have hd := ltd hil
    have hw := j0 (n := i) (by omega)
    have hse := sequation_pc q (o5 q hqm) (hb.r q hqm)
    have hqc := ac5 q
    have hcx : (l.map (ar7 n.eqs))[i]? = some q := by rw [List.getElem?_map, hm, Option.map_some, ah8 hq]
    obtain ⟨v', T0', T', J', hgt, hap, _⟩ := gt_app (P := [.c false [.s n.nm.1 n.nm.2, .ts (n.ins.map Decl.row), .ts (n.outs.map Decl.row), .ts (n.locals.map Decl.row), .ts (n.eqs.map NEqn.row)], .c false [.s 0 0, .ns, .ns, .ns, .ns], .c false [.s n.nm.1 n.nm.2, .ts (n.ins.map Decl.row), .ts (n.outs.map Decl.row), .ts (n.locals.map Decl.row), v]]) (bytes := 192) rfl hGT hW (by omega) (i7 q) (u9 (by omega) (by omega)) [.c false q.row]
    rw [ao9 hcx] at hgt
    have hvs' := hgt.st
    have hap' : ∀ (rb k' : Nat), rb + k' = W.length + 4 → ah2 rb (.c false [.s n.nm.1 n.nm.2, .ts (n.ins.map Decl.row), .ts (n.outs.map Decl.row), .ts (n.locals.map Decl.row), .ts (n.eqs.map NEqn.row)] :: .c false [.s 0 0, .ns, .ns, .ns, .ns] :: .c false [.s n.nm.1 n.nm.2, .ts (n.ins.map Decl.row), .ts (n.outs.map Decl.row), .ts (n.locals.map Decl.row), v] :: (W ++ [.c false q.row, .no])) k' v (some q.row) (some 1) 13 192 = some (v', .c false [.s n.nm.1 n.nm.2, .ts (n.ins.map Decl.row), .ts (n.outs.map Decl.row), .ts (n.locals.map Decl.row), .ts (n.eqs.map NEqn.row)] :: .c false [.s 0 0, .ns, .ns, .ns, .ns] :: .c false [.s n.nm.1 n.nm.2, .ts (n.ins.map Decl.row), .ts (n.outs.map Decl.row), .ts (n.locals.map Decl.row), v] :: (T' ++ J')) := fun rb k' e => hap rb k' (by simp; omega)
    clear hap hGT hW
    repeat' (first
     | ((with_reducible refine o0 ?rdq ?_); (case rdq => refine m9 rfl ?_ ?_ <;> simp only [Option.isSome_some, aa0, z9, hgm, hqr, hd, hw, i7, i8, hap', hqc, hvs', Nat.add_assoc, hp_sh, hs_sh, hg_sh, SXR, simprocAttr]))
     | (with_reducible refine b8 (hse) (by simp only [SXR, hqc]) (by simp only [SXR, hqc]) ?_)
     | (simp only [c10, aa0, z9, hgm, hqr, hd, hw, i7, i8, hap', hqc, hvs', Nat.add_assoc, hp_sh, hs_sh, hg_sh, SXR, simprocAttr]))
    exact IH (i + 1) _ _ (by exact ⟨v', T0', T', J', rfl, rfl, hgt⟩) hil (by omega)
   ·clear IH
    have hie : i = l.length := by omega
    subst hie
    have hd := ltn hil
    repeat' (first
     | ((with_reducible refine o0 ?rdq ?_); (case rdq => refine m9 rfl ?_ ?_ <;> simp only [Option.isSome_some, aa0, z9, hd, hvs, SXR, simprocAttr]))
     | (simp only [c10, aa0, z9, hd, hvs, SXR, simprocAttr]))
    refine bb9 (Sl.ag ⟨.same _, .same _, .same _, .same _, gt_se (P := [_, _, _]) (J := J) rfl hGT ?_ (by simp) (mem_map i7 _) (fun _ _ => trivial), trivial⟩)
    have := au0 (f := NEqn.row) (l := l.map (ar7 n.eqs))
    rw [List.length_map] at this
    exact this
theorem r19same_refl (x : NNode) (hk : x.ok) : PC Tryz.prog 28 [.ag (NPrg.row ⟨[], [x]⟩), .ag (NPrg.row ⟨[], [x]⟩)] (.b true) := by
 have h7 := r7_refl ⟨[], []⟩ ⟨⟨by unfold Lst.ok; simp, by simp⟩, by unfold Lst.ok; simp, by simp⟩
 have hq := eqnode_refl x hk
 have hcl := t7 x
 have hnl := i6 x
 have hnt := f0 x
 generalize hrx : x.row = r at *
 simp only [NPrg.row, List.map_cons, List.map_nil, hrx]
 simp only [Prg.row, List.map_nil] at h7
 have hw1 : IntKind.i64.wrap 1 = 1 := by decide
 refine u4 Tryz.func28 k28 rfl ?_
 repeat' (first
  | (with_reducible refine b8 (hq) (by simp only [SXR, hcl, o9]) (by simp only [SXR, hcl, o9]) ?_)
  | (simp only [c28, hcl, hnl, hnt, aj4, o9, hw1, SXR, simprocAttr]))
 refine ae8 h7 [] rfl rfl (sl2 (Sl.ag ⟨.same _, .nil, trivial⟩) (Sl.ag ⟨.same _, .nil, trivial⟩)) rfl rfl ?_
 repeat' (first
  | (with_reducible refine b8 (hq) (by simp only [SXR, hcl, o9]) (by simp only [SXR, hcl, o9]) ?_)
  | (simp only [c28, hcl, hnl, hnt, aj4, o9, hw1, SXR, simprocAttr]))
 refine ai1 ?_
 repeat' (first
  | (with_reducible refine b8 (hq) (by simp only [SXR, hcl, o9]) (by simp only [SXR, hcl, o9]) ?_)
  | (simp only [c28, hcl, hnl, hnt, aj4, o9, hw1, SXR, simprocAttr]))
 refine ai1 ?_
 repeat' (first
  | (with_reducible refine b8 (hq) (by simp only [SXR, hcl, o9]) (by simp only [SXR, hcl, o9]) ?_)
  | (simp only [c28, hcl, hnl, hnt, aj4, o9, hw1, SXR, simprocAttr]))
theorem ao0 (x : NNode) (hk : x.ok) : PC Tryz.prog 13 [.ag x.row, .ag x.row] (.b true) := by
 have hs := r19same_refl x hk
 have hcl := t7 x
 have hnl := i6 x
 have hnt := f0 x
 have hpc := nprg_cl ⟨[], [x]⟩
 generalize hrx : x.row = r at *
 simp only [NPrg.row, List.map_cons, List.map_nil, hrx] at hs hpc
 have hp5 : ∀ a b c d e : V, putAt [a, b, c, d, e] 0 r = r := fun a b c d e => by rw [← hrx]; rfl
 refine u4 Tryz.func13 k13 rfl ?_
 repeat' (first
  | (simp only [c13, hcl, hnl, hnt, hp5, SXR, simprocAttr]))
 have hse : ∀ (h : Hp) (D : Nat → Prop) (a : Nat), h a = .c false r → D a → Se h D (.ag [.ns, .sl a 0 5 1 none]) (.ag [.ts [], .ts [r]]) := fun h D a ha hD =>
  Sl.ag ⟨.nil, Se.flat' (rs := [r]) ha (by simp) rfl hD (by simp [hnl]), trivial⟩
 refine ae8 hs [2, 3] rfl rfl (sl2 (hse _ _ 2 rfl (by simp)) (hse _ _ 3 rfl (by simp))) (by simp only [clL, V.cl, clR, hcl, Bool.and_self]) rfl ?_
 repeat' (first
  | (simp only [c13, SXR, simprocAttr]))
def bad (e : Nat × Nat) : Bool := decide (e.2 ≤ e.1)
def eidx : List (Nat × Nat) → Nat → Int
 | [], _ => -1
 | e :: l, i => if bad e = true then (i : Int) else eidx l (i + 1)
theorem eidx_ge : ∀ (l : List (Nat × Nat)) (i : Nat), decide (eidx l i ≥ 0) = l.any bad
 | [], i => rfl
 | e :: l, i => by
   by_cases h : bad e = true
   ·rw [show eidx (e :: l) i = (i : Int) from if_pos h]; simp [h]
   ·rw [show eidx (e :: l) i = eidx l (i + 1) from if_neg h, eidx_ge l (i + 1)]; simp [h]
theorem sright1_pc (e : Nat × Nat) : PC Tryz.prog 30 [.ag [.i .i64 (e.1 : Int), .i .i64 (e.2 : Int)]] (.b (bad e)) := by
 have hd : decide ((e.1 : Int) ≥ (e.2 : Int)) = bad e := by simp [bad]
 refine u4 Tryz.func30 k30 rfl ?_
 repeat' (first
  | (simp only [c30, hd, SXR, simprocAttr]))
theorem idxedge_ac {js : List O} {ev : V} {E : List (Nat × Nat)} (hE : RW ap2 2 js ev E) (hl : E.length < 1000000) (hlt : ltO js.length js = true) :
  ACalls Tryz.prog 45 [ev, .fn 30 [] []] (hpL js) js.length (.i .i64 (eidx E 0)) (hpL js) js.length := by
 have hlen := hE.len
 refine aa9 Tryz.func45 k45 rfl rfl (by simp only [V.lt]) hlt ?_
 repeat' (first
  | (simp only [c45, af0, ae9, hlen, SXR, simprocAttr]))
 refine m4 (X := Nat) (fun i ll hs => Hd (fun j => [ev, .fn 30 [] [], j 2, j 3, j 4, j 5, j 6, .i .i64 (E.length : Int), .i .i64 (i : Int), j 9, j 10, j 11, j 12, j 13, j 14, j 15, j 16, j 17, j 18]) ll ∧ hs = js)
  (fun i => i ≤ E.length ∧ eidx E 0 = eidx (E.drop i) i) (fun i => E.length - i) ?_ 0 _ _ (by exact ⟨rfl, rfl⟩) ⟨Nat.zero_le _, rfl⟩
 rintro i _ _ ⟨e, rfl⟩ ⟨hi, hinv⟩ IH
 obtain ⟨j, rfl⟩ := e.open
 clear e
 by_cases hil : i < E.length
 ·obtain ⟨x, hx, hxm⟩ := ats hil
  obtain ⟨ad, g1, g2⟩ := hE.get i x hx
  have g2' := g2 []
  rw [List.append_nil] at g2'
  simp only [ap2] at g2'
  have hd := ltd hil
  have hw := j0 (n := i) (by omega)
  have hc := sright1_pc x
  rw [v6 hx] at hinv
  simp only [eidx] at hinv
  cases hb : bad x with
  | true =>
    rw [if_pos hb] at hinv
    rw [hb] at hc
    rw [hinv]
    repeat' (first
     | (with_reducible refine b8 (hc) (by simp only [SXR]) (by simp only [SXR]) ?_)
     | (simp only [c45, af0, ae9, hd, g1, g2', SXR, simprocAttr]))
    exact ⟨[], by simp⟩
  | false =>
    rw [if_neg (by simp [hb])] at hinv
    rw [hb] at hc
    repeat' (first
     | (with_reducible refine b8 (hc) (by simp only [SXR]) (by simp only [SXR]) ?_)
     | (simp only [c45, af0, ae9, hd, hw, g1, g2', SXR, simprocAttr]))
    exact IH (i + 1) _ _ (by exact ⟨rfl, rfl⟩) ⟨hil, hinv⟩ (by omega)
 ·clear IH
  have hd := ltn hil
  rw [List.drop_eq_nil_of_le (by omega)] at hinv
  simp only [eidx] at hinv
  rw [hinv]
  repeat' (first
   | (simp only [c45, af0, ae9, hd, SXR, simprocAttr]))
  exact ⟨[], by simp⟩
theorem contedge_ac {js : List O} {ev : V} {E : List (Nat × Nat)} (hE : RW ap2 2 js ev E) (hl : E.length < 1000000) (hlt : ltO js.length js = true) :
  ACalls Tryz.prog 29 [ev, .fn 30 [] []] (hpL js) js.length (.b (E.any bad)) (hpL js) js.length := by
 have hx := idxedge_ac hE hl hlt
 have hg := eidx_ge E 0
 refine aa9 Tryz.func29 k29 rfl rfl (by simp only [V.lt]) hlt ?_
 repeat' (first
  | (with_reducible refine e8 (hx) ?_)
  | (simp only [c29, af0, ae9, hg, SXR, simprocAttr]))
 exact ⟨[], by simp⟩
def al3 (eqs : List NEqn) : Bool := !(al6 eqs eqs.length).any bad
theorem sright_pc (n : NNode) (hk : n.ok) (hb : NB n.eqs) : PC Tryz.prog 14 [.ag n.row] (.b (al3 n.eqs)) := by
 have hN := hb.n
 have hbeg := sbegin_ac (js := [.c false n.row]) n hk hb (be9 (by rw [ab8]; exact t7 n))
 have hnr := beg_nr n (o := O.c false n.row)
 have hlt0 := beg_lt n
 have hs1 : hpL ([O.c false n.row] ++ bi9 1 n) 1 = .c false (scc 1 n.row n.eqs.length (edgV 1 (al6 n.eqs n.eqs.length))) := rfl
 rw [show ([O.c false n.row] : List O).length = 1 from rfl] at hbeg
 generalize [O.c false n.row] ++ bi9 1 n = P0 at *
 have hEl := ba1 n.eqs n.eqs.length
 have hEl2 : n.eqs.length * n.eqs.length ≤ 200 * 200 := Nat.mul_le_mul hN hN
 have hco := contedge_ac (hnr.rw erow_w) (by omega) hlt0
 have hs1' : hpL P0 1 = .c false [.s n.nm.1 n.nm.2, .ts (n.ins.map Decl.row), .ts (n.outs.map Decl.row), .ts (n.locals.map Decl.row), .ts (n.eqs.map NEqn.row), edgV 1 (al6 n.eqs n.eqs.length), .sl 2 0 1 n.eqs.length none, .sl 3 0 1 n.eqs.length none] := hs1
 unfold al3
 refine ag3 Tryz.func14 k14 rfl ?_
 repeat' (first
  | (with_reducible refine e8 (hbeg) ?_)
  | (with_reducible refine e8 (hco) ?_)
  | (simp only [c14, aa0, z9, i6, f0, hs1', SXR, simprocAttr]))
 exact .same _
def au8 : List Ex → Int → Int
 | [], m => m
 | a :: r, m => if 0 < m then au8 r (IntKind.i64.wrap (m - w6 a m)) else m
def sOne (q : NEqn) (m : Int) : Int := IntKind.i64.wrap (IntKind.i64.wrap (IntKind.i64.wrap (m - w6 q.right m) - (q.ck.length : Int)) - (q.left.length : Int))
def sEqs : List NEqn → Int → Int
 | [], m => m
 | q :: r, m => if 0 < m then sEqs r (au8 q.args (sOne q m)) else m
def al2 (eqs : List NEqn) : Bool := if 200 < eqs.length then false else decide (sEqs eqs 4000 > 0)
set_option maxRecDepth 10000 in
set_option maxHeartbeats 4000000 in
theorem small_pc (n : NNode) (hk : n.okw) : PC Tryz.prog 6 [.ag n.row] (.b (al2 n.eqs)) := by
 obtain ⟨_, _, _, o4, o5⟩ := hk
 unfold Lst.ok at o4
 by_cases h2 : 200 < n.eqs.length
 ·have hd : decide ((n.eqs.length : Int) > 200) = true := decide_eq_true (by omega)
  have : al2 n.eqs = false := by simp only [al2, if_pos h2]
  rw [this]
  refine u4 Tryz.func6 k6 rfl ?_
  repeat' (first
   | ((with_reducible refine o0 ?rdq ?_); (case rdq => refine m9 rfl ?_ ?_ <;> simp only [Option.isSome_some, nn4, i6, f0, List.length_map, hd, SXR, simprocAttr]))
   | (simp only [c6, nn4, i6, f0, List.length_map, hd, SXR, simprocAttr]))
 ·have hd0 : decide ((n.eqs.length : Int) > 200) = false := decide_eq_false (by omega)
  have hsm : al2 n.eqs = decide (sEqs n.eqs 4000 > 0) := by simp only [al2, if_neg h2]
  rw [hsm]
  refine u4 Tryz.func6 k6 rfl ?_
  repeat' (first
   | ((with_reducible refine o0 ?rdq ?_); (case rdq => refine m9 rfl ?_ ?_ <;> simp only [Option.isSome_some, nn4, i6, f0, List.length_map, hd0, SXR, simprocAttr]))
   | (simp only [c6, nn4, i6, f0, List.length_map, hd0, SXR, simprocAttr]))
  refine m4 (X := Nat × Int) (fun x ll hs => ∃ y : Unit, Hd (fun j => [j 0, .p 0 0, j 2, .i .i64 x.2, .i .i64 (x.1 : Int), j 5, j 6, j 7, j 8, j 9, j 10, j 11, j 12, j 13, j 14, j 15, j 16, j 17, j 18, j 19, j 20, j 21, j 22, j 23, j 24, j 25, j 26, j 27, j 28, j 29, j 30, j 31, j 32, j 33, j 34, j 35, j 36, j 37, j 38, j 39, j 40, j 41, j 42, j 43, j 44, j 45, j 46, j 47, j 48, j 49, j 50, j 51, j 52, j 53, j 54, j 55, j 56, j 57, j 58, j 59, j 60, j 61, j 62, j 63, j 64, j 65, j 66, j 67, j 68, j 69, j 70, j 71, j 72, j 73, j 74, j 75, j 76]) ll ∧ hs = [.c false n.row])
   (fun x => x.1 ≤ n.eqs.length ∧ sEqs (n.eqs.drop x.1) x.2 = sEqs n.eqs 4000) (fun x => n.eqs.length - x.1) ?_ (0, 4000) _ _ (by exact ⟨(), rfl, rfl⟩) ⟨Nat.zero_le _, rfl⟩
  rintro ⟨i, m⟩ _ _ ⟨_, e, rfl⟩ ⟨hi, hfin⟩ IH
  obtain ⟨j, rfl⟩ := e.open
  clear e
  simp only at hi hfin IH ⊢
  by_cases hil : i < n.eqs.length
  ·obtain ⟨q, hq, hqm⟩ := ats hil
   have hqr := mg (f := NEqn.row) hq
   have hd := ltd hil
   have hw := j0 (n := i) (by omega)
   rw [v6 hq] at hfin
   simp only [sEqs] at hfin
   by_cases hm : 0 < m
   ·have hg : decide (m > 0) = true := decide_eq_true hm
    rw [if_pos hm] at hfin
    obtain ⟨h1, h2, h3, h4, h5⟩ := o5 q hqm
    unfold Lst.ok at h3
    have hw6 := ba8 q.right.sz q.right m (Nat.le_refl _) h2
    unfold xg at hw6
    have hrc := j4 q.right
    repeat' (first
     | ((with_reducible refine o0 ?rdq ?_); (case rdq => refine m9 rfl ?_ ?_ <;> simp only [Option.isSome_some, nn4, i6, f0, List.length_map, hqr, hd, hg, i7, i8, j7, p9, m8, m7, hrc, i4, SXR, simprocAttr]))
     | (with_reducible refine b8 (hw6) (by simp only [SXR, hrc]) (by simp only [SXR, hrc]) ?_)
     | (simp only [c6, nn4, i6, f0, List.length_map, hqr, hd, hg, i7, i8, j7, p9, m8, m7, hrc, i4, SXR, simprocAttr]))
    rw [show IntKind.i64.wrap (IntKind.i64.wrap (IntKind.i64.wrap (m - w6 q.right m) - (q.ck.length : Int)) - (q.left.length : Int)) = sOne q m from rfl]
    generalize sOne q m = m1 at hfin
    refine m4 (X := Nat × Int) (fun x ll hs => ∃ y : Unit, Hd (fun j => [j 0, .p 0 0, j 2, .i .i64 x.2, .i .i64 (i : Int), .i .i64 (x.1 : Int), j 6, j 7, j 8, j 9, j 10, j 11, j 12, j 13, j 14, j 15, j 16, j 17, j 18, j 19, j 20, j 21, j 22, j 23, j 24, j 25, j 26, j 27, j 28, j 29, j 30, j 31, j 32, j 33, j 34, j 35, j 36, j 37, j 38, j 39, j 40, j 41, j 42, j 43, j 44, j 45, j 46, j 47, j 48, j 49, j 50, j 51, j 52, j 53, j 54, j 55, j 56, j 57, j 58, j 59, j 60, j 61, j 62, j 63, j 64, j 65, j 66, j 67, j 68, j 69, j 70, j 71, j 72, j 73, j 74, j 75, j 76]) ll ∧ hs = [.c false n.row])
     (fun x => x.1 ≤ q.args.length ∧ au8 (q.args.drop x.1) x.2 = au8 q.args m1) (fun x => q.args.length - x.1) ?_ (0, m1) _ _ (by exact ⟨(), rfl, rfl⟩) ⟨Nat.zero_le _, rfl⟩
    rintro ⟨c, m2⟩ _ _ ⟨_, e, rfl⟩ ⟨hc, hfin2⟩ IK
    obtain ⟨j, rfl⟩ := e.open
    clear e
    simp only at hc hfin2 IK ⊢
    by_cases hcl : c < q.args.length
    ·obtain ⟨x, hx, hxm⟩ := ai0 hcl
     have hxr : (Ex.rows q.args)[c]? = some x.row := by rw [ad3, hx]; rfl
     have hdc := ltd hcl
     have hwc := j0 (n := c) (by omega)
     rw [v6 hx] at hfin2
     simp only [au8] at hfin2
     by_cases hm2 : 0 < m2
     ·clear IH
      have hg2 : decide (m2 > 0) = true := decide_eq_true hm2
      rw [if_pos hm2] at hfin2
      have hwx := ba8 x.sz x m2 (Nat.le_refl _) (ag5 h4 hxm)
      unfold xg at hwx
      have hxc := j4 x
      repeat' (first
       | ((with_reducible refine o0 ?rdq ?_); (case rdq => refine m9 rfl ?_ ?_ <;> simp only [Option.isSome_some, nn4, i6, f0, List.length_map, hqr, hdc, hwc, hg2, i7, i8, m7, hxr, j5, j3, hxc, i4, SXR, simprocAttr]))
       | (with_reducible refine b8 (hwx) (by simp only [SXR, hxc]) (by simp only [SXR, hxc]) ?_)
       | (simp only [c6, nn4, i6, f0, List.length_map, hqr, hdc, hwc, hg2, i7, i8, m7, hxr, j5, j3, hxc, i4, SXR, simprocAttr]))
      exact IK (c + 1, _) _ _ (by exact ⟨(), rfl, rfl⟩) ⟨hcl, hfin2⟩ (by simp only; omega)
     ·clear IK
      have hg2 : decide (m2 > 0) = false := decide_eq_false hm2
      rw [if_neg hm2] at hfin2
      rw [← hfin2] at hfin
      repeat' (first
       | ((with_reducible refine o0 ?rdq ?_); (case rdq => refine m9 rfl ?_ ?_ <;> simp only [Option.isSome_some, nn4, i6, f0, List.length_map, hqr, hdc, hw, hg2, i7, i8, m7, i4, SXR, simprocAttr]))
       | (simp only [c6, nn4, i6, f0, List.length_map, hqr, hdc, hw, hg2, i7, i8, m7, i4, SXR, simprocAttr]))
      exact IH (i + 1, m2) _ _ (by exact ⟨(), rfl, rfl⟩) ⟨hil, hfin⟩ (by simp only; omega)
    ·clear IK
     have hce : c = q.args.length := by omega
     subst hce
     have hdc := ltn hcl
     rw [List.drop_eq_nil_of_le (Nat.le_refl _)] at hfin2
     simp only [au8] at hfin2
     rw [← hfin2] at hfin
     repeat' (first
      | ((with_reducible refine o0 ?rdq ?_); (case rdq => refine m9 rfl ?_ ?_ <;> simp only [Option.isSome_some, nn4, i6, f0, List.length_map, hqr, hdc, hw, i7, i8, m7, i4, SXR, simprocAttr]))
      | (simp only [c6, nn4, i6, f0, List.length_map, hqr, hdc, hw, i7, i8, m7, i4, SXR, simprocAttr]))
     exact IH (i + 1, m2) _ _ (by exact ⟨(), rfl, rfl⟩) ⟨hil, hfin⟩ (by simp only; omega)
   ·clear IH
    have hg : decide (m > 0) = false := decide_eq_false hm
    rw [if_neg hm] at hfin
    rw [← hfin, hg]
    repeat' (first
     | ((with_reducible refine o0 ?rdq ?_); (case rdq => refine m9 rfl ?_ ?_ <;> simp only [Option.isSome_some, nn4, i6, f0, List.length_map, hd, hg, SXR, simprocAttr]))
     | (simp only [c6, nn4, i6, f0, List.length_map, hd, hg, SXR, simprocAttr]))
  ·clear IH
   have hie : i = n.eqs.length := by omega
   subst hie
   have hd := ltn hil
   rw [List.drop_eq_nil_of_le (Nat.le_refl _)] at hfin
   simp only [sEqs] at hfin
   rw [← hfin]
   repeat' (first
    | ((with_reducible refine o0 ?rdq ?_); (case rdq => refine m9 rfl ?_ ?_ <;> simp only [Option.isSome_some, nn4, i6, f0, List.length_map, hd, SXR, simprocAttr]))
    | (simp only [c6, nn4, i6, f0, List.length_map, hd, SXR, simprocAttr]))
theorem aj5 {i : Int} (h1 : -1000000000000000000 < i) (h2 : i < 1000000000000000000) : IntKind.i64.wrap i = i := by
 rw [IntKind.wrap_i64]; omega
mutual
theorem w6_spec : ∀ (e : Ex) (m : Int), 0 < m → m ≤ 4000 → 1 ≤ w6 e m ∧ w6 e m ≤ m ∧ (w6 e m < m → w6 e m = (e.sz : Int))
 | .mk _ _ _ _ _ _ args, m, h0, hm => by
   obtain ⟨q1, q2, q3⟩ := w6s_spec args m 1 (by omega) h0 hm
   simp only [w6, Ex.sz]
   have := q2 (by omega)
   rw [if_neg (by omega)]
   exact ⟨q1, this, fun h => by rw [q3 h]; omega⟩
theorem w6s_spec : ∀ (l : List Ex) (m n : Int), 1 ≤ n → 0 < m → m ≤ 4000 → n ≤ w6s l m n ∧ (n ≤ m → w6s l m n ≤ m) ∧ (w6s l m n < m → w6s l m n = n + (Ex.szs l : Int))
 | [], m, n, h1, h0, hm => by simp only [w6s, Ex.szs]; exact ⟨Int.le_refl _, fun h => h, fun h => by omega⟩
 | e :: l, m, n, h1, h0, hm => by
   simp only [w6s, Ex.szs]
   by_cases hn : n < m
   ·rw [if_pos hn]
    have e1 : IntKind.i64.wrap (m - n) = m - n := aj5 (by omega) (by omega)
    rw [e1]
    obtain ⟨u1, u2, u3⟩ := w6_spec e (m - n) (by omega) (by omega)
    rw [aj5 (by omega) (by omega)]
    obtain ⟨q1, q2, q3⟩ := w6s_spec l m (n + w6 e (m - n)) (by omega) h0 hm
    refine ⟨by omega, fun _ => q2 (by omega), fun h => ?_⟩
    rw [q3 h, u3 (by omega)]; omega
   ·rw [if_neg hn]
    exact ⟨Int.le_refl _, fun h => h, fun h => by omega⟩
end
theorem bj8 : ∀ (l : List Ex) (m : Int), m ≤ 4000 → -1000000000000000 < m → au8 l m ≤ m ∧ -1000000000000000 < au8 l m ∧ (0 < au8 l m → au8 l m + (Ex.szs l : Int) ≤ m)
 | [], m, h1, h2 => by simp only [au8, Ex.szs]; exact ⟨Int.le_refl _, h2, fun h => by omega⟩
 | a :: l, m, h1, h2 => by
   simp only [au8, Ex.szs]
   by_cases hm : 0 < m
   ·rw [if_pos hm]
    obtain ⟨u1, u2, u3⟩ := w6_spec a m hm h1
    rw [aj5 (by omega) (by omega)]
    obtain ⟨q1, q2, q3⟩ := bj8 l (m - w6 a m) (by omega) (by omega)
    refine ⟨by omega, q2, fun h => ?_⟩
    have := q3 h
    have := u3 (by omega)
    omega
   ·rw [if_neg hm]
    exact ⟨Int.le_refl _, h2, fun h => by omega⟩
theorem sOne_spec (q : NEqn) (hq : q.okw) (m : Int) (h0 : 0 < m) (hm : m ≤ 4000) : sOne q m ≤ m ∧ -1000000000000000 < sOne q m ∧ (0 < sOne q m → sOne q m + (q.right.sz : Int) + (q.ck.length : Int) + (q.left.length : Int) ≤ m) := by
 obtain ⟨h1, _, _, _, h5⟩ := hq
 unfold Lst.ok at h1 h5
 obtain ⟨u1, u2, u3⟩ := w6_spec q.right m h0 hm
 unfold sOne
 rw [aj5 (i := m - w6 q.right m) (by omega) (by omega), aj5 (i := m - w6 q.right m - (q.ck.length : Int)) (by omega) (by omega), aj5 (by omega) (by omega)]
 refine ⟨by omega, by omega, fun h => ?_⟩
 have := u3 (by omega)
 omega
theorem bc8 : ∀ (l : List NEqn) (m : Int), (∀ q, q ∈ l → q.okw) → m ≤ 4000 → sEqs l m ≤ m ∧ (0 < sEqs l m → ∀ q, q ∈ l → q.left.length + q.ck.length ≤ 4000 ∧ rsz q ≤ 8000)
 | [], m, _, h1 => by simp only [sEqs]; exact ⟨Int.le_refl _, fun _ q hq => by simp at hq⟩
 | x :: l, m, hok, h1 => by
   simp only [sEqs]
   by_cases hm : 0 < m
   ·rw [if_pos hm]
    obtain ⟨a1, a2, a3⟩ := sOne_spec x (hok x (by simp)) m hm h1
    obtain ⟨b1, b2, b3⟩ := bj8 x.args (sOne x m) (by omega) a2
    obtain ⟨c1, c2⟩ := bc8 l (au8 x.args (sOne x m)) (fun q hq => hok q (by simp [hq])) (by omega)
    refine ⟨by omega, fun h q hq => ?_⟩
    rcases List.mem_cons.1 hq with rfl | hq
    ·have := b3 (by omega)
     have := a3 (by omega)
     unfold rsz
     omega
    ·exact c2 h q hq
   ·rw [if_neg hm]
    exact ⟨Int.le_refl _, fun h => by omega⟩
theorem ay9 {n : NNode} (hk : n.okw) (h : al2 n.eqs = true) : NB n.eqs := by
 simp only [al2] at h
 split at h
 ·cases h
 ·rename_i h2
  have h3 : 0 < sEqs n.eqs 4000 := by simpa using h
  obtain ⟨_, q⟩ := bc8 n.eqs 4000 hk.2.2.2.2 (Int.le_refl _)
  exact ⟨by omega, fun x hx => by have := (q h3 x hx).1; omega, fun x hx => by have := (q h3 x hx).2; omega⟩
theorem small_ok {n : NNode} (hk : n.okw) (h : al2 n.eqs = true) : n.ok := by
 obtain ⟨o1, o2, o3, o4, o5⟩ := hk
 refine ⟨o1, o2, o3, o4, fun q hq => ?_⟩
 obtain ⟨h1, h2, h3, h4, h5⟩ := o5 q hq
 have hr := (ay9 ⟨o1, o2, o3, o4, o5⟩ h).r q hq
 refine ⟨h1, h2, h3, h4, h5, ?_⟩
 simp only [al2] at h
 split at h
 ·cases h
 ·have h3 : 0 < sEqs n.eqs 4000 := by simpa using h
  obtain ⟨_, q2⟩ := bc8 n.eqs 4000 o5 (Int.le_refl _)
  have := (q2 h3 q hq).1
  have := au4 q.args
  unfold rsz at hr
  omega
def Waits (q q' : NEqn) : Prop := (q'.kind == 2) = false ∧ ∃ s, s ∈ p5 q ∧ ∃ t, t ∈ q'.left ∧ ac1 s t = true
theorem byQ_mem {s : Str} {i j : Nat} {q : NEqn} : j ∈ byQ s i q ↔ j = i ∧ (q.kind == 2) = false ∧ ∃ t, t ∈ q.left ∧ ac1 s t = true := by
 unfold byQ
 cases hk : (q.kind == 2) with
 | true => simp
 | false =>
   rw [if_neg (by simp)]
   simp only [List.mem_map, List.mem_filter]
   constructor
   ·rintro ⟨t, ⟨h1, h2⟩, rfl⟩; exact ⟨rfl, trivial, t, h1, h2⟩
   ·rintro ⟨rfl, _, t, h1, h2⟩; exact ⟨t, ⟨h1, h2⟩, rfl⟩
theorem byK_mem {eqs : List NEqn} {s : Str} : ∀ {k j : Nat}, j ∈ byK eqs k s ↔ j < k ∧ ∃ q, eqs[j]? = some q ∧ (q.kind == 2) = false ∧ ∃ t, t ∈ q.left ∧ ac1 s t = true
 | 0, j => by simp [byK]
 | k + 1, j => by
   simp only [byK, List.mem_append]
   rw [byK_mem (k := k)]
   constructor
   ·rintro (⟨h1, h2⟩ | h)
    ·exact ⟨by omega, h2⟩
    ·cases he : eqs[k]? with
     | none => rw [he] at h; simp at h
     | some q =>
       rw [he] at h
       simp only [byQ_mem] at h
       obtain ⟨rfl, h1, h2⟩ := h
       exact ⟨by omega, q, he, h1, h2⟩
   ·rintro ⟨h1, q, hq, h2, h3⟩
    by_cases hj : j = k
    ·subst hj
     refine .inr ?_
     rw [hq]
     simp only [byQ_mem]
     exact ⟨trivial, h2, h3⟩
    ·exact .inl ⟨by omega, q, hq, h2, h3⟩
theorem ba4 {eqs : List NEqn} {i j : Nat} : i ∈ al7 eqs j ↔ ∃ q q', eqs[j]? = some q ∧ eqs[i]? = some q' ∧ Waits q q' := by
 unfold al7
 cases hj : eqs[j]? with
 | none => simp
 | some q =>
   simp only [ba3]
   constructor
   ·rintro (h | ⟨s, h1, h2⟩)
    ·simp at h
    ·obtain ⟨_, q', h3, h4, h5⟩ := byK_mem.1 h2
     exact ⟨q, q', rfl, h3, h4, s, h1, h5⟩
   ·rintro ⟨q1, q', e, h3, h4, s, h1, h5⟩
    cases e
    exact .inr ⟨s, h1, byK_mem.2 ⟨(List.getElem?_eq_some_iff.1 h3).1, q', h3, h4, h5⟩⟩
theorem be0 {eqs : List NEqn} : ∀ (f : Nat) (out l : List Nat), (∀ j v, out[j]? = some v → ∀ i, i ∈ al7 eqs v → i ∈ out.take j) → ordF eqs f out = some l → ∀ j v, l[j]? = some v → ∀ i, i ∈ al7 eqs v → i ∈ l.take j
 | 0, out, l, h, e => by simp only [ordF] at e; cases e; exact h
 | f + 1, out, l, h, e => by
   simp only [ordF] at e
   split at e
   ·cases e; exact h
   ·split at e
    ·cases e
    ·rename_i v hv
     obtain ⟨q1, q2, q3⟩ := an8 hv
     refine be0 f _ l (fun j w hj i hi => ?_) e
     rcases Nat.lt_or_ge j out.length with hl | hl
     ·rw [List.getElem?_append_left hl] at hj
      rw [List.take_append_of_le_length (by omega)]
      exact h j w hj i hi
     ·have hjl := (List.getElem?_eq_some_iff.1 hj).1
      simp only [List.length_append, List.length_cons, List.length_nil] at hjl
      have hje : j = out.length := by omega
      subst hje
      simp at hj
      subst hj
      have h0 : ((al7 eqs v).filter fun i => !out.contains i).length = 0 := by rw [← at9 eqs out q1]; exact q3
      have := List.filter_eq_nil_iff.1 (List.length_eq_zero_iff.1 h0) i hi
      rw [List.take_append_of_le_length (Nat.le_refl _), List.take_length]
      simpa using this
theorem ordRes_topo {eqs : List NEqn} {l : List Nat} (h : ab0 eqs = some l) {j v : Nat} (hj : l[j]? = some v) {i : Nat} (hi : i ∈ al7 eqs v) : i ∈ l.take j := by
 simp only [ab0] at h
 split at h
 ·cases h
 ·exact be0 _ _ _ (by simp) h j v hj i hi
theorem nod_dep {eqs : List NEqn} {l : List Nat} (h : ab0 eqs = some l) {i j : Nat} (hi : i ∈ al7 (l.map (ar7 eqs)) j) : i < j := by
 obtain ⟨h1, h2, h3⟩ := aa5 h
 obtain ⟨q, q', e1, e2, hw⟩ := ba4.1 hi
 rw [List.getElem?_map] at e1 e2
 obtain ⟨v, hv, e1⟩ := Option.map_eq_some_iff.1 e1
 obtain ⟨u, hu, e2⟩ := Option.map_eq_some_iff.1 e2
 obtain ⟨qv, hqv, _⟩ := ats (h2 v (List.mem_of_getElem? hv))
 obtain ⟨qu, hqu, _⟩ := ats (h2 u (List.mem_of_getElem? hu))
 rw [ah8 hqv] at e1; rw [ah8 hqu] at e2
 subst e1 e2
 have hm := ordRes_topo h hv (ba4.2 ⟨_, _, hqv, hqu, hw⟩)
 obtain ⟨k, hk, e⟩ := List.getElem_of_mem hm
 rw [List.length_take] at hk
 rw [List.getElem_take] at e
 have hil := (List.getElem?_eq_some_iff.1 hu)
 obtain ⟨hil, hie⟩ := hil
 have : k = i := (List.getElem_inj h1).1 (by rw [e, hie])
 omega
theorem outF_all {eqs : List NEqn} (hd : ∀ i j, i ∈ al7 eqs j → i < j) : ¬ (av5 (nxE eqs) eqs.length).length < eqs.length := by
 intro hlt
 have hb : ∀ v w, v < eqs.length → w ∈ nxE eqs v → w < eqs.length := fun v w _ hw => (aq3.1 hw).1
 have key : ∀ n k, k < n → k < eqs.length → k ∈ av5 (nxE eqs) eqs.length := by
  intro n
  induction n with
  | zero => intro k h; omega
  | succ n ih =>
    intro k hk hkl
    by_cases ho : k ∈ av5 (nxE eqs) eqs.length
    ·exact ho
    ·obtain ⟨v, h1, h2, h3⟩ := bk4 hb hkl ho
     have := hd v k (aq3.1 h3).2
     exact (h2 (ih v (by omega) h1)).elim
 have hiv := outF_spec (n := eqs.length) hb
 have hnd := hiv.nd
 have hlt2 := hiv.lt
 rw [List.append_nil] at hnd
 rw [List.append_nil] at hlt2
 have hp := (List.perm_ext_iff_of_nodup List.nodup_range hnd).2 fun a => ⟨fun h => key eqs.length a (List.mem_range.1 h) (List.mem_range.1 h), fun h => List.mem_range.2 (hlt2 a h)⟩
 have := hp.length_eq
 rw [List.length_range] at this
 omega
theorem be5 {eqs : List NEqn} {g : Nat → Nat} {d : Nat → Bool} {last : Option Nat} {j : Nat} (hj : d j = false ∧ g j = 0) (hn : bi7 eqs last j = true) : ∀ (r k : Nat) (first : Option Nat), k ≤ j → j < k + r → (∀ i, k ≤ i → i < j → d i = true) → ar8 eqs g d last r k first = some j
 | 0, k, first, h1, h2, _ => by omega
 | r + 1, k, first, h1, h2, h3 => by
   simp only [ar8]
   by_cases hk : k = j
   ·subst hk
    rw [if_neg (by rw [hj.1, hj.2]; simp), if_pos hn]
   ·rw [if_pos (.inl (h3 k (Nat.le_refl _) (by omega)))]
    exact be5 hj hn r (k + 1) first (by omega) (by omega) fun i hi1 hi2 => h3 i (by omega) hi2
theorem bk5 {eqs : List NEqn} (hd : ∀ i j, i ∈ al7 eqs j → i < j) (hc : ∀ i j, i < eqs.length → j < eqs.length → ckF eqs i = ckF eqs j) : ∀ (f j : Nat), j ≤ eqs.length → eqs.length < f + j → ordF eqs f (List.range j) = some (List.range eqs.length)
 | 0, j, h1, h2 => by omega
 | f + 1, j, h1, h2 => by
   simp only [ordF, List.length_range]
   by_cases hj : eqs.length ≤ j
   ·rw [if_pos hj, show j = eqs.length by omega]
   ·rw [if_neg hj]
    have hg : gX (ac3 (nxE eqs) eqs.length (List.range j)) j = 0 := by
     show (ac3 (nxE eqs) eqs.length (List.range j)).count j = 0
     rw [at9 eqs _ (by omega), List.length_eq_zero_iff, List.filter_eq_nil_iff]
     intro i hi
     have := hd i j hi
     simp [this]
    have hnear : bi7 eqs (List.range j).getLast? j = true := by
     cases hl : (List.range j).getLast? with
     | none => rfl
     | some m =>
       have hm := List.mem_range.1 (List.mem_of_getLast? hl)
       simp only [bi7]
       rw [hc j m (by omega) (by omega)]
       exact cks_refl _
    have hnx : nextF eqs (gX (ac3 (nxE eqs) eqs.length (List.range j))) (fun k => (List.range j).contains k) (List.range j).getLast? = some j := by
     refine be5 ⟨by simp, hg⟩ hnear _ _ _ (Nat.zero_le _) (by omega) fun i _ hi => by simpa using hi
    rw [hnx]
    simp only
    rw [← List.range_succ]
    exact bk5 hd hc f (j + 1) (by omega) (by omega)
theorem ordRes_range {eqs : List NEqn} (hd : ∀ i j, i ∈ al7 eqs j → i < j) (hc : ∀ i j, i < eqs.length → j < eqs.length → ckF eqs i = ckF eqs j) : ab0 eqs = some (List.range eqs.length) := by
 simp only [ab0]
 rw [if_neg (outF_all hd)]
 exact bk5 hd hc _ 0 (Nat.zero_le _) (by omega)
theorem nod_range (eqs : List NEqn) : (List.range eqs.length).map (ar7 eqs) = eqs := by
 apply List.ext_getElem?
 intro i
 rw [List.getElem?_map]
 by_cases hi : i < eqs.length
 ·obtain ⟨q, hq, _⟩ := ats hi
  rw [List.getElem?_range hi, Option.map_some, ah8 hq, hq]
 ·rw [List.getElem?_eq_none (by simp; omega), List.getElem?_eq_none (by omega)]
  rfl
end Go.Proofs.YtpbgbokclgbdlaaGreatDoor
