/-
  The delays of a node, in a heap: one equation; the part of a delay's source.
  Two delays that are compared. Printed by mkcmp.py.
  The parts of delays, in plain words: one division, and all of them until nothing changes.
  The division of delays into parts, in a heap.
-/
import Derived.Test.YtieogkafbnnjcaaGreatDoorMd
import Derived.Test.YtieogkafbnnjcaaGreatDoorBY
set_option linter.unusedSimpArgs false
set_option linter.unusedVariables false
namespace Go.Proofs.YtieogkafbnnjcaaGreatDoor
open Go Go.B
theorem p7 (q : NEqn) : q.row.take 1 = [.i .i64 q.kind] := by obtain ⟨_, _, ⟨_, _, _, _, _, _, _⟩, _, _, _, _, _⟩ := q; rfl
theorem m7 (q : NEqn) : (q.row.drop 8).take 1 = [.i .i64 q.init] := by obtain ⟨_, _, ⟨_, _, _, _, _, _, _⟩, _, _, _, _, _⟩ := q; rfl
def Ex.nm : Ex → Str | .mk _ _ _ _ nl nn _ => (nl, nn)
theorem row_k (e : Ex) : e.row.take 1 = [.i .i64 e.k] := by cases e; rfl
theorem row_nm (e : Ex) : (e.row.drop 4).take 1 = [.s e.nm.1 e.nm.2] := by cases e; rfl
structure Dl where
 q : NEqn
 ix : Nat
 ty : Int
 s : Str
def be5 (d : Dl) (m : Nat) : List V := [.i .i64 (d.ix : Int), .i .i64 d.ty, .i .i64 (m : Int)]
def bg9 (dl : List Dl) (p : List Nat) : List (List V) := List.zipWith be5 dl p
def dcs (dl : List Dl) (p : List Nat) : List V := (bg9 dl p).flatten
theorem drows_w {dl : List Dl} {p : List Nat} : ∀ r, r ∈ bg9 dl p → r.length = 3 := by
 intro r hr
 obtain ⟨i, hi, rfl⟩ := List.mem_iff_getElem.1 hr
 simp only [bg9, List.getElem_zipWith]
 rfl
theorem drows_get {dl : List Dl} {p : List Nat} {i : Nat} {d : Dl} {m : Nat} (h1 : dl[i]? = some d) (h2 : p[i]? = some m) : (bg9 dl p)[i]? = some (be5 d m) := by
 simp only [bg9, List.getElem?_zipWith, h1, h2]
theorem bc9 {gr : Bool} {cs p r s : List V} {off c : Nat} {x : V} (hcs : cs = p ++ (r ++ s)) (hp : p.length = off) (hr : r[c]? = some x) : ldE.ldO 1 false (off + c) (.c gr cs) = some x := by
 subst hcs hp
 have hc := (List.getElem?_eq_some_iff.1 hr).1
 rw [ld_c (by rw [Nat.ble_eq]; simp; omega), List.drop_append]
 have e : List.drop (p.length + c) p = [] := List.drop_of_length_le (by omega)
 rw [e, List.nil_append, Nat.add_sub_cancel_left, List.drop_append_of_le_length (by omega)]
 rw [List.take_append_of_le_length (by simp; omega), List.take_one, List.head?_drop, hr]
 rfl
structure SH (js : List O) (A B : Nat) (n : NNode) (dl : List Dl) (p : List Nat) : Prop where
 hA : hpL js A = .c false [.s n.nm.1 n.nm.2, .ts (n.ins.map Decl.row), .ts (n.outs.map Decl.row), .ts (n.locals.map Decl.row), .ts (n.eqs.map NEqn.row), .sl B 0 3 dl.length none]
 hB : hpL js B = .c true (dcs dl p)
 len : p.length = dl.length
 dls : ∀ d, d ∈ dl → n.eqs[d.ix]? = some d.q ∧ d.q.left = [d.s] ∧ d.q.ok
 dn : dl.length < 30000000
 lt : ltO js.length js = true
theorem SH.A' {js : List O} {A B : Nat} {n : NNode} {dl : List Dl} {p : List Nat} (h : SH js A B n dl p) (zs : List O) : hpL (js ++ zs) A = .c false [.s n.nm.1 n.nm.2, .ts (n.ins.map Decl.row), .ts (n.outs.map Decl.row), .ts (n.locals.map Decl.row), .ts (n.eqs.map NEqn.row), .sl B 0 3 dl.length none] := ac7 h.hA
theorem SH.B' {js : List O} {A B : Nat} {n : NNode} {dl : List Dl} {p : List Nat} (h : SH js A B n dl p) (zs : List O) : hpL (js ++ zs) B = .c true (dcs dl p) := ac7 h.hB
theorem ats2 {js : List O} {A B i : Nat} {n : NNode} {dl : List Dl} {p : List Nat} (h : SH js A B n dl p) (hi : i < dl.length) : ∃ d m, dl[i]? = some d ∧ p[i]? = some m ∧ d ∈ dl := by
 refine ⟨dl[i], p[i]'(by rw [h.len]; exact hi), by simp [hi], by simp [h.len, hi], List.getElem_mem hi⟩
theorem SH.cell {js : List O} {A B i : Nat} {n : NNode} {dl : List Dl} {p : List Nat} {d : Dl} {m : Nat} (h : SH js A B n dl p) (h1 : dl[i]? = some d) (h2 : p[i]? = some m) {c : Nat} {x : V} (hx : (be5 d m)[c]? = some x) : ldE.ldO 1 false (i * 3 + c) (.c true (dcs dl p)) = some x := by
 obtain ⟨a, b, hf, hp⟩ := ao0 (drows_w (dl := dl) (p := p)) (drows_get h1 h2)
 exact bc9 hf hp hx
theorem SH.row {js : List O} {A B i : Nat} {n : NNode} {dl : List Dl} {p : List Nat} {d : Dl} {m : Nat} (h : SH js A B n dl p) (h1 : dl[i]? = some d) (h2 : p[i]? = some m) : ldE.ldO 3 true (i * 3) (.c true (dcs dl p)) = some (.ag (be5 d m)) := by
 obtain ⟨a, b, hf, hp⟩ := ao0 (drows_w (dl := dl) (p := p)) (drows_get h1 h2)
 exact ld_row hf hp rfl
theorem ltA (n : Nat) (q : NEqn) : (V.ag q.row).lt n = true := V.lt_of_cl n _ (by simp only [V.cl]; exact j5 q)
theorem ab4 {js : List O} {A B : Nat} {n : NNode} {dl : List Dl} {p : List Nat} (h : SH js A B n dl p) {i : Nat} {d : Dl} (hd : dl[i]? = some d) :
  ACalls Tryz.prog 89 [.p A 0, .i .i64 (i : Int)] (hpL js) js.length (.ag d.q.row) (hpL js) js.length := by
 have hi := (List.getElem?_eq_some_iff.1 hd).1
 obtain ⟨_, m, _, hm, _⟩ := ats2 h hi
 have hA := h.A'
 have hB := h.B'
 have hia := fun a w c => al4 (a := a) (w := w) (wd := 3) (c := c) hi
 have hc0 : ldE.ldO 1 false (i * 3) (.c true (dcs dl p)) = some (.i .i64 (d.ix : Int)) := h.cell hd hm (c := 0) rfl
 have hq := mg (f := NEqn.row) (h.dls d (List.mem_of_getElem? hd)).1
 refine p8 Tryz.func89 k89 rfl rfl (ltA _ _) h.lt ?_
 repeat' (first
  | (simp only [c89, aa8, aa7, hA, hB, hia, hc0, hq, f0, i5, p5, SXR, simprocAttr]))
 exact ⟨_, rfl⟩
def srcL (s : Str) : List Dl → List Nat → Int
 | d :: dl, m :: p => if aa4 d.s s = true then (m : Int) else srcL s dl p
 | _, _ => -1
def src (dl : List Dl) (p : List Nat) (q : NEqn) : Int := if q.right.k = 2 then srcL q.right.nm dl p else -1
def ocl : O → Bool
 | .no => true
 | .gone => true
 | .c _ cs => clL cs
 | _ => false
theorem am5 {n : Nat} {o : O} (h : ocl o = true) : o.lt n = true := by
 cases o <;> first | rfl | (simp [ocl] at h; done) | skip
 simp only [ocl] at h
 simp only [O.lt]
 exact t9 n _ h
mutual
theorem V.lt_mono {n m : Nat} (hnm : n ≤ m) : ∀ (x : V), x.lt n = true → x.lt m = true
 | .p _ _, h => by simp only [V.lt, decide_eq_true_eq] at h ⊢; omega
 | .sl _ _ _ _ _, h => by simp only [V.lt, decide_eq_true_eq] at h ⊢; omega
 | .m _, h => by simp only [V.lt, decide_eq_true_eq] at h ⊢; omega
 | .yl _, h => by simp only [V.lt, decide_eq_true_eq] at h ⊢; omega
 | .fn _ a b, h => by simp only [V.lt, Bool.and_eq_true] at h ⊢; exact ⟨ah9 hnm a h.1, ah9 hnm b h.2⟩
 | .ifc _ v, h => by simp only [V.lt] at h ⊢; exact V.lt_mono hnm v h
 | .ag l, h => by simp only [V.lt] at h ⊢; exact ah9 hnm l h
 | .tu l, h => by simp only [V.lt] at h ⊢; exact ah9 hnm l h
 | .ts r, h => by simp only [V.lt] at h ⊢; exact ltR_mono hnm r h
 | .tp r _, h => by simp only [V.lt] at h ⊢; exact ah9 hnm r h
 | .b _, _ => by simp only [V.lt]
 | .i _ _, _ => by simp only [V.lt]
 | .s _ _, _ => by simp only [V.lt]
 | .np, _ => by simp only [V.lt]
 | .ns, _ => by simp only [V.lt]
 | .nm, _ => by simp only [V.lt]
 | .nf, _ => by simp only [V.lt]
 | .ni, _ => by simp only [V.lt]
 | .und, _ => by simp only [V.lt]
 | .te, _ => by simp only [V.lt]
theorem ah9 {n m : Nat} (hnm : n ≤ m) : ∀ (l : List V), ltL n l = true → ltL m l = true
 | [], _ => by simp only [ltL]
 | x :: l, h => by simp only [ltL, Bool.and_eq_true] at h ⊢; exact ⟨V.lt_mono hnm x h.1, ah9 hnm l h.2⟩
theorem ltR_mono {n m : Nat} (hnm : n ≤ m) : ∀ (l : List (List V)), ltR n l = true → ltR m l = true
 | [], _ => by simp only [ltR]
 | x :: l, h => by simp only [ltR, Bool.and_eq_true] at h ⊢; exact ⟨ah9 hnm x h.1, ltR_mono hnm l h.2⟩
end
theorem ltE_mono {n m : Nat} (hnm : n ≤ m) : ∀ (l : List (V × V × Nat)), ltE n l = true → ltE m l = true
 | [], _ => rfl
 | (k, v, b) :: l, h => by simp only [ltE, Bool.and_eq_true] at h ⊢; exact ⟨⟨V.lt_mono hnm k h.1.1, V.lt_mono hnm v h.1.2⟩, ltE_mono hnm l h.2⟩
theorem O.lt_mono {n m : Nat} (hnm : n ≤ m) {o : O} (h : o.lt n = true) : o.lt m = true := by
 cases o with
 | c gr cs => simp only [O.lt] at h ⊢; exact ah9 hnm _ h
 | m es ck => simp only [O.lt] at h ⊢; exact ltE_mono hnm _ h
 | _ => first | rfl | (simp [O.lt] at h)
theorem ah1 {n m : Nat} (hnm : n ≤ m) : ∀ {js zs : List O}, ltO n js = true → zs.all ocl = true → ltO m (js ++ zs) = true
 | [], [], _, _ => rfl
 | [], z :: zs, h, h' => by
   simp only [List.all_cons, Bool.and_eq_true] at h'
   simp only [List.nil_append, ltO, Bool.and_eq_true]
   exact ⟨am5 h'.1, ah1 hnm (js := []) h h'.2⟩
 | o :: js, zs, h, h' => by
   simp only [ltO, Bool.and_eq_true] at h
   simp only [List.cons_append, ltO, Bool.and_eq_true]
   exact ⟨O.lt_mono hnm h.1, ah1 hnm h.2 h'⟩
theorem SH.more {js : List O} {A B : Nat} {n : NNode} {dl : List Dl} {p : List Nat} (h : SH js A B n dl p) {zs : List O} (hz : zs.all ocl = true) : SH (js ++ zs) A B n dl p :=
 ⟨h.A' zs, h.B' zs, h.len, h.dls, h.dn, ah1 (by simp) h.lt hz⟩
theorem t8 {gr : Bool} {cs : List V} : ocl (.c gr cs) = clL cs := rfl
theorem drow_cl (d : Dl) (m : Nat) : clL (be5 d m) = true := rfl
theorem put3 {a b c : V} (d : Dl) (m : Nat) : putAt [a, b, c] 0 (be5 d m) = be5 d m := rfl
theorem ao4 (d : Dl) (m : Nat) : (be5 d m).length = 3 := rfl
theorem bj8 (d : Dl) (m : Nat) : (be5 d m).drop 2 = [.i .i64 (m : Int)] := rfl
theorem u6 {js : List O} {A B : Nat} {n : NNode} {dl : List Dl} {p : List Nat} (h : SH js A B n dl p) {i : Nat} {d : Dl} (hd : dl[i]? = some d) :
  ACalls Tryz.prog 91 [.p A 0, .i .i64 (i : Int)] (hpL js) js.length (.i .i64 (src dl p d.q)) (hpL js) js.length := by
 have hA := h.A'
 have hB := h.B'
 have hdn := h.dn
 by_cases hk : d.q.right.k = 2
 ·have hkb : (d.q.right.k != 2) = false := by simpa using hk
  have hs : src dl p d.q = srcL d.q.right.nm dl p := if_pos hk
  rw [hs]
  refine p8 Tryz.func91 k91 rfl rfl (by simp only [V.lt]) h.lt ?_
  repeat' (first
   | ((with_reducible refine j3 ?rdq ?_); (case rdq => refine j2 rfl ?_ ?_ <;> simp only [Option.isSome_some, aa8, aa7, hA, f0, j4, ap4, j9, row_k, hkb, ah2, SXR, simprocAttr]))
   | (with_reducible refine i7 (ab4 (h.more (zs := [.no]) rfl) hd) ?_)
   | (simp only [c91, aa8, aa7, hA, f0, j4, ap4, j9, row_k, hkb, ah2, SXR, simprocAttr]))
  refine o8 (X := Nat) (fun k ll hs => ∃ ks : List O, Hd (fun j => [.p A 0, .i .i64 (i : Int), j 2, j 3, .i .i64 0, .p js.length 0, j 6, j 7, j 8, j 9, j 10, j 11, j 12, j 13, j 14, j 15, j 16, j 17, .sl B 0 3 dl.length none, .i .i64 (dl.length : Int), .i .i64 (k : Int), j 21, j 22, j 23, j 24, j 25, j 26, j 27, j 28, j 29, j 30, j 31, j 32, j 33, j 34, j 35, j 36]) ll ∧ hs = js ++ .c false d.q.right.row :: ks ∧ ks.all ocl = true)
   (fun k => k ≤ dl.length ∧ srcL d.q.right.nm dl p = srcL d.q.right.nm (dl.drop k) (p.drop k)) (fun k => dl.length - k) ?_ 0 _ _ (by exact ⟨[], rfl, rfl, rfl⟩) ⟨Nat.zero_le _, rfl⟩
  rintro k _ _ ⟨ks, e, rfl, hks⟩ ⟨hkl, hinv⟩ IH
  obtain ⟨j, rfl⟩ := e.open
  clear e
  by_cases hlt : k < dl.length
  ·obtain ⟨x, m, hx, hm, hxm⟩ := ats2 h hlt
   have hd' := ltd hlt
   have hw := l6 (n := k) (by omega)
   have hia := fun a w c => al4 (a := a) (w := w) (wd := 3) (c := c) hlt
   have hrow := h.row hx hm
   have hleft : x.q.left.map af8 = [[.s x.s.1 x.s.2]] := by rw [(h.dls x hxm).2.1]; rfl
   rw [u9 hx, u9 hm] at hinv
   simp only [srcL] at hinv
   cases hv : aa4 x.s d.q.right.nm with
   | true =>
     rw [if_pos hv] at hinv
     rw [hinv]
     unfold aa4 at hv
     repeat' (first
      | ((with_reducible refine j3 ?rdq ?_); (case rdq => refine j2 rfl ?_ ?_ <;> simp only [Option.isSome_some, aa8, aa7, hd', hia, hB, hrow, put3, ao4, bj8, j9, row_nm, f0, j0, hleft, hv, Nat.add_assoc, SXR, simprocAttr]))
      | (with_reducible refine i7 (ab4 (h.more (by simp only [List.all_cons, List.all_append, List.all_nil, hks, t8, e9, drow_cl, Bool.and_self])) hx) ?_)
      | (simp only [c91, aa8, aa7, hd', hia, hB, hrow, put3, ao4, bj8, j9, row_nm, f0, j0, hleft, hv, Nat.add_assoc, SXR, simprocAttr]))
     exact ⟨_, rfl⟩
   | false =>
     rw [if_neg (by simp [hv])] at hinv
     unfold aa4 at hv
     repeat' (first
      | ((with_reducible refine j3 ?rdq ?_); (case rdq => refine j2 rfl ?_ ?_ <;> simp only [Option.isSome_some, aa8, aa7, hd', hia, hB, hrow, put3, ao4, bj8, j9, row_nm, f0, j0, hleft, hv, hw, Nat.add_assoc, SXR, simprocAttr]))
      | (with_reducible refine i7 (ab4 (h.more (by simp only [List.all_cons, List.all_append, List.all_nil, hks, t8, e9, drow_cl, Bool.and_self])) hx) ?_)
      | (simp only [c91, aa8, aa7, hd', hia, hB, hrow, put3, ao4, bj8, j9, row_nm, f0, j0, hleft, hv, hw, Nat.add_assoc, SXR, simprocAttr]))
     exact IH (k + 1) _ _ (by exact ⟨_, rfl, rfl, by simp only [List.all_cons, List.all_append, List.all_nil, hks, t8, e9, drow_cl, Bool.and_self]⟩) ⟨hlt, hinv⟩ (by omega)
  ·have hd' := ltn hlt
   clear IH
   rw [List.drop_eq_nil_of_le (by omega)] at hinv
   simp only [srcL] at hinv
   rw [hinv]
   repeat' (first
    | ((with_reducible refine j3 ?rdq ?_); (case rdq => refine j2 rfl ?_ ?_ <;> simp only [Option.isSome_some, aa8, aa7, hd', SXR, simprocAttr]))
    | (simp only [c91, aa8, aa7, hd', SXR, simprocAttr]))
   exact ⟨_, rfl⟩
 ·have hkb : (d.q.right.k != 2) = true := by simpa using hk
  have hs : src dl p d.q = -1 := if_neg hk
  rw [hs]
  refine p8 Tryz.func91 k91 rfl rfl (by simp only [V.lt]) h.lt ?_
  repeat' (first
   | ((with_reducible refine j3 ?rdq ?_); (case rdq => refine j2 rfl ?_ ?_ <;> simp only [Option.isSome_some, aa8, aa7, hA, f0, j4, ap4, j9, row_k, hkb, SXR, simprocAttr]))
   | (with_reducible refine i7 (ab4 (h.more (zs := [.no]) rfl) hd) ?_)
   | (simp only [c91, aa8, aa7, hA, f0, j4, ap4, j9, row_k, hkb, SXR, simprocAttr]))
  exact ⟨_, rfl⟩
def bh1 (dl : List Dl) (p : List Nat) (x y : Dl) : Bool :=
 x.q.init == y.q.init && x.ty == y.ty && eqB bf9 x.q.ck y.q.ck && (exB x.q.right y.q.right || (decide (src dl p x.q ≥ 0) && src dl p x.q == src dl p y.q))
set_option maxHeartbeats 1000000 in
theorem ba6 {js : List O} {A B : Nat} {n : NNode} {dl : List Dl} {p : List Nat} (h : SH js A B n dl p) {i k : Nat} {x y : Dl} (hx : dl[i]? = some x) (hy : dl[k]? = some y) :
  ACalls Tryz.prog 70 [.p A 0, .i .i64 (i : Int), .i .i64 (k : Int)] (hpL js) js.length (.i .i64 (if bh1 dl p x y = true then 1 else 0)) (hpL js) js.length := by
 have hA := h.A'
 have hB := h.B'
 have hi := (List.getElem?_eq_some_iff.1 hx).1
 have hk := (List.getElem?_eq_some_iff.1 hy).1
 obtain ⟨_, m, _, hm, _⟩ := ats2 h hi
 obtain ⟨_, m', _, hm', _⟩ := ats2 h hk
 have hia := fun a w c => al4 (a := a) (w := w) (wd := 3) (c := c) hi
 have hka := fun a w c => al4 (a := a) (w := w) (wd := 3) (c := c) hk
 have ht : ldE.ldO 1 false (i * 3 + 1) (.c true (dcs dl p)) = some (.i .i64 x.ty) := h.cell hx hm (c := 1) rfl
 have ht' : ldE.ldO 1 false (k * 3 + 1) (.c true (dcs dl p)) = some (.i .i64 y.ty) := h.cell hy hm' (c := 1) rfl
 have okx := (h.dls x (List.mem_of_getElem? hx)).2.2
 cases g0 : x.q.init == y.q.init with
 | false =>
   have h0 := g0
   have hr : bh1 dl p x y = false := by simp only [bh1, g0, Bool.and_true, Bool.true_and, Bool.and_false, Bool.false_and, Bool.or_true, Bool.true_or, Bool.or_false, Bool.false_or]
   rw [hr]
   refine p8 Tryz.func70 k70 rfl rfl (by simp only [V.lt]) h.lt ?_
   repeat' (first
    | ((with_reducible refine j3 ?rdq ?_); (case rdq => refine j2 rfl ?_ ?_ <;> simp only [Option.isSome_some, h0, aa8, aa7, hA, hB, hia, hka, ht, ht', bne, p5, f0, i5, m7, o0, j4, i6, e9, if_true, if_false, Bool.false_eq_true, beq_self_eq_true, SXR, simprocAttr]))
    | (with_reducible refine i7 (ab4 (h.more (zs := [.no, .no]) rfl) hx) ?_)
    | (with_reducible refine i7 (ab4 (h.more (zs := [.no, .no]) rfl) hy) ?_)
    | (with_reducible refine i7 (u6 (h.more (by simp only [List.all_cons, List.all_nil, t8, j5, Bool.and_self])) hx) ?_)
    | (with_reducible refine i7 (u6 (h.more (by simp only [List.all_cons, List.all_nil, t8, j5, Bool.and_self])) hy) ?_)
    | (simp only [c70, h0, aa8, aa7, hA, hB, hia, hka, ht, ht', bne, p5, f0, i5, m7, o0, j4, i6, e9, if_true, if_false, Bool.false_eq_true, beq_self_eq_true, SXR, simprocAttr]))
   exact ⟨_, rfl⟩
 | true =>
   have h0 := g0
   cases g1 : x.ty == y.ty with
   | false =>
     have h1 := g1
     have hr : bh1 dl p x y = false := by simp only [bh1, g0, g1, Bool.and_true, Bool.true_and, Bool.and_false, Bool.false_and, Bool.or_true, Bool.true_or, Bool.or_false, Bool.false_or]
     rw [hr]
     refine p8 Tryz.func70 k70 rfl rfl (by simp only [V.lt]) h.lt ?_
     repeat' (first
      | ((with_reducible refine j3 ?rdq ?_); (case rdq => refine j2 rfl ?_ ?_ <;> simp only [Option.isSome_some, h0, h1, aa8, aa7, hA, hB, hia, hka, ht, ht', bne, p5, f0, i5, m7, o0, j4, i6, e9, if_true, if_false, Bool.false_eq_true, beq_self_eq_true, SXR, simprocAttr]))
      | (with_reducible refine i7 (ab4 (h.more (zs := [.no, .no]) rfl) hx) ?_)
      | (with_reducible refine i7 (ab4 (h.more (zs := [.no, .no]) rfl) hy) ?_)
      | (with_reducible refine i7 (u6 (h.more (by simp only [List.all_cons, List.all_nil, t8, j5, Bool.and_self])) hx) ?_)
      | (with_reducible refine i7 (u6 (h.more (by simp only [List.all_cons, List.all_nil, t8, j5, Bool.and_self])) hy) ?_)
      | (simp only [c70, h0, h1, aa8, aa7, hA, hB, hia, hka, ht, ht', bne, p5, f0, i5, m7, o0, j4, i6, e9, if_true, if_false, Bool.false_eq_true, beq_self_eq_true, SXR, simprocAttr]))
     exact ⟨_, rfl⟩
   | true =>
     have h1 := g1
     cases g2 : eqB bf9 x.q.ck y.q.ck with
     | false =>
       have h2 := seqon_pc x.q.ck y.q.ck okx.2.2.2.2.1
       rw [g2] at h2
       have hr : bh1 dl p x y = false := by simp only [bh1, g0, g1, g2, Bool.and_true, Bool.true_and, Bool.and_false, Bool.false_and, Bool.or_true, Bool.true_or, Bool.or_false, Bool.false_or]
       rw [hr]
       refine p8 Tryz.func70 k70 rfl rfl (by simp only [V.lt]) h.lt ?_
       repeat' (first
        | ((with_reducible refine j3 ?rdq ?_); (case rdq => refine j2 rfl ?_ ?_ <;> simp only [Option.isSome_some, h0, h1, aa8, aa7, hA, hB, hia, hka, ht, ht', bne, p5, f0, i5, m7, o0, j4, i6, e9, if_true, if_false, Bool.false_eq_true, beq_self_eq_true, SXR, simprocAttr]))
        | (with_reducible refine i7 (ab4 (h.more (zs := [.no, .no]) rfl) hx) ?_)
        | (with_reducible refine i7 (ab4 (h.more (zs := [.no, .no]) rfl) hy) ?_)
        | (with_reducible refine i7 (u6 (h.more (by simp only [List.all_cons, List.all_nil, t8, j5, Bool.and_self])) hx) ?_)
        | (with_reducible refine i7 (u6 (h.more (by simp only [List.all_cons, List.all_nil, t8, j5, Bool.and_self])) hy) ?_)
        | (with_reducible refine b8 (h2) (by simp only [SXR, i6, e9]) (by simp only [SXR, i6, e9]) ?_)
        | (simp only [c70, h0, h1, aa8, aa7, hA, hB, hia, hka, ht, ht', bne, p5, f0, i5, m7, o0, j4, i6, e9, if_true, if_false, Bool.false_eq_true, beq_self_eq_true, SXR, simprocAttr]))
       exact ⟨_, rfl⟩
     | true =>
       have h2 := seqon_pc x.q.ck y.q.ck okx.2.2.2.2.1
       rw [g2] at h2
       cases g3 : exB x.q.right y.q.right with
       | false =>
         have h3 := be1 _ x.q.right y.q.right (Nat.le_refl _) okx.2.1
         rw [g3] at h3
         cases g4 : decide (src dl p x.q ≥ 0) with
         | false =>
           have h4 := g4
           have hr : bh1 dl p x y = false := by simp only [bh1, g0, g1, g2, g3, g4, Bool.and_true, Bool.true_and, Bool.and_false, Bool.false_and, Bool.or_true, Bool.true_or, Bool.or_false, Bool.false_or]
           rw [hr]
           refine p8 Tryz.func70 k70 rfl rfl (by simp only [V.lt]) h.lt ?_
           repeat' (first
            | ((with_reducible refine j3 ?rdq ?_); (case rdq => refine j2 rfl ?_ ?_ <;> simp only [Option.isSome_some, h0, h1, h4, aa8, aa7, hA, hB, hia, hka, ht, ht', bne, p5, f0, i5, m7, o0, j4, i6, e9, if_true, if_false, Bool.false_eq_true, beq_self_eq_true, SXR, simprocAttr]))
            | (with_reducible refine i7 (ab4 (h.more (zs := [.no, .no]) rfl) hx) ?_)
            | (with_reducible refine i7 (ab4 (h.more (zs := [.no, .no]) rfl) hy) ?_)
            | (with_reducible refine i7 (u6 (h.more (by simp only [List.all_cons, List.all_nil, t8, j5, Bool.and_self])) hx) ?_)
            | (with_reducible refine i7 (u6 (h.more (by simp only [List.all_cons, List.all_nil, t8, j5, Bool.and_self])) hy) ?_)
            | (with_reducible refine b8 (h2) (by simp only [SXR, i6, e9]) (by simp only [SXR, i6, e9]) ?_)
            | (with_reducible refine b8 (h3) (by simp only [SXR, i6, e9]) (by simp only [SXR, i6, e9]) ?_)
            | (simp only [c70, h0, h1, h4, aa8, aa7, hA, hB, hia, hka, ht, ht', bne, p5, f0, i5, m7, o0, j4, i6, e9, if_true, if_false, Bool.false_eq_true, beq_self_eq_true, SXR, simprocAttr]))
           exact ⟨_, rfl⟩
         | true =>
           have h4 := g4
           cases g5 : src dl p x.q == src dl p y.q with
           | false =>
             have h5 := g5
             have hr : bh1 dl p x y = false := by simp only [bh1, g0, g1, g2, g3, g4, g5, Bool.and_true, Bool.true_and, Bool.and_false, Bool.false_and, Bool.or_true, Bool.true_or, Bool.or_false, Bool.false_or]
             rw [hr]
             refine p8 Tryz.func70 k70 rfl rfl (by simp only [V.lt]) h.lt ?_
             repeat' (first
              | ((with_reducible refine j3 ?rdq ?_); (case rdq => refine j2 rfl ?_ ?_ <;> simp only [Option.isSome_some, h0, h1, h4, h5, aa8, aa7, hA, hB, hia, hka, ht, ht', bne, p5, f0, i5, m7, o0, j4, i6, e9, if_true, if_false, Bool.false_eq_true, beq_self_eq_true, SXR, simprocAttr]))
              | (with_reducible refine i7 (ab4 (h.more (zs := [.no, .no]) rfl) hx) ?_)
              | (with_reducible refine i7 (ab4 (h.more (zs := [.no, .no]) rfl) hy) ?_)
              | (with_reducible refine i7 (u6 (h.more (by simp only [List.all_cons, List.all_nil, t8, j5, Bool.and_self])) hx) ?_)
              | (with_reducible refine i7 (u6 (h.more (by simp only [List.all_cons, List.all_nil, t8, j5, Bool.and_self])) hy) ?_)
              | (with_reducible refine b8 (h2) (by simp only [SXR, i6, e9]) (by simp only [SXR, i6, e9]) ?_)
              | (with_reducible refine b8 (h3) (by simp only [SXR, i6, e9]) (by simp only [SXR, i6, e9]) ?_)
              | (simp only [c70, h0, h1, h4, h5, aa8, aa7, hA, hB, hia, hka, ht, ht', bne, p5, f0, i5, m7, o0, j4, i6, e9, if_true, if_false, Bool.false_eq_true, beq_self_eq_true, SXR, simprocAttr]))
             exact ⟨_, rfl⟩
           | true =>
             have h5 := g5
             have hr : bh1 dl p x y = true := by simp only [bh1, g0, g1, g2, g3, g4, g5, Bool.and_true, Bool.true_and, Bool.and_false, Bool.false_and, Bool.or_true, Bool.true_or, Bool.or_false, Bool.false_or]
             rw [hr]
             refine p8 Tryz.func70 k70 rfl rfl (by simp only [V.lt]) h.lt ?_
             repeat' (first
              | ((with_reducible refine j3 ?rdq ?_); (case rdq => refine j2 rfl ?_ ?_ <;> simp only [Option.isSome_some, h0, h1, h4, h5, aa8, aa7, hA, hB, hia, hka, ht, ht', bne, p5, f0, i5, m7, o0, j4, i6, e9, if_true, if_false, Bool.false_eq_true, beq_self_eq_true, SXR, simprocAttr]))
              | (with_reducible refine i7 (ab4 (h.more (zs := [.no, .no]) rfl) hx) ?_)
              | (with_reducible refine i7 (ab4 (h.more (zs := [.no, .no]) rfl) hy) ?_)
              | (with_reducible refine i7 (u6 (h.more (by simp only [List.all_cons, List.all_nil, t8, j5, Bool.and_self])) hx) ?_)
              | (with_reducible refine i7 (u6 (h.more (by simp only [List.all_cons, List.all_nil, t8, j5, Bool.and_self])) hy) ?_)
              | (with_reducible refine b8 (h2) (by simp only [SXR, i6, e9]) (by simp only [SXR, i6, e9]) ?_)
              | (with_reducible refine b8 (h3) (by simp only [SXR, i6, e9]) (by simp only [SXR, i6, e9]) ?_)
              | (simp only [c70, h0, h1, h4, h5, aa8, aa7, hA, hB, hia, hka, ht, ht', bne, p5, f0, i5, m7, o0, j4, i6, e9, if_true, if_false, Bool.false_eq_true, beq_self_eq_true, SXR, simprocAttr]))
             exact ⟨_, rfl⟩
       | true =>
         have h3 := be1 _ x.q.right y.q.right (Nat.le_refl _) okx.2.1
         rw [g3] at h3
         have hr : bh1 dl p x y = true := by simp only [bh1, g0, g1, g2, g3, Bool.and_true, Bool.true_and, Bool.and_false, Bool.false_and, Bool.or_true, Bool.true_or, Bool.or_false, Bool.false_or]
         rw [hr]
         refine p8 Tryz.func70 k70 rfl rfl (by simp only [V.lt]) h.lt ?_
         repeat' (first
          | ((with_reducible refine j3 ?rdq ?_); (case rdq => refine j2 rfl ?_ ?_ <;> simp only [Option.isSome_some, h0, h1, aa8, aa7, hA, hB, hia, hka, ht, ht', bne, p5, f0, i5, m7, o0, j4, i6, e9, if_true, if_false, Bool.false_eq_true, beq_self_eq_true, SXR, simprocAttr]))
          | (with_reducible refine i7 (ab4 (h.more (zs := [.no, .no]) rfl) hx) ?_)
          | (with_reducible refine i7 (ab4 (h.more (zs := [.no, .no]) rfl) hy) ?_)
          | (with_reducible refine i7 (u6 (h.more (by simp only [List.all_cons, List.all_nil, t8, j5, Bool.and_self])) hx) ?_)
          | (with_reducible refine i7 (u6 (h.more (by simp only [List.all_cons, List.all_nil, t8, j5, Bool.and_self])) hy) ?_)
          | (with_reducible refine b8 (h2) (by simp only [SXR, i6, e9]) (by simp only [SXR, i6, e9]) ?_)
          | (with_reducible refine b8 (h3) (by simp only [SXR, i6, e9]) (by simp only [SXR, i6, e9]) ?_)
          | (simp only [c70, h0, h1, aa8, aa7, hA, hB, hia, hka, ht, ht', bne, p5, f0, i5, m7, o0, j4, i6, e9, if_true, if_false, Bool.false_eq_true, beq_self_eq_true, SXR, simprocAttr]))
         exact ⟨_, rfl⟩
def ac9 (c : Nat → Bool) : Nat → Nat → Option Nat
 | _, 0 => none
 | k, r + 1 => if c k = true then some k else ac9 c (k + 1) r
theorem av2 {c : Nat → Bool} : ∀ {r k m : Nat}, ac9 c k r = some m → k ≤ m ∧ m < k + r ∧ c m = true
 | 0, k, m, h => by simp [ac9] at h
 | r + 1, k, m, h => by
   simp only [ac9] at h
   split at h
   ·rename_i hc; cases h; exact ⟨Nat.le_refl _, by omega, hc⟩
   ·obtain ⟨h1, h2, h3⟩ := av2 h; exact ⟨by omega, by omega, h3⟩
theorem av3 {c : Nat → Bool} : ∀ {r k : Nat}, ac9 c k r = none → ∀ m, k ≤ m → m < k + r → c m = false
 | 0, k, h, m, h1, h2 => by omega
 | r + 1, k, h, m, h1, h2 => by
   simp only [ac9] at h
   split at h
   ·cases h
   ·rename_i hc
    by_cases e : m = k
    ·subst e; simpa using hc
    ·exact av3 h m (by omega) (by omega)
def okK (dl : List Dl) (p : List Nat) (i k : Nat) : Bool := match dl[i]?, dl[k]?, p[i]?, p[k]? with
 | some x, some y, some a, some b => b == a && bh1 dl p x y
 | _, _, _, _ => false
def pick (l : List Nat) (i : Nat) : Option Nat → Nat
 | some k => (l[k]?).getD 0
 | none => i
def nxt (dl : List Dl) (p : List Nat) : Nat → List Nat
 | 0 => []
 | i + 1 => nxt dl p i ++ [pick (nxt dl p i) i (ac9 (okK dl p i) 0 i)]
theorem ak3 (dl : List Dl) (p : List Nat) : ∀ i, (nxt dl p i).length = i
 | 0 => rfl
 | i + 1 => by simp only [nxt, List.length_append, ak3 dl p i, List.length_singleton]
theorem am1 {dl : List Dl} {p : List Nat} : ∀ {n i : Nat}, i < n → (nxt dl p n)[i]? = some (pick (nxt dl p i) i (ac9 (okK dl p i) 0 i))
 | n + 1, i, h => by
   simp only [nxt]
   by_cases e : i = n
   ·subst e
    rw [List.getElem?_append_right (by rw [ak3]; exact Nat.le_refl _), ak3, Nat.sub_self]
    rfl
   ·rw [List.getElem?_append_left (by rw [ak3]; omega)]
    exact am1 (by omega)
theorem nxt_pre {dl : List Dl} {p : List Nat} {n i k : Nat} (h1 : k < i) (h2 : i ≤ n) : (nxt dl p i)[k]? = (nxt dl p n)[k]? := by
 rw [am1 h1, am1 (Nat.lt_of_lt_of_le h1 h2)]
def r9 (dl : List Dl) (p : List Nat) : List Nat := nxt dl p dl.length
theorem aa9 (dl : List Dl) (p : List Nat) : (r9 dl p).length = dl.length := ak3 _ _ _
def vld (p : List Nat) : Prop := ∀ (i m : Nat), p[i]? = some m → m ≤ i
theorem am3 {dl : List Dl} {p : List Nat} (hl : p.length = dl.length) {i : Nat} (hi : i < dl.length) :
  ((r9 dl p)[i]? = some i ∧ ∀ k, k < i → okK dl p i k = false) ∨ ∃ k m, k < i ∧ okK dl p i k = true ∧ (r9 dl p)[k]? = some m ∧ (r9 dl p)[i]? = some m := by
 unfold r9
 rw [am1 hi]
 cases h : ac9 (okK dl p i) 0 i with
 | none => exact .inl ⟨rfl, fun k hk => av3 h k (Nat.zero_le _) (by omega)⟩
 | some k =>
   obtain ⟨_, h2, h3⟩ := av2 h
   have hk : k < i := by omega
   obtain ⟨m, hm⟩ : ∃ m, (nxt dl p i)[k]? = some m := ⟨_, am1 hk⟩
   exact .inr ⟨k, m, hk, h3, by rw [← nxt_pre hk (Nat.le_of_lt hi)]; exact hm, by simp only [pick, hm]; rfl⟩
theorem okK_part {dl : List Dl} {p : List Nat} {i k : Nat} (h : okK dl p i k = true) : ∃ x y a, dl[i]? = some x ∧ dl[k]? = some y ∧ p[i]? = some a ∧ p[k]? = some a ∧ bh1 dl p x y = true := by
 unfold okK at h
 split at h
 ·rename_i x y a b h1 h2 h3 h4
  simp only [Bool.and_eq_true, beq_iff_eq] at h
  obtain ⟨rfl, h⟩ := h
  exact ⟨x, y, b, h1, h2, h3, h4, h⟩
 ·cases h
theorem ag9 {dl : List Dl} {p : List Nat} (hl : p.length = dl.length) : vld (r9 dl p) := by
 intro i
 induction i using Nat.strongRecOn with
 | ind i ih =>
   intro m hm
   have hi : i < dl.length := by rw [← aa9 dl p]; exact (List.getElem?_eq_some_iff.1 hm).1
   rcases am3 hl hi with ⟨h1, _⟩ | ⟨k, m', hk, _, h2, h3⟩
   ·rw [h1] at hm; cases hm; exact Nat.le_refl _
   ·rw [h3] at hm; cases hm
    have := ih k hk _ h2
    omega
theorem nextP_root {dl : List Dl} {p : List Nat} (hl : p.length = dl.length) (hv : vld p) {i : Nat} (h : p[i]? = some i) : (r9 dl p)[i]? = some i := by
 have hi : i < dl.length := by rw [← hl]; exact (List.getElem?_eq_some_iff.1 h).1
 rcases am3 hl hi with ⟨h1, _⟩ | ⟨k, m, hk, ho, _, _⟩
 ·exact h1
 ·obtain ⟨_, _, a, _, _, h3, h4, _⟩ := okK_part ho
  rw [h] at h3; cases h3
  have := hv k _ h4
  omega
theorem nextP_same {dl : List Dl} {p : List Nat} (hl : p.length = dl.length) (h : ∀ i : Nat, (r9 dl p)[i]? = some i → p[i]? = some i) : r9 dl p = p := by
 apply List.ext_getElem?
 intro i
 induction i using Nat.strongRecOn with
 | ind i ih =>
   by_cases hi : i < dl.length
   ·rcases am3 hl hi with ⟨h1, _⟩ | ⟨k, m, hk, ho, h2, h3⟩
    ·rw [h1, h i h1]
    ·obtain ⟨_, _, a, _, _, h4, h5, _⟩ := okK_part ho
     rw [h3, h4, ← h5, ← ih k hk, h2]
   ·rw [List.getElem?_eq_none (by rw [aa9]; omega), List.getElem?_eq_none (by omega)]
def rootB (p : List Nat) (i : Nat) : Bool := p[i]? == some i
def bg6 (p : List Nat) : Nat := (List.range p.length).countP (rootB p)
theorem countP_lt {P Q : Nat → Bool} : ∀ {l : List Nat}, (∀ x, x ∈ l → P x = true → Q x = true) → (∃ x, x ∈ l ∧ Q x = true ∧ P x = false) → l.countP P < l.countP Q
 | [], _, h => by obtain ⟨x, hx, _⟩ := h; cases hx
 | y :: l, h1, h2 => by
   have hle : l.countP P ≤ l.countP Q := List.countP_mono_left (fun x hx => h1 x (List.mem_cons_of_mem _ hx))
   rw [List.countP_cons, List.countP_cons]
   obtain ⟨x, hx, hq, hp⟩ := h2
   rcases List.mem_cons.1 hx with rfl | hx
   ·simp only [hq, hp, if_true, Bool.false_eq_true, if_false]; omega
   ·have hlt := countP_lt (l := l) (fun x hx => h1 x (List.mem_cons_of_mem _ hx)) ⟨x, hx, hq, hp⟩
    have := h1 y (List.mem_cons_self ..)
    cases hpy : P y
    ·simp only [Bool.false_eq_true, if_false]; split <;> omega
    ·simp only [this hpy, if_true]; omega
theorem aq6 {dl : List Dl} {p : List Nat} (hl : p.length = dl.length) (hv : vld p) (h : r9 dl p ≠ p) : bg6 p < bg6 (r9 dl p) := by
 unfold bg6
 rw [aa9, hl]
 refine countP_lt (fun x _ hx => ?_) ?_
 ·simp only [rootB, beq_iff_eq] at hx ⊢
  exact nextP_root hl hv hx
 ·by_cases hall : ∀ i : Nat, (r9 dl p)[i]? = some i → p[i]? = some i
  ·exact (h (nextP_same hl hall)).elim
  ·obtain ⟨i, hi⟩ := Classical.not_forall.1 hall
   obtain ⟨h1, h2⟩ := Classical.not_imp.1 hi
   refine ⟨i, ?_, by simp only [rootB, beq_iff_eq]; exact h1, by simpa [rootB] using h2⟩
   rw [List.mem_range, ← aa9 dl p]
   exact (List.getElem?_eq_some_iff.1 h1).1
theorem aq7 (p : List Nat) : bg6 p ≤ p.length := by
 unfold bg6
 have := List.countP_le_length (p := rootB p) (l := List.range p.length)
 simpa using this
def finF (dl : List Dl) : Nat → List Nat → List Nat
 | 0, p => p
 | f + 1, p => if r9 dl p = p then p else finF dl f (r9 dl p)
theorem finF_eq {dl : List Dl} : ∀ {f f' : Nat} {p : List Nat}, p.length = dl.length → vld p → dl.length - bg6 p < f → dl.length - bg6 p < f' → finF dl f p = finF dl f' p
 | 0, _, p, _, _, h, _ => by omega
 | f + 1, 0, p, _, _, _, h => by omega
 | f + 1, f' + 1, p, hl, hv, h1, h2 => by
   simp only [finF]
   split
   ·rfl
   ·rename_i hne
    have := aq6 hl hv hne
    have := aq7 (r9 dl p)
    rw [aa9] at this
    exact finF_eq (aa9 dl p) (ag9 hl) (by omega) (by omega)
def fin (dl : List Dl) (p : List Nat) : List Nat := finF dl (dl.length + 1) p
theorem fin_same {dl : List Dl} {p : List Nat} (h : r9 dl p = p) : fin dl p = p := by simp only [fin, finF, if_pos h]
theorem fin_next {dl : List Dl} {p : List Nat} (hl : p.length = dl.length) (hv : vld p) (h : r9 dl p ≠ p) : fin dl p = fin dl (r9 dl p) := by
 have h1 := aq6 hl hv h
 have h2 := aq7 (r9 dl p)
 rw [aa9] at h2
 have : fin dl p = finF dl dl.length (r9 dl p) := by simp only [fin, finF, if_neg h]
 rw [this]
 exact finF_eq (aa9 dl p) (ag9 hl) (by omega) (by omega)
theorem finF_fix {dl : List Dl} : ∀ {f : Nat} {p : List Nat}, p.length = dl.length → vld p → dl.length - bg6 p < f → r9 dl (finF dl f p) = finF dl f p ∧ (finF dl f p).length = dl.length ∧ vld (finF dl f p)
 | 0, p, _, _, h => by omega
 | f + 1, p, hl, hv, h => by
   simp only [finF]
   split
   ·rename_i he; exact ⟨he, hl, hv⟩
   ·rename_i hne
    have := aq6 hl hv hne
    have := aq7 (r9 dl p)
    rw [aa9] at this
    exact finF_fix (aa9 dl p) (ag9 hl) (by omega)
theorem bd9 {dl : List Dl} {p : List Nat} (hl : p.length = dl.length) (hv : vld p) : r9 dl (fin dl p) = fin dl p ∧ (fin dl p).length = dl.length ∧ vld (fin dl p) := finF_fix hl hv (by omega)
def arr (dl : List Dl) (p : List Nat) (i : Nat) : List Nat := nxt dl p i ++ List.replicate (dl.length - i) 0
theorem arr_len {dl : List Dl} {p : List Nat} {i : Nat} (hi : i ≤ dl.length) : (arr dl p i).length = dl.length := by
 simp only [arr, List.length_append, ak3, List.length_replicate]; omega
theorem arr_zero {dl : List Dl} {p : List Nat} : arr dl p 0 = List.replicate dl.length 0 := by simp [arr, nxt]
theorem arr_all {dl : List Dl} {p : List Nat} : arr dl p dl.length = r9 dl p := by simp [arr, r9]
theorem arr_set {dl : List Dl} {p : List Nat} {i v : Nat} (hi : i < dl.length) : (arr dl p i).set i v = nxt dl p i ++ v :: List.replicate (dl.length - (i + 1)) 0 := by
 have e : dl.length - i = dl.length - (i + 1) + 1 := by omega
 simp only [arr]
 rw [e, List.replicate_succ, List.set_append_right _ _ (by rw [ak3]; exact Nat.le_refl _), ak3, Nat.sub_self, List.set_cons_zero]
theorem arr_succ {dl : List Dl} {p : List Nat} {i : Nat} : arr dl p (i + 1) = nxt dl p i ++ pick (nxt dl p i) i (ac9 (okK dl p i) 0 i) :: List.replicate (dl.length - (i + 1)) 0 := by
 simp only [arr, nxt, List.append_assoc, List.singleton_append]
theorem arr_none {dl : List Dl} {p : List Nat} {i : Nat} (hi : i < dl.length) (h : ac9 (okK dl p i) 0 i = none) : (arr dl p i).set i i = arr dl p (i + 1) := by
 rw [arr_set hi, arr_succ, h]; rfl
theorem arr_some {dl : List Dl} {p : List Nat} {i k : Nat} (hi : i < dl.length) (hk : k < i) (h : ac9 (okK dl p i) 0 i = some k) : ∃ m, ((arr dl p i).set i i)[k]? = some m ∧ ((arr dl p i).set i i).set i m = arr dl p (i + 1) := by
 obtain ⟨m, hm⟩ : ∃ m, (nxt dl p i)[k]? = some m := ⟨_, am1 hk⟩
 refine ⟨m, ?_, ?_⟩
 ·rw [arr_set hi, List.getElem?_append_left (by rw [ak3]; exact hk)]; exact hm
 ·rw [List.set_set, arr_set hi, arr_succ, h]
  simp only [pick, hm]
  rfl
def ncs (l : List Nat) : List V := l.map fun (m : Nat) => V.i .i64 (m : Int)
theorem ncs_len (l : List Nat) : (ncs l).length = l.length := by simp [ncs]
theorem ncs_cl : ∀ l : List Nat, clL (ncs l) = true
 | [] => rfl
 | m :: l => by simp only [ncs, List.map_cons, clL, V.cl, Bool.true_and]; exact ncs_cl l
theorem ncs_zero (d : Nat) : (List.replicate d [V.i .i64 0]).flatten = ncs (List.replicate d 0) := by
 induction d with
 | zero => rfl
 | succ d ih => simp only [List.replicate_succ, List.flatten_cons, ih, ncs, List.map_cons]; rfl
theorem ncs_set {l : List Nat} {i m : Nat} : (ncs l).set i (.i .i64 (m : Int)) = ncs (l.set i m) := by simp only [ncs, List.map_set]
theorem ncs_ld {gr : Bool} {l : List Nat} {i m : Nat} (h : l[i]? = some m) : ldE.ldO 1 false i (.c gr (ncs l)) = some (.i .i64 (m : Int)) := by
 have hi := (List.getElem?_eq_some_iff.1 h).1
 rw [ld_c (by rw [Nat.ble_eq, ncs_len]; omega)]
 have : (ncs l)[i]? = some (.i .i64 (m : Int)) := by simp [ncs, h]
 rw [List.take_one, List.head?_drop, this]; rfl
theorem ncs_stp {gr : Bool} {l : List Nat} {i m b : Nat} {hs : List O} (h : i < l.length) : stpO hs b 1 i [.i .i64 (m : Int)] (.c gr (ncs l)) = ac5 hs b (.c gr (ncs (l.set i m))) := by
 rw [stp_c rfl (by rw [Nat.ble_eq, ncs_len]; omega)]
 simp only [putAt, ncs_set]
theorem at1 (x : Dl) (m : Nat) (dl : List Dl) (p : List Nat) : dcs (x :: dl) (m :: p) = .i .i64 (x.ix : Int) :: .i .i64 x.ty :: .i .i64 (m : Int) :: dcs dl p := rfl
theorem dcs_len : ∀ {dl : List Dl} {p : List Nat}, p.length = dl.length → (dcs dl p).length = dl.length * 3
 | [], [], _ => rfl
 | x :: dl, m :: p, h => by
   rw [at1]
   have := dcs_len (dl := dl) (p := p) (by simpa using h)
   simp only [List.length_cons, this]; omega
theorem dcs_set : ∀ {dl : List Dl} {p : List Nat} {i v : Nat}, i < dl.length → p.length = dl.length → (dcs dl p).set (i * 3 + 2) (.i .i64 (v : Int)) = dcs dl (p.set i v)
 | x :: dl, m :: p, 0, v, _, _ => by simp only [at1, List.set_cons_zero]; rfl
 | x :: dl, m :: p, i + 1, v, h, hl => by
   have e : (i + 1) * 3 + 2 = (i * 3 + 2) + 1 + 1 + 1 := by omega
   rw [List.set_cons_succ, at1, at1, e]
   simp only [List.set_cons_succ]
   rw [dcs_set (by simpa using h) (by simpa using hl)]
theorem dcs_stp {dl : List Dl} {p : List Nat} {i v b : Nat} {hs : List O} (hi : i < dl.length) (hl : p.length = dl.length) : stpO hs b 1 (i * 3 + 2) [.i .i64 (v : Int)] (.c true (dcs dl p)) = ac5 hs b (.c true (dcs dl (p.set i v))) := by
 rw [stp_c rfl (by rw [Nat.ble_eq, dcs_len hl]; omega)]
 simp only [putAt, dcs_set hi hl]
theorem hset_set : ∀ {js : List O} {zs : List O} {B : Nat} {o : O}, B < js.length → ac5 (js ++ zs) B o = some (js.set B o ++ zs)
 | [], _, B, o, h => by simp at h
 | x :: js, zs, 0, o, _ => rfl
 | x :: js, zs, B + 1, o, h => by simp only [List.cons_append, ac5, hset_set (js := js) (zs := zs) (B := B) (o := o) (by simpa using h), Option.map_some, List.set_cons_succ]
theorem bj2 {js : List O} {A B : Nat} {o : O} (h : A ≠ B) : hpL (js.set B o) A = hpL js A := by
 simp only [hpL, List.getD_eq_getElem?_getD, List.getElem?_set_ne (Ne.symm h)]
theorem av1 {js : List O} {B : Nat} {o : O} (h : B < js.length) : hpL (js.set B o) B = o := by
 simp only [hpL, List.getD_eq_getElem?_getD, List.getElem?_set_self h]; rfl
theorem hpL_lt {js : List O} {A : Nat} {gr : Bool} {cs : List V} (h : hpL js A = .c gr cs) : A < js.length := by
 rcases Nat.lt_or_ge A js.length with q | q
 ·exact q
 ·simp only [hpL, List.getD_eq_getElem?_getD, List.getElem?_eq_none q] at h; cases h
theorem ltO_set {n : Nat} {o : O} (ho : o.lt n = true) : ∀ {js : List O} {B : Nat}, ltO n js = true → ltO n (js.set B o) = true
 | [], B, h => by simpa using h
 | x :: js, 0, h => by simp only [ltO, Bool.and_eq_true] at h; simp only [List.set_cons_zero, ltO, ho, h.2, Bool.and_self]
 | x :: js, B + 1, h => by simp only [ltO, Bool.and_eq_true] at h; simp only [List.set_cons_succ, ltO, h.1, ltO_set ho h.2, Bool.and_self]
theorem dcs_cl : ∀ (dl : List Dl) (p : List Nat), clL (dcs dl p) = true
 | [], _ => by simp only [dcs, bg9, List.zipWith_nil_left]; rfl
 | _ :: _, [] => by simp only [dcs, bg9, List.zipWith_nil_right]; rfl
 | x :: dl, m :: p => by rw [at1]; simp only [clL, V.cl, Bool.true_and]; exact dcs_cl dl p
theorem SH.put {js : List O} {A B : Nat} {n : NNode} {dl : List Dl} {p q : List Nat} (h : SH js A B n dl p) (hab : A ≠ B) (hq : q.length = dl.length) : SH (js.set B (.c true (dcs dl q))) A B n dl q :=
 ⟨by rw [bj2 hab]; exact h.hA, av1 (hpL_lt h.hB), hq, h.dls, h.dn, by rw [List.length_set]; exact ltO_set (by simp only [O.lt]; exact t9 _ _ (dcs_cl _ _)) h.lt⟩
end Go.Proofs.YtieogkafbnnjcaaGreatDoor
