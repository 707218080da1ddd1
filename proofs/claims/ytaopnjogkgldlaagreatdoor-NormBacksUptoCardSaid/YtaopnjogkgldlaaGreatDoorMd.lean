/-
  Declarations in one list, with room made ahead: slices.Grow, slices.Concat.
  The declarations of a node in one list: scope.Vars.
  Programs in normal form; lists that grow beside other objects.
  A program in normal form, as a program: norm.Back.
-/
import Derived.Test.YtaopnjogkgldlaaGreatDoorMc
set_option linter.unusedSimpArgs false
set_option linter.unusedVariables false
namespace Go.Proofs.YtaopnjogkgldlaaGreatDoor
open Go Go.B
abbrev dz : List V := [.s 0 0, .i .i64 0, .ns]
def zs (n : Nat) : List V := (List.replicate n dz).flatten
theorem zs_0 : zs 0 = [] := rfl
theorem zs_len (n : Nat) : (zs n).length = n * 3 := by
  unfold zs
  rw [flatw_len (wd := 3) (fun r hr => by rw [(List.mem_replicate.1 hr).2]; rfl), List.length_replicate]
theorem zs_add (a b : Nat) : zs (a + b) = zs a ++ zs b := by
  unfold zs
  rw [← List.replicate_append_replicate, List.flatten_append]
theorem wrap_0 : IntKind.i64.wrap 0 = 0 := rfl
theorem wrap_n {n : Nat} (h : n < 1000000000000000000) : IntKind.i64.wrap (n : Int) = (n : Int) := by rw [IntKind.wrap_i64]; omega
theorem grow_ac0 (js : List O) : ACalls Tryz.prog 68 [.ns, .i .i64 0] (hpL js) js.length .ns (hpL js) js.length := by
  refine ac_of Tryz.func68 k68 rfl ?_
  repeat' (first
    | (simp only [c68, qh_n, qh_r, wrap_0, decide_false, decide_true, gt_iff_lt, SXR, noA, isAl, kA, udf, AOp.dst, Nat.beq, putAt, bldE, evIo, isNil, Nat.ble, Int.reduceAdd, Int.reduceSub, Int.reduceNeg, Int.reduceBNe, Nat.reduceEqDiff, Nat.reduceSub, Nat.reduceAdd, Nat.reduceLeDiff, Nat.reduceBEq, Nat.reduceLT, Nat.reduceMul, Int.reduceBEq, Int.reduceLT, Int.reduceLE, reduceIte, reduceCtorEq]))
theorem grow_ac (n : Nat) (h1 : 1 ≤ n) (hn : n ≤ 90000000) (js : List O) : ACalls Tryz.prog 68 [.ns, .i .i64 (n : Int)] (hpL js) js.length (.sl js.length 0 3 0 none) (hpL (js ++ [.c true (zs n)])) (js ++ [.c true (zs n)] : List O).length := by
  have hlt : decide ((n : Int) < 0) = false := by simp
  have hgt : decide ((n : Int) > 0) = true := by simp; omega
  have hw := wrap_n (n := n) (by omega)
  have hb : Nat.beq n 0 = false := by cases n with | zero => omega | succ n => rfl
  have hroom := room_ok (n := n) (b := 48) (by omega) (by omega)
  have hz : ∀ rb hs k s, apzB rb hs k s (.i .i64 (n : Int)) 3 48 [.s 0 0, .i .i64 0, .ns] = appB rb hs k s (some (zs n)) (some n) 3 48 := fun rb hs k s => apz_i (by simp only [decide_eq_true_eq]; refine ⟨by omega, rfl, by omega⟩)
  refine ac_of Tryz.func68 k68 rfl ?_
  repeat' (first
    | (simp only [c68, qh_n, qh_r, wrap_0, hlt, hgt, hw, hb, hroom, hz, Int.sub_zero, ne_eq, not_false_eq_true, implies_true, SXR, noA, isAl, kA, udf, AOp.dst, Nat.beq, putAt, bldE, evIo, isNil, Nat.ble, Int.reduceAdd, Int.reduceSub, Int.reduceNeg, Int.reduceBNe, Nat.reduceEqDiff, Nat.reduceSub, Nat.reduceAdd, Nat.reduceLeDiff, Nat.reduceBEq, Nat.reduceLT, Nat.reduceMul, Int.reduceBEq, Int.reduceLT, Int.reduceLE, reduceIte, reduceCtorEq]))
theorem len_s3 {a o w : Nat} {c : Option Nat} : lenE false (.sl a o w 3 c) = some (.i .i64 3) := rfl
theorem iad_s0 {a o w wd : Nat} {c : Option Nat} : iadE wd (.sl a o w 3 c) (.i .i64 0) = some (.p a o) := by simp [iadE]
theorem iad_s1 {a o w wd : Nat} {c : Option Nat} : iadE wd (.sl a o w 3 c) (.i .i64 1) = some (.p a (o + wd)) := by simp [iadE]
theorem iad_s2 {a o w wd : Nat} {c : Option Nat} : iadE wd (.sl a o w 3 c) (.i .i64 2) = some (.p a (o + 2 * wd)) := by simp [iadE]
theorem wrap_1 : IntKind.i64.wrap 1 = 1 := rfl
theorem wrap_2 : IntKind.i64.wrap 2 = 2 := rfl
theorem wrap_3 : IntKind.i64.wrap 3 = 3 := rfl
theorem putAt_mid {p u s xs : List V} {off : Nat} (ho : off = p.length) (hl : xs.length = u.length) : putAt (p ++ (u ++ s)) off xs = p ++ (xs ++ s) := by
  subst ho
  apply List.ext_getElem?
  intro j
  rw [putAt_get _ _ _ _ (by simp; omega)]
  split
  · rename_i h
    rw [List.getElem?_append_right h.1, List.getElem?_append_left (by omega)]
  · rename_i h
    by_cases hj : j < p.length
    · rw [List.getElem?_append_left hj, List.getElem?_append_left hj]
    · rw [List.getElem?_append_right (by omega), List.getElem?_append_right (by omega), List.getElem?_append_right (by omega), List.getElem?_append_right (by omega), hl]
/-- an append of declarations where there is room for them -/
theorem app_zs {rb k : Nat} {z o : O} {tl : List O} {X : List (List V)} {Y : List Decl} {m n p : Nat} {cs : List V} (hcs : cs = X.flatten ++ zs m) (hm : m = Y.length + n) (hp : X.length = p) (hX : ∀ r, r ∈ X → r.length = 3) :
    appB rb (z :: o :: .c true cs :: tl) k (.sl 2 0 3 p none) (some (Y.map Decl.row).flatten) (some Y.length) 3 48 = some (.sl 2 0 3 (p + Y.length) none, z :: o :: .c true ((X ++ Y.map Decl.row).flatten ++ zs n) :: tl) := by
  subst hcs hm hp
  have hXl := flatw_len hX
  have hYl := flatw_len (rows := Y.map Decl.row) (mem_map decl_len Y)
  have hlen : (X.flatten ++ zs (Y.length + n)).length = X.length * 3 + (Y.length + n) * 3 := by rw [List.length_append, hXl, zs_len]
  have hput : putAt (X.flatten ++ zs (Y.length + n)) (X.length * 3) (Y.map Decl.row).flatten = (X ++ Y.map Decl.row).flatten ++ zs n := by
    rw [zs_add, putAt_mid hXl.symm (by rw [hYl, zs_len, List.length_map]), List.flatten_append, List.append_assoc]
  have := app_fit (hs := z :: o :: .c true (X.flatten ++ zs (Y.length + n)) :: tl) (rb := rb) (k := k) (a := 2) (len := X.length) (wd := 3) (bytes := 48) (gr := true) (rows := Y.map Decl.row) rfl rfl (by simp) (by rw [hlen, List.length_map]; omega) (fun h0 => by
    rw [hput]
    have : Y = [] := List.length_eq_zero_iff.1 (by simpa using h0)
    subst this
    simp)
  rw [List.length_map, hput] at this
  rw [this]
  simp only [hset, Option.map_some]
theorem dall' (l : List Decl) : (l.map Decl.row).all (fun r => r.length == 3) = true := dall l
theorem concat_ac (z : O) (a b c : List Decl) (h1 : 1 ≤ a.length + (b.length + c.length)) (hn : a.length + (b.length + c.length) ≤ 90000000) :
    ACalls Tryz.prog 46 [.sl 1 0 1 3 none] (hpL [z, .c false [.ts (a.map Decl.row), .ts (b.map Decl.row), .ts (c.map Decl.row)]]) 2 (.sl 2 0 3 (a.length + b.length + c.length) none)
      (hpL [z, .c false [.ts (a.map Decl.row), .ts (b.map Decl.row), .ts (c.map Decl.row)], .c true ((a.map Decl.row ++ b.map Decl.row) ++ c.map Decl.row).flatten, .no, .no, .no]) 6 := by
  have hw1 := wrap_n (n := a.length) (by omega)
  have hw2 : IntKind.i64.wrap ((a.length : Int) + (b.length : Int)) = ((a.length + b.length : Nat) : Int) := by rw [← wrap_n (n := a.length + b.length) (by omega)]; congr 1
  have hw3 : IntKind.i64.wrap (((a.length + b.length : Nat) : Int) + (c.length : Int)) = ((a.length + (b.length + c.length) : Nat) : Int) := by rw [← wrap_n (n := a.length + (b.length + c.length)) (by omega)]; congr 1; omega
  have hl1 : decide ((a.length : Int) < 0) = false := by simp
  have hl2 : decide (((a.length + b.length : Nat) : Int) < 0) = false := by simp; omega
  have hl3 : decide (((a.length + (b.length + c.length) : Nat) : Int) < 0) = false := by simp; omega
  have hg := grow_ac (a.length + (b.length + c.length)) h1 hn [z, .c false [.ts (a.map Decl.row), .ts (b.map Decl.row), .ts (c.map Decl.row)]]
  have ha1 : ∀ rb k tl, appB rb (z :: .c false [.ts (a.map Decl.row), .ts (b.map Decl.row), .ts (c.map Decl.row)] :: .c true (zs (a.length + (b.length + c.length))) :: tl) k (.sl 2 0 3 0 none) (some (a.map Decl.row).flatten) (some a.length) 3 48 = some (.sl 2 0 3 a.length none, z :: .c false [.ts (a.map Decl.row), .ts (b.map Decl.row), .ts (c.map Decl.row)] :: .c true ((a.map Decl.row).flatten ++ zs (b.length + c.length)) :: tl) := fun rb k tl => by
    have := app_zs (rb := rb) (k := k) (z := z) (o := .c false [.ts (a.map Decl.row), .ts (b.map Decl.row), .ts (c.map Decl.row)]) (tl := tl) (X := []) (Y := a) (n := b.length + c.length) (p := 0) (cs := zs (a.length + (b.length + c.length))) rfl rfl rfl (by simp)
    rw [this, Nat.zero_add, List.nil_append]
  have ha2 : ∀ rb k tl, appB rb (z :: .c false [.ts (a.map Decl.row), .ts (b.map Decl.row), .ts (c.map Decl.row)] :: .c true ((a.map Decl.row).flatten ++ zs (b.length + c.length)) :: tl) k (.sl 2 0 3 a.length none) (some (b.map Decl.row).flatten) (some b.length) 3 48 = some (.sl 2 0 3 (a.length + b.length) none, z :: .c false [.ts (a.map Decl.row), .ts (b.map Decl.row), .ts (c.map Decl.row)] :: .c true ((a.map Decl.row ++ b.map Decl.row).flatten ++ zs c.length) :: tl) := fun rb k tl =>
    app_zs rfl rfl (by simp) (mem_map decl_len a)
  have ha3 : ∀ rb k tl, appB rb (z :: .c false [.ts (a.map Decl.row), .ts (b.map Decl.row), .ts (c.map Decl.row)] :: .c true ((a.map Decl.row ++ b.map Decl.row).flatten ++ zs c.length) :: tl) k (.sl 2 0 3 (a.length + b.length) none) (some (c.map Decl.row).flatten) (some c.length) 3 48 = some (.sl 2 0 3 (a.length + b.length + c.length) none, z :: .c false [.ts (a.map Decl.row), .ts (b.map Decl.row), .ts (c.map Decl.row)] :: .c true ((a.map Decl.row ++ b.map Decl.row) ++ c.map Decl.row).flatten :: tl) := fun rb k tl => by
    have := app_zs (rb := rb) (k := k) (z := z) (o := .c false [.ts (a.map Decl.row), .ts (b.map Decl.row), .ts (c.map Decl.row)]) (tl := tl) (X := a.map Decl.row ++ b.map Decl.row) (Y := c) (m := c.length) (n := 0) (p := a.length + b.length) rfl rfl (by simp) (by
      intro r hr
      rcases List.mem_append.1 hr with h | h
      · exact mem_map decl_len a r h
      · exact mem_map decl_len b r h)
    rw [this, zs_0, List.append_nil]
  refine ac_of (hs := [z, _]) (hs' := [z, _, _, _, _, _]) Tryz.func46 k46 rfl ?_
  repeat' (first
    | (with_reducible refine Lp_step ?_)
    | (with_reducible refine acl_intro (hg) ?_)
    | (simp only [c46, qh_n, qh_r, len_s3, iad_s0, iad_s1, iad_s2, wrap_1, wrap_2, wrap_3, hw1, hw2, hw3, hl1, hl2, hl3, ha1, ha2, ha3, dall, List.length_map, Int.zero_add, decide_true, decide_false, SXR, noA, isAl, kA, udf, AOp.dst, Nat.beq, putAt, bldE, evIo, isNil, Nat.ble, Int.reduceAdd, Int.reduceSub, Int.reduceNeg, Int.reduceBNe, Nat.reduceEqDiff, Nat.reduceSub, Nat.reduceAdd, Nat.reduceLeDiff, Nat.reduceBEq, Nat.reduceLT, Nat.reduceMul, Int.reduceBEq, Int.reduceLT, Int.reduceLE, reduceIte, reduceCtorEq]))
theorem concat_ac0 (z : O) : ACalls Tryz.prog 46 [.sl 1 0 1 3 none] (hpL [z, .c false [.ts [], .ts [], .ts []]]) 2 .ns (hpL [z, .c false [.ts [], .ts [], .ts []], .no, .no, .no]) 5 := by
  have hg := grow_ac0 [z, .c false [.ts [], .ts [], .ts []]]
  refine ac_of (hs := [z, _]) (hs' := [z, _, _, _, _]) Tryz.func46 k46 rfl ?_
  repeat' (first
    | (with_reducible refine Lp_step ?_)
    | (with_reducible refine acl_intro (hg) ?_)
    | (simp only [c46, qh_n, qh_r, len_s3, iad_s0, iad_s1, iad_s2, wrap_0, wrap_1, wrap_2, wrap_3, Int.zero_add, Int.natCast_zero, List.flatten_nil, decide_true, decide_false, SXR, noA, isAl, kA, udf, AOp.dst, Nat.beq, putAt, bldE, evIo, isNil, Nat.ble, Int.reduceAdd, Int.reduceSub, Int.reduceNeg, Int.reduceBNe, Nat.reduceEqDiff, Nat.reduceSub, Nat.reduceAdd, Nat.reduceLeDiff, Nat.reduceBEq, Nat.reduceLT, Nat.reduceMul, Int.reduceBEq, Int.reduceLT, Int.reduceLE, reduceIte, reduceCtorEq]))
theorem iad_sn {a w wd n i : Nat} {c : Option Nat} (h : i < n) : iadE wd (.sl a 0 w n c) (.i .i64 (i : Int)) = some (.p a (i * wd)) := by
  simp only [iadE]
  rw [if_pos ⟨by omega, by omega⟩]
  simp
theorem len_sn {a o w n : Nat} {c : Option Nat} : lenE false (.sl a o w n c) = some (.i .i64 (n : Int)) := rfl
theorem flat_split {wd : Nat} {l : List (List V)} {i : Nat} {r : List V} (hw : ∀ r, r ∈ l → r.length = wd) (h : l[i]? = some r) : ∃ p s, l.flatten = p ++ (r ++ s) ∧ p.length = i * wd := by
  refine ⟨(l.take i).flatten, (l.drop (i + 1)).flatten, ?_, ?_⟩
  · have : l = l.take i ++ (r :: l.drop (i + 1)) := by rw [← drop_at h, List.take_append_drop]
    conv => lhs; rw [this]
    rw [List.flatten_append, List.flatten_cons]
  · rw [flatw_len (fun r hr => hw r (List.mem_of_mem_take hr)), List.length_take, Nat.min_eq_left (Nat.le_of_lt (List.getElem?_eq_some_iff.1 h).1)]
/-- what is read of a row in an array -/
theorem ld_row {wd off : Nat} {gr : Bool} {cs p r s : List V} (hcs : cs = p ++ (r ++ s)) (hp : p.length = off) (hr : r.length = wd) : ldE.ldO wd true off (.c gr cs) = some (.ag r) := by
  subst hcs hp hr
  rw [ld_c (by rw [Nat.ble_eq]; simp), List.drop_left, List.take_left]
  rfl
/-- what is written is there already -/
theorem stp_same {hs : List O} {b n off : Nat} {gr : Bool} {cs p r s : List V} (hcs : cs = p ++ (r ++ s)) (hp : p.length = off) (hr : r.length = n) : stpO hs b n off r (.c gr cs) = hset hs b (.c gr cs) := by
  subst hcs hp hr
  rw [stp_c (Nat.beq_refl _) (by rw [Nat.ble_eq]; simp), putAt_mid rfl rfl]
theorem svars_pc (nm : Str) (a b c : List Decl) (hn : a.length + (b.length + c.length) ≤ 90000000) (hck : ∀ d, d ∈ a ++ b ++ c → Lst.ok d.ck) :
    PC Tryz.prog 22 [.ag [.s nm.1 nm.2, .ts (a.map Decl.row), .ts (b.map Decl.row), .ts (c.map Decl.row), .ns, .ns, .ns, .ns]] (.ts ((a ++ b ++ c).map Decl.row)) := by
  by_cases h1 : 1 ≤ a.length + (b.length + c.length)
  · have hc := concat_ac (.c false [.s nm.1 nm.2, .ts (a.map Decl.row), .ts (b.map Decl.row), .ts (c.map Decl.row), .ns, .ns, .ns, .ns]) a b c h1 hn
    have hl : (a ++ b ++ c).length = a.length + b.length + c.length := by simp [Nat.add_assoc]
    have hm : (a ++ b ++ c).map Decl.row = (a.map Decl.row ++ b.map Decl.row) ++ c.map Decl.row := by simp
    rw [← hl, ← hm] at hc
    rw [hm]
    generalize hvs : a ++ b ++ c = vs at hc hl hm hck
    rw [← hm]
    refine pc_frz Tryz.func22 k22 rfl ?_
    repeat' (first
      | (with_reducible refine acl_intro (hc) ?_)
      | (simp only [c22, qt_n, qt_r, len_sn, SXR, noA, isAl, kA, udf, AOp.dst, Nat.beq, putAt, bldE, evIo, isNil, Nat.ble, Int.reduceAdd, Int.reduceSub, Int.reduceNeg, Int.reduceBNe, Nat.reduceEqDiff, Nat.reduceSub, Nat.reduceAdd, Nat.reduceLeDiff, Nat.reduceBEq, Nat.reduceLT, Nat.reduceMul, Int.reduceBEq, Int.reduceLT, Int.reduceLE, reduceIte, reduceCtorEq]))
    refine Lp_ind (X := Nat) (fun i ll hs => ∃ js : List O, Hd (fun j => [j 0, j 1, .ns, .sl 2 0 3 vs.length none, j 4, j 5, j 6, j 7, j 8, j 9, j 10, j 11, j 12, j 13, .sl 2 0 3 vs.length none, .i .i64 (vs.length : Int), .i .i64 (i : Int), j 17, j 18, j 19, j 20, j 21, j 22, j 23, j 24, j 25, j 26, j 27, j 28, j 29]) ll ∧ hs = .c false [.s nm.1 nm.2, .ts (a.map Decl.row), .ts (b.map Decl.row), .ts (c.map Decl.row), .ns, .ns, .ns, .ns] :: .c false [.ts (a.map Decl.row), .ts (b.map Decl.row), .ts (c.map Decl.row)] :: .c true (vs.map Decl.row).flatten :: js)
      (fun i => i ≤ vs.length) (fun i => vs.length - i) ?_ 0 _ _ (by exact ⟨[.no, .no, .no], rfl, rfl⟩) (Nat.zero_le _)
    rintro i _ _ ⟨js, e, rfl⟩ hi IH
    obtain ⟨j, rfl⟩ := e.open
    clear e
    by_cases hlt : i < vs.length
    · obtain ⟨x, hx, hxm⟩ := ats hlt
      have hr := mg (f := Decl.row) hx
      obtain ⟨p, s, hf, hp⟩ := flat_split (mem_map decl_len vs) hr
      have hd := ltd hlt
      have hw := wrap_big (n := i) (by omega)
      have hia := fun a w c => iad_sn (a := a) (w := w) (wd := 3) (c := c) hlt
      have hld : ldE.ldO 3 true (i * 3) (.c true (vs.map Decl.row).flatten) = some (.ag x.row) := ld_row hf hp rfl
      have hck' := clon_pc x.ck (hck x hxm)
      have hst : ∀ hs, stpO hs 2 1 (i * 3 + 2) [.ts (x.ck.map On.row)] (.c true (vs.map Decl.row).flatten) = hset hs 2 (.c true (vs.map Decl.row).flatten) := fun hs =>
        stp_same (p := p ++ [.s x.nm.1 x.nm.2, .i .i64 x.ty]) (s := s) (by rw [hf]; simp [Decl.row]) (by simp [hp]) rfl
      repeat' (first
        | (with_reducible refine pcl_intro (hck') (by simp only [SXR, qt_n, qt_r, hd, hw, hia, hld, hst, Decl.row, ons_cl, Nat.add_assoc]) (by simp only [SXR, qt_n, qt_r, hd, hw, hia, hld, hst, Decl.row, ons_cl, Nat.add_assoc]) ?_)
        | (simp only [c22, qt_n, qt_r, hd, hw, hia, hld, hst, Decl.row, ons_cl, Nat.add_assoc, SXR, noA, isAl, kA, udf, AOp.dst, Nat.beq, putAt, bldE, evIo, isNil, Nat.ble, Int.reduceAdd, Int.reduceSub, Int.reduceNeg, Int.reduceBNe, Nat.reduceEqDiff, Nat.reduceSub, Nat.reduceAdd, Nat.reduceLeDiff, Nat.reduceBEq, Nat.reduceLT, Nat.reduceMul, Int.reduceBEq, Int.reduceLT, Int.reduceLE, reduceIte, reduceCtorEq]))
      exact IH (i + 1) _ _ (by exact ⟨_, rfl, rfl⟩) hlt (by omega)
    · have hd := ltn hlt
      clear IH
      repeat' (first
        | (simp only [c22, qt_n, qt_r, hd, SXR, noA, isAl, kA, udf, AOp.dst, Nat.beq, putAt, bldE, evIo, isNil, Nat.ble, Int.reduceAdd, Int.reduceSub, Int.reduceNeg, Int.reduceBNe, Nat.reduceEqDiff, Nat.reduceSub, Nat.reduceAdd, Nat.reduceLeDiff, Nat.reduceBEq, Nat.reduceLT, Nat.reduceMul, Int.reduceBEq, Int.reduceLT, Int.reduceLE, reduceIte, reduceCtorEq]))
      exact Se.flat' rfl rfl (by simp) trivial (mem_map decl_len _)
  · have ha : a = [] := List.length_eq_zero_iff.1 (by omega)
    have hb : b = [] := List.length_eq_zero_iff.1 (by omega)
    have hc : c = [] := List.length_eq_zero_iff.1 (by omega)
    subst ha hb hc
    have hc := concat_ac0 (.c false [.s nm.1 nm.2, .ts [], .ts [], .ts [], .ns, .ns, .ns, .ns])
    refine pc_frz Tryz.func22 k22 rfl ?_
    repeat' (first
      | (with_reducible refine Lp_step ?_)
      | (with_reducible refine acl_intro (hc) ?_)
      | (simp only [c22, qt_n, qt_r, Int.natCast_zero, decide_true, decide_false, SXR, noA, isAl, kA, udf, AOp.dst, Nat.beq, putAt, bldE, evIo, isNil, Nat.ble, Int.reduceAdd, Int.reduceSub, Int.reduceNeg, Int.reduceBNe, Nat.reduceEqDiff, Nat.reduceSub, Nat.reduceAdd, Nat.reduceLeDiff, Nat.reduceBEq, Nat.reduceLT, Nat.reduceMul, Int.reduceBEq, Int.reduceLT, Int.reduceLE, reduceIte, reduceCtorEq]))
    exact .nil
/-- an equation's lists are short enough -/
def NEqn.ok (q : NEqn) : Prop := Lst.ok q.left ∧ q.right.ok ∧ Lst.ok q.args ∧ Ex.oks q.args ∧ Lst.ok q.ck ∧ q.args.length < 20000000
/-- a node in normal form -/
structure NNode where
  nm : Str
  ins : List Decl
  outs : List Decl
  locals : List Decl
  eqs : List NEqn
def NNode.row (n : NNode) : List V := [.s n.nm.1 n.nm.2, .ts (n.ins.map Decl.row), .ts (n.outs.map Decl.row), .ts (n.locals.map Decl.row), .ts (n.eqs.map NEqn.row)]
theorem neqns_cl (l : List NEqn) : clR (l.map NEqn.row) = true := clR_map neqn_cl l
theorem nnode_cl (n : NNode) : clL n.row = true := by simp only [NNode.row, clL, V.cl, decls_cl, neqns_cl, Bool.and_self]
theorem nnode_len (n : NNode) : n.row.length = 5 := rfl
theorem nnodes_cl (l : List NNode) : clR (l.map NNode.row) = true := clR_map nnode_cl l
def NNode.ok (n : NNode) : Prop := decOk n.ins ∧ decOk n.outs ∧ decOk n.locals ∧ Lst.ok n.eqs ∧ ∀ q, q ∈ n.eqs → q.ok
/-- a program in normal form -/
structure NPrg where
  enums : List Enm
  nodes : List NNode
def NPrg.row (p : NPrg) : List V := [.ts (p.enums.map Enm.row), .ts (p.nodes.map NNode.row)]
theorem nprg_cl (p : NPrg) : clL p.row = true := by simp only [NPrg.row, clL, V.cl, enms_cl, nnodes_cl, Bool.and_self]
def NPrg.ok (p : NPrg) : Prop := enmOk p.enums ∧ Lst.ok p.nodes ∧ ∀ n, n ∈ p.nodes → n.ok
/-- as a program -/
def NNode.vars (n : NNode) : List Decl := n.ins ++ n.outs ++ n.locals
def backEq (vars : List Decl) (q : NEqn) : Eqn := ⟨q.left, backE vars q⟩
def backNode (n : NNode) : PNode := ⟨n.nm, n.ins, n.outs, n.locals, n.eqs.map (backEq n.vars)⟩
def backP (p : NPrg) : Prg := ⟨p.enums, p.nodes.map backNode⟩
theorem NNode.vars_len {n : NNode} (h : n.ok) : n.vars.length ≤ 90000000 := by
  obtain ⟨h1, h2, h3, _⟩ := h
  have := h1.1; have := h2.1; have := h3.1
  unfold Lst.ok at *
  unfold NNode.vars
  simp; omega
theorem right_pc (vars : List Decl) (hn : vars.length ≤ 90000000) (q : NEqn) (hq : q.ok) : PC Tryz.prog 24 [.ts (vars.map Decl.row), .ag q.row] (xg (backE vars q)) := by
  obtain ⟨h1, h2, h3, h4, _⟩ := hq
  unfold backE
  by_cases k2 : q.kind = 2
  · rw [if_pos k2]
    cases hl : q.left with
    | nil => exact right_delay0 vars q h2 k2 hl
    | cons s ls => exact right_delay1 vars hn q s ls h2 k2 hl
  rw [if_neg k2]
  by_cases k3 : q.kind = 3
  · rw [if_pos k3]; exact right_call vars q h3 h4 k3 (none? q.every) rfl
  rw [if_neg k3]
  by_cases k4 : q.kind = 4
  · rw [if_pos k4]; exact right_word vars q k4
  rw [if_neg k4]
  exact right_else vars q h2 k2 k3 k4
theorem rright_pc (vars : List Decl) (hn : vars.length ≤ 90000000) (q : NEqn) (hq : q.ok) : PC Tryz.prog 26 [.ts (vars.map Decl.row), .ag q.row] (xg (backE vars q)) := by
  obtain ⟨h1, h2, h3, h4, _⟩ := hq
  unfold backE
  by_cases k2 : q.kind = 2
  · rw [if_pos k2]
    cases hl : q.left with
    | nil => exact rright_delay0 vars q k2 hl
    | cons s ls => exact rright_delay1 vars hn q s ls k2 hl
  rw [if_neg k2]
  by_cases k3 : q.kind = 3
  · rw [if_pos k3]
    cases hl : q.args with
    | nil => exact rright_call0 vars q k3 hl (none? q.every) rfl
    | cons a l =>
      refine rright_call1 vars q a l ?_ k3 hl (none? q.every) rfl
      rw [hl] at h3
      unfold Lst.ok at h3
      simp at h3; omega
  rw [if_neg k3]
  by_cases k4 : q.kind = 4
  · rw [if_pos k4]; exact rright_word vars q k4
  rw [if_neg k4]
  exact rright_else vars q k2 k3 k4

/- what is seen in a heap is seen in a greater one -/
theorem Se.mono {h h' : Hp} {D D' : Nat → Prop} (hh : ∀ a gr cs, h a = .c gr cs → h' a = .c gr cs) (hd : ∀ a, D a → D' a) {x y : V} (hs : Se h D x y) : Se h' D' x y := by
  induction hs with
  | same x => exact .same x
  | nil => exact .nil
  | sl a off wd len cp gr cs rows ha hD hl hb hw hr ih => exact .sl a off wd len cp gr cs rows (hh _ _ _ ha) (hd _ hD) hl hb hw ih
  | ag xs ys hl hr ih => exact .ag xs ys hl ih
  | tu xs ys hl hr ih => exact .tu xs ys hl ih
theorem Sl.mono {h h' : Hp} {D D' : Nat → Prop} (hh : ∀ a gr cs, h a = .c gr cs → h' a = .c gr cs) (hd : ∀ a, D a → D' a) : ∀ {xs ys : List V}, Sl h D xs ys → Sl h' D' xs ys
  | [], [], _ => trivial
  | x :: xs, y :: ys, hs => ⟨Se.mono hh hd hs.1, Sl.mono hh hd hs.2⟩
theorem Sll.mono {h h' : Hp} {D D' : Nat → Prop} (hh : ∀ a gr cs, h a = .c gr cs → h' a = .c gr cs) (hd : ∀ a, D a → D' a) : ∀ {xs ys : List (List V)}, Sll h D xs ys → Sll h' D' xs ys
  | [], [], _ => trivial
  | x :: xs, y :: ys, hs => ⟨Sl.mono hh hd hs.1, Sll.mono hh hd hs.2⟩
theorem Sll.app {h : Hp} {D : Nat → Prop} {x y : List V} (hs : Sl h D x y) : ∀ {xs ys : List (List V)}, Sll h D xs ys → Sll h D (xs ++ [x]) (ys ++ [y])
  | [], [], _ => ⟨hs, trivial⟩
  | a :: xs, b :: ys, q => ⟨q.1, Sll.app hs q.2⟩
theorem hpL_more {l m : List O} {a : Nat} {gr : Bool} {cs : List V} (h : hpL l a = .c gr cs) : hpL (l ++ m) a = .c gr cs := by
  unfold hpL at h ⊢
  simp only [List.getD_eq_getElem?_getD] at h ⊢
  cases e : l[a]? with
  | none => rw [e] at h; cases h
  | some o =>
    rw [List.getElem?_append_left (List.getElem?_eq_some_iff.1 e).1, e]
    rw [e] at h; exact h
theorem hpL_three {a b c a' b' c' : O} {l m : List O} {n : Nat} {gr : Bool} {cs : List V} (ha : ∀ gr cs, a ≠ .c gr cs) (hb : ∀ gr cs, b ≠ .c gr cs) (hc : ∀ gr cs, c ≠ .c gr cs) (h : hpL (a :: b :: c :: l) n = .c gr cs) : hpL (a' :: b' :: c' :: (l ++ m)) n = .c gr cs := by
  match n with
  | 0 => exact (ha _ _ h).elim
  | 1 => exact (hb _ _ h).elim
  | 2 => exact (hc _ _ h).elim
  | n + 3 => exact hpL_more (l := l) (m := m) h
/-- a list that grows: nil, or an array behind other objects -/
def GT (base wd n : Nat) (v : V) (T0 T : List O) (cs : List V) : Prop :=
  (n = 0 ∧ v = .ns ∧ cs = [] ∧ T = T0) ∨ (0 < n ∧ T = T0 ++ [.c true cs] ∧ v = .sl (base + T0.length) 0 wd n none ∧ cs.length = n * wd)
theorem hset_at {l : List O} {x o : O} {n : Nat} (h : n = l.length) : hset (l ++ [x]) n o = some (l ++ [o]) := by subst h; exact hs_ap0
theorem GT.app {base wd n bytes : Nat} {v : V} {T0 T : List O} {cs xs : List V} (h : GT base wd n v T0 T cs) (hw : wd ≠ 0) (hx : xs.length = wd) (hroom : room (n + 1) bytes = true) :
    ∃ T1, (∃ t, T1 = T0 ++ t) ∧ T1.length = T.length ∧ (∀ (pre zs : List O) (rb k : Nat), pre.length = base → rb + k = base + (T.length + zs.length) →
      appB rb (pre ++ (T ++ (zs ++ [.no]))) k v (some xs) (some 1) wd bytes = some (.sl (base + (T.length + zs.length)) 0 wd (n + 1) none, pre ++ (T1 ++ (zs ++ [.c true (cs ++ xs)]))))
      ∧ ∀ zs : List O, GT base wd (n + 1) (.sl (base + (T.length + zs.length)) 0 wd (n + 1) none) (T1 ++ zs) (T1 ++ (zs ++ [.c true (cs ++ xs)])) (cs ++ xs) := by
  have hwb : Nat.beq wd 0 = false := by cases wd with | zero => exact (hw rfl).elim | succ n => rfl
  have hl : cs.length = n * wd := by
    rcases h with ⟨rfl, rfl, rfl, rfl⟩ | ⟨_, _, _, h⟩
    · simp
    · exact h
  have hcl : (cs ++ xs).length = (n + 1) * wd := by rw [List.length_append, hl, hx, Nat.add_mul, Nat.one_mul]
  rcases h with ⟨rfl, rfl, rfl, rfl⟩ | ⟨h0, rfl, rfl, _⟩
  · refine ⟨T, ⟨[], by simp⟩, rfl, fun pre zs rb k hp hr => ?_, fun zs => .inr ⟨by omega, by simp, by simp, hcl⟩⟩
    rw [ap_ns rfl hroom, hr, show pre ++ (T ++ (zs ++ [.no])) = (pre ++ (T ++ zs)) ++ [.no] by simp, hset_at (by simp [hp])]
    simp
  · refine ⟨T0 ++ [.gone], ⟨_, rfl⟩, by simp, fun pre zs rb k hp hr => ?_, fun zs => .inr ⟨by omega, by simp, by simp; omega, hcl⟩⟩
    have hh : hpL (pre ++ ((T0 ++ [.c true cs]) ++ (zs ++ [.no]))) (base + T0.length) = .c true cs := by
      have : pre ++ ((T0 ++ [.c true cs]) ++ (zs ++ [.no])) = (pre ++ T0) ++ .c true cs :: (zs ++ [.no]) := by simp
      rw [this, show base + T0.length = (pre ++ T0).length by simp [hp]]
      exact hp_ap0
    rw [ap_sl rfl, hh, ao_grow rfl hwb (by rw [hl]; exact Nat.beq_refl _) hroom]
    have e1 : hset (pre ++ ((T0 ++ [.c true cs]) ++ (zs ++ [.no]))) (base + T0.length) .gone = some ((pre ++ (T0 ++ .gone :: zs)) ++ [.no]) := by
      have : pre ++ ((T0 ++ [.c true cs]) ++ (zs ++ [.no])) = (pre ++ T0) ++ .c true cs :: (zs ++ [.no]) := by simp
      rw [this, show base + T0.length = (pre ++ T0).length by simp [hp], hs_ap0]
      simp
    rw [e1, Option.bind_some, hset_at (by rw [hr]; simp [hp]; omega), hr]
    simp
theorem putAt_full {zs r : List V} (h : zs.length = r.length) : putAt zs 0 r = r := by
  have := putAt_mid (p := []) (u := zs) (s := []) (xs := r) (off := 0) rfl h.symm
  simpa using this
theorem put13 {a b c d e f g h i j k l m : V} (q : NEqn) : putAt [a, b, c, d, e, f, g, h, i, j, k, l, m] 0 q.row = q.row := putAt_full (by rw [neqn_len]; rfl)
theorem put5 {a b c d e : V} (n : NNode) : putAt [a, b, c, d, e] 0 n.row = n.row := putAt_full rfl
theorem put_row1 {u a b c d e f : V} (x : Ex) : putAt [u, a, b, c, d, e, f] 1 x.row = u :: x.row := by cases x; rfl
theorem neqn_take (q : NEqn) : q.row.take 13 = q.row := List.take_of_length_le (by rw [neqn_len]; omega)
theorem nnode_take (n : NNode) : n.row.take 5 = n.row := rfl
theorem neqn_left (q : NEqn) : (q.row.drop 1).take 1 = [.ts (q.left.map srow)] := rfl
theorem eqn_row (vars : List Decl) (q : NEqn) : (backEq vars q).row = .ts (q.left.map srow) :: (backE vars q).row := rfl
/-- what a row of a node is seen as -/
theorem se_node {h : Hp} {n : NNode} {v : V} (hv : Se h (fun _ => True) v (.ts ((n.eqs.map (backEq n.vars)).map Eqn.row))) :
    Sl h (fun _ => True) [.s n.nm.1 n.nm.2, .ts (n.ins.map Decl.row), .ts (n.outs.map Decl.row), .ts (n.locals.map Decl.row), v, .ns, .ns, .ns] (backNode n).row :=
  ⟨.same _, .same _, .same _, .same _, hv, .nil, .nil, .nil, trivial⟩
theorem hp_tail {a b c x y bs : O} {T T1 Tin0 : List O} {es : List V} (hl : T1.length = T.length) : hpL (a :: b :: c :: (T1 ++ x :: y :: ((Tin0 ++ [.c true es]) ++ [bs]))) (T.length + 3 + 2 + Tin0.length) = .c true es := by
  have : a :: b :: c :: (T1 ++ x :: y :: ((Tin0 ++ [.c true es]) ++ [bs])) = ([a, b, c] ++ T1 ++ [x, y] ++ Tin0) ++ .c true es :: [bs] := by simp
  rw [this, show T.length + 3 + 2 + Tin0.length = ([a, b, c] ++ T1 ++ [x, y] ++ Tin0).length by simp [hl]; omega]
  exact hp_ap0
theorem hset_in {a b c x y o p q : O} {T I : List O} : hset (a :: b :: c :: (T ++ x :: y :: (I ++ [p, q]))) (T.length + (I.length + 5)) o = some (a :: b :: c :: (T ++ x :: y :: (I ++ [o, q]))) := by
  have : ∀ p, a :: b :: c :: (T ++ x :: y :: (I ++ [p, q])) = ([a, b, c] ++ T ++ [x, y] ++ I) ++ p :: [q] := by intro p; simp
  rw [this, this, show T.length + (I.length + 5) = ([a, b, c] ++ T ++ [x, y] ++ I).length by simp; omega]
  exact hs_ap0
theorem hp_in {a b c x y p q : O} {T I : List O} : hpL (a :: b :: c :: (T ++ x :: y :: (I ++ [p, q]))) (T.length + (I.length + 5)) = p := by
  have : a :: b :: c :: (T ++ x :: y :: (I ++ [p, q])) = ([a, b, c] ++ T ++ [x, y] ++ I) ++ p :: [q] := by simp
  rw [this, show T.length + (I.length + 5) = ([a, b, c] ++ T ++ [x, y] ++ I).length by simp; omega]
  exact hp_ap0
theorem take_succ_map {α β : Type} {f : α → β} {l : List α} {i : Nat} {x : α} (h : l[i]? = some x) : (l.take (i + 1)).map f = (l.take i).map f ++ [f x] := by
  rw [List.take_add_one, h]; simp
set_option maxHeartbeats 1000000 in
theorem nback_pc (p : NPrg) (hok : p.ok) : PC Tryz.prog 7 [.ag p.row] (.ag (backP p).row) := by
  obtain ⟨en, nd⟩ := p
  obtain ⟨he, hnd, hnn⟩ := hok
  simp only at he hnd hnn
  unfold Lst.ok at hnd
  have hce := enums_pc en he
  refine pc_frz Tryz.func7 k7 rfl ?_
  repeat' (first
    | ((with_reducible refine k_cons ?rdq ?_); (case rdq => refine rck_mk rfl ?_ ?_ <;> simp only [Option.isSome_some, qt_n, qt_r, NPrg.row, enms_cl, List.length_map, SXR, noA, isAl, kA, udf, AOp.dst, Nat.beq, putAt, bldE, evIo, isNil, Nat.ble, Int.reduceAdd, Int.reduceSub, Int.reduceNeg, Int.reduceBNe, Nat.reduceEqDiff, Nat.reduceSub, Nat.reduceAdd, Nat.reduceLeDiff, Nat.reduceBEq, Nat.reduceLT, Nat.reduceMul, Int.reduceBEq, Int.reduceLT, Int.reduceLE, reduceIte, reduceCtorEq]))
    | (with_reducible refine pcl_intro (hce) (by simp only [SXR, qt_n, qt_r, NPrg.row, enms_cl, List.length_map]) (by simp only [SXR, qt_n, qt_r, NPrg.row, enms_cl, List.length_map]) ?_)
    | (simp only [c7, qt_n, qt_r, NPrg.row, enms_cl, List.length_map, SXR, noA, isAl, kA, udf, AOp.dst, Nat.beq, putAt, bldE, evIo, isNil, Nat.ble, Int.reduceAdd, Int.reduceSub, Int.reduceNeg, Int.reduceBNe, Nat.reduceEqDiff, Nat.reduceSub, Nat.reduceAdd, Nat.reduceLeDiff, Nat.reduceBEq, Nat.reduceLT, Nat.reduceMul, Int.reduceBEq, Int.reduceLT, Int.reduceLE, reduceIte, reduceCtorEq]))
  refine Lp_ind (X := Nat) (fun i ll hs => ∃ (v : V) (T0 T : List O) (rs : List (List V)), Hd (fun j => [.ag (NPrg.row ⟨en, nd⟩), .p 0 0, .p 1 0, .p 2 0, j 4, j 5, j 6, j 7, j 8, j 9, j 10, j 11, j 12, j 13, j 14, .ts (nd.map NNode.row), .i .i64 (nd.length : Int), .i .i64 (i : Int), j 18, j 19, j 20, j 21, j 22, j 23, j 24, j 25, j 26, j 27, j 28, j 29, j 30, j 31, j 32, j 33, j 34, j 35, j 36, j 37, j 38, j 39, j 40, j 41, j 42, j 43, j 44, j 45, j 46, j 47, j 48, j 49, j 50, j 51, j 52, j 53, j 54, j 55, j 56, j 57, j 58, j 59, j 60, j 61, j 62]) ll ∧ hs = .c false (NPrg.row ⟨en, nd⟩) :: .c false [.ns, .ns] :: .c false [.ts (en.map Enm.row), v] :: T ∧
      GT 3 8 i v T0 T rs.flatten ∧ rs.length = i ∧ (∀ r, r ∈ rs → r.length = 8) ∧ Sll (hpL (.no :: .no :: .no :: T0)) (fun _ => True) rs ((nd.take i).map fun n => (backNode n).row))
    (fun i => i ≤ nd.length) (fun i => nd.length - i) ?_ 0 _ _ (by exact ⟨.ns, [], [], [], rfl, rfl, .inl ⟨rfl, rfl, rfl, rfl⟩, rfl, by simp, trivial⟩) (Nat.zero_le _)
  rintro i _ _ ⟨v, T0, T, rs, e, rfl, hGT, hrl, hrw, hse⟩ hi IH
  obtain ⟨j, rfl⟩ := e.open
  clear e
  by_cases hlt : i < nd.length
  · obtain ⟨n, hx, hxm⟩ := ats hlt
    have hr := mg (f := NNode.row) hx
    have hd := ltd hlt
    have hw := wrap_big (n := i) (by omega)
    have hnok := hnn n hxm
    have hvl := NNode.vars_len hnok
    obtain ⟨o1, o2, o3, o4, o5⟩ := hnok
    have hc1 := copied_pc n.ins o1
    have hc2 := copied_pc n.outs o2
    have hc3 := copied_pc n.locals o3
    have hcv := svars_pc n.nm n.ins n.outs n.locals (by unfold NNode.vars at hvl; simp at hvl; omega) (fun d hd => by
      rcases List.mem_append.1 hd with hd | hd
      · rcases List.mem_append.1 hd with hd | hd
        · exact o1.2 d hd
        · exact o2.2 d hd
      · exact o3.2 d hd)
    rw [show n.ins ++ n.outs ++ n.locals = n.vars from rfl] at hcv
    have e1 : (n.row.drop 0).take 1 = [.s n.nm.1 n.nm.2] := rfl
    have el := o4
    unfold Lst.ok at el
    repeat' (first
      | ((with_reducible refine k_cons ?rdq ?_); (case rdq => refine rck_mk rfl ?_ ?_ <;> simp only [Option.isSome_some, qt_n, qt_r, List.length_map, hd, hr, NNode.row, decls_cl, neqns_cl, Nat.add_assoc, SXR, noA, isAl, kA, udf, AOp.dst, Nat.beq, putAt, bldE, evIo, isNil, Nat.ble, Int.reduceAdd, Int.reduceSub, Int.reduceNeg, Int.reduceBNe, Nat.reduceEqDiff, Nat.reduceSub, Nat.reduceAdd, Nat.reduceLeDiff, Nat.reduceBEq, Nat.reduceLT, Nat.reduceMul, Int.reduceBEq, Int.reduceLT, Int.reduceLE, reduceIte, reduceCtorEq]))
      | (with_reducible refine pcl_intro (hc1) (by simp only [SXR, qt_n, qt_r, List.length_map, hd, hr, NNode.row, decls_cl, neqns_cl, Nat.add_assoc]) (by simp only [SXR, qt_n, qt_r, List.length_map, hd, hr, NNode.row, decls_cl, neqns_cl, Nat.add_assoc]) ?_)
      | (with_reducible refine pcl_intro (hc2) (by simp only [SXR, qt_n, qt_r, List.length_map, hd, hr, NNode.row, decls_cl, neqns_cl, Nat.add_assoc]) (by simp only [SXR, qt_n, qt_r, List.length_map, hd, hr, NNode.row, decls_cl, neqns_cl, Nat.add_assoc]) ?_)
      | (with_reducible refine pcl_intro (hc3) (by simp only [SXR, qt_n, qt_r, List.length_map, hd, hr, NNode.row, decls_cl, neqns_cl, Nat.add_assoc]) (by simp only [SXR, qt_n, qt_r, List.length_map, hd, hr, NNode.row, decls_cl, neqns_cl, Nat.add_assoc]) ?_)
      | (with_reducible refine pcl_intro (hcv) (by simp only [SXR, qt_n, qt_r, List.length_map, hd, hr, NNode.row, decls_cl, neqns_cl, Nat.add_assoc]) (by simp only [SXR, qt_n, qt_r, List.length_map, hd, hr, NNode.row, decls_cl, neqns_cl, Nat.add_assoc]) ?_)
      | (simp only [c7, qt_n, qt_r, List.length_map, hd, hr, NNode.row, decls_cl, neqns_cl, Nat.add_assoc, SXR, noA, isAl, kA, udf, AOp.dst, Nat.beq, putAt, bldE, evIo, isNil, Nat.ble, Int.reduceAdd, Int.reduceSub, Int.reduceNeg, Int.reduceBNe, Nat.reduceEqDiff, Nat.reduceSub, Nat.reduceAdd, Nat.reduceLeDiff, Nat.reduceBEq, Nat.reduceLT, Nat.reduceMul, Int.reduceBEq, Int.reduceLT, Int.reduceLE, reduceIte, reduceCtorEq]))
    obtain ⟨us, hus⟩ : ∃ us, us = (.c false (NPrg.row ⟨en, nd⟩) :: .c false [.ns, .ns] :: .c false [.ts (en.map Enm.row), v] :: T : List O) := ⟨_, rfl⟩
    have husl : us.length = T.length + 3 := by rw [hus]; rfl
    refine Lp_ind (X := Nat) (fun k ll hs => ∃ (v' : V) (I0 I : List O), Hd (fun j => [.ag (NPrg.row ⟨en, nd⟩), .p 0 0, .p 1 0, .p 2 0, j 4, .p us.length 0, .p (us.length + 1) 0, .ts (n.vars.map Decl.row), j 8, j 9, j 10, j 11, j 12, j 13, j 14, .ts (nd.map NNode.row), .i .i64 (nd.length : Int), .i .i64 (i : Int), j 18, j 19, j 20, j 21, j 22, j 23, j 24, j 25, j 26, j 27, j 28, j 29, j 30, j 31, j 32, j 33, j 34, j 35, .ts (n.eqs.map NEqn.row), .i .i64 (n.eqs.length : Int), .i .i64 (k : Int), j 39, j 40, j 41, j 42, j 43, j 44, j 45, j 46, j 47, j 48, j 49, j 50, j 51, j 52, j 53, j 54, j 55, j 56, j 57, j 58, j 59, j 60, j 61, j 62]) ll ∧ hs = us ++ .c false n.row :: .c false [.s n.nm.1 n.nm.2, .ts (n.ins.map Decl.row), .ts (n.outs.map Decl.row), .ts (n.locals.map Decl.row), v', .ns, .ns, .ns] :: I ∧
        GT (us.length + 2) 7 k v' I0 I (cells (fun q => (backEq n.vars q).row) n.eqs k))
      (fun k => k ≤ n.eqs.length) (fun k => n.eqs.length - k) ?_ 0 _ _ (by exact ⟨.ns, [], [], by rw [husl]; rfl, by rw [hus]; rfl, .inl ⟨rfl, rfl, rfl, rfl⟩⟩) (Nat.zero_le _)
    rintro k _ _ ⟨v', I0, I, e, rfl, hIT⟩ hk IK
    obtain ⟨j, rfl⟩ := e.open
    clear e
    by_cases hkl : k < n.eqs.length
    · clear IH
      obtain ⟨q, hq, hqm⟩ := ats hkl
      have hqr := mg (f := NEqn.row) hq
      have hd := ltd hkl
      have hw := wrap_big (n := k) (by omega)
      have hqok := o5 q hqm
      have hc1 := clstr_pc q.left hqok.1
      have hc2 := right_pc n.vars hvl q hqok
      have hroom := room_ok (n := k + 1) (b := 96) (by omega) (by omega)
      obtain ⟨I1, _, hI1, hap, hgt⟩ := hIT.app (by omega) (eqn_len (backEq n.vars q)) hroom
      have hcs : cells (fun q => (backEq n.vars q).row) n.eqs k ++ (backEq n.vars q).row = cells (fun q => (backEq n.vars q).row) n.eqs (k + 1) := cells_succ (f := fun q => (backEq n.vars q).row) hq
      have hap' : ∀ (z b : O) (rb k' : Nat), rb + k' = us.length + (I.length + 4) → appB rb (us ++ .c false n.row :: .c false [.s n.nm.1 n.nm.2, .ts (n.ins.map Decl.row), .ts (n.outs.map Decl.row), .ts (n.locals.map Decl.row), v', .ns, .ns, .ns] :: (I ++ [z, b, .no])) k' v' (some (.ts (q.left.map srow) :: (backE n.vars q).row)) (some 1) 7 96
          = some (.sl (us.length + (I.length + 4)) 0 7 (k + 1) none, us ++ .c false n.row :: .c false [.s n.nm.1 n.nm.2, .ts (n.ins.map Decl.row), .ts (n.outs.map Decl.row), .ts (n.locals.map Decl.row), v', .ns, .ns, .ns] :: (I1 ++ [z, b, .c true (cells (fun q => (backEq n.vars q).row) n.eqs (k + 1))])) := by
        intro z b rb k' h
        have := hap (us ++ [.c false n.row, .c false [.s n.nm.1 n.nm.2, .ts (n.ins.map Decl.row), .ts (n.outs.map Decl.row), .ts (n.locals.map Decl.row), v', .ns, .ns, .ns]]) [z, b] rb k' (by simp) (by rw [h]; simp; omega)
        rw [show us.length + 2 + (I.length + [z, b].length) = us.length + (I.length + 4) by simp; omega] at this
        rw [hcs] at this
        simp only [List.append_assoc, List.cons_append, List.nil_append] at this
        exact this
      have hgt' : ∀ z b, GT (us.length + 2) 7 (k + 1) (.sl (us.length + (I.length + 4)) 0 7 (k + 1) none) (I1 ++ [z, b]) (I1 ++ [z, b, .c true (cells (fun q => (backEq n.vars q).row) n.eqs (k + 1))]) (cells (fun q => (backEq n.vars q).row) n.eqs (k + 1)) := by
        intro z b
        have := hgt [z, b]
        rw [hcs, show us.length + 2 + (I.length + [z, b].length) = us.length + (I.length + 4) by simp; omega] at this
        exact this
      repeat' (first
        | ((with_reducible refine k_cons ?rdq ?_); (case rdq => refine rck_mk rfl ?_ ?_ <;> simp only [Option.isSome_some, qt_n, qt_r, List.length_map, hd, hw, hqr, neqn_len, neqn_take, neqn_left, put13, put_row1, decls_cl, hap', row_len, row_take, row_cl, neqn_cl, srows_cl, Nat.add_assoc, SXR, noA, isAl, kA, udf, AOp.dst, Nat.beq, putAt, bldE, evIo, isNil, Nat.ble, Int.reduceAdd, Int.reduceSub, Int.reduceNeg, Int.reduceBNe, Nat.reduceEqDiff, Nat.reduceSub, Nat.reduceAdd, Nat.reduceLeDiff, Nat.reduceBEq, Nat.reduceLT, Nat.reduceMul, Int.reduceBEq, Int.reduceLT, Int.reduceLE, reduceIte, reduceCtorEq]))
        | (with_reducible refine pcl_intro (hc1) (by simp only [SXR, qt_n, qt_r, List.length_map, hd, hw, hqr, neqn_len, neqn_take, neqn_left, put13, put_row1, decls_cl, hap', row_len, row_take, row_cl, neqn_cl, srows_cl, Nat.add_assoc]) (by simp only [SXR, qt_n, qt_r, List.length_map, hd, hw, hqr, neqn_len, neqn_take, neqn_left, put13, put_row1, decls_cl, hap', row_len, row_take, row_cl, neqn_cl, srows_cl, Nat.add_assoc]) ?_)
        | (with_reducible refine pcl_intro (hc2) (by simp only [SXR, qt_n, qt_r, List.length_map, hd, hw, hqr, neqn_len, neqn_take, neqn_left, put13, put_row1, decls_cl, hap', row_len, row_take, row_cl, neqn_cl, srows_cl, Nat.add_assoc]) (by simp only [SXR, qt_n, qt_r, List.length_map, hd, hw, hqr, neqn_len, neqn_take, neqn_left, put13, put_row1, decls_cl, hap', row_len, row_take, row_cl, neqn_cl, srows_cl, Nat.add_assoc]) ?_)
        | (simp only [c7, qt_n, qt_r, List.length_map, hd, hw, hqr, neqn_len, neqn_take, neqn_left, put13, put_row1, decls_cl, hap', row_len, row_take, row_cl, neqn_cl, srows_cl, Nat.add_assoc, SXR, noA, isAl, kA, udf, AOp.dst, Nat.beq, putAt, bldE, evIo, isNil, Nat.ble, Int.reduceAdd, Int.reduceSub, Int.reduceNeg, Int.reduceBNe, Nat.reduceEqDiff, Nat.reduceSub, Nat.reduceAdd, Nat.reduceLeDiff, Nat.reduceBEq, Nat.reduceLT, Nat.reduceMul, Int.reduceBEq, Int.reduceLT, Int.reduceLE, reduceIte, reduceCtorEq]))
      exact IK (k + 1) _ _ (by exact ⟨_, _, _, rfl, rfl, hgt' _ _⟩) hkl (by omega)
    · clear IK
      have hd := ltn hkl
      have hke : k = n.eqs.length := by omega
      subst hke
      have hvw : (.s n.nm.1 n.nm.2 :: .ts (n.ins.map Decl.row) :: .ts (n.outs.map Decl.row) :: .ts (n.locals.map Decl.row) :: v' :: .ns :: .ns :: .ns :: [] : List V).length = 8 := rfl
      have hroom := room_ok (n := i + 1) (b := 184) (by omega) (by omega)
      obtain ⟨T1, hT1, hT1l, hap, hgt⟩ := hGT.app (by omega) hvw hroom
      have hap' : ∀ (b : O) (rb k' : Nat), rb + k' = T.length + (I.length + 6) → appB rb (.c false (NPrg.row ⟨en, nd⟩) :: .c false [.ns, .ns] :: .c false [.ts (en.map Enm.row), v] :: (T ++ .c false n.row :: .c false [.s n.nm.1 n.nm.2, .ts (n.ins.map Decl.row), .ts (n.outs.map Decl.row), .ts (n.locals.map Decl.row), v', .ns, .ns, .ns] :: (I ++ [b, .no]))) k' v (some [.s n.nm.1 n.nm.2, .ts (n.ins.map Decl.row), .ts (n.outs.map Decl.row), .ts (n.locals.map Decl.row), v', .ns, .ns, .ns]) (some 1) 8 184
          = some (.sl (T.length + (I.length + 6)) 0 8 (i + 1) none, .c false (NPrg.row ⟨en, nd⟩) :: .c false [.ns, .ns] :: .c false [.ts (en.map Enm.row), v] :: (T1 ++ .c false n.row :: .c false [.s n.nm.1 n.nm.2, .ts (n.ins.map Decl.row), .ts (n.outs.map Decl.row), .ts (n.locals.map Decl.row), v', .ns, .ns, .ns] :: (I ++ [b, .c true (rs.flatten ++ [.s n.nm.1 n.nm.2, .ts (n.ins.map Decl.row), .ts (n.outs.map Decl.row), .ts (n.locals.map Decl.row), v', .ns, .ns, .ns])]))) := by
        intro b rb k' h
        have := hap [.c false (NPrg.row ⟨en, nd⟩), .c false [.ns, .ns], .c false [.ts (en.map Enm.row), v]] (.c false n.row :: .c false [.s n.nm.1 n.nm.2, .ts (n.ins.map Decl.row), .ts (n.outs.map Decl.row), .ts (n.locals.map Decl.row), v', .ns, .ns, .ns] :: (I ++ [b])) rb k' rfl (by rw [h]; simp; omega)
        rw [show ∀ (x y : O), 3 + (T.length + (x :: y :: (I ++ [b])).length) = T.length + (I.length + 6) by intro x y; simp; omega] at this
        simp only [List.append_assoc, List.cons_append, List.nil_append] at this
        exact this
      subst hus
      repeat' (first
        | ((with_reducible refine k_cons ?rdq ?_); (case rdq => refine rck_mk rfl ?_ ?_ <;> simp only [Option.isSome_some, qt_n, qt_r, List.length_map, hd, hw, hap', hset_in, hp_in, Nat.add_assoc, SXR, noA, isAl, kA, udf, AOp.dst, Nat.beq, putAt, bldE, evIo, isNil, Nat.ble, Int.reduceAdd, Int.reduceSub, Int.reduceNeg, Int.reduceBNe, Nat.reduceEqDiff, Nat.reduceSub, Nat.reduceAdd, Nat.reduceLeDiff, Nat.reduceBEq, Nat.reduceLT, Nat.reduceMul, Int.reduceBEq, Int.reduceLT, Int.reduceLE, reduceIte, reduceCtorEq]))
        | (simp only [c7, qt_n, qt_r, List.length_map, hd, hw, hap', hset_in, hp_in, Nat.add_assoc, SXR, noA, isAl, kA, udf, AOp.dst, Nat.beq, putAt, bldE, evIo, isNil, Nat.ble, Int.reduceAdd, Int.reduceSub, Int.reduceNeg, Int.reduceBNe, Nat.reduceEqDiff, Nat.reduceSub, Nat.reduceAdd, Nat.reduceLeDiff, Nat.reduceBEq, Nat.reduceLT, Nat.reduceMul, Int.reduceBEq, Int.reduceLT, Int.reduceLE, reduceIte, reduceCtorEq]))
      refine IH (i + 1) _ _ ?_ hlt (by omega)
      obtain ⟨t, hT1⟩ := hT1
      refine ⟨_, T1 ++ (.c false n.row :: .c false [.s n.nm.1 n.nm.2, .ts (n.ins.map Decl.row), .ts (n.outs.map Decl.row), .ts (n.locals.map Decl.row), v', .ns, .ns, .ns] :: (I ++ [.c false [.s n.nm.1 n.nm.2, .ts (n.ins.map Decl.row), .ts (n.outs.map Decl.row), .ts (n.locals.map Decl.row), v', .ns, .ns, .ns]])), _, rs ++ [[.s n.nm.1 n.nm.2, .ts (n.ins.map Decl.row), .ts (n.outs.map Decl.row), .ts (n.locals.map Decl.row), v', .ns, .ns, .ns]], by exact rfl, rfl, ?_, by simp [hrl], ?_, ?_⟩
      · have := hgt (.c false n.row :: .c false [.s n.nm.1 n.nm.2, .ts (n.ins.map Decl.row), .ts (n.outs.map Decl.row), .ts (n.locals.map Decl.row), v', .ns, .ns, .ns] :: (I ++ [.c false [.s n.nm.1 n.nm.2, .ts (n.ins.map Decl.row), .ts (n.outs.map Decl.row), .ts (n.locals.map Decl.row), v', .ns, .ns, .ns]]))
        rw [show ∀ (x y z : O), 3 + (T.length + (x :: y :: (I ++ [z])).length) = T.length + (I.length + 6) by intro x y z; simp; omega] at this
        rw [List.flatten_append, List.flatten_singleton]
        simp only [List.append_assoc, List.cons_append, List.nil_append] at this ⊢
        exact this
      · intro r hr
        rcases List.mem_append.1 hr with h | h
        · exact hrw r h
        · simp at h; subst h; rfl
      · rw [take_succ_map hx]
        refine Sll.app (se_node ?_) (Sll.mono (fun a gr cs h => ?_) (fun _ h => h) hse)
        · rw [List.map_map]
          rcases hIT with ⟨h0, rfl, _, _⟩ | ⟨_, rfl, rfl, _⟩
          · rw [List.length_eq_zero_iff.1 h0]; exact .nil
          · refine Se.flat' (hp_tail hT1l) ?_ (by simp) trivial (fun r hr => ?_)
            · exact cells_all
            · obtain ⟨q, _, rfl⟩ := List.mem_map.1 hr
              exact eqn_len _
        · rw [hT1, List.append_assoc]
          exact hpL_three (by simp) (by simp) (by simp) h
  · have hd := ltn hlt
    clear IH
    have hie : i = nd.length := by omega
    subst hie
    repeat' (first
      | ((with_reducible refine k_cons ?rdq ?_); (case rdq => refine rck_mk rfl ?_ ?_ <;> simp only [Option.isSome_some, qt_n, qt_r, List.length_map, hd, SXR, noA, isAl, kA, udf, AOp.dst, Nat.beq, putAt, bldE, evIo, isNil, Nat.ble, Int.reduceAdd, Int.reduceSub, Int.reduceNeg, Int.reduceBNe, Nat.reduceEqDiff, Nat.reduceSub, Nat.reduceAdd, Nat.reduceLeDiff, Nat.reduceBEq, Nat.reduceLT, Nat.reduceMul, Int.reduceBEq, Int.reduceLT, Int.reduceLE, reduceIte, reduceCtorEq]))
      | (simp only [c7, qt_n, qt_r, List.length_map, hd, SXR, noA, isAl, kA, udf, AOp.dst, Nat.beq, putAt, bldE, evIo, isNil, Nat.ble, Int.reduceAdd, Int.reduceSub, Int.reduceNeg, Int.reduceBNe, Nat.reduceEqDiff, Nat.reduceSub, Nat.reduceAdd, Nat.reduceLeDiff, Nat.reduceBEq, Nat.reduceLT, Nat.reduceMul, Int.reduceBEq, Int.reduceLT, Int.reduceLE, reduceIte, reduceCtorEq]))
    rw [List.take_length] at hse
    refine Sl.ag ⟨.same _, ?_, trivial⟩
    show Se _ _ v (.ts ((nd.map backNode).map PNode.row))
    rw [List.map_map]
    rcases hGT with ⟨h0, rfl, _, _⟩ | ⟨_, rfl, rfl, _⟩
    · rw [List.length_eq_zero_iff.1 h0]; exact .nil
    · refine Se.rowsL (rs := rs) (cs := rs.flatten) (gr := true) ?_ rfl hrl trivial hrw (fun r hr => ?_) (Sll.mono (fun a gr cs h => hpL_three (by simp) (by simp) (by simp) h) (fun _ h => h) hse)
      · rw [Nat.add_comm 3]
        exact hp_ap0 (l := T0) (xs := []) (x := .c true rs.flatten)
      · obtain ⟨q, _, rfl⟩ := List.mem_map.1 hr
        rfl
end Go.Proofs.YtaopnjogkgldlaaGreatDoor
