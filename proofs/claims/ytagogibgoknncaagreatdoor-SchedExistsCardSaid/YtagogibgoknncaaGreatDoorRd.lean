/-
  What is read of a node in normal form; how long its lists are. Printed by mkreadw.py.
-/
import Derived.Test.YtagogibgoknncaaGreatDoorBV
import Derived.Test.YtagogibgoknncaaGreatDoorBW
import Derived.Test.YtagogibgoknncaaGreatDoorPg
import Derived.Test.YtagogibgoknncaaGreatDoorRows
import Derived.KernelRfl
import Derived.SizedLaws
set_option linter.unusedSimpArgs false
set_option linter.unusedVariables false
namespace Go.Proofs.YtagogibgoknncaaGreatDoor
open Go Go.B Go.ChangeShapes Go.WideShapes Go.ChangeAt Go.RowKit
def wOk {H : Type} (t : TypeId) (d : DataW H) : Prop := ∀ w, w ∈ DataW.weights Tryz.prog t d → w ≤ 140737488355328
theorem w_part {H : Type} {e : TypeId} {d : DataW H} {l : List (DataW H)} (h : d ∈ l) {w : Nat} (hw : w ∈ DataW.weights Tryz.prog e d) : w ∈ DataW.weightsAll Tryz.prog e l := by
 induction l with
 | nil => cases h
 | cons x r ih =>
   simp only [DataW.weightsAll, List.mem_append]
   cases List.mem_cons.1 h with
   | inl e => subst e; exact .inl hw
   | inr e => exact .inr (ih e)
theorem be4 {H : Type} {t : TypeId} {fs : Array Field} {parts : List (DataW H)} (j : Nat) {u : TypeId} {d : DataW H} (ht : Tryz.prog.underlying t = some (.struct fs)) (h1 : (fs.toList.map (·.type))[j]? = some u) (h2 : parts[j]? = some d) (h : wOk t (.agg parts)) : wOk u d := fun w hw => h w (by
 simp only [DataW.weights, ht]; exact DataW.weights_mem_each h1 h2 _ hw)
theorem cells33 : Tryz.prog.cellsOf 33 = 6 := by kernel_rfl
theorem cells3 : Tryz.prog.cellsOf 3 = 1 := by kernel_rfl
theorem bh7 : Tryz.prog.cellsOf 9 = 1 := by kernel_rfl
theorem cells31 : Tryz.prog.cellsOf 31 = 1 := by kernel_rfl
theorem bytes33 : Tryz.prog.bytesOf 33 = 72 := by kernel_rfl
theorem cells50 : Tryz.prog.cellsOf 50 = 3 := by kernel_rfl
theorem cells72 : Tryz.prog.cellsOf 72 = 3 := by kernel_rfl
theorem cells34 : Tryz.prog.cellsOf 34 = 1 := by kernel_rfl
theorem bytes50 : Tryz.prog.bytesOf 50 = 32 := by kernel_rfl
theorem cells36 : Tryz.prog.cellsOf 36 = 13 := by kernel_rfl
theorem cells29 : Tryz.prog.cellsOf 29 = 1 := by kernel_rfl
theorem bytes9 : Tryz.prog.bytesOf 9 = 16 := by kernel_rfl
theorem cells25 : Tryz.prog.cellsOf 25 = 5 := by kernel_rfl
theorem cells22 : Tryz.prog.cellsOf 22 = 1 := by kernel_rfl
theorem cells23 : Tryz.prog.cellsOf 23 = 1 := by kernel_rfl
theorem bytes72 : Tryz.prog.bytesOf 72 = 48 := by kernel_rfl
theorem bytes36 : Tryz.prog.bytesOf 36 = 192 := by kernel_rfl
section
variable {W : World} {H : Type} {enc : TypeId × Value → H}
theorem ac2 {e t fuel : Nat} {wd b : Nat} {cs : List Value} {x : DataW H × List MemPlace} {α : Type} (row : α → List V) (ok : α → Prop) (ht : Tryz.prog.underlying t = some (.slice e)) (hb : Tryz.prog.bytesOf e = b) (hwd : Tryz.prog.cellsOf e = wd) (hw0 : wd ≠ 0) (hrw : ∀ a, (row a).length = wd)
  (hel : ∀ n cs x, n < fuel → DataW.trod enc Tryz.prog W 0 (fun _ => true) true n e cs = some x → ∃ a, RowR W cs (row a) ∧ (wOk e x.1 → ok a)) (h : DataW.trod enc Tryz.prog W 0 (fun _ => true) true fuel t cs = some x) :
  ∃ l : List α, ∃ v, cs = [v] ∧ VR (gW W) (.ts (l.map row)) v ∧ v.oneCell' = true ∧ (wOk t x.1 → l.length * b ≤ 140737488355328 ∧ ∀ a, a ∈ l → ok a) := by
 obtain ⟨l, v, h1, h2, h3, h4⟩ := vr_sliceQ row (fun a d => wOk e d → ok a) ht hwd hw0 hrw hel h
 refine ⟨l, v, h1, h2, h3, fun hx => ?_⟩
 rcases h4 with rfl | ⟨elems, spare, e1, e2, e3⟩
 ·exact ⟨by simp, fun a ha => by simp at ha⟩
 ·rw [e1] at hx
  unfold wOk at hx
  simp only [DataW.weights, ht, hb, List.mem_cons, List.mem_append] at hx
  have h5 := hx _ (.inl rfl)
  refine ⟨Nat.le_trans (Nat.mul_le_mul_right b (by omega)) h5, fun a ha => ?_⟩
  obtain ⟨i, hi, rfl⟩ := List.mem_iff_getElem.1 ha
  have hi2 : i < elems.length := by omega
  exact e3 i _ elems[i] (by simp [hi]) (by simp [hi2]) fun w hw => hx w (.inr (.inl (w_part (List.getElem_mem hi2) hw)))
theorem oks_of : ∀ {l : List Ex}, (∀ a, a ∈ l → a.ok) → Ex.oks l
 | [], _ => by simp only [Ex.oks]
 | e :: l, h => by
   simp only [Ex.oks]
   exact ⟨h e (List.mem_cons_self ..), oks_of (fun a ha => h a (List.mem_cons_of_mem _ ha))⟩
theorem lst_ok {α : Type} {l : List α} {b : Nat} (h : l.length * (b + 1) ≤ 140737488355328) : Lst.ok l := by
 have := Nat.mul_le_mul_left l.length (show 1 ≤ b + 1 by omega)
 unfold Lst.ok; omega
theorem Str_of_trod : ∀ (fuel : Nat) (cs : List Value) (x : DataW H × List MemPlace), DataW.trod enc Tryz.prog W 0 (fun _ => true) true fuel 9 cs = some x → ∃ a : Str, RowR W cs (v6 a) ∧ (wOk 9 x.1 → True) := by
 intro fuel cs x h
 obtain ⟨s, rfl, _, _⟩ := DataW.trod_string Tryz.underlying9 h
 refine ⟨(s.data.toList.length, B.enc s.data.toList), ⟨rfl, fun j x w ex ew => ?_⟩, fun _ => trivial⟩
 rcases j with _ | j
 ·cases ex; cases ew; exact ⟨.s _, rfl⟩
 ·have := (List.getElem?_eq_some_iff.1 ew).1
  simp only [List.length_cons, List.length_nil] at this
  omega
theorem len6 {α : Type} : ∀ {l : List α}, l.length = 6 → ∃ c0 c1 c2 c3 c4 c5, l = [c0, c1, c2, c3, c4, c5]
 | [c0, c1, c2, c3, c4, c5], _ => ⟨_, _, _, _, _, _, rfl⟩
set_option maxRecDepth 100000 in
theorem aw2 : ∀ (fuel : Nat) (cs : List Value) (x : DataW H × List MemPlace), DataW.trod enc Tryz.prog W 0 (fun _ => true) true fuel 33 cs = some x → ∃ a : Ex, RowR W cs a.row ∧ (wOk 33 x.1 → Ex.ok a) := by
 intro fuel
 induction fuel using Nat.strongRecOn with | _ fuel ih => ?_
 intro cs x h
 obtain ⟨xs, n, hn, rfl, hl, hlen, hf⟩ := DataW.trod_struct Tryz.underlying33 h
 rw [cells33] at hl
 obtain ⟨c0, c1, c2, c3, c4, c5, rfl⟩ : ∃ c0 c1 c2 c3 c4 c5, cs = [c0, c1, c2, c3, c4, c5] := by exact len6 hl
 obtain ⟨x0, x1, x2, x3, x4, x5, rfl⟩ : ∃ x0 x1 x2 x3 x4 x5, xs = [x0, x1, x2, x3, x4, x5] := by exact len6 hlen
 have h0 := hf 0 _ rfl
 have h1 := hf 1 _ rfl
 have h2 := hf 2 _ rfl
 have h3 := hf 3 _ rfl
 have h4 := hf 4 _ rfl
 have h5 := hf 5 _ rfl
 simp only [cells3, cells31, bh7, List.drop_succ_cons, List.drop_zero, List.take_succ_cons, List.take_zero, List.getElem?_cons_zero, List.getElem?_cons_succ] at h0 h1 h2 h3 h4 h5
 obtain ⟨i0, e0, _, _⟩ := DataW.trod_int Tryz.underlying3 h0
 obtain ⟨i1, e1, _, _⟩ := DataW.trod_int Tryz.underlying3 h1
 obtain ⟨i2, e2, _, _⟩ := DataW.trod_int Tryz.underlying3 h2
 obtain ⟨i3, e3, _, _⟩ := DataW.trod_int Tryz.underlying3 h3
 obtain ⟨s4, e4, _, _⟩ := DataW.trod_string Tryz.underlying9 h4
 obtain ⟨l5, v5, e5, r5, o5, b5⟩ := ac2 (wd := 6) Ex.row Ex.ok Tryz.underlying31 bytes33 cells33 (by omega) l8 (fun m cs x hm hx => ih m (by omega) cs x hx) h5
 rw [← ax1] at r5
 cases e0; cases e1; cases e2; cases e3; cases e4; cases e5
 refine ⟨.mk i0 i1 i2 i3 (s4.data.toList.length, B.enc s4.data.toList).1 (s4.data.toList.length, B.enc s4.data.toList).2 l5, ⟨rfl, fun j x w ex ew => ?_⟩, fun hb => ?_⟩
 ·rcases j with _ | _ | _ | _ | _ | _ | j
  ·cases ex; cases ew; exact ⟨.i _ _, rfl⟩
  ·cases ex; cases ew; exact ⟨.i _ _, rfl⟩
  ·cases ex; cases ew; exact ⟨.i _ _, rfl⟩
  ·cases ex; cases ew; exact ⟨.i _ _, rfl⟩
  ·cases ex; cases ew; exact ⟨.s _, rfl⟩
  ·cases ex; cases ew; exact ⟨r5, o5⟩
  ·have := (List.getElem?_eq_some_iff.1 ew).1
   simp only [List.length_cons, List.length_nil] at this
   omega
 ·have b5 := b5 (be4 5 Tryz.underlying33 rfl rfl hb)
  exact by simp only [Ex.ok]; exact ⟨lst_ok b5.1, oks_of b5.2⟩
theorem len3 {α : Type} : ∀ {l : List α}, l.length = 3 → ∃ c0 c1 c2, l = [c0, c1, c2]
 | [c0, c1, c2], _ => ⟨_, _, _, rfl⟩
set_option maxRecDepth 100000 in
theorem bi3 : ∀ (fuel : Nat) (cs : List Value) (x : DataW H × List MemPlace), DataW.trod enc Tryz.prog W 0 (fun _ => true) true fuel 50 cs = some x → ∃ a : On, RowR W cs a.row ∧ (wOk 50 x.1 → (fun _ => True) a) := by
 intro fuel
 intro cs x h
 obtain ⟨xs, n, hn, rfl, hl, hlen, hf⟩ := DataW.trod_struct Tryz.underlying50 h
 rw [cells50] at hl
 obtain ⟨c0, c1, c2, rfl⟩ : ∃ c0 c1 c2, cs = [c0, c1, c2] := by exact len3 hl
 obtain ⟨x0, x1, x2, rfl⟩ : ∃ x0 x1 x2, xs = [x0, x1, x2] := by exact len3 hlen
 have h0 := hf 0 _ rfl
 have h1 := hf 1 _ rfl
 have h2 := hf 2 _ rfl
 simp only [cells3, bh7, List.drop_succ_cons, List.drop_zero, List.take_succ_cons, List.take_zero, List.getElem?_cons_zero, List.getElem?_cons_succ] at h0 h1 h2
 obtain ⟨s0, e0, _, _⟩ := DataW.trod_string Tryz.underlying9 h0
 obtain ⟨i1, e1, _, _⟩ := DataW.trod_int Tryz.underlying3 h1
 obtain ⟨i2, e2, _, _⟩ := DataW.trod_int Tryz.underlying3 h2
 cases e0; cases e1; cases e2
 refine ⟨⟨(s0.data.toList.length, B.enc s0.data.toList), i1, i2⟩, ⟨rfl, fun j x w ex ew => ?_⟩, fun hb => ?_⟩
 ·rcases j with _ | _ | _ | j
  ·cases ex; cases ew; exact ⟨.s _, rfl⟩
  ·cases ex; cases ew; exact ⟨.i _ _, rfl⟩
  ·cases ex; cases ew; exact ⟨.i _ _, rfl⟩
  ·have := (List.getElem?_eq_some_iff.1 ew).1
   simp only [List.length_cons, List.length_nil] at this
   omega
 ·exact trivial
set_option maxRecDepth 100000 in
theorem am3 : ∀ (fuel : Nat) (cs : List Value) (x : DataW H × List MemPlace), DataW.trod enc Tryz.prog W 0 (fun _ => true) true fuel 72 cs = some x → ∃ a : Decl, RowR W cs a.row ∧ (wOk 72 x.1 → Decl.ok a) := by
 intro fuel
 intro cs x h
 obtain ⟨xs, n, hn, rfl, hl, hlen, hf⟩ := DataW.trod_struct Tryz.underlying72 h
 rw [cells72] at hl
 obtain ⟨c0, c1, c2, rfl⟩ : ∃ c0 c1 c2, cs = [c0, c1, c2] := by exact len3 hl
 obtain ⟨x0, x1, x2, rfl⟩ : ∃ x0 x1 x2, xs = [x0, x1, x2] := by exact len3 hlen
 have h0 := hf 0 _ rfl
 have h1 := hf 1 _ rfl
 have h2 := hf 2 _ rfl
 simp only [cells3, cells34, bh7, List.drop_succ_cons, List.drop_zero, List.take_succ_cons, List.take_zero, List.getElem?_cons_zero, List.getElem?_cons_succ] at h0 h1 h2
 obtain ⟨s0, e0, _, _⟩ := DataW.trod_string Tryz.underlying9 h0
 obtain ⟨i1, e1, _, _⟩ := DataW.trod_int Tryz.underlying3 h1
 obtain ⟨l2, v2, e2, r2, o2, b2⟩ := ac2 (wd := 3) On.row (fun _ => True) Tryz.underlying34 bytes50 cells50 (by omega) bg3 (fun m cs x hm hx => bi3 m cs x hx) h2
 cases e0; cases e1; cases e2
 refine ⟨⟨(s0.data.toList.length, B.enc s0.data.toList), i1, l2⟩, ⟨rfl, fun j x w ex ew => ?_⟩, fun hb => ?_⟩
 ·rcases j with _ | _ | _ | j
  ·cases ex; cases ew; exact ⟨.s _, rfl⟩
  ·cases ex; cases ew; exact ⟨.i _ _, rfl⟩
  ·cases ex; cases ew; exact ⟨r2, o2⟩
  ·have := (List.getElem?_eq_some_iff.1 ew).1
   simp only [List.length_cons, List.length_nil] at this
   omega
 ·have b2 := b2 (be4 2 Tryz.underlying72 rfl rfl hb)
  exact by unfold Decl.ok; simp only; omega
theorem len13 {α : Type} : ∀ {l : List α}, l.length = 13 → ∃ c0 c1 c2 c3 c4 c5 c6 c7 c8 c9 c10 c11 c12, l = [c0, c1, c2, c3, c4, c5, c6, c7, c8, c9, c10, c11, c12]
 | [c0, c1, c2, c3, c4, c5, c6, c7, c8, c9, c10, c11, c12], _ => ⟨_, _, _, _, _, _, _, _, _, _, _, _, _, rfl⟩
theorem len8 {α : Type} : ∀ {l : List α}, l.length = 8 → ∃ c0 c1 c2 c3 c4 c5 c6 c7, l = [c0, c1, c2, c3, c4, c5, c6, c7]
 | [c0, c1, c2, c3, c4, c5, c6, c7], _ => ⟨_, _, _, _, _, _, _, _, rfl⟩
set_option maxRecDepth 100000 in
theorem NEq_of_trod : ∀ (fuel : Nat) (cs : List Value) (x : DataW H × List MemPlace), DataW.trod enc Tryz.prog W 0 (fun _ => true) true fuel 36 cs = some x → ∃ a : NEqn, RowR W cs a.row ∧ (wOk 36 x.1 → NEqn.okw a) := by
 intro fuel
 intro cs x h
 obtain ⟨xs, n, hn, rfl, hl, hlen, hf⟩ := DataW.trod_struct Tryz.underlying36 h
 rw [cells36] at hl
 obtain ⟨c0, c1, c2, c3, c4, c5, c6, c7, c8, c9, c10, c11, c12, rfl⟩ : ∃ c0 c1 c2 c3 c4 c5 c6 c7 c8 c9 c10 c11 c12, cs = [c0, c1, c2, c3, c4, c5, c6, c7, c8, c9, c10, c11, c12] := by exact len13 hl
 obtain ⟨x0, x1, x2, x3, x4, x5, x6, x7, rfl⟩ : ∃ x0 x1 x2 x3 x4 x5 x6 x7, xs = [x0, x1, x2, x3, x4, x5, x6, x7] := by exact len8 hlen
 have h0 := hf 0 _ rfl
 have h1 := hf 1 _ rfl
 have h2 := hf 2 _ rfl
 have h3 := hf 3 _ rfl
 have h4 := hf 4 _ rfl
 have h5 := hf 5 _ rfl
 have h6 := hf 6 _ rfl
 have h7 := hf 7 _ rfl
 simp only [cells29, cells3, cells31, cells33, cells34, bh7, List.drop_succ_cons, List.drop_zero, List.take_succ_cons, List.take_zero, List.getElem?_cons_zero, List.getElem?_cons_succ] at h0 h1 h2 h3 h4 h5 h6 h7
 obtain ⟨i0, e0, _, _⟩ := DataW.trod_int Tryz.underlying3 h0
 obtain ⟨l1, v1, e1, r1, o1, b1⟩ := ac2 (wd := 1) v6 (fun _ => True) Tryz.underlying29 bytes9 bh7 (by omega) u9 (fun m cs x hm hx => Str_of_trod m cs x hx) h1
 obtain ⟨a2, r2, b2⟩ := aw2 _ _ _ h2
 obtain ⟨z0, z1, z2, z3, z4, z5, z6⟩ := a2
 obtain ⟨i3, e3, _, _⟩ := DataW.trod_int Tryz.underlying3 h3
 obtain ⟨s4, e4, _, _⟩ := DataW.trod_string Tryz.underlying9 h4
 obtain ⟨l5, v5, e5, r5, o5, b5⟩ := ac2 (wd := 6) Ex.row Ex.ok Tryz.underlying31 bytes33 cells33 (by omega) l8 (fun m cs x hm hx => aw2 m cs x hx) h5
 rw [← ax1] at r5
 obtain ⟨s6, e6, _, _⟩ := DataW.trod_string Tryz.underlying9 h6
 obtain ⟨l7, v7, e7, r7, o7, b7⟩ := ac2 (wd := 3) On.row (fun _ => True) Tryz.underlying34 bytes50 cells50 (by omega) bg3 (fun m cs x hm hx => bi3 m cs x hx) h7
 cases e0; cases e1; cases e3; cases e4; cases e5; cases e6; cases e7
 refine ⟨⟨i0, l1, (.mk z0 z1 z2 z3 z4 z5 z6), i3, (s4.data.toList.length, B.enc s4.data.toList), l5, (s6.data.toList.length, B.enc s6.data.toList), l7⟩, ⟨rfl, fun j x w ex ew => ?_⟩, fun hb => ?_⟩
 ·rcases j with _ | _ | _ | _ | _ | _ | _ | _ | _ | _ | _ | _ | _ | j
  ·cases ex; cases ew; exact ⟨.i _ _, rfl⟩
  ·cases ex; cases ew; exact ⟨r1, o1⟩
  ·exact r2.2 0 x w ex ew
  ·exact r2.2 1 x w ex ew
  ·exact r2.2 2 x w ex ew
  ·exact r2.2 3 x w ex ew
  ·exact r2.2 4 x w ex ew
  ·exact r2.2 5 x w ex ew
  ·cases ex; cases ew; exact ⟨.i _ _, rfl⟩
  ·cases ex; cases ew; exact ⟨.s _, rfl⟩
  ·cases ex; cases ew; exact ⟨r5, o5⟩
  ·cases ex; cases ew; exact ⟨.s _, rfl⟩
  ·cases ex; cases ew; exact ⟨r7, o7⟩
  ·have := (List.getElem?_eq_some_iff.1 ew).1
   simp only [List.length_cons, List.length_nil] at this
   omega
 ·have b1 := b1 (be4 1 Tryz.underlying36 rfl rfl hb)
  have b2 := b2 (be4 2 Tryz.underlying36 rfl rfl hb)
  have b5 := b5 (be4 5 Tryz.underlying36 rfl rfl hb)
  have b7 := b7 (be4 7 Tryz.underlying36 rfl rfl hb)
  exact ⟨lst_ok b1.1, b2, lst_ok b5.1, oks_of b5.2, lst_ok b7.1⟩
theorem len5 {α : Type} : ∀ {l : List α}, l.length = 5 → ∃ c0 c1 c2 c3 c4, l = [c0, c1, c2, c3, c4]
 | [c0, c1, c2, c3, c4], _ => ⟨_, _, _, _, _, rfl⟩
set_option maxRecDepth 100000 in
theorem NNode_of_trod : ∀ (fuel : Nat) (cs : List Value) (x : DataW H × List MemPlace), DataW.trod enc Tryz.prog W 0 (fun _ => true) true fuel 25 cs = some x → ∃ a : NNode, RowR W cs a.row ∧ (wOk 25 x.1 → NNode.okw a) := by
 intro fuel
 intro cs x h
 obtain ⟨xs, n, hn, rfl, hl, hlen, hf⟩ := DataW.trod_struct Tryz.underlying25 h
 rw [cells25] at hl
 obtain ⟨c0, c1, c2, c3, c4, rfl⟩ : ∃ c0 c1 c2 c3 c4, cs = [c0, c1, c2, c3, c4] := by exact len5 hl
 obtain ⟨x0, x1, x2, x3, x4, rfl⟩ : ∃ x0 x1 x2 x3 x4, xs = [x0, x1, x2, x3, x4] := by exact len5 hlen
 have h0 := hf 0 _ rfl
 have h1 := hf 1 _ rfl
 have h2 := hf 2 _ rfl
 have h3 := hf 3 _ rfl
 have h4 := hf 4 _ rfl
 simp only [cells22, cells23, bh7, List.drop_succ_cons, List.drop_zero, List.take_succ_cons, List.take_zero, List.getElem?_cons_zero, List.getElem?_cons_succ] at h0 h1 h2 h3 h4
 obtain ⟨s0, e0, _, _⟩ := DataW.trod_string Tryz.underlying9 h0
 obtain ⟨l1, v1, e1, r1, o1, b1⟩ := ac2 (wd := 3) Decl.row Decl.ok Tryz.underlying22 bytes72 cells72 (by omega) decl_len (fun m cs x hm hx => am3 m cs x hx) h1
 obtain ⟨l2, v2, e2, r2, o2, b2⟩ := ac2 (wd := 3) Decl.row Decl.ok Tryz.underlying22 bytes72 cells72 (by omega) decl_len (fun m cs x hm hx => am3 m cs x hx) h2
 obtain ⟨l3, v3, e3, r3, o3, b3⟩ := ac2 (wd := 3) Decl.row Decl.ok Tryz.underlying22 bytes72 cells72 (by omega) decl_len (fun m cs x hm hx => am3 m cs x hx) h3
 obtain ⟨l4, v4, e4, r4, o4, b4⟩ := ac2 (wd := 13) NEqn.row NEqn.okw Tryz.underlying23 bytes36 cells36 (by omega) i6 (fun m cs x hm hx => NEq_of_trod m cs x hx) h4
 cases e0; cases e1; cases e2; cases e3; cases e4
 refine ⟨⟨(s0.data.toList.length, B.enc s0.data.toList), l1, l2, l3, l4⟩, ⟨rfl, fun j x w ex ew => ?_⟩, fun hb => ?_⟩
 ·rcases j with _ | _ | _ | _ | _ | j
  ·cases ex; cases ew; exact ⟨.s _, rfl⟩
  ·cases ex; cases ew; exact ⟨r1, o1⟩
  ·cases ex; cases ew; exact ⟨r2, o2⟩
  ·cases ex; cases ew; exact ⟨r3, o3⟩
  ·cases ex; cases ew; exact ⟨r4, o4⟩
  ·have := (List.getElem?_eq_some_iff.1 ew).1
   simp only [List.length_cons, List.length_nil] at this
   omega
 ·have b1 := b1 (be4 1 Tryz.underlying25 rfl rfl hb)
  have b2 := b2 (be4 2 Tryz.underlying25 rfl rfl hb)
  have b3 := b3 (be4 3 Tryz.underlying25 rfl rfl hb)
  have b4 := b4 (be4 4 Tryz.underlying25 rfl rfl hb)
  exact ⟨⟨by simp only; omega, b1.2⟩, ⟨by simp only; omega, b2.2⟩, ⟨by simp only; omega, b3.2⟩, lst_ok b4.1, b4.2⟩
end
end Go.Proofs.YtagogibgoknncaaGreatDoor
