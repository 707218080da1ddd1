/-
  A slice that is read, with what its elements are read as. Program-independent.
-/
import Derived.Test.YtagogibgoknncaaGreatDoorBV
set_option linter.unusedSimpArgs false
set_option linter.unusedVariables false
set_option linter.unusedSectionVars false
namespace Go.B
variable [iok : OkC]
open Go.ChangeShapes Go.WideShapes Go.ChangeAt Go.RowKit
section
variable {P : Program} {W : World} {H : Type} {enc : TypeId × Value → H}
theorem vr_sliceQ {e t fuel : Nat} {wd : Nat} {cs : List Value} {x : DataW H × List MemPlace} {base : Nat} {held : Bool} {α : Type} (row : α → List V) (Q : α → DataW H → Prop) (ht : P.underlying t = some (.slice e)) (hwd : P.cellsOf e = wd) (hw0 : wd ≠ 0) (hrw : ∀ a, (row a).length = wd)
  (hel : ∀ n cs x, n < fuel → DataW.trod enc P W base (fun _ => true) held n e cs = some x → ∃ a, RowR W cs (row a) ∧ Q a x.1) (h : DataW.trod enc P W base (fun _ => true) held fuel t cs = some x) :
  ∃ l : List α, ∃ v, cs = [v] ∧ VR (gW W) (.ts (l.map row)) v ∧ v.oneCell' = true ∧ (l = [] ∨ ∃ elems spare, x.1 = .slice elems spare ∧ elems.length = l.length ∧ ∀ (i : Nat) a d, l[i]? = some a → elems[i]? = some d → Q a d) := by
 rcases DataW.trod_slice ht h with ⟨rfl, _⟩ | ⟨a, len, cap, elems, rest, n, rfl, rfl, rfl, _, hle, _, hlen, hE, _, _⟩
 ·exact ⟨[], _, rfl, .ts0, rfl, .inl rfl⟩
 ·obtain ⟨l, l1, l2⟩ := bd3 (α := α) (p := fun i y => ∃ csi, W.cells? base (a.add (i * wd)) wd = some csi ∧ RowR W csi (row y) ∧ ∀ d, (elems.map fun x => x.1)[i]? = some d → Q y d) len (fun i hi => by
   have := hE i hi
   have hel' : elems[i]? = some elems[i] := by simp [hlen, hi]
   rw [hel', hwd] at this
   obtain ⟨csi, c1, c2⟩ := Option.bind_eq_some_iff.1 this
   obtain ⟨y, hy, hq⟩ := hel n csi _ (Nat.lt_succ_self _) c2
   exact ⟨y, csi, c1, hy, fun d hd => by
    rw [List.getElem?_map, hel'] at hd
    cases hd
    exact hq⟩)
  refine ⟨l, _, rfl, ?_, rfl, .inr ⟨_, _, rfl, by simp [l1, hlen], fun i y d e1 e2 => ?_⟩⟩
  ·by_cases h0 : len = 0
   ·subst h0
    have : l = [] := List.length_eq_zero_iff.1 l1
    subst this
    exact .tse a cap
   ·
    have hspot : a.spot = none := by
     obtain ⟨csi, c1, c2⟩ := l2 0 (l[0]'(by omega)) (by simp)
     obtain ⟨_, c3⟩ := cells_get c1
     obtain ⟨v, _, hc⟩ := c3 0 (by omega)
     simp only [Nat.zero_mul, Addr.add, if_true] at hc
     unfold World.cell? at hc
     split at hc
     ·split at hc
      ·cases hc
      ·rename_i hs; simpa using hs
     ·cases hc
    obtain ⟨ab, ao, as'⟩ := a
    simp only at hspot
    subst hspot
    have key : ∀ (i j : Nat) (r : List V) (x : V), (l.map row)[i]? = some r → r[j]? = some x → ∃ v, W.cell? ⟨ab, ao + i * wd + j, none⟩ = some v ∧ VR (gW W) x v ∧ v.oneCell' = true := by
     intro i j r x e1 e2
     rw [List.getElem?_map, Option.map_eq_some_iff] at e1
     obtain ⟨y, y1, rfl⟩ := e1
     obtain ⟨csi, c1, c2, _⟩ := l2 i y y1
     obtain ⟨c0, c3⟩ := cells_get c1
     have hj : j < wd := by rw [← hrw y]; exact (List.getElem?_eq_some_iff.1 e2).1
     obtain ⟨v, v1, v2⟩ := c3 j hj
     refine ⟨v, ?_, c2.2 j x v e2 v1⟩
     rw [← v2]
     congr 1
     simp only [Addr.add]
     split <;> split <;> simp_all <;> omega
    have hres : VR (gW W) (.ts (l.map row)) (.slice (some ⟨ab, ao, none⟩) (l.map row).length cap) := by
     refine .ts (l.map row) wd ab ao cap (fun i j => (W.cell? ⟨ab, ao + i * wd + j, none⟩).getD undef) (fun i r e => ?_) (by simpa [l1] using hle) (fun i j r x e1 e2 => ?_) (fun i j r x e1 e2 => ?_)
     ·rw [List.getElem?_map, Option.map_eq_some_iff] at e
      obtain ⟨y, _, rfl⟩ := e; exact hrw y
     ·obtain ⟨v, v1, _, v3⟩ := key i j r x e1 e2
      have v1' : (gW W).fz ab (ao + i * wd + j) = some v := v1
      rw [v1', v1]; exact ⟨rfl, v3⟩
     ·obtain ⟨v, v1, v2, _⟩ := key i j r x e1 e2
      rw [v1]; exact v2
    rw [List.length_map, l1] at hres
    exact hres
  ·obtain ⟨csi, _, _, hq⟩ := l2 i y e1
   exact hq d e2
end
end Go.B
