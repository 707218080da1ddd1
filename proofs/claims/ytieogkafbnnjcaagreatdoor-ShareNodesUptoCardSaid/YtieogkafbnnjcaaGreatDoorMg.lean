/-
  The parts of a node, in plain words: each delay once, in order, with equal initial values and clocks.
-/
import Derived.Test.YtieogkafbnnjcaaGreatDoorMf
set_option linter.unusedSimpArgs false
set_option linter.unusedVariables false
namespace Go.Proofs.YtieogkafbnnjcaaGreatDoor
open Go Go.B
theorem eqB_eq {α : Type} {f : α → α → Bool} (hf : ∀ x y, f x y = true → x = y) : ∀ {a b : List α}, eqB f a b = true → a = b
 | [], [], _ => rfl
 | [], _ :: _, h => by simp [eqB] at h
 | _ :: _, [], h => by simp [eqB] at h
 | x :: a, y :: b, h => by
   simp only [eqB, Bool.and_eq_true] at h
   rw [hf x y h.1, eqB_eq hf h.2]
theorem eqStr_eq {s t : Str} (h : aa4 s t = true) : s = t := by
 simp only [aa4, Bool.and_eq_true, beq_iff_eq] at h
 exact Prod.ext h.1 h.2
theorem eqOn_eq (o p : On) (h : bf9 o p = true) : o = p := by
 obtain ⟨a, b, c⟩ := o
 obtain ⟨a', b', c'⟩ := p
 simp only [bf9, Bool.and_eq_true, beq_iff_eq] at h
 obtain ⟨⟨h1, h2⟩, h3⟩ := h
 rw [eqStr_eq h1, h2, h3]
theorem eqOn_refl' (o : On) : bf9 o o = true := by simp [bf9, aa4]
theorem cks_refl (l : List On) : eqB bf9 l l = true := eqB_refl l (fun o _ => eqOn_refl' o)
def pz (dl : List Dl) (p : List Nat) (i : Nat) : List (Dl × Nat) := (dl.zip p).filter fun z => z.2 == i
theorem grpN_zip {dl : List Dl} {p : List Nat} {i : Nat} (hl : p.length = dl.length) : ∀ k, k ≤ dl.length → bf7 dl p i k = (((dl.zip p).take k).filter fun z => z.2 == i).map fun z => z.1.ix
 | 0, _ => by simp [bf7]
 | k + 1, h => by
   have hx : dl[k]? = some dl[k] := by simp
   have hm : p[k]? = some (p[k]'(by omega)) := by simp
   have hz : (dl.zip p)[k]? = some (dl[k], p[k]'(by omega)) := by rw [List.getElem?_zip_eq_some]; exact ⟨hx, hm⟩
   rw [bd6 hx hm, grpN_zip hl k (by omega), List.take_add_one, hz, List.filter_append, List.map_append]
   congr 1
   by_cases e : (p[k]'(by omega)) = i
   ·rw [if_pos e]; simp [e]
   ·rw [if_neg e]; simp [e]
theorem grp_zip {dl : List Dl} {p : List Nat} {i : Nat} (hl : p.length = dl.length) : grp dl p i = (pz dl p i).map fun z => z.1.ix := by
 have h := grpN_zip (i := i) hl dl.length (Nat.le_refl _)
 rw [show grp dl p i = bf7 dl p i dl.length from rfl, h, List.take_of_length_le (by simp [hl])]
 rfl
theorem pz_mem {dl : List Dl} {p : List Nat} {i : Nat} {z : Dl × Nat} (h : z ∈ pz dl p i) : z.2 = i ∧ ∃ k : Nat, dl[k]? = some z.1 ∧ p[k]? = some z.2 := by
 simp only [pz, List.mem_filter, beq_iff_eq] at h
 obtain ⟨k, hk⟩ := List.getElem?_of_mem h.1
 rw [List.getElem?_zip_eq_some] at hk
 exact ⟨h.2, k, hk⟩
theorem dlL_asc {n : NNode} : ∀ (l : List NEqn) (i : Nat), (dlL n i l).Pairwise (fun a b => a.ix < b.ix) ∧ ∀ d, d ∈ dlL n i l → i ≤ d.ix
 | [], i => ⟨List.Pairwise.nil, fun d h => by cases h⟩
 | q :: l, i => by
   obtain ⟨h1, h2⟩ := dlL_asc (n := n) l (i + 1)
   simp only [dlL]
   split
   ·refine ⟨List.pairwise_cons.2 ⟨fun d hd => ?_, h1⟩, fun d hd => ?_⟩
    ·have := h2 d hd
     show i < d.ix
     omega
    ·rcases List.mem_cons.1 hd with rfl | hd
     ·exact Nat.le_refl i
     ·have := h2 d hd; omega
   ·exact ⟨h1, fun d hd => by have := h2 d hd; omega⟩
theorem outs_mem {dl : List Dl} {p : List Nat} {g : List Nat} : ∀ {i : Nat}, g ∈ ai8 dl p i → g ≠ [] ∧ ∃ j, g = grp dl p j
 | 0, h => by cases h
 | i + 1, h => by
   simp only [ai8] at h
   rcases List.mem_append.1 h with h | h
   ·exact outs_mem h
   ·split at h
    ·cases h
    ·rename_i hne
     rw [List.mem_singleton] at h
     exact ⟨by rw [h]; exact hne, i, h⟩
end Go.Proofs.YtieogkafbnnjcaaGreatDoor
