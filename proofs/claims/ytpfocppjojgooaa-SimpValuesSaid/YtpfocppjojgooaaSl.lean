/-
  Folding, as a function of trees; its sizes; what is folded stays.
-/
import Derived.Test.YtpfocppjojgooaaSk
set_option linter.unusedSimpArgs false
namespace Go.Proofs.Ytpfocppjojgooaa
open Go.Abs
mutual
def Ex.sz : Ex → Nat
  | .mk _ _ _ _ _ l => 1 + Ex.szs l
def Ex.szs : List Ex → Nat
  | [] => 0
  | e :: l => Ex.sz e + Ex.szs l
end
theorem sz_mem {e : Ex} : ∀ {l : List Ex}, e ∈ l → e.sz ≤ Ex.szs l
  | x :: l, h => by
    rcases List.mem_cons.1 h with rfl | h
    · simp [Ex.szs]
    · have := sz_mem h; simp [Ex.szs]; omega
theorem sz_args (e : Ex) : e.sz = 1 + Ex.szs e.args := by cases e; rfl
theorem szs_len : ∀ (l : List Ex), l.length ≤ Ex.szs l
  | [] => by simp
  | e :: l => by have := szs_len l; have := sz_args e; simp [Ex.szs]; omega
def onceE (e : Ex) : Option Ex := onceF e.k e.op e.args
def itF : Nat → Ex → Ex
  | 0, e => e
  | n + 1, e => match onceE e with
    | some y => itF n y
    | none => e
theorem itF_none {e : Ex} (h : onceE e = none) : ∀ n, itF n e = e
  | 0 => rfl
  | n + 1 => by simp [itF, h]
/-- what a step comes to -/
theorem once_cases {e y : Ex} (h : onceE e = some y) : (y.args = [] ∧ y.sz = 1 ∧ e.args ≠ []) ∨ (y ∈ e.args) ∨ (∃ c a b, e.args = [c, a, b] ∧ y = .mk 3 1 0 0 [] [c]) ∨ (∃ x, e.args = [x] ∧ y ∈ x.args) := by
  unfold onceE onceF at h
  cases hA : compF e.k e.op e.args with
  | some z =>
    simp [hA] at h
    subst h
    left
    unfold compF at hA
    split at hA
    · rename_i hc
      cases hA
      refine ⟨rfl, rfl, fun h0 => ?_⟩
      simp only [h0, Bool.and_eq_true, kOk, List.map_nil, beq_iff_eq] at hc
      have h1 := hc.2.2.1
      unfold rsl at h1
      split at h1
      · cases h1
      · rename_i hg
        have := grp_n e.op (by simpa using hg)
        rw [if_pos (by simp; omega)] at h1
        cases h1
    · cases hA
  | none =>
    simp [hA] at h
    cases hB : choiceF e.k e.args with
    | some z =>
      simp [hB] at h
      subst h
      unfold choiceF at hB
      split at hB
      · rename_i c a b hargs
        rw [hargs]
        split at hB
        · split at hB
          · cases hB; right; left; simp
          · split at hB
            · cases hB; right; left; simp
            · split at hB
              · cases hB; right; left; simp
              · split at hB
                · cases hB; right; right; left; exact ⟨c, a, b, rfl, rfl⟩
                · cases hB
        · cases hB
      · cases hB
    | none =>
      simp [hB] at h
      cases hC : twiceF e.k e.op e.args with
      | some z =>
        simp [hC] at h
        subst h
        unfold twiceF at hC
        split at hC
        · rename_i x hargs
          split at hC
          · split at hC
            · rename_i y' hy
              cases hC
              right; right; right
              exact ⟨x, hargs, by rw [hy]; simp⟩
            · cases hC
          · cases hC
        · cases hC
      | none =>
        simp [hC] at h
        cases hD : whenF e.k e.args with
        | some z =>
          simp [hD] at h
          subst h
          unfold whenF at hD
          split at hD
          · rename_i x hargs
            split at hD
            · cases hD; right; left; rw [hargs]; simp
            · cases hD
          · cases hD
        | none =>
          simp [hD] at h
          unfold otherF at h
          split at h
          · rename_i a b hargs
            rw [hargs]
            split at h
            · split at h
              · cases h; right; left; simp
              · split at h
                · cases h; right; left; simp
                · cases h
            · cases h
          · cases h
theorem sz_once {e y : Ex} (h : onceE e = some y) : y.sz < e.sz := by
  have he := sz_args e
  rcases once_cases h with ⟨_, h1, h2⟩ | h1 | ⟨c, a, b, h1, rfl⟩ | ⟨x, h1, h2⟩
  · cases hl : e.args with
    | nil => exact (h2 hl).elim
    | cons x l => have := sz_args x; rw [hl] at he; simp [Ex.szs] at he; omega
  · have := sz_mem h1; omega
  · rw [h1] at he
    have := sz_args a
    have hy : (Ex.mk 3 1 0 0 [] [c]).sz = 1 + c.sz := by simp [Ex.sz, Ex.szs]
    simp [Ex.szs] at he; omega
  · have := sz_mem h2
    have := sz_args x
    rw [h1] at he
    simp [Ex.szs] at he; omega
mutual
def Ex.fold : Ex → Ex
  | .mk k op t v nm l => itF (Ex.sz (.mk k op t v nm (Ex.folds l))) (.mk k op t v nm (Ex.folds l))
def Ex.folds : List Ex → List Ex
  | [] => []
  | e :: l => Ex.fold e :: Ex.folds l
end
theorem folds_map (l : List Ex) : Ex.folds l = l.map Ex.fold := by
  induction l with
  | nil => rfl
  | cons e l ih => simp [Ex.folds, ih]
theorem itF_sz : ∀ (n : Nat) (e : Ex), (itF n e).sz ≤ e.sz
  | 0, e => Nat.le_refl _
  | n + 1, e => by
    simp only [itF]
    split
    · rename_i y h; have := sz_once h; have := itF_sz n y; omega
    · exact Nat.le_refl _
mutual
theorem fold_sz : ∀ (e : Ex), e.fold.sz ≤ e.sz
  | .mk k op t v nm l => by
    have h := folds_sz l
    have := itF_sz (Ex.sz (.mk k op t v nm (Ex.folds l))) (.mk k op t v nm (Ex.folds l))
    simp only [Ex.fold]
    have e2 : (Ex.mk k op t v nm (Ex.folds l)).sz = 1 + Ex.szs (Ex.folds l) := rfl
    have e3 : (Ex.mk k op t v nm l).sz = 1 + Ex.szs l := rfl
    omega
theorem folds_sz : ∀ (l : List Ex), Ex.szs (Ex.folds l) ≤ Ex.szs l
  | [] => Nat.le_refl _
  | e :: l => by have := fold_sz e; have := folds_sz l; simp only [Ex.folds, Ex.szs]; omega
end
/-- the step runs out -/
theorem itF_done : ∀ (n : Nat) (e : Ex), e.sz ≤ n → onceE (itF n e) = none
  | 0, e, h => by have := sz_args e; omega
  | n + 1, e, h => by
    simp only [itF]
    split
    · rename_i y hy; exact itF_done n y (by have := sz_once hy; omega)
    · assumption
/-- folded already -/
inductive Fx : Ex → Prop
  | mk {e : Ex} (h : onceE e = none) (ha : ∀ a, a ∈ e.args → Fx a) : Fx e
theorem Fx.once {e : Ex} (h : Fx e) : onceE e = none := by cases h; assumption
theorem Fx.arg {e a : Ex} (h : Fx e) (ha : a ∈ e.args) : Fx a := by cases h with | mk _ h => exact h a ha
theorem itF_fx : ∀ (n : Nat) (e : Ex), e.sz ≤ n → (∀ a, a ∈ e.args → Fx a) → Fx (itF n e)
  | 0, e, h, _ => by have := sz_args e; omega
  | n + 1, e, h, ha => by
    simp only [itF]
    split
    · rename_i y hy
      refine itF_fx n y (by have := sz_once hy; omega) (fun a hm => ?_)
      rcases once_cases hy with ⟨h1, _, _⟩ | h1 | ⟨c, a', b, h1, rfl⟩ | ⟨x, h1, h2⟩
      · rw [h1] at hm; cases hm
      · exact (ha y h1).arg hm
      · simp [args_mk] at hm; subst hm; exact ha _ (by rw [h1]; simp)
      · exact ((ha x (by rw [h1]; simp)).arg h2).arg hm
    · rename_i hn; exact .mk hn ha
mutual
theorem fold_fx : ∀ (e : Ex), Fx e.fold
  | .mk k op t v nm l => by
    simp only [Ex.fold]
    exact itF_fx _ _ (Nat.le_refl _) (folds_fx l)
theorem folds_fx : ∀ (l : List Ex), ∀ a, a ∈ Ex.folds l → Fx a
  | [], a, h => by simp [Ex.folds] at h
  | e :: l, a, h => by
    simp only [Ex.folds, List.mem_cons] at h
    rcases h with rfl | h
    · exact fold_fx e
    · exact folds_fx l a h
end
mutual
theorem fx_fold : ∀ (e : Ex), Fx e → e.fold = e
  | .mk k op t v nm l, h => by
    have : Ex.folds l = l := fx_folds l (fun a ha => h.arg ha)
    simp only [Ex.fold, this]
    exact itF_none h.once _
theorem fx_folds : ∀ (l : List Ex), (∀ a, a ∈ l → Fx a) → Ex.folds l = l
  | [], _ => rfl
  | e :: l, h => by simp only [Ex.folds]; rw [fx_fold e (h e (by simp)), fx_folds l (fun a ha => h a (List.mem_cons_of_mem _ ha))]
end
theorem fold_fold (e : Ex) : e.fold.fold = e.fold := fx_fold _ (fold_fx e)
end Go.Proofs.Ytpfocppjojgooaa
