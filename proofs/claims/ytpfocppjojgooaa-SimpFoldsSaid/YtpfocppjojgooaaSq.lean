/-
  The law on folding in its given form: what is read is an expression; the contract on trees; what lies behind the call.
-/
import Derived.Test.YtpfocppjojgooaaSp
import Derived.Test.YtpfocppjojgooaaAbsV
import Derived.Test.YtpfocppjojgooaaRows
import Derived.ProofKit
set_option linter.unusedSimpArgs false
set_option linter.unusedVariables false
namespace Go.Proofs.Ytpfocppjojgooaa
open Go.Abs Go.ChangeShapes Go.WideShapes Go.ChangeAt Go.RowKit
theorem Try.own : ownKnob Try.prog.godebug = none := by kernel_rfl
theorem Try.kids : Kids Try.prog (· < Try.prog.types.size) := kids_rows (by kernel_rfl) (by kernel_rfl)
theorem Try.full : ∀ t e, t < Try.prog.types.size → Try.prog.underlying t = some (.slice e) → 0 < Try.prog.cellsOf e := slices_full_of Try.prog (by kernel_rfl)
theorem cells24 : Try.prog.cellsOf 24 = 6 := by kernel_rfl
theorem cells3 : Try.prog.cellsOf 3 = 1 := by kernel_rfl
theorem cells9 : Try.prog.cellsOf 9 = 1 := by kernel_rfl
theorem cells22 : Try.prog.cellsOf 22 = 1 := by kernel_rfl
theorem len6 {α : Type} : ∀ {l : List α}, l.length = 6 → ∃ c0 c1 c2 c3 c4 c5, l = [c0, c1, c2, c3, c4, c5]
  | [c0, c1, c2, c3, c4, c5], _ => ⟨_, _, _, _, _, _, rfl⟩
set_option maxRecDepth 100000 in
theorem ex_of_trod {H : Type} {enc : TypeId × Value → H} {W : World} : ∀ (fuel : Nat) (cs : List Value) (x : DataW H × List MemPlace), DataW.trod enc Try.prog W 0 (fun _ => true) true fuel 24 cs = some x → ∃ e : Ex, RowR W cs e.row := by
    intro fuel
    induction fuel using Nat.strongRecOn with | _ fuel ih => ?_
    intro cs x h
    obtain ⟨xs, n, hn, rfl, hl, hlen, hf⟩ := DataW.trod_struct Try.underlying24 h
    rw [cells24] at hl
    obtain ⟨c0, c1, c2, c3, c4, c5, rfl⟩ : ∃ c0 c1 c2 c3 c4 c5, cs = [c0, c1, c2, c3, c4, c5] := by
      exact len6 hl
    obtain ⟨x0, x1, x2, x3, x4, x5, rfl⟩ : ∃ c0 c1 c2 c3 c4 c5, xs = [c0, c1, c2, c3, c4, c5] := by
      exact len6 hlen
    have h0 := hf 0 _ rfl
    have h1 := hf 1 _ rfl
    have h2 := hf 2 _ rfl
    have h3 := hf 3 _ rfl
    have h4 := hf 4 _ rfl
    have h5 := hf 5 _ rfl
    simp only [cells3, cells9, cells22, List.drop_succ_cons, List.drop_zero, List.take_succ_cons, List.take_zero, List.getElem?_cons_zero, List.getElem?_cons_succ] at h0 h1 h2 h3 h4 h5
    obtain ⟨k, e0, _, _⟩ := DataW.trod_int Try.underlying3 h0
    obtain ⟨op, e1, _, _⟩ := DataW.trod_int Try.underlying3 h1
    obtain ⟨t, e2, _, _⟩ := DataW.trod_int Try.underlying3 h2
    obtain ⟨v, e3, _, _⟩ := DataW.trod_int Try.underlying3 h3
    obtain ⟨nm, e4, _, _⟩ := DataW.trod_string Try.underlying9 h4
    obtain ⟨args, v5, e5, r5, o5⟩ := tvr_slice (wd := 6) Ex.row Try.underlying22 cells24 (by omega) (fun a => by rw [row_eq]; rfl) (fun m cs x hm hx => by
      exact ih m (by omega) cs x hx) h5
    cases e0; cases e1; cases e2; cases e3; cases e4; cases e5
    refine ⟨.mk k op t v nm.data.toList args, rfl, fun j x w ex ew => ?_⟩
    rw [← rows_map] at r5
    rcases j with _ | _ | _ | _ | _ | _ | j
    · cases ex; cases ew; exact ⟨.i _ _, rfl⟩
    · cases ex; cases ew; exact ⟨.i _ _, rfl⟩
    · cases ex; cases ew; exact ⟨.i _ _, rfl⟩
    · cases ex; cases ew; exact ⟨.i _ _, rfl⟩
    · cases ex; cases ew; exact ⟨.s _, rfl⟩
    · cases ex; cases ew; exact ⟨r5, o5⟩
    · simp [Ex.row] at ex

set_option maxRecDepth 100000 in
theorem folds_lifted (os : Os) (started : os.Started) (H : Type) (enc : TypeId × Value → H) :
    ReturnsInHanded {} Try.checked os 3 .any (Rows.simpFoldsSpec.pre6 enc Try.prog Try.f3 Rows.simpFoldsRow.domain false) (Rows.simpFoldsSpec.post enc Try.prog Try.f3 Rows.simpFoldsRow.apart Rows.simpFoldsRow.fresh Rows.simpFoldsRow.handsOn Rows.simpFoldsRow.again) := by
  refine returnsInHanded_of_change (C := Try.checked) Try.own started (by kernel_rfl) Try.func3
    (ChangeSpec.witness6 (enc := enc) (C := Try.checked) false ⟨#[], #[.agg #[.int .i64 0, .int .i64 0, .int .i64 0, .int .i64 0, .string ⟨#[]⟩, .slice none 0 0]], []⟩ 8 (by kernel_rfl) (by kernel_rfl) (by kernel_rfl) (by kernel_rfl)) ?_
  intro W base args ds gs before hval0 hW _ _
  have hW' := hW
  obtain ⟨p, q, hA0, hV, _, _, _⟩ := hW
  have hA : DataW.TrodAll enc Try.prog W 0 (fun _ => true) true Try.f3.params.toList args.toList ds p := hA0
  rw [Try.params3] at hA
  obtain ⟨v0, d0, rfl, rfl, fuel, h0⟩ := trodAll_one hA
  obtain ⟨rfl, rfl⟩ := trodVars_none hV
  obtain ⟨e, he⟩ := ex_of_trod fuel _ _ h0
  obtain ⟨a, rfl⟩ := agg_of_cells (n := 6) (by rw [he.1, row_eq]; rfl) (by omega)
  have hrow : RowR W a.toList e.row := he
  refine (law_calls (folds_law e) rfl (fun i x v ex ev => ?_)).mono fun ex W' ⟨h1, hk⟩ => ⟨_, h1, ?_⟩
  · match i with
    | 0 => have hr := tvr_agg hrow; rw [row_eq] at hr; cases ex; cases ev; exact hr
    | i + 1 => simp at ex
  · exact law_post Try.kids Try.full (by rw [Try.params3]; decide) (by kernel_rfl) Try.underlying4 rfl hW' rfl rfl rfl hk

theorem folds_holds : Rows.SimpFoldsSaid :=
  OpenClaim.holds_of_wide 3 Try.f3 rfl rfl rfl rfl rfl rfl rfl ⟨rfl, rfl, rfl, rfl, rfl⟩ rfl rfl rfl rfl rfl (by kernel_rfl) Try.func3 (by kernel_rfl)
    (of_decide_eq_true (by kernel_rfl)) (by unfold Func.isWrapper; rw [if_neg (of_decide_eq_false (by kernel_rfl))]; exact ⟨rfl, rfl⟩)
    (fun os started H enc _ => folds_lifted os started H enc)

#print axioms folds_holds
end Go.Proofs.Ytpfocppjojgooaa
