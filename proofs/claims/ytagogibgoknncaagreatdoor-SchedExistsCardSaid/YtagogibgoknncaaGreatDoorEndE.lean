/-
  Proved here: the law SchedExists in its given form, and its card: for every node in normal form that can be read as data the call returns true and leaves what it was given. The row's own condition: the listed package-level variables read as the program's text lays them (the given tie).
-/
import Derived.Test.YtagogibgoknncaaGreatDoorRd
import Derived.Test.YtagogibgoknncaaGreatDoorRun
import Derived.Test.YtagogibgoknncaaGreatDoorPj
import Derived.Test.YtagogibgoknncaaGreatDoorCards
import Derived.Test.YtagogibgoknncaaGreatDoorTie
import Derived.ProofKit
import Derived.LaidMore
import Derived.OpenShut
import Derived.Stop.Joined
import Derived.SevenTiedAt
set_option linter.unusedSimpArgs false
set_option linter.unusedVariables false
namespace Go.Proofs.YtagogibgoknncaaGreatDoor
open Go Go.B Go.ChangeShapes Go.WideShapes Go.ChangeAt Go.RowKit
theorem az3 : ownKnob Tryz.prog.godebug = none := by kernel_rfl
theorem aw3 : Kids Tryz.prog (· < Tryz.prog.types.size) := kids_rows (by kernel_rfl) (by kernel_rfl)
theorem aw4 : ∀ t e, t < Tryz.prog.types.size → Tryz.prog.underlying t = some (.slice e) → 0 < Tryz.prog.cellsOf e := slices_full_of Tryz.prog (by kernel_rfl)
theorem az4 (os : Os) (args : Array Value) : laidMetH Tryz.prog Rows.schedExistsRow.laid ((World.doorLaid Tryz.prog 400 os).forCall (fun _ _ => 0) ⟨#[], args, []⟩).memory :=
 laidMetH_of_parts3 (fuel := 8) (laidMet_of_run' 8 (by kernel_rfl) (by kernel_rfl)) (by kernel_rfl) (by kernel_rfl)
set_option maxRecDepth 100000 in
theorem aq6 (os : Os) (started : os.Started) (H : Type) (enc : TypeId × Value → H) :
  ReturnsInHanded {} Tryz.checked os 3 .any (fun w args => (Rows.schedExistsSpec.pre enc Tryz.prog Tryz.f3 [] false w args ∧ laidMetH Tryz.prog Rows.schedExistsRow.laid w) ∧ sizedMet enc Tryz.prog Tryz.f3 (OpenSpec.ofChange Rows.schedExistsSpec) false w args)
   (Rows.schedExistsSpec.post enc Tryz.prog Tryz.f3 false true false false) := by
 refine returnsInHanded_of_change_and (C := Tryz.checked) (X := fun w _ => laidMetH Tryz.prog Rows.schedExistsRow.laid w) (fun _ _ _ hh h => h.of_heap hh) az3 started (by kernel_rfl) Tryz.func3
  (ChangeSpec.witness_shaped (enc := enc) (C := Tryz.checked) (os := os) (X := fun w _ => laidMetH Tryz.prog Rows.schedExistsRow.laid w) false (World.doorLaid Tryz.prog 400 os) #[.agg #[.string ⟨#[]⟩, .slice none 0 0, .slice none 0 0, .slice none 0 0, .slice none 0 0]] 8 rfl (World.shaped_of_RefB (by kernel_rfl) (by kernel_rfl)) (by kernel_rfl) (by kernel_rfl) (by kernel_rfl) (az4 os _)) ?_
 intro W base args ds gs before hval0 hW _ hwt hL _
 have hW' := hW
 obtain ⟨p, q, hA0, hV, _, _, _⟩ := hW
 have hA : DataW.TrodAll enc Tryz.prog W 0 (fun _ => true) true Tryz.f3.params.toList args.toList ds p := hA0
 rw [Tryz.params3] at hA
 obtain ⟨v0, d0, rfl, rfl, fuel, h0⟩ := trodAll_one hA
 obtain ⟨rfl, rfl⟩ := trodVars_none hV
 obtain ⟨e, he, hok⟩ := NNode_of_trod fuel _ _ h0
 have hok := hok (fun w hw => by
  rw [Tryz.params3] at hwt
  have := of_decide_eq_true (List.all_eq_true.1 hwt w (DataW.weights_mem_each (j := 0) rfl rfl w hw))
  exact Nat.le_trans this (by decide))
 obtain ⟨a, rfl⟩ := agg_of_cells (n := 5) (by rw [he.1]; rfl) (by omega)
 have hrow : RowR W a.toList e.row := he
 refine (law_calls (exists_pc e hok awake_true) rfl (fun i x v ex ev => ?_)).mono fun ex W' ⟨h1, hk⟩ => ⟨_, h1, ?_⟩
 ·match i with
  | 0 => have hr := vr_agg hrow; cases ex; cases ev; exact hr
  | i + 1 => simp at ex
 ·exact law_post aw3 aw4 (by rw [Tryz.params3]; decide) (by kernel_rfl) Tryz.underlying4 rfl hW' rfl rfl rfl hk
theorem named3 : Tryz.pinned.checked.prog.funcNamed Rows.schedExistsRow.func = some 3 := by kernel_rfl
set_option maxHeartbeats 100000000 in
theorem joined3 : joinedFacts Tryz.pinned.checked.prog 3 Tryz.f3 Rows.schedExistsSpec Rows.schedExistsRow = true := by
 unfold joinedFacts
 repeat' (with_reducible refine Bool.and_eq_true_iff.2 ⟨?_, ?_⟩)
 all_goals (as_aux_lemma => kernel_rfl)
theorem inst3 : Tryz.f3.isInstance Tryz.pinned.checked.prog Rows.schedExistsRow.origin Rows.schedExistsRow.targs := of_decide_eq_true (by kernel_rfl)
theorem wrap3 : Tryz.f3.isWrapper Tryz.pinned.checked.prog Rows.schedExistsRow.wrapper Rows.schedExistsRow.mainSum := by
 unfold Func.isWrapper; rw [if_neg (of_decide_eq_false (by kernel_rfl))]; exact ⟨rfl, rfl⟩
theorem at4 : Rows.SchedExistsSaid :=
 OpenClaim.holds_of_wide 3 Tryz.f3 rfl rfl rfl rfl rfl rfl rfl ⟨rfl, rfl, rfl, rfl, rfl⟩ rfl rfl rfl rfl rfl named3 Tryz.func3 joined3 inst3 wrap3
  (fun os started H enc _ => aq6 os started H enc)
theorem schedExists_full_card_holds : Rows.SchedExistsCardSaid :=
 Claim7.holds_tied_plain_at .later [] _ _ _ _
  at4 (fun _ h => by cases h) (by as_aux_lemma => kernel_rfl) (fun _ h => by cases h) schedExists_row_tie rfl ⟨rfl, rfl⟩ (by as_aux_lemma => kernel_rfl) rfl
  (fun f fn hf hfn => by
    obtain rfl : f = 3 := Option.some.inj ((show Tryz.prog.funcNamed "synchrony/synchronylaw21.SchedExists" = some 3 by as_aux_lemma => kernel_rfl).symm.trans hf) |>.symm
    obtain rfl : fn = Tryz.f3 := (Option.some.inj (Tryz.func3.symm.trans hfn)).symm
    exact ⟨by as_aux_lemma => kernel_rfl, fun j t ht => by
     rw [Tryz.params3] at ht
     have hm : t ∈ [25] := by simpa using Array.mem_of_getElem? ht
     have hall : ([25].all fun u => !Tryz.prog.wantsStandIn u) = true := by as_aux_lemma => kernel_rfl
     exact (show Tryz.prog.wantsStandIn t = false by simpa using List.all_eq_true.1 hall t hm)⟩)
  (by as_aux_lemma => kernel_rfl)
#print axioms schedExists_full_card_holds
end Go.Proofs.YtagogibgoknncaaGreatDoor
