/-
  Proved here: the law SchedOrders where what it reads is of bulk at most 1048576, in its given form, and its card: for every node in normal form that can be read as data and is no greater than that, the call returns true and leaves what it was given. The row's own condition: the listed package-level variables read as the program's text lays them (the given tie).
-/
import Derived.Test.YtpbgbokclgbdlaaGreatDoorRd
import Derived.Test.YtpbgbokclgbdlaaGreatDoorRun
import Derived.Test.YtpbgbokclgbdlaaGreatDoorPn
import Derived.Test.YtpbgbokclgbdlaaGreatDoorCards
import Derived.Test.YtpbgbokclgbdlaaGreatDoorTie
import Derived.ProofKit
import Derived.LaidMore
import Derived.OpenShut
import Derived.Stop.Joined
import Derived.SevenTiedAt
import Derived.Deep.DeepHandedRow
import Derived.Deep.DeepWitnessRowRef
set_option linter.unusedSimpArgs false
set_option linter.unusedVariables false
namespace Go.Proofs.YtpbgbokclgbdlaaGreatDoor
open Go Go.B Go.ChangeShapes Go.WideShapes Go.ChangeAt Go.RowKit
theorem bd5 : ownKnob Tryz.prog.godebug = none := by kernel_rfl
theorem az2 : Kids Tryz.prog (· < Tryz.prog.types.size) := kids_rows (by kernel_rfl) (by kernel_rfl)
theorem az3 : ∀ t e, t < Tryz.prog.types.size → Tryz.prog.underlying t = some (.slice e) → 0 < Tryz.prog.cellsOf e := slices_full_of Tryz.prog (by kernel_rfl)
theorem bd6 (os : Os) (args : Array Value) : laidMetH Tryz.prog Rows.schedOrdersUptoRow.laid ((World.doorLaid Tryz.prog 400 os).forCall (fun _ _ => 0) ⟨#[], args, []⟩).memory :=
 laidMetH_of_parts3 (fuel := 8) (laidMet_of_run' 8 (by kernel_rfl) (by kernel_rfl)) (by kernel_rfl) (by kernel_rfl)
theorem av5 (os : Os) {H : Type} (enc : TypeId × Value → H) : ∃ places, DataW.whole enc Tryz.prog ((World.doorLaid Tryz.prog 400 os).forCall (fun _ _ => 0) ⟨#[], #[.agg #[.string ⟨#[]⟩, .slice none 0 0, .slice none 0 0, .slice none 0 0, .slice none 0 0]], []⟩).memory Tryz.f3.params.toList Rows.schedOrdersSpec.vars false #[Value.agg #[.string ⟨#[]⟩, .slice none 0 0, .slice none 0 0, .slice none 0 0, .slice none 0 0]].toList 8 = some ([.agg [.lit (.string []), .nil, .nil, .nil, .nil]], [], places) :=
 ⟨[], by kernel_rfl⟩
set_option maxRecDepth 100000 in
theorem as2 (os : Os) (started : os.Started) (H : Type) (enc : TypeId × Value → H) (F : Stop.Interp) :
  ReturnsInHanded {} Tryz.checked os 3 .any ((Rows.OpenSpec.upto Rows.schedOrdersSpec).preRow enc Tryz.prog Tryz.f3 Rows.schedOrdersUptoRow.domain false Rows.schedOrdersUptoRow.laid) (((Rows.OpenSpec.upto Rows.schedOrdersSpec).at F).post enc Tryz.prog Tryz.f3 false true false false) := by
 obtain ⟨places, hx⟩ := av5 os enc
 refine returnsInHanded_of_row (C := Tryz.checked) (s := Rows.OpenSpec.upto Rows.schedOrdersSpec) bd5 started (by kernel_rfl) Tryz.func3
  (witness_row_atRef (enc := enc) (C := Tryz.checked) false (World.doorLaid Tryz.prog 400 os) #[.agg #[.string ⟨#[]⟩, .slice none 0 0, .slice none 0 0, .slice none 0 0, .slice none 0 0]] rfl (by kernel_rfl) (by kernel_rfl) (by kernel_rfl)
    (OpenSpec.preRow_of_cond 8 hx (by kernel_rfl) (fun k hk => by cases hk; kernel_rfl) (by kernel_rfl) (bd6 os _))) ?_
 intro W base args ds gs before hval hW _ hcond _ hL _ _
 have hW' := hW
 obtain ⟨p, q, hA0, hV, _, _, _⟩ := hW
 have hA : DataW.TrodAll enc Tryz.prog W 0 (fun _ => true) true Tryz.f3.params.toList args.toList ds p := hA0
 rw [Tryz.params3] at hA
 obtain ⟨v0, d0, rfl, rfl, fuel, h0⟩ := trodAll_one hA
 obtain ⟨rfl, rfl⟩ := trodVars_none hV
 have hsm : Rows.uptoBulkAll ([d0] ++ ([] : List (DataW H))) ≤ 1048576 := of_decide_eq_true (hcond _ rfl)
 simp only [List.append_nil, Rows.uptoBulkAll] at hsm
 obtain ⟨e, he, hok⟩ := am1 fuel _ _ h0
 have hok := hok (by omega)
 obtain ⟨a, rfl⟩ := ao3 (n := 5) (by rw [he.1]; rfl) (by omega)
 have hrow : RowR W a.toList e.row := he
 refine (bf9 (orders_pc e hok awake_true) rfl (fun i x v ex ev => ?_)).mono fun ex W' ⟨h1, hk⟩ => ⟨_, h1, ?_⟩
 ·match i with
  | 0 => have hr := vr_agg hrow; cases ex; cases ev; exact hr
  | i + 1 => simp at ex
 ·exact law_post az2 az3 (by rw [Tryz.params3]; decide) (by kernel_rfl) Tryz.underlying4 rfl hW' rfl rfl rfl hk
theorem named3 : Tryz.pinned.checked.prog.funcNamed Rows.schedOrdersUptoRow.func = some 3 := by kernel_rfl
set_option maxHeartbeats 100000000 in
theorem joined3 : joinedFacts Tryz.pinned.checked.prog 3 Tryz.f3 (Rows.OpenSpec.upto Rows.schedOrdersSpec).bare Rows.schedOrdersUptoRow = true := by
 unfold joinedFacts
 repeat' (with_reducible refine Bool.and_eq_true_iff.2 ⟨?_, ?_⟩)
 all_goals (as_aux_lemma => kernel_rfl)
theorem inst3 : Tryz.f3.isInstance Tryz.pinned.checked.prog Rows.schedOrdersUptoRow.origin Rows.schedOrdersUptoRow.targs := of_decide_eq_true (by kernel_rfl)
theorem wrap3 : Tryz.f3.isWrapper Tryz.pinned.checked.prog Rows.schedOrdersUptoRow.wrapper Rows.schedOrdersUptoRow.mainSum := by
 unfold Func.isWrapper; rw [if_neg (of_decide_eq_false (by kernel_rfl))]; exact ⟨rfl, rfl⟩
theorem av6 : Rows.SchedOrdersUptoSaid :=
 OpenClaim.holds_of_cond 3 Tryz.f3 rfl rfl rfl rfl rfl rfl rfl ⟨rfl, rfl, rfl, rfl, rfl⟩ rfl rfl rfl rfl rfl named3 Tryz.func3 joined3 inst3 wrap3
  (fun os started H enc _ F => by rw [OpenClaim.pre_eq_preRow]; exact as2 os started H enc F)
theorem schedOrders_card_holds : Rows.SchedOrdersUptoCardSaid :=
 Claim7.holds_tied_plain_at .later [] _ _ _ _
  av6 (fun _ h => by cases h) (by as_aux_lemma => kernel_rfl) (fun _ h => by cases h) schedOrdersUpto_row_tie rfl ⟨rfl, rfl⟩ (by as_aux_lemma => kernel_rfl) rfl
  (fun f fn hf hfn => by
    obtain rfl : f = 3 := Option.some.inj ((show Tryz.prog.funcNamed "synchrony/synchronylaw21.SchedOrders" = some 3 by as_aux_lemma => kernel_rfl).symm.trans hf) |>.symm
    obtain rfl : fn = Tryz.f3 := (Option.some.inj (Tryz.func3.symm.trans hfn)).symm
    exact ⟨by as_aux_lemma => kernel_rfl, fun j t ht => by
     rw [Tryz.params3] at ht
     have hm : t ∈ [25] := by simpa using Array.mem_of_getElem? ht
     have hall : ([25].all fun u => !Tryz.prog.wantsStandIn u) = true := by as_aux_lemma => kernel_rfl
     exact (show Tryz.prog.wantsStandIn t = false by simpa using List.all_eq_true.1 hall t hm)⟩)
  (by as_aux_lemma => kernel_rfl)
#print axioms schedOrders_card_holds
end Go.Proofs.YtpbgbokclgbdlaaGreatDoor
