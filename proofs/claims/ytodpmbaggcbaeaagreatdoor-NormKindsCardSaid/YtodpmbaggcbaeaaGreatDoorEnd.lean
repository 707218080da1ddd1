/-
  Proved here: the law NormKinds in its given form, and its card: for every expression that can be read as data the call returns true and leaves what it was given. The row's own condition: the listed package-level variables read as the program's text lays them (the given tie).
-/
import Derived.Test.YtodpmbaggcbaeaaGreatDoorLw
import Derived.Test.YtodpmbaggcbaeaaGreatDoorRun
import Derived.Test.YtodpmbaggcbaeaaGreatDoorBV
import Derived.Test.YtodpmbaggcbaeaaGreatDoorRows
import Derived.Test.YtodpmbaggcbaeaaGreatDoorCards
import Derived.Test.YtodpmbaggcbaeaaGreatDoorTie
import Derived.ProofKit
import Derived.LaidMore
import Derived.OpenShut
import Derived.Stop.Joined
import Derived.SevenTiedAt
set_option linter.unusedSimpArgs false
set_option linter.unusedVariables false
namespace Go.Proofs.YtodpmbaggcbaeaaGreatDoor
open Go Go.B Go.ChangeShapes Go.WideShapes Go.ChangeAt Go.RowKit
theorem Tryz.own : ownKnob Tryz.prog.godebug = none := by kernel_rfl
theorem Tryz.kids : Kids Tryz.prog (· < Tryz.prog.types.size) := kids_rows (by kernel_rfl) (by kernel_rfl)
theorem Tryz.full : ∀ t e, t < Tryz.prog.types.size → Tryz.prog.underlying t = some (.slice e) → 0 < Tryz.prog.cellsOf e := slices_full_of Tryz.prog (by kernel_rfl)
theorem cells24 : Tryz.prog.cellsOf 24 = 6 := by kernel_rfl
theorem cells3 : Tryz.prog.cellsOf 3 = 1 := by kernel_rfl
theorem cells9 : Tryz.prog.cellsOf 9 = 1 := by kernel_rfl
theorem cells22 : Tryz.prog.cellsOf 22 = 1 := by kernel_rfl
theorem len6 {α : Type} : ∀ {l : List α}, l.length = 6 → ∃ c0 c1 c2 c3 c4 c5, l = [c0, c1, c2, c3, c4, c5]
  | [c0, c1, c2, c3, c4, c5], _ => ⟨_, _, _, _, _, _, rfl⟩
set_option maxRecDepth 100000 in
theorem ex_of_trod {H : Type} {enc : TypeId × Value → H} {W : World} : ∀ (fuel : Nat) (cs : List Value) (x : DataW H × List MemPlace), DataW.trod enc Tryz.prog W 0 (fun _ => true) true fuel 24 cs = some x → ∃ e : Ex, RowR W cs e.row := by
    intro fuel
    induction fuel using Nat.strongRecOn with | _ fuel ih => ?_
    intro cs x h
    obtain ⟨xs, n, hn, rfl, hl, hlen, hf⟩ := DataW.trod_struct Tryz.underlying24 h
    rw [cells24] at hl
    obtain ⟨c0, c1, c2, c3, c4, c5, rfl⟩ : ∃ c0 c1 c2 c3 c4 c5, cs = [c0, c1, c2, c3, c4, c5] := by
      exact len6 hl
    obtain ⟨x0, x1, x2, x3, x4, x5, rfl⟩ : ∃ c0 c1 c2 c3 c4 c5, xs = [c0, c1, c2, c3, c4, c5] := by
      exact len6 hlen
    have h0 := hf 0 _ rfl
    have h1 := hf 1 _ rfl
    have h2 := hf 2 _ rfl
    have h3 := hf 3 _ rfl
    have h4 := hf 4 _ rfl
    have h5 := hf 5 _ rfl
    simp only [cells3, cells9, cells22, List.drop_succ_cons, List.drop_zero, List.take_succ_cons, List.take_zero, List.getElem?_cons_zero, List.getElem?_cons_succ] at h0 h1 h2 h3 h4 h5
    obtain ⟨k, e0, _, _⟩ := DataW.trod_int Tryz.underlying3 h0
    obtain ⟨op, e1, _, _⟩ := DataW.trod_int Tryz.underlying3 h1
    obtain ⟨t, e2, _, _⟩ := DataW.trod_int Tryz.underlying3 h2
    obtain ⟨v, e3, _, _⟩ := DataW.trod_int Tryz.underlying3 h3
    obtain ⟨nm, e4, _, _⟩ := DataW.trod_string Tryz.underlying9 h4
    obtain ⟨args, v5, e5, r5, o5⟩ := vr_slice (wd := 6) Ex.row Tryz.underlying22 cells24 (by omega) row_len (fun m cs x hm hx => by
      exact ih m (by omega) cs x hx) h5
    cases e0; cases e1; cases e2; cases e3; cases e4; cases e5
    refine ⟨.mk k op t v nm.data.toList.length (B.enc nm.data.toList) args, rfl, fun j x w ex ew => ?_⟩
    rw [← rows_map] at r5
    rcases j with _ | _ | _ | _ | _ | _ | j
    · cases ex; cases ew; exact ⟨.i _ _, rfl⟩
    · cases ex; cases ew; exact ⟨.i _ _, rfl⟩
    · cases ex; cases ew; exact ⟨.i _ _, rfl⟩
    · cases ex; cases ew; exact ⟨.i _ _, rfl⟩
    · cases ex; cases ew; exact ⟨.s _, rfl⟩
    · cases ex; cases ew; exact ⟨r5, o5⟩
    · simp [Ex.row] at ex

/-- the door's own heap meets the condition -/
theorem door_met (os : Os) (args : Array Value) : laidMetH Tryz.prog Rows.normKindsRow.laid ((World.doorLaid Tryz.prog 400 os).forCall (fun _ _ => 0) ⟨#[], args, []⟩).memory :=
  laidMetH_of_parts3 (fuel := 8) (laidMet_of_run' 8 (by kernel_rfl) (by kernel_rfl)) (by kernel_rfl) (by kernel_rfl)

set_option maxRecDepth 100000 in
theorem kinds_lifted (os : Os) (started : os.Started) (H : Type) (enc : TypeId × Value → H) :
    ReturnsInHanded {} Tryz.checked os 3 .any (fun w args => (Rows.normKindsSpec.pre enc Tryz.prog Tryz.f3 [] false w args ∧ laidMetH Tryz.prog Rows.normKindsRow.laid w) ∧ sizedMet enc Tryz.prog Tryz.f3 (OpenSpec.ofChange Rows.normKindsSpec) false w args)
      (Rows.normKindsSpec.post enc Tryz.prog Tryz.f3 false true false false) := by
  refine returnsInHanded_of_change_and (C := Tryz.checked) (X := fun w _ => laidMetH Tryz.prog Rows.normKindsRow.laid w) (fun _ _ _ hh h => h.of_heap hh) Tryz.own started (by kernel_rfl) Tryz.func3
    (ChangeSpec.witness_shaped (enc := enc) (C := Tryz.checked) (os := os) (X := fun w _ => laidMetH Tryz.prog Rows.normKindsRow.laid w) false (World.doorLaid Tryz.prog 400 os) #[.agg #[.int .i64 0, .int .i64 0, .int .i64 0, .int .i64 0, .string ⟨#[]⟩, .slice none 0 0]] 8 rfl (World.shaped_of_RefB (by kernel_rfl) (by kernel_rfl)) (by kernel_rfl) (by kernel_rfl) (by kernel_rfl) (door_met os _)) ?_
  intro W base args ds gs before hval0 hW _ _ hL _
  have hW' := hW
  obtain ⟨p, q, hA0, hV, _, _, _⟩ := hW
  have hA : DataW.TrodAll enc Tryz.prog W 0 (fun _ => true) true Tryz.f3.params.toList args.toList ds p := hA0
  rw [Tryz.params3] at hA
  obtain ⟨v0, d0, rfl, rfl, fuel, h0⟩ := trodAll_one hA
  obtain ⟨rfl, rfl⟩ := trodVars_none hV
  obtain ⟨e, he⟩ := ex_of_trod fuel _ _ h0
  obtain ⟨a, rfl⟩ := agg_of_cells (n := 6) (by rw [he.1, row_len]) (by omega)
  have hrow : RowR W a.toList e.row := he
  refine (law_calls (law3 awake_true e) rfl (fun i x v ex ev => ?_)).mono fun ex W' ⟨h1, hk⟩ => ⟨_, h1, ?_⟩
  · match i with
    | 0 => have hr := vr_agg hrow; cases ex; cases ev; exact hr
    | i + 1 => simp at ex
  · exact law_post Tryz.kids Tryz.full (by rw [Tryz.params3]; decide) (by kernel_rfl) Tryz.underlying4 rfl hW' rfl rfl rfl hk

theorem named3 : Tryz.pinned.checked.prog.funcNamed Rows.normKindsRow.func = some 3 := by kernel_rfl
theorem joined3 : joinedFacts Tryz.pinned.checked.prog 3 Tryz.f3 Rows.normKindsSpec Rows.normKindsRow = true := by kernel_rfl
theorem inst3 : Tryz.f3.isInstance Tryz.pinned.checked.prog Rows.normKindsRow.origin Rows.normKindsRow.targs := of_decide_eq_true (by kernel_rfl)
theorem wrap3 : Tryz.f3.isWrapper Tryz.pinned.checked.prog Rows.normKindsRow.wrapper Rows.normKindsRow.mainSum := by
  unfold Func.isWrapper; rw [if_neg (of_decide_eq_false (by kernel_rfl))]; exact ⟨rfl, rfl⟩
theorem kinds_holds : Rows.NormKindsSaid :=
  OpenClaim.holds_of_wide 3 Tryz.f3 rfl rfl rfl rfl rfl rfl rfl ⟨rfl, rfl, rfl, rfl, rfl⟩ rfl rfl rfl rfl rfl named3 Tryz.func3 joined3 inst3 wrap3
    (fun os started H enc _ => kinds_lifted os started H enc)

theorem card_holds : Rows.NormKindsCardSaid :=
  Claim7.holds_tied_plain_at .later [] [.data, .data, .data] true (true, "659e59a848f4316147a15092dd59762ba5b9dbeb616c33ae0538f28e003e402f") true
    kinds_holds (fun _ h => by cases h) (by kernel_rfl) (fun _ h => by cases h) normKinds_row_tie rfl ⟨rfl, rfl⟩ (by kernel_rfl) rfl
    (fun f fn hf hfn => by
      obtain rfl : f = 3 := Option.some.inj ((show Tryz.prog.funcNamed "synchrony/synchronylaw19.NormKinds" = some 3 by kernel_rfl).symm.trans hf) |>.symm
      obtain rfl : fn = Tryz.f3 := (Option.some.inj (Tryz.func3.symm.trans hfn)).symm
      exact ⟨by kernel_rfl, fun j t ht => by
        rw [Tryz.params3] at ht
        have hm : t ∈ [24] := by simpa using Array.mem_of_getElem? ht
        have hall : ([24].all fun u => !Tryz.prog.wantsStandIn u) = true := by kernel_rfl
        exact (show Tryz.prog.wantsStandIn t = false by simpa using List.all_eq_true.1 hall t hm)⟩)
    (by kernel_rfl)
#print axioms card_holds
end Go.Proofs.YtodpmbaggcbaeaaGreatDoor
