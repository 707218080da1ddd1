/-
  Proved here: the law InvarFinds in its given form, and its card: for every list of bounds and names that can be read as data the call returns true and leaves what it was given. The row's own condition: the listed package-level variables read as the program's text lays them (the given tie).
-/
import Derived.Test.YtmdaaicmkmgkfaaGreatDoorLw
import Derived.Test.YtmdaaicmkmgkfaaGreatDoorRun
import Derived.Test.YtmdaaicmkmgkfaaGreatDoorBV
import Derived.Test.YtmdaaicmkmgkfaaGreatDoorRows
import Derived.Test.YtmdaaicmkmgkfaaGreatDoorCards
import Derived.Test.YtmdaaicmkmgkfaaGreatDoorTie
import Derived.ProofKit
import Derived.LaidMore
import Derived.OpenShut
import Derived.Stop.Joined
import Derived.SevenTiedAt
set_option linter.unusedSimpArgs false
set_option linter.unusedVariables false
namespace Go.Proofs.YtmdaaicmkmgkfaaGreatDoor
open Go Go.B Go.ChangeShapes Go.WideShapes Go.ChangeAt Go.RowKit
theorem Tryz.own : ownKnob Tryz.prog.godebug = none := by kernel_rfl
theorem Tryz.kids : Kids Tryz.prog (· < Tryz.prog.types.size) := kids_rows (by kernel_rfl) (by kernel_rfl)
theorem Tryz.full : ∀ t e, t < Tryz.prog.types.size → Tryz.prog.underlying t = some (.slice e) → 0 < Tryz.prog.cellsOf e := slices_full_of Tryz.prog (by kernel_rfl)
theorem cells38 : Tryz.prog.cellsOf 38 = 4 := by kernel_rfl
theorem cells25 : Tryz.prog.cellsOf 25 = 2 := by kernel_rfl
theorem cells3 : Tryz.prog.cellsOf 3 = 1 := by kernel_rfl
theorem cells9 : Tryz.prog.cellsOf 9 = 1 := by kernel_rfl
theorem len4 {α : Type} : ∀ {l : List α}, l.length = 4 → ∃ c0 c1 c2 c3, l = [c0, c1, c2, c3]
  | [c0, c1, c2, c3], _ => ⟨_, _, _, _, rfl⟩
theorem len3 {α : Type} : ∀ {l : List α}, l.length = 3 → ∃ c0 c1 c2, l = [c0, c1, c2]
  | [c0, c1, c2], _ => ⟨_, _, _, rfl⟩
theorem len2 {α : Type} : ∀ {l : List α}, l.length = 2 → ∃ c0 c1, l = [c0, c1]
  | [c0, c1], _ => ⟨_, _, rfl⟩
set_option maxRecDepth 100000 in
theorem bd_of_trod {H : Type} {enc : TypeId × Value → H} {W : World} : ∀ (fuel : Nat) (cs : List Value) (x : DataW H × List MemPlace), DataW.trod enc Tryz.prog W 0 (fun _ => true) true fuel 38 cs = some x → ∃ b : Bd, RowR W cs b.row := by
    intro fuel cs x h
    obtain ⟨xs, n, hn, rfl, hl, hlen, hf⟩ := DataW.trod_struct Tryz.underlying38 h
    rw [cells38] at hl
    obtain ⟨c0, c1, c2, c3, rfl⟩ : ∃ c0 c1 c2 c3, cs = [c0, c1, c2, c3] := by
      exact len4 hl
    obtain ⟨x0, x1, x2, rfl⟩ : ∃ c0 c1 c2, xs = [c0, c1, c2] := by
      exact len3 hlen
    have h0 := hf 0 _ rfl
    have h1 := hf 1 _ rfl
    have h2 := hf 2 _ rfl
    simp only [cells9, cells25, List.drop_succ_cons, List.drop_zero, List.take_succ_cons, List.take_zero, List.getElem?_cons_zero, List.getElem?_cons_succ] at h0 h1 h2
    obtain ⟨na, e0, _, _⟩ := DataW.trod_string Tryz.underlying9 h0
    obtain ⟨nb, e1, _, _⟩ := DataW.trod_string Tryz.underlying9 h1
    obtain ⟨ys, m, hm, e2, hl2, hlen2, hg⟩ := DataW.trod_struct Tryz.underlying25 h2
    obtain ⟨y0, y1, rfl⟩ : ∃ c0 c1, ys = [c0, c1] := by
      exact len2 hlen2
    have g0 := hg 0 _ rfl
    have g1 := hg 1 _ rfl
    simp only [cells3, List.drop_succ_cons, List.drop_zero, List.take_succ_cons, List.take_zero, List.getElem?_cons_zero, List.getElem?_cons_succ] at g0 g1
    obtain ⟨lo, e3, _, _⟩ := DataW.trod_int Tryz.underlying3 g0
    obtain ⟨hi, e4, _, _⟩ := DataW.trod_int Tryz.underlying3 g1
    cases e0; cases e1; cases e3; cases e4
    refine ⟨⟨na.data.toList.length, B.enc na.data.toList, nb.data.toList.length, B.enc nb.data.toList, lo, hi⟩, rfl, fun j x w ex ew => ?_⟩
    rcases j with _ | _ | _ | _ | j
    · cases ex; cases ew; exact ⟨.s _, rfl⟩
    · cases ex; cases ew; exact ⟨.s _, rfl⟩
    · cases ex; cases ew; exact ⟨.i _ _, rfl⟩
    · cases ex; cases ew; exact ⟨.i _ _, rfl⟩
    · simp [Bd.row] at ex

/-- the door's own heap meets the condition -/
theorem door_met (os : Os) (args : Array Value) : laidMetH Tryz.prog Rows.invarFindsRow.laid ((World.doorLaid Tryz.prog 400 os).forCall (fun _ _ => 0) ⟨#[], args, []⟩).memory :=
  laidMetH_of_parts3 (fuel := 8) (laidMet_of_run' 8 (by kernel_rfl) (by kernel_rfl)) (by kernel_rfl) (by kernel_rfl)

set_option maxRecDepth 100000 in
theorem finds_lifted (os : Os) (started : os.Started) (H : Type) (enc : TypeId × Value → H) :
    ReturnsInHanded {} Tryz.checked os 3 .any (fun w args => (Rows.invarFindsSpec.pre enc Tryz.prog Tryz.f3 [] false w args ∧ laidMetH Tryz.prog Rows.invarFindsRow.laid w) ∧ sizedMet enc Tryz.prog Tryz.f3 (OpenSpec.ofChange Rows.invarFindsSpec) false w args)
      (Rows.invarFindsSpec.post enc Tryz.prog Tryz.f3 false true false false) := by
  refine returnsInHanded_of_change_and (C := Tryz.checked) (X := fun w _ => laidMetH Tryz.prog Rows.invarFindsRow.laid w) (fun _ _ _ hh h => h.of_heap hh) Tryz.own started (by kernel_rfl) Tryz.func3
    (ChangeSpec.witness_shaped (enc := enc) (C := Tryz.checked) (os := os) (X := fun w _ => laidMetH Tryz.prog Rows.invarFindsRow.laid w) false (World.doorLaid Tryz.prog 400 os) #[.slice none 0 0, .string ⟨#[]⟩, .string ⟨#[]⟩] 8 rfl (World.shaped_of_RefB (by kernel_rfl) (by kernel_rfl)) (by kernel_rfl) (by kernel_rfl) (by kernel_rfl) (door_met os _)) ?_
  intro W base args ds gs before hval0 hW _ _ hL _
  have hval : ∀ (j : Nat) t v, Tryz.f3.params[j]? = some t → args[j]? = some v → Value.okWide Tryz.prog W .any base t v := hval0
  have hW' := hW
  obtain ⟨p, q, hA0, hV, _, _, _⟩ := hW
  have hA : DataW.TrodAll enc Tryz.prog W 0 (fun _ => true) true Tryz.f3.params.toList args.toList ds p := hA0
  rw [Tryz.params3] at hA hval
  obtain ⟨v0, v1, v2, d0, d1, d2, p0, p1, p2, rfl, rfl, rfl, ⟨f0, h0⟩, ⟨f1, h1⟩, ⟨f2, h2⟩⟩ := trodAll_three hA
  obtain ⟨rfl, rfl⟩ := trodVars_none hV
  obtain ⟨sa, sn, sc, rfl⟩ := okWide_slice Tryz.underlying22 (hval 0 22 v0 rfl rfl)
  obtain ⟨l, u0, e0, r0, o0⟩ := vr_slice (wd := 4) Bd.row Tryz.underlying22 cells38 (by omega) row_len (fun m cs x hm hx => bd_of_trod m cs x hx) h0
  obtain ⟨na, rfl⟩ := okWide_string Tryz.underlying9 (hval 1 9 v1 rfl rfl)
  obtain ⟨nb, rfl⟩ := okWide_string Tryz.underlying9 (hval 2 9 v2 rfl rfl)
  refine (law_calls (law3 awake_true l na.data.toList.length (B.enc na.data.toList) nb.data.toList.length (B.enc nb.data.toList)) rfl (fun i x v ex ev => ?_)).mono fun ex W' ⟨h1, hk⟩ => ⟨_, h1, ?_⟩
  · match i with
    | 0 => cases ex; cases ev; cases e0; exact r0
    | 1 => cases ex; cases ev; exact .s _
    | 2 => cases ex; cases ev; exact .s _
    | i + 3 => simp at ex
  · exact law_post Tryz.kids Tryz.full (by rw [Tryz.params3]; decide) (by kernel_rfl) Tryz.underlying4 rfl hW' rfl rfl rfl hk

theorem named3 : Tryz.pinned.checked.prog.funcNamed Rows.invarFindsRow.func = some 3 := by kernel_rfl
set_option maxHeartbeats 100000000 in
theorem joined3 : joinedFacts Tryz.pinned.checked.prog 3 Tryz.f3 Rows.invarFindsSpec Rows.invarFindsRow = true := by
  unfold joinedFacts
  repeat' (with_reducible refine Bool.and_eq_true_iff.2 ⟨?_, ?_⟩)
  all_goals (as_aux_lemma => kernel_rfl)
theorem inst3 : Tryz.f3.isInstance Tryz.pinned.checked.prog Rows.invarFindsRow.origin Rows.invarFindsRow.targs := of_decide_eq_true (by kernel_rfl)
theorem wrap3 : Tryz.f3.isWrapper Tryz.pinned.checked.prog Rows.invarFindsRow.wrapper Rows.invarFindsRow.mainSum := by
  unfold Func.isWrapper; rw [if_neg (of_decide_eq_false (by kernel_rfl))]; exact ⟨rfl, rfl⟩
theorem finds_holds : Rows.InvarFindsSaid :=
  OpenClaim.holds_of_wide 3 Tryz.f3 rfl rfl rfl rfl rfl rfl rfl ⟨rfl, rfl, rfl, rfl, rfl⟩ rfl rfl rfl rfl rfl named3 Tryz.func3 joined3 inst3 wrap3
    (fun os started H enc _ => finds_lifted os started H enc)

theorem card_holds : Rows.InvarFindsCardSaid :=
  Claim7.holds_tied_plain_at .later [] [.data, .data, .data] true (true, "95ee44051713d1f145fb99e2a180a273bac79c9a83198552a141c9c54a4a260e") true
    finds_holds (fun _ h => by cases h) (by as_aux_lemma => kernel_rfl) (fun _ h => by cases h) invarFinds_row_tie rfl ⟨rfl, rfl⟩ (by as_aux_lemma => kernel_rfl) rfl
    (fun f fn hf hfn => by
      obtain rfl : f = 3 := Option.some.inj ((show Tryz.prog.funcNamed "synchrony/synchronylaw41.InvarFinds" = some 3 by as_aux_lemma => kernel_rfl).symm.trans hf) |>.symm
      obtain rfl : fn = Tryz.f3 := (Option.some.inj (Tryz.func3.symm.trans hfn)).symm
      exact ⟨by as_aux_lemma => kernel_rfl, fun j t ht => by
        rw [Tryz.params3] at ht
        have hm : t ∈ [22, 9, 9] := by simpa using Array.mem_of_getElem? ht
        have hall : ([22, 9, 9].all fun u => !Tryz.prog.wantsStandIn u) = true := by as_aux_lemma => kernel_rfl
        exact (show Tryz.prog.wantsStandIn t = false by simpa using List.all_eq_true.1 hall t hm)⟩)
    (by as_aux_lemma => kernel_rfl)
#print axioms card_holds
end Go.Proofs.YtmdaaicmkmgkfaaGreatDoor
