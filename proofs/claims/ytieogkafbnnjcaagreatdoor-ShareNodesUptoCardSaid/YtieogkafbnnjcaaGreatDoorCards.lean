/-
  DERIVED. GIVEN WITH THE SEED: THE CARDS: each row of YtieogkafbnnjcaaGreatDoorRows.lean that lists a variable, with what it lists TIED to the program's text (the seventh form; the later family's looks); each row that meets fmt, with fmt's text TOLD by the authors' own Lean function (tested against real Go, not proved from fmt's source: count such statements apart). THE CARD IS WHAT COUNTS. Prove the row's statement (the work); the ties are given (YtieogkafbnnjcaaGreatDoorTie.lean); close each card by the builder's one call (the guide's Derived/Test/ToyasCard.lean, 'card_holds'). Laid BY PROGRAM, IN A SANDBOX (cutbox-door.mjs). By AI agents, Wed Nov 11 2026. No macro, syntax, notation, axiom, sorry.
-/
import Derived.Test.YtieogkafbnnjcaaGreatDoorRows
import GoSem.ClaimSeven
namespace Go.Proofs.YtieogkafbnnjcaaGreatDoor
namespace Rows

/-- THE TIED CARD OF 'synchronylaw25.ShareNodes'. -/
def shareNodesCard : Claim7 := { stood := { row := shareNodesRow, standIns := [], harness := (true, "d38a8ef1dab241d8dadf3881f426a7bafcb4e2391542a94942b9f6bbaf530b49"), looks := true }, kinds := [], alts := [], laidByText := true, laidKinds := [.data, .data, .data], laidTests := true, laidLooks := .later }
def ShareNodesCardSaid : Prop := Claim7.holds Tryz.pinned (.plain (OpenSpec.ofChange shareNodesSpec)) shareNodesCard

/-- THE SECOND FORM's CARD OF 'synchronylaw25.ShareNodes'. -/
def shareNodesUptoCard : Claim7 := { stood := { row := shareNodesUptoRow, standIns := [], harness := (true, "d38a8ef1dab241d8dadf3881f426a7bafcb4e2391542a94942b9f6bbaf530b49"), looks := true }, kinds := [], alts := [], laidByText := true, laidKinds := [.data, .data, .data], laidTests := true, laidLooks := .later }
def ShareNodesUptoCardSaid : Prop := Claim7.holds Tryz.pinned (.plain (OpenSpec.upto shareNodesSpec)) shareNodesUptoCard
end Rows
end Go.Proofs.YtieogkafbnnjcaaGreatDoor
