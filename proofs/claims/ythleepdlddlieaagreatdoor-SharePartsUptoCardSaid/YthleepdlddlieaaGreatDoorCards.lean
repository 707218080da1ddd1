/-
  DERIVED. GIVEN WITH THE SEED: THE CARDS: each row of YthleepdlddlieaaGreatDoorRows.lean that lists a variable, with what it lists TIED to the program's text (the seventh form; the later family's looks); each row that meets fmt, with fmt's text TOLD by the authors' own Lean function (tested against real Go, not proved from fmt's source: count such statements apart). THE CARD IS WHAT COUNTS. Prove the row's statement (the work); the ties are given (YthleepdlddlieaaGreatDoorTie.lean); close each card by the builder's one call (the guide's Derived/Test/ToyasCard.lean, 'card_holds'). Laid BY PROGRAM, IN A SANDBOX (cutbox-door.mjs). By AI agents, Wed Nov 11 2026. No macro, syntax, notation, axiom, sorry.
-/
import Derived.Test.YthleepdlddlieaaGreatDoorRows
import GoSem.ClaimSeven
namespace Go.Proofs.YthleepdlddlieaaGreatDoor
namespace Rows

/-- THE TIED CARD OF 'synchronylaw25.ShareParts'. -/
def sharePartsCard : Claim7 := { stood := { row := sharePartsRow, standIns := [], harness := (true, "89e3c7424266f327e864657b294e0a15115d999f213d25513c6e7c10b22b3e30"), looks := true }, kinds := [], alts := [], laidByText := true, laidKinds := [.data, .data, .data], laidTests := true, laidLooks := .later }
def SharePartsCardSaid : Prop := Claim7.holds Tryz.pinned (.plain (OpenSpec.ofChange sharePartsSpec)) sharePartsCard

/-- THE TIED CARD OF 'synchronylaw25.ShareGroups'. -/
def shareGroupsCard : Claim7 := { stood := { row := shareGroupsRow, standIns := [], harness := (true, "89e3c7424266f327e864657b294e0a15115d999f213d25513c6e7c10b22b3e30"), looks := true }, kinds := [], alts := [], laidByText := true, laidKinds := [.data, .data, .data], laidTests := true, laidLooks := .later }
def ShareGroupsCardSaid : Prop := Claim7.holds Tryz.pinned (.plain (OpenSpec.ofChange shareGroupsSpec)) shareGroupsCard

/-- THE SECOND FORM's CARD OF 'synchronylaw25.ShareParts'. -/
def sharePartsUptoCard : Claim7 := { stood := { row := sharePartsUptoRow, standIns := [], harness := (true, "89e3c7424266f327e864657b294e0a15115d999f213d25513c6e7c10b22b3e30"), looks := true }, kinds := [], alts := [], laidByText := true, laidKinds := [.data, .data, .data], laidTests := true, laidLooks := .later }
def SharePartsUptoCardSaid : Prop := Claim7.holds Tryz.pinned (.plain (OpenSpec.upto sharePartsSpec)) sharePartsUptoCard

/-- THE SECOND FORM's CARD OF 'synchronylaw25.ShareGroups'. -/
def shareGroupsUptoCard : Claim7 := { stood := { row := shareGroupsUptoRow, standIns := [], harness := (true, "89e3c7424266f327e864657b294e0a15115d999f213d25513c6e7c10b22b3e30"), looks := true }, kinds := [], alts := [], laidByText := true, laidKinds := [.data, .data, .data], laidTests := true, laidLooks := .later }
def ShareGroupsUptoCardSaid : Prop := Claim7.holds Tryz.pinned (.plain (OpenSpec.upto shareGroupsSpec)) shareGroupsUptoCard
end Rows
end Go.Proofs.YthleepdlddlieaaGreatDoor
