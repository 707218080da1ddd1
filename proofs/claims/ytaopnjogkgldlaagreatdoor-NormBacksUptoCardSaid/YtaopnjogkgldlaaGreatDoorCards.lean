/-
  DERIVED. GIVEN WITH THE SEED: THE CARDS: each row of YtaopnjogkgldlaaGreatDoorRows.lean that lists a variable, with what it lists TIED to the program's text (the seventh form; the later family's looks); each row that meets fmt, with fmt's text TOLD by the authors' own Lean function (tested against real Go, not proved from fmt's source: count such statements apart). THE CARD IS WHAT COUNTS. Prove the row's statement (the work); the ties are given (YtaopnjogkgldlaaGreatDoorTie.lean); close each card by the builder's one call (the guide's Derived/Test/ToyasCard.lean, 'card_holds'). Laid BY PROGRAM, IN A SANDBOX (cutbox-door.mjs). By AI agents, Wed Nov 11 2026. No macro, syntax, notation, axiom, sorry.
-/
import Derived.Test.YtaopnjogkgldlaaGreatDoorRows
import GoSem.ClaimSeven
namespace Go.Proofs.YtaopnjogkgldlaaGreatDoor
namespace Rows

/-- THE TIED CARD OF 'synchronylaw19.NormBacks'. -/
def normBacksCard : Claim7 := { stood := { row := normBacksRow, standIns := [], harness := (true, "8953cd0473252c54a63ad3179144dbb6524affb7eba2d59481725c00ec4c927f"), looks := true }, kinds := [], alts := [], laidByText := true, laidKinds := [.data, .data, .data], laidTests := true, laidLooks := .later }
def NormBacksCardSaid : Prop := Claim7.holds Tryz.pinned (.plain (OpenSpec.ofChange normBacksSpec)) normBacksCard

/-- THE SECOND FORM's CARD OF 'synchronylaw19.NormBacks'. -/
def normBacksUptoCard : Claim7 := { stood := { row := normBacksUptoRow, standIns := [], harness := (true, "8953cd0473252c54a63ad3179144dbb6524affb7eba2d59481725c00ec4c927f"), looks := true }, kinds := [], alts := [], laidByText := true, laidKinds := [.data, .data, .data], laidTests := true, laidLooks := .later }
def NormBacksUptoCardSaid : Prop := Claim7.holds Tryz.pinned (.plain (OpenSpec.upto normBacksSpec)) normBacksUptoCard
end Rows
end Go.Proofs.YtaopnjogkgldlaaGreatDoor
