/-
  DERIVED. GIVEN WITH THE SEED: THE CARDS: each row of YtpnamdkgodedmaaGreatDoorRows.lean that lists a variable, with what it lists TIED to the program's text (the seventh form; the later family's looks); each row that meets fmt, with fmt's text TOLD by the authors' own Lean function (tested against real Go, not proved from fmt's source: count such statements apart). THE CARD IS WHAT COUNTS. Prove the row's statement (the work); the ties are given (YtpnamdkgodedmaaGreatDoorTie.lean); close each card by the builder's one call (the guide's Derived/Test/ToyasCard.lean, 'card_holds'). Laid BY PROGRAM, IN A SANDBOX (cutbox-door.mjs). By AI agents, Wed Nov 11 2026. No macro, syntax, notation, axiom, sorry.
-/
import Derived.Test.YtpnamdkgodedmaaGreatDoorRows
import GoSem.ClaimSeven
namespace Go.Proofs.YtpnamdkgodedmaaGreatDoor
namespace Rows

/-- THE TIED CARD OF 'synchronylaw19.NormSames'. -/
def normSamesCard : Claim7 := { stood := { row := normSamesRow, standIns := [], harness := (true, "0af5e6318bcdfa8f5f8a8450118f5ab6b16f25b72c7e4cd0f5456c6db741c685"), looks := true }, kinds := [], alts := [], laidByText := true, laidKinds := [.data, .data, .data], laidTests := true, laidLooks := .later }
def NormSamesCardSaid : Prop := Claim7.holds Tryz.pinned (.plain (OpenSpec.ofChange normSamesSpec)) normSamesCard

/-- THE SECOND FORM's CARD OF 'synchronylaw19.NormSames'. -/
def normSamesUptoCard : Claim7 := { stood := { row := normSamesUptoRow, standIns := [], harness := (true, "0af5e6318bcdfa8f5f8a8450118f5ab6b16f25b72c7e4cd0f5456c6db741c685"), looks := true }, kinds := [], alts := [], laidByText := true, laidKinds := [.data, .data, .data], laidTests := true, laidLooks := .later }
def NormSamesUptoCardSaid : Prop := Claim7.holds Tryz.pinned (.plain (OpenSpec.upto normSamesSpec)) normSamesUptoCard
end Rows
end Go.Proofs.YtpnamdkgodedmaaGreatDoor
