/-
  DERIVED. GIVEN WITH THE SEED: THE CARDS: each row of YtodpmbaggcbaeaaGreatDoorRows.lean that lists a variable, with what it lists TIED to the program's text (the seventh form; the later family's looks); each row that meets fmt, with fmt's text TOLD by the authors' own Lean function (tested against real Go, not proved from fmt's source: count such statements apart). THE CARD IS WHAT COUNTS. Prove the row's statement (the work); the ties are given (YtodpmbaggcbaeaaGreatDoorTie.lean); close each card by the builder's one call (the guide's Derived/Test/ToyasCard.lean, 'card_holds'). Laid BY PROGRAM, IN A SANDBOX (cutbox-door.mjs). By AI agents, Wed Nov 11 2026. No macro, syntax, notation, axiom, sorry.
-/
import Derived.Test.YtodpmbaggcbaeaaGreatDoorRows
import GoSem.ClaimSeven
namespace Go.Proofs.YtodpmbaggcbaeaaGreatDoor
namespace Rows

/-- THE TIED CARD OF 'synchronylaw19.NormKinds'. -/
def normKindsCard : Claim7 := { stood := { row := normKindsRow, standIns := [], harness := (true, "659e59a848f4316147a15092dd59762ba5b9dbeb616c33ae0538f28e003e402f"), looks := true }, kinds := [], alts := [], laidByText := true, laidKinds := [.data, .data, .data], laidTests := true, laidLooks := .later }
def NormKindsCardSaid : Prop := Claim7.holds Tryz.pinned (.plain (OpenSpec.ofChange normKindsSpec)) normKindsCard

/-- THE SECOND FORM's CARD OF 'synchronylaw19.NormKinds'. -/
def normKindsUptoCard : Claim7 := { stood := { row := normKindsUptoRow, standIns := [], harness := (true, "659e59a848f4316147a15092dd59762ba5b9dbeb616c33ae0538f28e003e402f"), looks := true }, kinds := [], alts := [], laidByText := true, laidKinds := [.data, .data, .data], laidTests := true, laidLooks := .later }
def NormKindsUptoCardSaid : Prop := Claim7.holds Tryz.pinned (.plain (OpenSpec.upto normKindsSpec)) normKindsUptoCard
end Rows
end Go.Proofs.YtodpmbaggcbaeaaGreatDoor
