/-
  DERIVED. GIVEN WITH THE SEED: THE CARDS: each row of YtmdaaicmkmgkfaaGreatDoorRows.lean that lists a variable, with what it lists TIED to the program's text (the seventh form; the later family's looks); each row that meets fmt, with fmt's text TOLD by the authors' own Lean function (tested against real Go, not proved from fmt's source: count such statements apart). THE CARD IS WHAT COUNTS. Prove the row's statement (the work); the ties are given (YtmdaaicmkmgkfaaGreatDoorTie.lean); close each card by the builder's one call (the guide's Derived/Test/ToyasCard.lean, 'card_holds'). Laid BY PROGRAM, IN A SANDBOX (cutbox-door.mjs). By AI agents, Wed Nov 11 2026. No macro, syntax, notation, axiom, sorry.
-/
import Derived.Test.YtmdaaicmkmgkfaaGreatDoorRows
import GoSem.ClaimSeven
namespace Go.Proofs.YtmdaaicmkmgkfaaGreatDoor
namespace Rows

/-- THE TIED CARD OF 'synchronylaw41.InvarFinds'. -/
def invarFindsCard : Claim7 := { stood := { row := invarFindsRow, standIns := [], harness := (true, "95ee44051713d1f145fb99e2a180a273bac79c9a83198552a141c9c54a4a260e"), looks := true }, kinds := [], alts := [], laidByText := true, laidKinds := [.data, .data, .data], laidTests := true, laidLooks := .later }
def InvarFindsCardSaid : Prop := Claim7.holds Tryz.pinned (.plain (OpenSpec.ofChange invarFindsSpec)) invarFindsCard

/-- THE SECOND FORM's CARD OF 'synchronylaw41.InvarFinds'. -/
def invarFindsUptoCard : Claim7 := { stood := { row := invarFindsUptoRow, standIns := [], harness := (true, "95ee44051713d1f145fb99e2a180a273bac79c9a83198552a141c9c54a4a260e"), looks := true }, kinds := [], alts := [], laidByText := true, laidKinds := [.data, .data, .data], laidTests := true, laidLooks := .later }
def InvarFindsUptoCardSaid : Prop := Claim7.holds Tryz.pinned (.plain (OpenSpec.upto invarFindsSpec)) invarFindsUptoCard
end Rows
end Go.Proofs.YtmdaaicmkmgkfaaGreatDoor
