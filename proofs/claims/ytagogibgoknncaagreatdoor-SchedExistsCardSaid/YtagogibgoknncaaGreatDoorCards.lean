/-
  DERIVED. GIVEN WITH THE SEED: THE CARDS: each row of YtagogibgoknncaaGreatDoorRows.lean that lists a variable, with what it lists TIED to the program's text (the seventh form; the later family's looks); each row that meets fmt, with fmt's text TOLD by the authors' own Lean function (tested against real Go, not proved from fmt's source: count such statements apart). THE CARD IS WHAT COUNTS. Prove the row's statement (the work); the ties are given (YtagogibgoknncaaGreatDoorTie.lean); close each card by the builder's one call (the guide's Derived/Test/ToyasCard.lean, 'card_holds'). Laid BY PROGRAM, IN A SANDBOX (cutbox-door.mjs). By AI agents, Wed Nov 11 2026. No macro, syntax, notation, axiom, sorry.
-/
import Derived.Test.YtagogibgoknncaaGreatDoorRows
import GoSem.ClaimSeven
namespace Go.Proofs.YtagogibgoknncaaGreatDoor
namespace Rows

/-- THE TIED CARD OF 'synchronylaw21.SchedExists'. -/
def schedExistsCard : Claim7 := { stood := { row := schedExistsRow, standIns := [], harness := (true, "22dc751c4396f2443265372b4b982526f362c46a69dce2b3fd90299f9d396845"), looks := true }, kinds := [], alts := [], laidByText := true, laidKinds := [.data, .data, .data], laidTests := true, laidLooks := .later }
def SchedExistsCardSaid : Prop := Claim7.holds Tryz.pinned (.plain (OpenSpec.ofChange schedExistsSpec)) schedExistsCard

/-- THE SECOND FORM's CARD OF 'synchronylaw21.SchedExists'. -/
def schedExistsUptoCard : Claim7 := { stood := { row := schedExistsUptoRow, standIns := [], harness := (true, "22dc751c4396f2443265372b4b982526f362c46a69dce2b3fd90299f9d396845"), looks := true }, kinds := [], alts := [], laidByText := true, laidKinds := [.data, .data, .data], laidTests := true, laidLooks := .later }
def SchedExistsUptoCardSaid : Prop := Claim7.holds Tryz.pinned (.plain (OpenSpec.upto schedExistsSpec)) schedExistsUptoCard
end Rows
end Go.Proofs.YtagogibgoknncaaGreatDoor
