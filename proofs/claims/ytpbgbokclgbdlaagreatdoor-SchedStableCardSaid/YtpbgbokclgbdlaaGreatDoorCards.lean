/-
  DERIVED. GIVEN WITH THE SEED: THE CARDS: each row of YtpbgbokclgbdlaaGreatDoorRows.lean that lists a variable, with what it lists TIED to the program's text (the seventh form; the later family's looks); each row that meets fmt, with fmt's text TOLD by the authors' own Lean function (tested against real Go, not proved from fmt's source: count such statements apart). THE CARD IS WHAT COUNTS. Prove the row's statement (the work); the ties are given (YtpbgbokclgbdlaaGreatDoorTie.lean); close each card by the builder's one call (the guide's Derived/Test/ToyasCard.lean, 'card_holds'). Laid BY PROGRAM, IN A SANDBOX (cutbox-door.mjs). By AI agents, Wed Nov 11 2026. No macro, syntax, notation, axiom, sorry.
-/
import Derived.Test.YtpbgbokclgbdlaaGreatDoorRows
import GoSem.ClaimSeven
namespace Go.Proofs.YtpbgbokclgbdlaaGreatDoor
namespace Rows

/-- THE TIED CARD OF 'synchronylaw21.SchedOrders'. -/
def schedOrdersCard : Claim7 := { stood := { row := schedOrdersRow, standIns := [], harness := (true, "149ec6ae838f8717ee43034b7e6b742247ed94bbb39c64c62065642958627c98"), looks := true }, kinds := [], alts := [], laidByText := true, laidKinds := [.data, .data, .data], laidTests := true, laidLooks := .later }
def SchedOrdersCardSaid : Prop := Claim7.holds Tryz.pinned (.plain (OpenSpec.ofChange schedOrdersSpec)) schedOrdersCard

/-- THE TIED CARD OF 'synchronylaw21.SchedRight'. -/
def schedRightCard : Claim7 := { stood := { row := schedRightRow, standIns := [], harness := (true, "149ec6ae838f8717ee43034b7e6b742247ed94bbb39c64c62065642958627c98"), looks := true }, kinds := [], alts := [], laidByText := true, laidKinds := [.data, .data, .data], laidTests := true, laidLooks := .later }
def SchedRightCardSaid : Prop := Claim7.holds Tryz.pinned (.plain (OpenSpec.ofChange schedRightSpec)) schedRightCard

/-- THE TIED CARD OF 'synchronylaw21.SchedStable'. -/
def schedStableCard : Claim7 := { stood := { row := schedStableRow, standIns := [], harness := (true, "149ec6ae838f8717ee43034b7e6b742247ed94bbb39c64c62065642958627c98"), looks := true }, kinds := [], alts := [], laidByText := true, laidKinds := [.data, .data, .data], laidTests := true, laidLooks := .later }
def SchedStableCardSaid : Prop := Claim7.holds Tryz.pinned (.plain (OpenSpec.ofChange schedStableSpec)) schedStableCard

/-- THE SECOND FORM's CARD OF 'synchronylaw21.SchedOrders'. -/
def schedOrdersUptoCard : Claim7 := { stood := { row := schedOrdersUptoRow, standIns := [], harness := (true, "149ec6ae838f8717ee43034b7e6b742247ed94bbb39c64c62065642958627c98"), looks := true }, kinds := [], alts := [], laidByText := true, laidKinds := [.data, .data, .data], laidTests := true, laidLooks := .later }
def SchedOrdersUptoCardSaid : Prop := Claim7.holds Tryz.pinned (.plain (OpenSpec.upto schedOrdersSpec)) schedOrdersUptoCard

/-- THE SECOND FORM's CARD OF 'synchronylaw21.SchedRight'. -/
def schedRightUptoCard : Claim7 := { stood := { row := schedRightUptoRow, standIns := [], harness := (true, "149ec6ae838f8717ee43034b7e6b742247ed94bbb39c64c62065642958627c98"), looks := true }, kinds := [], alts := [], laidByText := true, laidKinds := [.data, .data, .data], laidTests := true, laidLooks := .later }
def SchedRightUptoCardSaid : Prop := Claim7.holds Tryz.pinned (.plain (OpenSpec.upto schedRightSpec)) schedRightUptoCard

/-- THE SECOND FORM's CARD OF 'synchronylaw21.SchedStable'. -/
def schedStableUptoCard : Claim7 := { stood := { row := schedStableUptoRow, standIns := [], harness := (true, "149ec6ae838f8717ee43034b7e6b742247ed94bbb39c64c62065642958627c98"), looks := true }, kinds := [], alts := [], laidByText := true, laidKinds := [.data, .data, .data], laidTests := true, laidLooks := .later }
def SchedStableUptoCardSaid : Prop := Claim7.holds Tryz.pinned (.plain (OpenSpec.upto schedStableSpec)) schedStableUptoCard
end Rows
end Go.Proofs.YtpbgbokclgbdlaaGreatDoor
