/-
  DERIVED. GIVEN WITH THE SEED: THE CARDS: each row of YtbgbfjfboaajbaaGreatDoorRows.lean that lists a variable, with what it lists TIED to the program's text (the seventh form; the later family's looks); each row that meets fmt, with fmt's text TOLD by the authors' own Lean function (tested against real Go, not proved from fmt's source: count such statements apart). THE CARD IS WHAT COUNTS. Prove the row's statement (the work); the ties are given (YtbgbfjfboaajbaaGreatDoorTie.lean); close each card by the builder's one call (the guide's Derived/Test/ToyasCard.lean, 'card_holds'). Laid BY PROGRAM, IN A SANDBOX (cutbox-door.mjs). By AI agents, Wed Nov 11 2026. No macro, syntax, notation, axiom, sorry.
-/
import Derived.Test.YtbgbfjfboaajbaaGreatDoorRows
import GoSem.ClaimSeven
namespace Go.Proofs.YtbgbfjfboaajbaaGreatDoor
namespace Rows

/-- THE TIED CARD OF 'burgeelaw7.EventLogsMatchSpec'. -/
def eventLogsMatchSpecCard : Claim7 := { stood := { row := eventLogsMatchSpecRow, standIns := [], harness := (true, "5e186ead65d026c907a116d8257f287fb86ffaf856463dc45b2bde52e8ce111d"), looks := true }, kinds := [], alts := [], laidByText := true, laidKinds := [.data, .data, .data, .data, .sentinel, .sentinel, .pinned], laidTests := true, laidLooks := .later }
def EventLogsMatchSpecCardSaid : Prop := Claim7.holds Tryz.pinned (.plain (OpenSpec.ofChange eventLogsMatchSpecSpec)) eventLogsMatchSpecCard

/-- THE SECOND FORM's CARD OF 'burgeelaw7.EventLogsMatchSpec'. -/
def eventLogsMatchSpecUptoCard : Claim7 := { stood := { row := eventLogsMatchSpecUptoRow, standIns := [], harness := (true, "5e186ead65d026c907a116d8257f287fb86ffaf856463dc45b2bde52e8ce111d"), looks := true }, kinds := [], alts := [], laidByText := true, laidKinds := [.data, .data, .data, .data, .sentinel, .sentinel, .pinned], laidTests := true, laidLooks := .later }
def EventLogsMatchSpecUptoCardSaid : Prop := Claim7.holds Tryz.pinned (.plain (OpenSpec.upto eventLogsMatchSpecSpec)) eventLogsMatchSpecUptoCard
end Rows
end Go.Proofs.YtbgbfjfboaajbaaGreatDoor
