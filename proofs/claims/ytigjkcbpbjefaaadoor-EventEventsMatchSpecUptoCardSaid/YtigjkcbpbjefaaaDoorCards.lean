/-
  DERIVED. GIVEN WITH THE SEED: THE CARDS: each row of YtigjkcbpbjefaaaDoorRows.lean that lists a variable, with what it lists TIED to the program's text (the seventh form; the later family's looks); each row that meets fmt, with fmt's text TOLD by the authors' own Lean function (tested against real Go, not proved from fmt's source: count such statements apart). THE CARD IS WHAT COUNTS. Prove the row's statement (the work); the ties are given (YtigjkcbpbjefaaaDoorTie.lean); close each card by the builder's one call (the guide's Derived/Test/ToyasCard.lean, 'card_holds'). Laid BY PROGRAM, IN A SANDBOX (cutbox-door.mjs). By AI agents, Wed Nov 11 2026. No macro, syntax, notation, axiom, sorry.
-/
import Derived.Test.YtigjkcbpbjefaaaDoorRows
import GoSem.ClaimSeven
namespace Go.Proofs.YtigjkcbpbjefaaaDoor
namespace Rows

/-- THE TIED CARD OF 'burgeelaw7.EventTextsComeBack'. -/
def eventTextsComeBackCard : Claim7 := { stood := { row := eventTextsComeBackRow, standIns := [], harness := (true, "29b0a00b510daacf279066fda4f09723d56319844e1b2d3895037e05aba4047b"), looks := true }, kinds := [], alts := [], laidByText := true, laidKinds := [.data, .data, .data, .data, .sentinel, .sentinel, .pinned], laidTests := true, laidLooks := .later }
def EventTextsComeBackCardSaid : Prop := Claim7.holds Tryd.pinned (.plain (OpenSpec.ofChange eventTextsComeBackSpec)) eventTextsComeBackCard

/-- THE TIED CARD OF 'burgeelaw7.EventEventsMatchSpec'. -/
def eventEventsMatchSpecCard : Claim7 := { stood := { row := eventEventsMatchSpecRow, standIns := [], harness := (true, "29b0a00b510daacf279066fda4f09723d56319844e1b2d3895037e05aba4047b"), looks := true }, kinds := [], alts := [], laidByText := true, laidKinds := [.data, .data, .data, .data, .sentinel, .sentinel, .pinned], laidTests := true, laidLooks := .later }
def EventEventsMatchSpecCardSaid : Prop := Claim7.holds Tryd.pinned (.plain (OpenSpec.ofChange eventEventsMatchSpecSpec)) eventEventsMatchSpecCard

/-- THE SECOND FORM's CARD OF 'burgeelaw7.EventTextsComeBack'. -/
def eventTextsComeBackUptoCard : Claim7 := { stood := { row := eventTextsComeBackUptoRow, standIns := [], harness := (true, "29b0a00b510daacf279066fda4f09723d56319844e1b2d3895037e05aba4047b"), looks := true }, kinds := [], alts := [], laidByText := true, laidKinds := [.data, .data, .data, .data, .sentinel, .sentinel, .pinned], laidTests := true, laidLooks := .later }
def EventTextsComeBackUptoCardSaid : Prop := Claim7.holds Tryd.pinned (.plain (OpenSpec.upto eventTextsComeBackSpec)) eventTextsComeBackUptoCard

/-- THE SECOND FORM's CARD OF 'burgeelaw7.EventEventsMatchSpec'. -/
def eventEventsMatchSpecUptoCard : Claim7 := { stood := { row := eventEventsMatchSpecUptoRow, standIns := [], harness := (true, "29b0a00b510daacf279066fda4f09723d56319844e1b2d3895037e05aba4047b"), looks := true }, kinds := [], alts := [], laidByText := true, laidKinds := [.data, .data, .data, .data, .sentinel, .sentinel, .pinned], laidTests := true, laidLooks := .later }
def EventEventsMatchSpecUptoCardSaid : Prop := Claim7.holds Tryd.pinned (.plain (OpenSpec.upto eventEventsMatchSpecSpec)) eventEventsMatchSpecUptoCard
end Rows
end Go.Proofs.YtigjkcbpbjefaaaDoor
