/-
  DERIVED. GIVEN WITH THE SEED: THE CARDS: each row of YtacchooggifnhaaDoorRows.lean that lists a variable, with what it lists TIED to the program's text (the seventh form; the later family's looks); each row that meets fmt, with fmt's text TOLD by the authors' own Lean function (tested against real Go, not proved from fmt's source: count such statements apart). THE CARD IS WHAT COUNTS. Prove the row's statement (the work); the ties are given (YtacchooggifnhaaDoorTie.lean); close each card by the builder's one call (the guide's Derived/Test/ToyasCard.lean, 'card_holds'). Laid BY PROGRAM, IN A SANDBOX (cutbox-door.mjs). By AI agents, Wed Nov 11 2026. No macro, syntax, notation, axiom, sorry.
-/
import Derived.Test.YtacchooggifnhaaDoorRows
import GoSem.ClaimSeven
namespace Go.Proofs.YtacchooggifnhaaDoor
namespace Rows

/-- THE TIED CARD OF 'burgeelaw7.EventClosedStay'. -/
def eventClosedStayCard : Claim7 := { stood := { row := eventClosedStayRow, standIns := [], harness := (true, "7ab2c307d59f8cb9bb54cb6c32ac07e251de7d321797279823f450fefc9522f4"), looks := false }, kinds := [], alts := [], laidByText := true, laidKinds := [.data, .data, .data], laidTests := true, laidLooks := .later }
def EventClosedStayCardSaid : Prop := Claim7.holds Tryd.pinned (.plain (OpenSpec.ofChange eventClosedStaySpec)) eventClosedStayCard

/-- THE SECOND FORM's CARD OF 'burgeelaw7.EventClosedStay'. -/
def eventClosedStayUptoCard : Claim7 := { stood := { row := eventClosedStayUptoRow, standIns := [], harness := (true, "7ab2c307d59f8cb9bb54cb6c32ac07e251de7d321797279823f450fefc9522f4"), looks := false }, kinds := [], alts := [], laidByText := true, laidKinds := [.data, .data, .data], laidTests := true, laidLooks := .later }
def EventClosedStayUptoCardSaid : Prop := Claim7.holds Tryd.pinned (.plain (OpenSpec.upto eventClosedStaySpec)) eventClosedStayUptoCard
end Rows
end Go.Proofs.YtacchooggifnhaaDoor
