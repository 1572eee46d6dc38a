/-
  DERIVED. GIVEN WITH THE SEED: THE CARDS: each row of YtbgbfjfboaajbaaDoorRows.lean that lists a variable, with what it lists TIED to the program's text (the seventh form; the later family's looks); each row that meets fmt, with fmt's text TOLD by the authors' own Lean function (tested against real Go, not proved from fmt's source: count such statements apart). THE CARD IS WHAT COUNTS. Prove the row's statement (the work); the ties are given (YtbgbfjfboaajbaaDoorTie.lean); close each card by the builder's one call (the guide's Derived/Test/ToyasCard.lean, 'card_holds'). Laid BY PROGRAM, IN A SANDBOX (cutbox-door.mjs). By AI agents, Wed Nov 11 2026. No macro, syntax, notation, axiom, sorry.
-/
import Derived.Test.YtbgbfjfboaajbaaDoorRows
import GoSem.ClaimSeven
namespace Go.Proofs.YtbgbfjfboaajbaaDoor
namespace Rows

/-- THE TIED CARD OF 'burgeelaw7.EventLogsComeBack'. -/
def eventLogsComeBackCard : Claim7 := { stood := { row := eventLogsComeBackRow, standIns := [], harness := (true, "e0837d2777afccd19bd329cc26c00a8e80abcdc17742bf7e372ecf5aa07ea83b"), looks := true }, kinds := [], alts := [], laidByText := true, laidKinds := [.data, .data, .data, .data, .sentinel, .sentinel, .pinned], laidTests := true, laidLooks := .later }
def EventLogsComeBackCardSaid : Prop := Claim7.holds Tryd.pinned (.plain (OpenSpec.ofChange eventLogsComeBackSpec)) eventLogsComeBackCard

/-- THE SECOND FORM's CARD OF 'burgeelaw7.EventLogsComeBack'. -/
def eventLogsComeBackUptoCard : Claim7 := { stood := { row := eventLogsComeBackUptoRow, standIns := [], harness := (true, "e0837d2777afccd19bd329cc26c00a8e80abcdc17742bf7e372ecf5aa07ea83b"), looks := true }, kinds := [], alts := [], laidByText := true, laidKinds := [.data, .data, .data, .data, .sentinel, .sentinel, .pinned], laidTests := true, laidLooks := .later }
def EventLogsComeBackUptoCardSaid : Prop := Claim7.holds Tryd.pinned (.plain (OpenSpec.upto eventLogsComeBackSpec)) eventLogsComeBackUptoCard
end Rows
end Go.Proofs.YtbgbfjfboaajbaaDoor
