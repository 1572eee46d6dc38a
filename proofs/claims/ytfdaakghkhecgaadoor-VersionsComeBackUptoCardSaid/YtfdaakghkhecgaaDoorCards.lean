/-
  DERIVED. GIVEN WITH THE SEED: THE CARDS: each row of YtfdaakghkhecgaaDoorRows.lean that lists a variable, with what it lists TIED to the program's text (the seventh form; the later family's looks); each row that meets fmt, with fmt's text TOLD by the authors' own Lean function (tested against real Go, not proved from fmt's source: count such statements apart). THE CARD IS WHAT COUNTS. Prove the row's statement (the work); the ties are given (YtfdaakghkhecgaaDoorTie.lean); close each card by the builder's one call (the guide's Derived/Test/ToyasCard.lean, 'card_holds'). Laid BY PROGRAM, IN A SANDBOX (cutbox-door.mjs). By AI agents, Wed Nov 11 2026. No macro, syntax, notation, axiom, sorry.
-/
import Derived.Test.YtfdaakghkhecgaaDoorRows
import GoSem.ClaimSeven
namespace Go.Proofs.YtfdaakghkhecgaaDoor
namespace Rows

/-- THE TIED CARD OF 'burgeelaw1.VersionsComeBack'. -/
def versionsComeBackCard : Claim7 := { stood := { row := versionsComeBackRow, standIns := [], harness := (true, "0ed42b3ab94fa2fe32a4cfa5fa37b2b467c6231b8cd8460ea75df6592356fce6"), looks := true }, kinds := [], alts := [], laidByText := true, laidKinds := [.data, .data, .data, .data, .sentinel, .sentinel, .pinned], laidTests := true, laidLooks := .later }
def VersionsComeBackCardSaid : Prop := Claim7.holds Tryd.pinned (.plain (OpenSpec.ofChange versionsComeBackSpec)) versionsComeBackCard

/-- THE SECOND FORM's CARD OF 'burgeelaw1.VersionsComeBack'. -/
def versionsComeBackUptoCard : Claim7 := { stood := { row := versionsComeBackUptoRow, standIns := [], harness := (true, "0ed42b3ab94fa2fe32a4cfa5fa37b2b467c6231b8cd8460ea75df6592356fce6"), looks := true }, kinds := [], alts := [], laidByText := true, laidKinds := [.data, .data, .data, .data, .sentinel, .sentinel, .pinned], laidTests := true, laidLooks := .later }
def VersionsComeBackUptoCardSaid : Prop := Claim7.holds Tryd.pinned (.plain (OpenSpec.upto versionsComeBackSpec)) versionsComeBackUptoCard
end Rows
end Go.Proofs.YtfdaakghkhecgaaDoor
