/-
  DERIVED. GIVEN WITH THE SEED: THE CARDS: each row of YtbhcfmdogdaodaaGreatDoorRows.lean that lists a variable, with what it lists TIED to the program's text (the seventh form; the later family's looks); each row that meets fmt, with fmt's text TOLD by the authors' own Lean function (tested against real Go, not proved from fmt's source: count such statements apart). THE CARD IS WHAT COUNTS. Prove the row's statement (the work); the ties are given (YtbhcfmdogdaodaaGreatDoorTie.lean); close each card by the builder's one call (the guide's Derived/Test/ToyasCard.lean, 'card_holds'). Laid BY PROGRAM, IN A SANDBOX (cutbox-door.mjs). By AI agents, Wed Nov 11 2026. No macro, syntax, notation, axiom, sorry.
-/
import Derived.Test.YtbhcfmdogdaodaaGreatDoorRows
import GoSem.ClaimSeven
namespace Go.Proofs.YtbhcfmdogdaodaaGreatDoor
namespace Rows

/-- THE TIED CARD OF 'burgeelaw1.ValueReadsMatchSpec'. -/
def valueReadsMatchSpecCard : Claim7 := { stood := { row := valueReadsMatchSpecRow, standIns := [], harness := (true, "759d0f3471824affe8560dc1da1b9d467ea33d6879ddd2dc4c5ccddad4f4527a"), looks := true }, kinds := [], alts := [], laidByText := true, laidKinds := [.data, .data, .data, .data, .sentinel, .sentinel, .pinned, .pinned], laidTests := true, laidLooks := .later }
def ValueReadsMatchSpecCardSaid : Prop := Claim7.holds Tryz.pinned (.plain (OpenSpec.ofChange valueReadsMatchSpecSpec)) valueReadsMatchSpecCard

/-- THE SECOND FORM's CARD OF 'burgeelaw1.ValueReadsMatchSpec'. -/
def valueReadsMatchSpecUptoCard : Claim7 := { stood := { row := valueReadsMatchSpecUptoRow, standIns := [], harness := (true, "759d0f3471824affe8560dc1da1b9d467ea33d6879ddd2dc4c5ccddad4f4527a"), looks := true }, kinds := [], alts := [], laidByText := true, laidKinds := [.data, .data, .data, .data, .sentinel, .sentinel, .pinned, .pinned], laidTests := true, laidLooks := .later }
def ValueReadsMatchSpecUptoCardSaid : Prop := Claim7.holds Tryz.pinned (.plain (OpenSpec.upto valueReadsMatchSpecSpec)) valueReadsMatchSpecUptoCard
end Rows
end Go.Proofs.YtbhcfmdogdaodaaGreatDoor
