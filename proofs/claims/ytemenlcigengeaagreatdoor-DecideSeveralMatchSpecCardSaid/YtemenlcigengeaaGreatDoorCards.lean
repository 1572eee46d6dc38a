/-
  DERIVED. GIVEN WITH THE SEED: THE CARDS: each row of YtemenlcigengeaaGreatDoorRows.lean that lists a variable, with what it lists TIED to the program's text (the seventh form; the later family's looks); each row that meets fmt, with fmt's text TOLD by the authors' own Lean function (tested against real Go, not proved from fmt's source: count such statements apart). THE CARD IS WHAT COUNTS. Prove the row's statement (the work); the ties are given (YtemenlcigengeaaGreatDoorTie.lean); close each card by the builder's one call (the guide's Derived/Test/ToyasCard.lean, 'card_holds'). Laid BY PROGRAM, IN A SANDBOX (cutbox-door.mjs). By AI agents, Wed Nov 11 2026. No macro, syntax, notation, axiom, sorry.
-/
import Derived.Test.YtemenlcigengeaaGreatDoorRows
import GoSem.ClaimSeven
namespace Go.Proofs.YtemenlcigengeaaGreatDoor
namespace Rows

/-- THE TIED CARD OF 'burgeelaw9.DecideTrialsMatchSpec'. -/
def decideTrialsMatchSpecCard : Claim7 := { stood := { row := decideTrialsMatchSpecRow, standIns := [], harness := (true, "8c99aae44288701400d32b57f1a064cf4afcbdd8b8c0667fa8268ed1bb7f3392"), looks := true }, kinds := [], alts := [], laidByText := true, laidKinds := [.data, .data, .data, .sentinel, .sentinel], laidTests := true, laidLooks := .later }
def DecideTrialsMatchSpecCardSaid : Prop := Claim7.holds Tryz.pinned (.plain (OpenSpec.ofChange decideTrialsMatchSpecSpec)) decideTrialsMatchSpecCard

/-- THE TIED CARD OF 'burgeelaw9.DecideSeveralMatchSpec'. -/
def decideSeveralMatchSpecCard : Claim7 := { stood := { row := decideSeveralMatchSpecRow, standIns := [], harness := (true, "8c99aae44288701400d32b57f1a064cf4afcbdd8b8c0667fa8268ed1bb7f3392"), looks := true }, kinds := [], alts := [], laidByText := true, laidKinds := [.data, .data, .data, .sentinel, .sentinel], laidTests := true, laidLooks := .later }
def DecideSeveralMatchSpecCardSaid : Prop := Claim7.holds Tryz.pinned (.plain (OpenSpec.ofChange decideSeveralMatchSpecSpec)) decideSeveralMatchSpecCard

/-- THE TIED CARD OF 'burgeelaw9.DecideHolmIsWithinShare'. -/
def decideHolmIsWithinShareCard : Claim7 := { stood := { row := decideHolmIsWithinShareRow, standIns := [], harness := (true, "8c99aae44288701400d32b57f1a064cf4afcbdd8b8c0667fa8268ed1bb7f3392"), looks := true }, kinds := [], alts := [], laidByText := true, laidKinds := [.data, .data, .data, .sentinel, .sentinel], laidTests := true, laidLooks := .later }
def DecideHolmIsWithinShareCardSaid : Prop := Claim7.holds Tryz.pinned (.plain (OpenSpec.ofChange decideHolmIsWithinShareSpec)) decideHolmIsWithinShareCard

/-- THE SECOND FORM's CARD OF 'burgeelaw9.DecideTrialsMatchSpec'. -/
def decideTrialsMatchSpecUptoCard : Claim7 := { stood := { row := decideTrialsMatchSpecUptoRow, standIns := [], harness := (true, "8c99aae44288701400d32b57f1a064cf4afcbdd8b8c0667fa8268ed1bb7f3392"), looks := true }, kinds := [], alts := [], laidByText := true, laidKinds := [.data, .data, .data, .sentinel, .sentinel], laidTests := true, laidLooks := .later }
def DecideTrialsMatchSpecUptoCardSaid : Prop := Claim7.holds Tryz.pinned (.plain (OpenSpec.upto decideTrialsMatchSpecSpec)) decideTrialsMatchSpecUptoCard

/-- THE SECOND FORM's CARD OF 'burgeelaw9.DecideSeveralMatchSpec'. -/
def decideSeveralMatchSpecUptoCard : Claim7 := { stood := { row := decideSeveralMatchSpecUptoRow, standIns := [], harness := (true, "8c99aae44288701400d32b57f1a064cf4afcbdd8b8c0667fa8268ed1bb7f3392"), looks := true }, kinds := [], alts := [], laidByText := true, laidKinds := [.data, .data, .data, .sentinel, .sentinel], laidTests := true, laidLooks := .later }
def DecideSeveralMatchSpecUptoCardSaid : Prop := Claim7.holds Tryz.pinned (.plain (OpenSpec.upto decideSeveralMatchSpecSpec)) decideSeveralMatchSpecUptoCard

/-- THE SECOND FORM's CARD OF 'burgeelaw9.DecideHolmIsWithinShare'. -/
def decideHolmIsWithinShareUptoCard : Claim7 := { stood := { row := decideHolmIsWithinShareUptoRow, standIns := [], harness := (true, "8c99aae44288701400d32b57f1a064cf4afcbdd8b8c0667fa8268ed1bb7f3392"), looks := true }, kinds := [], alts := [], laidByText := true, laidKinds := [.data, .data, .data, .sentinel, .sentinel], laidTests := true, laidLooks := .later }
def DecideHolmIsWithinShareUptoCardSaid : Prop := Claim7.holds Tryz.pinned (.plain (OpenSpec.upto decideHolmIsWithinShareSpec)) decideHolmIsWithinShareUptoCard
end Rows
end Go.Proofs.YtemenlcigengeaaGreatDoor
