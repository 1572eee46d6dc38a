/-
  DERIVED. GIVEN WITH THE SEED: THE CARDS: each row of YtmnmepbljegjeaaGreatDoorRows.lean that lists a variable, with what it lists TIED to the program's text (the seventh form; the later family's looks); each row that meets fmt, with fmt's text TOLD by the authors' own Lean function (tested against real Go, not proved from fmt's source: count such statements apart). THE CARD IS WHAT COUNTS. Prove the row's statement (the work); the ties are given (YtmnmepbljegjeaaGreatDoorTie.lean); close each card by the builder's one call (the guide's Derived/Test/ToyasCard.lean, 'card_holds'). Laid BY PROGRAM, IN A SANDBOX (cutbox-door.mjs). By AI agents, Wed Nov 11 2026. No macro, syntax, notation, axiom, sorry.
-/
import Derived.Test.YtmnmepbljegjeaaGreatDoorRows
import GoSem.ClaimSeven
namespace Go.Proofs.YtmnmepbljegjeaaGreatDoor
namespace Rows

/-- THE TIED CARD OF 'burgeelaw1.RatiosMatchSpec'. -/
def ratiosMatchSpecCard : Claim7 := { stood := { row := ratiosMatchSpecRow, standIns := [], harness := (true, "9766223731d08060a37987788449ff48edf0a6bf43de0d8aa5d335a15a5a6238"), looks := true }, kinds := [], alts := [], laidByText := true, laidKinds := [.data, .data, .data, .sentinel, .sentinel], laidTests := true, laidLooks := .later }
def RatiosMatchSpecCardSaid : Prop := Claim7.holds Tryz.pinned (.plain (OpenSpec.ofChange ratiosMatchSpecSpec)) ratiosMatchSpecCard

/-- THE TIED CARD OF 'burgeelaw9.DecideTrialsMatchSpec'. -/
def decideTrialsMatchSpecCard : Claim7 := { stood := { row := decideTrialsMatchSpecRow, standIns := [], harness := (true, "9766223731d08060a37987788449ff48edf0a6bf43de0d8aa5d335a15a5a6238"), looks := true }, kinds := [], alts := [], laidByText := true, laidKinds := [.data, .data, .data, .sentinel, .sentinel], laidTests := true, laidLooks := .later }
def DecideTrialsMatchSpecCardSaid : Prop := Claim7.holds Tryz.pinned (.plain (OpenSpec.ofChange decideTrialsMatchSpecSpec)) decideTrialsMatchSpecCard

/-- THE TIED CARD OF 'burgeelaw9.DecideEvidenceMatchesSpec'. -/
def decideEvidenceMatchesSpecCard : Claim7 := { stood := { row := decideEvidenceMatchesSpecRow, standIns := [], harness := (true, "9766223731d08060a37987788449ff48edf0a6bf43de0d8aa5d335a15a5a6238"), looks := true }, kinds := [], alts := [], laidByText := true, laidKinds := [.data, .data, .data, .sentinel, .sentinel], laidTests := true, laidLooks := .later }
def DecideEvidenceMatchesSpecCardSaid : Prop := Claim7.holds Tryz.pinned (.plain (OpenSpec.ofChange decideEvidenceMatchesSpecSpec)) decideEvidenceMatchesSpecCard

/-- THE TIED CARD OF 'burgeelaw9.DecideEvidenceIsFair'. -/
def decideEvidenceIsFairCard : Claim7 := { stood := { row := decideEvidenceIsFairRow, standIns := [], harness := (true, "9766223731d08060a37987788449ff48edf0a6bf43de0d8aa5d335a15a5a6238"), looks := true }, kinds := [], alts := [], laidByText := true, laidKinds := [.data, .data, .data, .sentinel, .sentinel], laidTests := true, laidLooks := .later }
def DecideEvidenceIsFairCardSaid : Prop := Claim7.holds Tryz.pinned (.plain (OpenSpec.ofChange decideEvidenceIsFairSpec)) decideEvidenceIsFairCard

/-- THE TIED CARD OF 'burgeelaw9.DecideLineIsLeast'. -/
def decideLineIsLeastCard : Claim7 := { stood := { row := decideLineIsLeastRow, standIns := [], harness := (true, "9766223731d08060a37987788449ff48edf0a6bf43de0d8aa5d335a15a5a6238"), looks := true }, kinds := [], alts := [], laidByText := true, laidKinds := [.data, .data, .data, .sentinel, .sentinel], laidTests := true, laidLooks := .later }
def DecideLineIsLeastCardSaid : Prop := Claim7.holds Tryz.pinned (.plain (OpenSpec.ofChange decideLineIsLeastSpec)) decideLineIsLeastCard

/-- THE TIED CARD OF 'burgeelaw9.DecideChanceMatchesSpec'. -/
def decideChanceMatchesSpecCard : Claim7 := { stood := { row := decideChanceMatchesSpecRow, standIns := [], harness := (true, "9766223731d08060a37987788449ff48edf0a6bf43de0d8aa5d335a15a5a6238"), looks := true }, kinds := [], alts := [], laidByText := true, laidKinds := [.data, .data, .data, .sentinel, .sentinel], laidTests := true, laidLooks := .later }
def DecideChanceMatchesSpecCardSaid : Prop := Claim7.holds Tryz.pinned (.plain (OpenSpec.ofChange decideChanceMatchesSpecSpec)) decideChanceMatchesSpecCard

/-- THE TIED CARD OF 'burgeelaw9.DecideChanceIsBounded'. -/
def decideChanceIsBoundedCard : Claim7 := { stood := { row := decideChanceIsBoundedRow, standIns := [], harness := (true, "9766223731d08060a37987788449ff48edf0a6bf43de0d8aa5d335a15a5a6238"), looks := true }, kinds := [], alts := [], laidByText := true, laidKinds := [.data, .data, .data, .sentinel, .sentinel], laidTests := true, laidLooks := .later }
def DecideChanceIsBoundedCardSaid : Prop := Claim7.holds Tryz.pinned (.plain (OpenSpec.ofChange decideChanceIsBoundedSpec)) decideChanceIsBoundedCard

/-- THE TIED CARD OF 'burgeelaw9.DecideSeveralMatchSpec'. -/
def decideSeveralMatchSpecCard : Claim7 := { stood := { row := decideSeveralMatchSpecRow, standIns := [], harness := (true, "9766223731d08060a37987788449ff48edf0a6bf43de0d8aa5d335a15a5a6238"), looks := true }, kinds := [], alts := [], laidByText := true, laidKinds := [.data, .data, .data, .sentinel, .sentinel], laidTests := true, laidLooks := .later }
def DecideSeveralMatchSpecCardSaid : Prop := Claim7.holds Tryz.pinned (.plain (OpenSpec.ofChange decideSeveralMatchSpecSpec)) decideSeveralMatchSpecCard

/-- THE TIED CARD OF 'burgeelaw9.DecideHolmIsWithinShare'. -/
def decideHolmIsWithinShareCard : Claim7 := { stood := { row := decideHolmIsWithinShareRow, standIns := [], harness := (true, "9766223731d08060a37987788449ff48edf0a6bf43de0d8aa5d335a15a5a6238"), looks := true }, kinds := [], alts := [], laidByText := true, laidKinds := [.data, .data, .data, .sentinel, .sentinel], laidTests := true, laidLooks := .later }
def DecideHolmIsWithinShareCardSaid : Prop := Claim7.holds Tryz.pinned (.plain (OpenSpec.ofChange decideHolmIsWithinShareSpec)) decideHolmIsWithinShareCard

/-- THE TIED CARD OF 'burgeelaw9.DecideVerdictsMatchSpec'. -/
def decideVerdictsMatchSpecCard : Claim7 := { stood := { row := decideVerdictsMatchSpecRow, standIns := [], harness := (true, "9766223731d08060a37987788449ff48edf0a6bf43de0d8aa5d335a15a5a6238"), looks := true }, kinds := [], alts := [], laidByText := true, laidKinds := [.data, .data, .data, .sentinel, .sentinel], laidTests := true, laidLooks := .later }
def DecideVerdictsMatchSpecCardSaid : Prop := Claim7.holds Tryz.pinned (.plain (OpenSpec.ofChange decideVerdictsMatchSpecSpec)) decideVerdictsMatchSpecCard

/-- THE SECOND FORM's CARD OF 'burgeelaw1.RatiosMatchSpec'. -/
def ratiosMatchSpecUptoCard : Claim7 := { stood := { row := ratiosMatchSpecUptoRow, standIns := [], harness := (true, "9766223731d08060a37987788449ff48edf0a6bf43de0d8aa5d335a15a5a6238"), looks := true }, kinds := [], alts := [], laidByText := true, laidKinds := [.data, .data, .data, .sentinel, .sentinel], laidTests := true, laidLooks := .later }
def RatiosMatchSpecUptoCardSaid : Prop := Claim7.holds Tryz.pinned (.plain (OpenSpec.upto ratiosMatchSpecSpec)) ratiosMatchSpecUptoCard

/-- THE SECOND FORM's CARD OF 'burgeelaw9.DecideTrialsMatchSpec'. -/
def decideTrialsMatchSpecUptoCard : Claim7 := { stood := { row := decideTrialsMatchSpecUptoRow, standIns := [], harness := (true, "9766223731d08060a37987788449ff48edf0a6bf43de0d8aa5d335a15a5a6238"), looks := true }, kinds := [], alts := [], laidByText := true, laidKinds := [.data, .data, .data, .sentinel, .sentinel], laidTests := true, laidLooks := .later }
def DecideTrialsMatchSpecUptoCardSaid : Prop := Claim7.holds Tryz.pinned (.plain (OpenSpec.upto decideTrialsMatchSpecSpec)) decideTrialsMatchSpecUptoCard

/-- THE SECOND FORM's CARD OF 'burgeelaw9.DecideEvidenceMatchesSpec'. -/
def decideEvidenceMatchesSpecUptoCard : Claim7 := { stood := { row := decideEvidenceMatchesSpecUptoRow, standIns := [], harness := (true, "9766223731d08060a37987788449ff48edf0a6bf43de0d8aa5d335a15a5a6238"), looks := true }, kinds := [], alts := [], laidByText := true, laidKinds := [.data, .data, .data, .sentinel, .sentinel], laidTests := true, laidLooks := .later }
def DecideEvidenceMatchesSpecUptoCardSaid : Prop := Claim7.holds Tryz.pinned (.plain (OpenSpec.upto decideEvidenceMatchesSpecSpec)) decideEvidenceMatchesSpecUptoCard

/-- THE SECOND FORM's CARD OF 'burgeelaw9.DecideEvidenceIsFair'. -/
def decideEvidenceIsFairUptoCard : Claim7 := { stood := { row := decideEvidenceIsFairUptoRow, standIns := [], harness := (true, "9766223731d08060a37987788449ff48edf0a6bf43de0d8aa5d335a15a5a6238"), looks := true }, kinds := [], alts := [], laidByText := true, laidKinds := [.data, .data, .data, .sentinel, .sentinel], laidTests := true, laidLooks := .later }
def DecideEvidenceIsFairUptoCardSaid : Prop := Claim7.holds Tryz.pinned (.plain (OpenSpec.upto decideEvidenceIsFairSpec)) decideEvidenceIsFairUptoCard

/-- THE SECOND FORM's CARD OF 'burgeelaw9.DecideLineIsLeast'. -/
def decideLineIsLeastUptoCard : Claim7 := { stood := { row := decideLineIsLeastUptoRow, standIns := [], harness := (true, "9766223731d08060a37987788449ff48edf0a6bf43de0d8aa5d335a15a5a6238"), looks := true }, kinds := [], alts := [], laidByText := true, laidKinds := [.data, .data, .data, .sentinel, .sentinel], laidTests := true, laidLooks := .later }
def DecideLineIsLeastUptoCardSaid : Prop := Claim7.holds Tryz.pinned (.plain (OpenSpec.upto decideLineIsLeastSpec)) decideLineIsLeastUptoCard

/-- THE SECOND FORM's CARD OF 'burgeelaw9.DecideChanceMatchesSpec'. -/
def decideChanceMatchesSpecUptoCard : Claim7 := { stood := { row := decideChanceMatchesSpecUptoRow, standIns := [], harness := (true, "9766223731d08060a37987788449ff48edf0a6bf43de0d8aa5d335a15a5a6238"), looks := true }, kinds := [], alts := [], laidByText := true, laidKinds := [.data, .data, .data, .sentinel, .sentinel], laidTests := true, laidLooks := .later }
def DecideChanceMatchesSpecUptoCardSaid : Prop := Claim7.holds Tryz.pinned (.plain (OpenSpec.upto decideChanceMatchesSpecSpec)) decideChanceMatchesSpecUptoCard

/-- THE SECOND FORM's CARD OF 'burgeelaw9.DecideChanceIsBounded'. -/
def decideChanceIsBoundedUptoCard : Claim7 := { stood := { row := decideChanceIsBoundedUptoRow, standIns := [], harness := (true, "9766223731d08060a37987788449ff48edf0a6bf43de0d8aa5d335a15a5a6238"), looks := true }, kinds := [], alts := [], laidByText := true, laidKinds := [.data, .data, .data, .sentinel, .sentinel], laidTests := true, laidLooks := .later }
def DecideChanceIsBoundedUptoCardSaid : Prop := Claim7.holds Tryz.pinned (.plain (OpenSpec.upto decideChanceIsBoundedSpec)) decideChanceIsBoundedUptoCard

/-- THE SECOND FORM's CARD OF 'burgeelaw9.DecideSeveralMatchSpec'. -/
def decideSeveralMatchSpecUptoCard : Claim7 := { stood := { row := decideSeveralMatchSpecUptoRow, standIns := [], harness := (true, "9766223731d08060a37987788449ff48edf0a6bf43de0d8aa5d335a15a5a6238"), looks := true }, kinds := [], alts := [], laidByText := true, laidKinds := [.data, .data, .data, .sentinel, .sentinel], laidTests := true, laidLooks := .later }
def DecideSeveralMatchSpecUptoCardSaid : Prop := Claim7.holds Tryz.pinned (.plain (OpenSpec.upto decideSeveralMatchSpecSpec)) decideSeveralMatchSpecUptoCard

/-- THE SECOND FORM's CARD OF 'burgeelaw9.DecideHolmIsWithinShare'. -/
def decideHolmIsWithinShareUptoCard : Claim7 := { stood := { row := decideHolmIsWithinShareUptoRow, standIns := [], harness := (true, "9766223731d08060a37987788449ff48edf0a6bf43de0d8aa5d335a15a5a6238"), looks := true }, kinds := [], alts := [], laidByText := true, laidKinds := [.data, .data, .data, .sentinel, .sentinel], laidTests := true, laidLooks := .later }
def DecideHolmIsWithinShareUptoCardSaid : Prop := Claim7.holds Tryz.pinned (.plain (OpenSpec.upto decideHolmIsWithinShareSpec)) decideHolmIsWithinShareUptoCard

/-- THE SECOND FORM's CARD OF 'burgeelaw9.DecideVerdictsMatchSpec'. -/
def decideVerdictsMatchSpecUptoCard : Claim7 := { stood := { row := decideVerdictsMatchSpecUptoRow, standIns := [], harness := (true, "9766223731d08060a37987788449ff48edf0a6bf43de0d8aa5d335a15a5a6238"), looks := true }, kinds := [], alts := [], laidByText := true, laidKinds := [.data, .data, .data, .sentinel, .sentinel], laidTests := true, laidLooks := .later }
def DecideVerdictsMatchSpecUptoCardSaid : Prop := Claim7.holds Tryz.pinned (.plain (OpenSpec.upto decideVerdictsMatchSpecSpec)) decideVerdictsMatchSpecUptoCard
end Rows
end Go.Proofs.YtmnmepbljegjeaaGreatDoor
