/-
  DERIVED. GIVEN WITH THE SEED: THE CARDS: each row of YtbhcfmdogdaodaaDoorRows.lean that lists a variable, with what it lists TIED to the program's text (the seventh form; the later family's looks); each row that meets fmt, with fmt's text TOLD by the authors' own Lean function (tested against real Go, not proved from fmt's source: count such statements apart). THE CARD IS WHAT COUNTS. Prove the row's statement (the work); the ties are given (YtbhcfmdogdaodaaDoorTie.lean); close each card by the builder's one call (the guide's Derived/Test/ToyasCard.lean, 'card_holds'). Laid BY PROGRAM, IN A SANDBOX (cutbox-door.mjs). By AI agents, Wed Nov 11 2026. No macro, syntax, notation, axiom, sorry.
-/
import Derived.Test.YtbhcfmdogdaodaaDoorRows
import GoSem.ClaimSeven
namespace Go.Proofs.YtbhcfmdogdaodaaDoor
namespace Rows

/-- THE TIED CARD OF 'burgeelaw1.ValuePartsMatchSpec'. -/
def valuePartsMatchSpecCard : Claim7 := { stood := { row := valuePartsMatchSpecRow, standIns := [], harness := (true, "56a8a15363e493566ff49ce647ca659099baa4e5d658c8d39825c5e2bdcbcbdb"), looks := true }, kinds := [], alts := [], laidByText := true, laidKinds := [.data, .data, .data, .data, .sentinel, .sentinel, .pinned], laidTests := true, laidLooks := .later }
def ValuePartsMatchSpecCardSaid : Prop := Claim7.holds Tryd.pinned (.plain (OpenSpec.ofChange valuePartsMatchSpecSpec)) valuePartsMatchSpecCard

/-- THE TIED CARD OF 'burgeelaw1.ValueTextsComeBack'. -/
def valueTextsComeBackCard : Claim7 := { stood := { row := valueTextsComeBackRow, standIns := [], harness := (true, "56a8a15363e493566ff49ce647ca659099baa4e5d658c8d39825c5e2bdcbcbdb"), looks := true }, kinds := [], alts := [], laidByText := true, laidKinds := [.data, .data, .data, .data, .pinned], laidTests := true, laidLooks := .later }
def ValueTextsComeBackCardSaid : Prop := Claim7.holds Tryd.pinned (.plain (OpenSpec.ofChange valueTextsComeBackSpec)) valueTextsComeBackCard

/-- THE SECOND FORM's CARD OF 'burgeelaw1.ValuePartsMatchSpec'. -/
def valuePartsMatchSpecUptoCard : Claim7 := { stood := { row := valuePartsMatchSpecUptoRow, standIns := [], harness := (true, "56a8a15363e493566ff49ce647ca659099baa4e5d658c8d39825c5e2bdcbcbdb"), looks := true }, kinds := [], alts := [], laidByText := true, laidKinds := [.data, .data, .data, .data, .sentinel, .sentinel, .pinned], laidTests := true, laidLooks := .later }
def ValuePartsMatchSpecUptoCardSaid : Prop := Claim7.holds Tryd.pinned (.plain (OpenSpec.upto valuePartsMatchSpecSpec)) valuePartsMatchSpecUptoCard

/-- THE SECOND FORM's CARD OF 'burgeelaw1.ValueTextsComeBack'. -/
def valueTextsComeBackUptoCard : Claim7 := { stood := { row := valueTextsComeBackUptoRow, standIns := [], harness := (true, "56a8a15363e493566ff49ce647ca659099baa4e5d658c8d39825c5e2bdcbcbdb"), looks := true }, kinds := [], alts := [], laidByText := true, laidKinds := [.data, .data, .data, .data, .pinned], laidTests := true, laidLooks := .later }
def ValueTextsComeBackUptoCardSaid : Prop := Claim7.holds Tryd.pinned (.plain (OpenSpec.upto valueTextsComeBackSpec)) valueTextsComeBackUptoCard
end Rows
end Go.Proofs.YtbhcfmdogdaodaaDoor
