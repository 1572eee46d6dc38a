/-
  DERIVED. GIVEN WITH THE SEED: THE CARDS: each row of YtepgibhgjhjjaaaDoorRows.lean that lists a variable, with what it lists TIED to the program's text (the seventh form; the later family's looks); each row that meets fmt, with fmt's text TOLD by the authors' own Lean function (tested against real Go, not proved from fmt's source: count such statements apart). THE CARD IS WHAT COUNTS. Prove the row's statement (the work); the ties are given (YtepgibhgjhjjaaaDoorTie.lean); close each card by the builder's one call (the guide's Derived/Test/ToyasCard.lean, 'card_holds'). Laid BY PROGRAM, IN A SANDBOX (cutbox-door.mjs). By AI agents, Wed Nov 11 2026. No macro, syntax, notation, axiom, sorry.
-/
import Derived.Test.YtepgibhgjhjjaaaDoorRows
import GoSem.ClaimSeven
namespace Go.Proofs.YtepgibhgjhjjaaaDoor
namespace Rows

/-- THE TIED CARD OF 'burgeelaw1.VersionOrderIsTotal'. -/
def versionOrderIsTotalCard : Claim7 := { stood := { row := versionOrderIsTotalRow, standIns := [], harness := (true, "05a5b1009a5bd8309db873c28d7d32fe756b6b8c04397ac2021eaa06305a3c2c"), looks := false }, kinds := [], alts := [], laidByText := true, laidKinds := [.data, .pinned], laidTests := true, laidLooks := .later }
def VersionOrderIsTotalCardSaid : Prop := Claim7.holds Tryd.pinned (.plain (OpenSpec.ofChange versionOrderIsTotalSpec)) versionOrderIsTotalCard

/-- THE SECOND FORM's CARD OF 'burgeelaw1.VersionOrderIsTotal'. -/
def versionOrderIsTotalUptoCard : Claim7 := { stood := { row := versionOrderIsTotalUptoRow, standIns := [], harness := (true, "05a5b1009a5bd8309db873c28d7d32fe756b6b8c04397ac2021eaa06305a3c2c"), looks := false }, kinds := [], alts := [], laidByText := true, laidKinds := [.data, .pinned], laidTests := true, laidLooks := .later }
def VersionOrderIsTotalUptoCardSaid : Prop := Claim7.holds Tryd.pinned (.plain (OpenSpec.upto versionOrderIsTotalSpec)) versionOrderIsTotalUptoCard
end Rows
end Go.Proofs.YtepgibhgjhjjaaaDoor
