/-
  DERIVED. GIVEN WITH THE SEED: THE CARDS: each row of YtilolnjbpokdnaaDoorRows.lean that lists a variable, with what it lists TIED to the program's text (the seventh form; the later family's looks); each row that meets fmt, with fmt's text TOLD by the authors' own Lean function (tested against real Go, not proved from fmt's source: count such statements apart). THE CARD IS WHAT COUNTS. Prove the row's statement (the work); the ties are given (YtilolnjbpokdnaaDoorTie.lean); close each card by the builder's one call (the guide's Derived/Test/ToyasCard.lean, 'card_holds'). Laid BY PROGRAM, IN A SANDBOX (cutbox-door.mjs). By AI agents, Wed Nov 11 2026. No macro, syntax, notation, axiom, sorry.
-/
import Derived.Test.YtilolnjbpokdnaaDoorRows
import GoSem.ClaimSeven
namespace Go.Proofs.YtilolnjbpokdnaaDoor
namespace Rows

/-- THE TIED CARD OF 'burgeelaw8.MetricMismatchIsOfShares'. -/
def metricMismatchIsOfSharesCard : Claim7 := { stood := { row := metricMismatchIsOfSharesRow, standIns := [], harness := (true, "f49fc100480f7e7cadf74fbd4a05be41d2be307c7e6a46df99ff5e85d2db0ba4"), looks := false }, kinds := [], alts := [], laidByText := true, laidKinds := [.data, .data, .data], laidTests := true, laidLooks := .later }
def MetricMismatchIsOfSharesCardSaid : Prop := Claim7.holds Tryd.pinned (.plain (OpenSpec.ofChange metricMismatchIsOfSharesSpec)) metricMismatchIsOfSharesCard

/-- THE SECOND FORM's CARD OF 'burgeelaw8.MetricMismatchIsOfShares'. -/
def metricMismatchIsOfSharesUptoCard : Claim7 := { stood := { row := metricMismatchIsOfSharesUptoRow, standIns := [], harness := (true, "f49fc100480f7e7cadf74fbd4a05be41d2be307c7e6a46df99ff5e85d2db0ba4"), looks := false }, kinds := [], alts := [], laidByText := true, laidKinds := [.data, .data, .data], laidTests := true, laidLooks := .later }
def MetricMismatchIsOfSharesUptoCardSaid : Prop := Claim7.holds Tryd.pinned (.plain (OpenSpec.upto metricMismatchIsOfSharesSpec)) metricMismatchIsOfSharesUptoCard
end Rows
end Go.Proofs.YtilolnjbpokdnaaDoor
