/-
  DERIVED. GIVEN WITH THE SEED: THE CARDS: each row of YtiieckboccbhhaaGreatDoorRows.lean that lists a variable, with what it lists TIED to the program's text (the seventh form; the later family's looks); each row that meets fmt, with fmt's text TOLD by the authors' own Lean function (tested against real Go, not proved from fmt's source: count such statements apart). THE CARD IS WHAT COUNTS. Prove the row's statement (the work); the ties are given (YtiieckboccbhhaaGreatDoorTie.lean); close each card by the builder's one call (the guide's Derived/Test/ToyasCard.lean, 'card_holds'). Laid BY PROGRAM, IN A SANDBOX (cutbox-door.mjs). By AI agents, Wed Nov 11 2026. No macro, syntax, notation, axiom, sorry.
-/
import Derived.Test.YtiieckboccbhhaaGreatDoorRows
import GoSem.ClaimSeven
namespace Go.Proofs.YtiieckboccbhhaaGreatDoor
namespace Rows

/-- THE TIED CARD OF 'burgeelaw8.MetricTailsMatchSpec'. -/
def metricTailsMatchSpecCard : Claim7 := { stood := { row := metricTailsMatchSpecRow, standIns := [], harness := (true, "c4bc8633f0cea118349647be10f5836eda6464f32469963e721d3eff92ef1604"), looks := true }, kinds := [], alts := [], laidByText := true, laidKinds := [.data, .data, .data, .sentinel, .sentinel], laidTests := true, laidLooks := .later }
def MetricTailsMatchSpecCardSaid : Prop := Claim7.holds Tryz.pinned (.plain (OpenSpec.ofChange metricTailsMatchSpecSpec)) metricTailsMatchSpecCard

/-- THE TIED CARD OF 'burgeelaw8.MetricRanksHold'. -/
def metricRanksHoldCard : Claim7 := { stood := { row := metricRanksHoldRow, standIns := [], harness := (true, "c4bc8633f0cea118349647be10f5836eda6464f32469963e721d3eff92ef1604"), looks := true }, kinds := [], alts := [], laidByText := true, laidKinds := [.data, .data, .data, .sentinel, .sentinel], laidTests := true, laidLooks := .later }
def MetricRanksHoldCardSaid : Prop := Claim7.holds Tryz.pinned (.plain (OpenSpec.ofChange metricRanksHoldSpec)) metricRanksHoldCard

/-- THE TIED CARD OF 'burgeelaw8.MetricQuantilesMatchSpec'. -/
def metricQuantilesMatchSpecCard : Claim7 := { stood := { row := metricQuantilesMatchSpecRow, standIns := [], harness := (true, "c4bc8633f0cea118349647be10f5836eda6464f32469963e721d3eff92ef1604"), looks := true }, kinds := [], alts := [], laidByText := true, laidKinds := [.data, .data, .data, .sentinel, .sentinel], laidTests := true, laidLooks := .later }
def MetricQuantilesMatchSpecCardSaid : Prop := Claim7.holds Tryz.pinned (.plain (OpenSpec.ofChange metricQuantilesMatchSpecSpec)) metricQuantilesMatchSpecCard

/-- THE SECOND FORM's CARD OF 'burgeelaw8.MetricTailsMatchSpec'. -/
def metricTailsMatchSpecUptoCard : Claim7 := { stood := { row := metricTailsMatchSpecUptoRow, standIns := [], harness := (true, "c4bc8633f0cea118349647be10f5836eda6464f32469963e721d3eff92ef1604"), looks := true }, kinds := [], alts := [], laidByText := true, laidKinds := [.data, .data, .data, .sentinel, .sentinel], laidTests := true, laidLooks := .later }
def MetricTailsMatchSpecUptoCardSaid : Prop := Claim7.holds Tryz.pinned (.plain (OpenSpec.upto metricTailsMatchSpecSpec)) metricTailsMatchSpecUptoCard

/-- THE SECOND FORM's CARD OF 'burgeelaw8.MetricRanksHold'. -/
def metricRanksHoldUptoCard : Claim7 := { stood := { row := metricRanksHoldUptoRow, standIns := [], harness := (true, "c4bc8633f0cea118349647be10f5836eda6464f32469963e721d3eff92ef1604"), looks := true }, kinds := [], alts := [], laidByText := true, laidKinds := [.data, .data, .data, .sentinel, .sentinel], laidTests := true, laidLooks := .later }
def MetricRanksHoldUptoCardSaid : Prop := Claim7.holds Tryz.pinned (.plain (OpenSpec.upto metricRanksHoldSpec)) metricRanksHoldUptoCard

/-- THE SECOND FORM's CARD OF 'burgeelaw8.MetricQuantilesMatchSpec'. -/
def metricQuantilesMatchSpecUptoCard : Claim7 := { stood := { row := metricQuantilesMatchSpecUptoRow, standIns := [], harness := (true, "c4bc8633f0cea118349647be10f5836eda6464f32469963e721d3eff92ef1604"), looks := true }, kinds := [], alts := [], laidByText := true, laidKinds := [.data, .data, .data, .sentinel, .sentinel], laidTests := true, laidLooks := .later }
def MetricQuantilesMatchSpecUptoCardSaid : Prop := Claim7.holds Tryz.pinned (.plain (OpenSpec.upto metricQuantilesMatchSpecSpec)) metricQuantilesMatchSpecUptoCard
end Rows
end Go.Proofs.YtiieckboccbhhaaGreatDoor
