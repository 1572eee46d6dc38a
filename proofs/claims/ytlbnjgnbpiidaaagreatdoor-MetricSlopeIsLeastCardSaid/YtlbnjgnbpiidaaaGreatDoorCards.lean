/-
  DERIVED. GIVEN WITH THE SEED: THE CARDS: each row of YtlbnjgnbpiidaaaGreatDoorRows.lean that lists a variable, with what it lists TIED to the program's text (the seventh form; the later family's looks); each row that meets fmt, with fmt's text TOLD by the authors' own Lean function (tested against real Go, not proved from fmt's source: count such statements apart). THE CARD IS WHAT COUNTS. Prove the row's statement (the work); the ties are given (YtlbnjgnbpiidaaaGreatDoorTie.lean); close each card by the builder's one call (the guide's Derived/Test/ToyasCard.lean, 'card_holds'). Laid BY PROGRAM, IN A SANDBOX (cutbox-door.mjs). By AI agents, Wed Nov 11 2026. No macro, syntax, notation, axiom, sorry.
-/
import Derived.Test.YtlbnjgnbpiidaaaGreatDoorRows
import GoSem.ClaimSeven
namespace Go.Proofs.YtlbnjgnbpiidaaaGreatDoor
namespace Rows

/-- THE TIED CARD OF 'burgeelaw8.MetricAdjustsMatchSpec'. -/
def metricAdjustsMatchSpecCard : Claim7 := { stood := { row := metricAdjustsMatchSpecRow, standIns := [], harness := (true, "f6569a507093b844869f7fe63653f02f3c926c3ba5aa0872bf182319a7dee8e4"), looks := true }, kinds := [], alts := [], laidByText := true, laidKinds := [.data, .data, .data, .sentinel, .sentinel], laidTests := true, laidLooks := .later }
def MetricAdjustsMatchSpecCardSaid : Prop := Claim7.holds Tryz.pinned (.plain (OpenSpec.ofChange metricAdjustsMatchSpecSpec)) metricAdjustsMatchSpecCard

/-- THE TIED CARD OF 'burgeelaw8.MetricSlopeIsLeast'. -/
def metricSlopeIsLeastCard : Claim7 := { stood := { row := metricSlopeIsLeastRow, standIns := [], harness := (true, "f6569a507093b844869f7fe63653f02f3c926c3ba5aa0872bf182319a7dee8e4"), looks := true }, kinds := [], alts := [], laidByText := true, laidKinds := [.data, .data, .data, .sentinel, .sentinel], laidTests := true, laidLooks := .later }
def MetricSlopeIsLeastCardSaid : Prop := Claim7.holds Tryz.pinned (.plain (OpenSpec.ofChange metricSlopeIsLeastSpec)) metricSlopeIsLeastCard

/-- THE SECOND FORM's CARD OF 'burgeelaw8.MetricAdjustsMatchSpec'. -/
def metricAdjustsMatchSpecUptoCard : Claim7 := { stood := { row := metricAdjustsMatchSpecUptoRow, standIns := [], harness := (true, "f6569a507093b844869f7fe63653f02f3c926c3ba5aa0872bf182319a7dee8e4"), looks := true }, kinds := [], alts := [], laidByText := true, laidKinds := [.data, .data, .data, .sentinel, .sentinel], laidTests := true, laidLooks := .later }
def MetricAdjustsMatchSpecUptoCardSaid : Prop := Claim7.holds Tryz.pinned (.plain (OpenSpec.upto metricAdjustsMatchSpecSpec)) metricAdjustsMatchSpecUptoCard

/-- THE SECOND FORM's CARD OF 'burgeelaw8.MetricSlopeIsLeast'. -/
def metricSlopeIsLeastUptoCard : Claim7 := { stood := { row := metricSlopeIsLeastUptoRow, standIns := [], harness := (true, "f6569a507093b844869f7fe63653f02f3c926c3ba5aa0872bf182319a7dee8e4"), looks := true }, kinds := [], alts := [], laidByText := true, laidKinds := [.data, .data, .data, .sentinel, .sentinel], laidTests := true, laidLooks := .later }
def MetricSlopeIsLeastUptoCardSaid : Prop := Claim7.holds Tryz.pinned (.plain (OpenSpec.upto metricSlopeIsLeastSpec)) metricSlopeIsLeastUptoCard
end Rows
end Go.Proofs.YtlbnjgnbpiidaaaGreatDoor
