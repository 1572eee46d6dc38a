/-
  DERIVED. GIVEN WITH THE SEED: THE CARDS: each row of YteaaibpanocgaaaDoorRows.lean that lists a variable, with what it lists TIED to the program's text (the seventh form; the later family's looks); each row that meets fmt, with fmt's text TOLD by the authors' own Lean function (tested against real Go, not proved from fmt's source: count such statements apart). THE CARD IS WHAT COUNTS. Prove the row's statement (the work); the ties are given (YteaaibpanocgaaaDoorTie.lean); close each card by the builder's one call (the guide's Derived/Test/ToyasCard.lean, 'card_holds'). Laid BY PROGRAM, IN A SANDBOX (cutbox-door.mjs). By AI agents, Wed Nov 11 2026. No macro, syntax, notation, axiom, sorry.
-/
import Derived.Test.YteaaibpanocgaaaDoorRows
import GoSem.ClaimSeven
namespace Go.Proofs.YteaaibpanocgaaaDoor
namespace Rows

/-- THE TIED CARD OF 'burgeelaw8.MetricMetricsMatchSpec'. -/
def metricMetricsMatchSpecCard : Claim7 := { stood := { row := metricMetricsMatchSpecRow, standIns := [], harness := (true, "ca2911222bfbf8dcfdd47edb1f26dd3c8564c07809c5149ddd699d712ca1ca57"), looks := true }, kinds := [], alts := [], laidByText := true, laidKinds := [.data, .data, .data, .data, .sentinel, .sentinel, .pinned], laidTests := true, laidLooks := .later }
def MetricMetricsMatchSpecCardSaid : Prop := Claim7.holds Tryd.pinned (.plain (OpenSpec.ofChange metricMetricsMatchSpecSpec)) metricMetricsMatchSpecCard

/-- THE TIED CARD OF 'burgeelaw8.MetricTextsComeBack'. -/
def metricTextsComeBackCard : Claim7 := { stood := { row := metricTextsComeBackRow, standIns := [], harness := (true, "ca2911222bfbf8dcfdd47edb1f26dd3c8564c07809c5149ddd699d712ca1ca57"), looks := true }, kinds := [], alts := [], laidByText := true, laidKinds := [.data, .data, .data, .data, .sentinel, .sentinel, .pinned], laidTests := true, laidLooks := .later }
def MetricTextsComeBackCardSaid : Prop := Claim7.holds Tryd.pinned (.plain (OpenSpec.ofChange metricTextsComeBackSpec)) metricTextsComeBackCard

/-- THE SECOND FORM's CARD OF 'burgeelaw8.MetricMetricsMatchSpec'. -/
def metricMetricsMatchSpecUptoCard : Claim7 := { stood := { row := metricMetricsMatchSpecUptoRow, standIns := [], harness := (true, "ca2911222bfbf8dcfdd47edb1f26dd3c8564c07809c5149ddd699d712ca1ca57"), looks := true }, kinds := [], alts := [], laidByText := true, laidKinds := [.data, .data, .data, .data, .sentinel, .sentinel, .pinned], laidTests := true, laidLooks := .later }
def MetricMetricsMatchSpecUptoCardSaid : Prop := Claim7.holds Tryd.pinned (.plain (OpenSpec.upto metricMetricsMatchSpecSpec)) metricMetricsMatchSpecUptoCard

/-- THE SECOND FORM's CARD OF 'burgeelaw8.MetricTextsComeBack'. -/
def metricTextsComeBackUptoCard : Claim7 := { stood := { row := metricTextsComeBackUptoRow, standIns := [], harness := (true, "ca2911222bfbf8dcfdd47edb1f26dd3c8564c07809c5149ddd699d712ca1ca57"), looks := true }, kinds := [], alts := [], laidByText := true, laidKinds := [.data, .data, .data, .data, .sentinel, .sentinel, .pinned], laidTests := true, laidLooks := .later }
def MetricTextsComeBackUptoCardSaid : Prop := Claim7.holds Tryd.pinned (.plain (OpenSpec.upto metricTextsComeBackSpec)) metricTextsComeBackUptoCard
end Rows
end Go.Proofs.YteaaibpanocgaaaDoor
