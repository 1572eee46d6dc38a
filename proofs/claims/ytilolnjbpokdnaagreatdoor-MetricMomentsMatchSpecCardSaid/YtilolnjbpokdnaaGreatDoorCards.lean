/-
  DERIVED. GIVEN WITH THE SEED: THE CARDS: each row of YtilolnjbpokdnaaGreatDoorRows.lean that lists a variable, with what it lists TIED to the program's text (the seventh form; the later family's looks); each row that meets fmt, with fmt's text TOLD by the authors' own Lean function (tested against real Go, not proved from fmt's source: count such statements apart). THE CARD IS WHAT COUNTS. Prove the row's statement (the work); the ties are given (YtilolnjbpokdnaaGreatDoorTie.lean); close each card by the builder's one call (the guide's Derived/Test/ToyasCard.lean, 'card_holds'). Laid BY PROGRAM, IN A SANDBOX (cutbox-door.mjs). By AI agents, Wed Nov 11 2026. No macro, syntax, notation, axiom, sorry.
-/
import Derived.Test.YtilolnjbpokdnaaGreatDoorRows
import GoSem.ClaimSeven
namespace Go.Proofs.YtilolnjbpokdnaaGreatDoor
namespace Rows

/-- THE TIED CARD OF 'burgeelaw9.DecideTrialsMatchSpec'. -/
def decideTrialsMatchSpecCard : Claim7 := { stood := { row := decideTrialsMatchSpecRow, standIns := [], harness := (true, "b8bc12659fa4bad921202efe5e6190da244a266404a057ac2f9d200c0590b3fd"), looks := true }, kinds := [], alts := [], laidByText := true, laidKinds := [.data, .data, .data, .sentinel, .sentinel], laidTests := true, laidLooks := .later }
def DecideTrialsMatchSpecCardSaid : Prop := Claim7.holds Tryz.pinned (.plain (OpenSpec.ofChange decideTrialsMatchSpecSpec)) decideTrialsMatchSpecCard

/-- THE TIED CARD OF 'burgeelaw9.DecideChanceMatchesSpec'. -/
def decideChanceMatchesSpecCard : Claim7 := { stood := { row := decideChanceMatchesSpecRow, standIns := [], harness := (true, "b8bc12659fa4bad921202efe5e6190da244a266404a057ac2f9d200c0590b3fd"), looks := true }, kinds := [], alts := [], laidByText := true, laidKinds := [.data, .data, .data, .sentinel, .sentinel], laidTests := true, laidLooks := .later }
def DecideChanceMatchesSpecCardSaid : Prop := Claim7.holds Tryz.pinned (.plain (OpenSpec.ofChange decideChanceMatchesSpecSpec)) decideChanceMatchesSpecCard

/-- THE TIED CARD OF 'burgeelaw8.MetricSumsMatchSpec'. -/
def metricSumsMatchSpecCard : Claim7 := { stood := { row := metricSumsMatchSpecRow, standIns := [], harness := (true, "b8bc12659fa4bad921202efe5e6190da244a266404a057ac2f9d200c0590b3fd"), looks := true }, kinds := [], alts := [], laidByText := true, laidKinds := [.data, .data, .data, .sentinel, .sentinel], laidTests := true, laidLooks := .later }
def MetricSumsMatchSpecCardSaid : Prop := Claim7.holds Tryz.pinned (.plain (OpenSpec.ofChange metricSumsMatchSpecSpec)) metricSumsMatchSpecCard

/-- THE TIED CARD OF 'burgeelaw8.MetricShiftsDoNotMatter'. -/
def metricShiftsDoNotMatterCard : Claim7 := { stood := { row := metricShiftsDoNotMatterRow, standIns := [], harness := (true, "b8bc12659fa4bad921202efe5e6190da244a266404a057ac2f9d200c0590b3fd"), looks := true }, kinds := [], alts := [], laidByText := true, laidKinds := [.data, .data, .data, .sentinel, .sentinel], laidTests := true, laidLooks := .later }
def MetricShiftsDoNotMatterCardSaid : Prop := Claim7.holds Tryz.pinned (.plain (OpenSpec.ofChange metricShiftsDoNotMatterSpec)) metricShiftsDoNotMatterCard

/-- THE TIED CARD OF 'burgeelaw8.MetricMomentsMatchSpec'. -/
def metricMomentsMatchSpecCard : Claim7 := { stood := { row := metricMomentsMatchSpecRow, standIns := [], harness := (true, "b8bc12659fa4bad921202efe5e6190da244a266404a057ac2f9d200c0590b3fd"), looks := true }, kinds := [], alts := [], laidByText := true, laidKinds := [.data, .data, .data, .sentinel, .sentinel], laidTests := true, laidLooks := .later }
def MetricMomentsMatchSpecCardSaid : Prop := Claim7.holds Tryz.pinned (.plain (OpenSpec.ofChange metricMomentsMatchSpecSpec)) metricMomentsMatchSpecCard

/-- THE TIED CARD OF 'burgeelaw8.MetricAdjustsMatchSpec'. -/
def metricAdjustsMatchSpecCard : Claim7 := { stood := { row := metricAdjustsMatchSpecRow, standIns := [], harness := (true, "b8bc12659fa4bad921202efe5e6190da244a266404a057ac2f9d200c0590b3fd"), looks := true }, kinds := [], alts := [], laidByText := true, laidKinds := [.data, .data, .data, .sentinel, .sentinel], laidTests := true, laidLooks := .later }
def MetricAdjustsMatchSpecCardSaid : Prop := Claim7.holds Tryz.pinned (.plain (OpenSpec.ofChange metricAdjustsMatchSpecSpec)) metricAdjustsMatchSpecCard

/-- THE TIED CARD OF 'burgeelaw8.MetricSlopeIsLeast'. -/
def metricSlopeIsLeastCard : Claim7 := { stood := { row := metricSlopeIsLeastRow, standIns := [], harness := (true, "b8bc12659fa4bad921202efe5e6190da244a266404a057ac2f9d200c0590b3fd"), looks := true }, kinds := [], alts := [], laidByText := true, laidKinds := [.data, .data, .data, .sentinel, .sentinel], laidTests := true, laidLooks := .later }
def MetricSlopeIsLeastCardSaid : Prop := Claim7.holds Tryz.pinned (.plain (OpenSpec.ofChange metricSlopeIsLeastSpec)) metricSlopeIsLeastCard

/-- THE SECOND FORM's CARD OF 'burgeelaw9.DecideTrialsMatchSpec'. -/
def decideTrialsMatchSpecUptoCard : Claim7 := { stood := { row := decideTrialsMatchSpecUptoRow, standIns := [], harness := (true, "b8bc12659fa4bad921202efe5e6190da244a266404a057ac2f9d200c0590b3fd"), looks := true }, kinds := [], alts := [], laidByText := true, laidKinds := [.data, .data, .data, .sentinel, .sentinel], laidTests := true, laidLooks := .later }
def DecideTrialsMatchSpecUptoCardSaid : Prop := Claim7.holds Tryz.pinned (.plain (OpenSpec.upto decideTrialsMatchSpecSpec)) decideTrialsMatchSpecUptoCard

/-- THE SECOND FORM's CARD OF 'burgeelaw9.DecideChanceMatchesSpec'. -/
def decideChanceMatchesSpecUptoCard : Claim7 := { stood := { row := decideChanceMatchesSpecUptoRow, standIns := [], harness := (true, "b8bc12659fa4bad921202efe5e6190da244a266404a057ac2f9d200c0590b3fd"), looks := true }, kinds := [], alts := [], laidByText := true, laidKinds := [.data, .data, .data, .sentinel, .sentinel], laidTests := true, laidLooks := .later }
def DecideChanceMatchesSpecUptoCardSaid : Prop := Claim7.holds Tryz.pinned (.plain (OpenSpec.upto decideChanceMatchesSpecSpec)) decideChanceMatchesSpecUptoCard

/-- THE SECOND FORM's CARD OF 'burgeelaw8.MetricSumsMatchSpec'. -/
def metricSumsMatchSpecUptoCard : Claim7 := { stood := { row := metricSumsMatchSpecUptoRow, standIns := [], harness := (true, "b8bc12659fa4bad921202efe5e6190da244a266404a057ac2f9d200c0590b3fd"), looks := true }, kinds := [], alts := [], laidByText := true, laidKinds := [.data, .data, .data, .sentinel, .sentinel], laidTests := true, laidLooks := .later }
def MetricSumsMatchSpecUptoCardSaid : Prop := Claim7.holds Tryz.pinned (.plain (OpenSpec.upto metricSumsMatchSpecSpec)) metricSumsMatchSpecUptoCard

/-- THE SECOND FORM's CARD OF 'burgeelaw8.MetricShiftsDoNotMatter'. -/
def metricShiftsDoNotMatterUptoCard : Claim7 := { stood := { row := metricShiftsDoNotMatterUptoRow, standIns := [], harness := (true, "b8bc12659fa4bad921202efe5e6190da244a266404a057ac2f9d200c0590b3fd"), looks := true }, kinds := [], alts := [], laidByText := true, laidKinds := [.data, .data, .data, .sentinel, .sentinel], laidTests := true, laidLooks := .later }
def MetricShiftsDoNotMatterUptoCardSaid : Prop := Claim7.holds Tryz.pinned (.plain (OpenSpec.upto metricShiftsDoNotMatterSpec)) metricShiftsDoNotMatterUptoCard

/-- THE SECOND FORM's CARD OF 'burgeelaw8.MetricMomentsMatchSpec'. -/
def metricMomentsMatchSpecUptoCard : Claim7 := { stood := { row := metricMomentsMatchSpecUptoRow, standIns := [], harness := (true, "b8bc12659fa4bad921202efe5e6190da244a266404a057ac2f9d200c0590b3fd"), looks := true }, kinds := [], alts := [], laidByText := true, laidKinds := [.data, .data, .data, .sentinel, .sentinel], laidTests := true, laidLooks := .later }
def MetricMomentsMatchSpecUptoCardSaid : Prop := Claim7.holds Tryz.pinned (.plain (OpenSpec.upto metricMomentsMatchSpecSpec)) metricMomentsMatchSpecUptoCard

/-- THE SECOND FORM's CARD OF 'burgeelaw8.MetricAdjustsMatchSpec'. -/
def metricAdjustsMatchSpecUptoCard : Claim7 := { stood := { row := metricAdjustsMatchSpecUptoRow, standIns := [], harness := (true, "b8bc12659fa4bad921202efe5e6190da244a266404a057ac2f9d200c0590b3fd"), looks := true }, kinds := [], alts := [], laidByText := true, laidKinds := [.data, .data, .data, .sentinel, .sentinel], laidTests := true, laidLooks := .later }
def MetricAdjustsMatchSpecUptoCardSaid : Prop := Claim7.holds Tryz.pinned (.plain (OpenSpec.upto metricAdjustsMatchSpecSpec)) metricAdjustsMatchSpecUptoCard

/-- THE SECOND FORM's CARD OF 'burgeelaw8.MetricSlopeIsLeast'. -/
def metricSlopeIsLeastUptoCard : Claim7 := { stood := { row := metricSlopeIsLeastUptoRow, standIns := [], harness := (true, "b8bc12659fa4bad921202efe5e6190da244a266404a057ac2f9d200c0590b3fd"), looks := true }, kinds := [], alts := [], laidByText := true, laidKinds := [.data, .data, .data, .sentinel, .sentinel], laidTests := true, laidLooks := .later }
def MetricSlopeIsLeastUptoCardSaid : Prop := Claim7.holds Tryz.pinned (.plain (OpenSpec.upto metricSlopeIsLeastSpec)) metricSlopeIsLeastUptoCard
end Rows
end Go.Proofs.YtilolnjbpokdnaaGreatDoor
