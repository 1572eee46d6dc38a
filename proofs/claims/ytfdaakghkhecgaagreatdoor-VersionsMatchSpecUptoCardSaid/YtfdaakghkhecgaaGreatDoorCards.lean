/-
  DERIVED. GIVEN WITH THE SEED: THE CARDS: each row of YtfdaakghkhecgaaGreatDoorRows.lean that lists a variable, with what it lists TIED to the program's text (the seventh form; the later family's looks); each row that meets fmt, with fmt's text TOLD by the authors' own Lean function (tested against real Go, not proved from fmt's source: count such statements apart). THE CARD IS WHAT COUNTS. Prove the row's statement (the work); the ties are given (YtfdaakghkhecgaaGreatDoorTie.lean); close each card by the builder's one call (the guide's Derived/Test/ToyasCard.lean, 'card_holds'). Laid BY PROGRAM, IN A SANDBOX (cutbox-door.mjs). By AI agents, Wed Nov 11 2026. No macro, syntax, notation, axiom, sorry.
-/
import Derived.Test.YtfdaakghkhecgaaGreatDoorRows
import GoSem.ClaimSeven
namespace Go.Proofs.YtfdaakghkhecgaaGreatDoor
namespace Rows

/-- THE TIED CARD OF 'burgeelaw1.VersionsMatchSpec'. -/
def versionsMatchSpecCard : Claim7 := { stood := { row := versionsMatchSpecRow, standIns := [], harness := (true, "0ccaf55e1c8a53619f6375ce83d9ae12bc24a967f0824e4ef51832bb915863aa"), looks := true }, kinds := [], alts := [], laidByText := true, laidKinds := [.data, .data, .data, .data, .sentinel, .sentinel, .pinned], laidTests := true, laidLooks := .later }
def VersionsMatchSpecCardSaid : Prop := Claim7.holds Tryz.pinned (.plain (OpenSpec.ofChange versionsMatchSpecSpec)) versionsMatchSpecCard

/-- THE SECOND FORM's CARD OF 'burgeelaw1.VersionsMatchSpec'. -/
def versionsMatchSpecUptoCard : Claim7 := { stood := { row := versionsMatchSpecUptoRow, standIns := [], harness := (true, "0ccaf55e1c8a53619f6375ce83d9ae12bc24a967f0824e4ef51832bb915863aa"), looks := true }, kinds := [], alts := [], laidByText := true, laidKinds := [.data, .data, .data, .data, .sentinel, .sentinel, .pinned], laidTests := true, laidLooks := .later }
def VersionsMatchSpecUptoCardSaid : Prop := Claim7.holds Tryz.pinned (.plain (OpenSpec.upto versionsMatchSpecSpec)) versionsMatchSpecUptoCard
end Rows
end Go.Proofs.YtfdaakghkhecgaaGreatDoor
