/-
  DERIVED. GIVEN WITH THE SEED: THE CARDS: each row of YtiogfdkdhfmamaaGreatDoorRows.lean that lists a variable, with what it lists TIED to the program's text (the seventh form; the later family's looks); each row that meets fmt, with fmt's text TOLD by the authors' own Lean function (tested against real Go, not proved from fmt's source: count such statements apart). THE CARD IS WHAT COUNTS. Prove the row's statement (the work); the ties are given (YtiogfdkdhfmamaaGreatDoorTie.lean); close each card by the builder's one call (the guide's Derived/Test/ToyasCard.lean, 'card_holds'). Laid BY PROGRAM, IN A SANDBOX (cutbox-door.mjs). By AI agents, Wed Nov 11 2026. No macro, syntax, notation, axiom, sorry.
-/
import Derived.Test.YtiogfdkdhfmamaaGreatDoorRows
import GoSem.ClaimSeven
namespace Go.Proofs.YtiogfdkdhfmamaaGreatDoor
namespace Rows

/-- THE TIED CARD OF 'burgeelaw1.RangeSetsMatchSpec'. -/
def rangeSetsMatchSpecCard : Claim7 := { stood := { row := rangeSetsMatchSpecRow, standIns := [], harness := (true, "21902d4f4992792b64026b96564e5edcbcf20c45fa2e62c42303e8afe9fda43a"), looks := false }, kinds := [], alts := [], laidByText := true, laidKinds := [.data, .pinned], laidTests := true, laidLooks := .later }
def RangeSetsMatchSpecCardSaid : Prop := Claim7.holds Tryz.pinned (.plain (OpenSpec.ofChange rangeSetsMatchSpecSpec)) rangeSetsMatchSpecCard

/-- THE SECOND FORM's CARD OF 'burgeelaw1.RangeSetsMatchSpec'. -/
def rangeSetsMatchSpecUptoCard : Claim7 := { stood := { row := rangeSetsMatchSpecUptoRow, standIns := [], harness := (true, "21902d4f4992792b64026b96564e5edcbcf20c45fa2e62c42303e8afe9fda43a"), looks := false }, kinds := [], alts := [], laidByText := true, laidKinds := [.data, .pinned], laidTests := true, laidLooks := .later }
def RangeSetsMatchSpecUptoCardSaid : Prop := Claim7.holds Tryz.pinned (.plain (OpenSpec.upto rangeSetsMatchSpecSpec)) rangeSetsMatchSpecUptoCard
end Rows
end Go.Proofs.YtiogfdkdhfmamaaGreatDoor
