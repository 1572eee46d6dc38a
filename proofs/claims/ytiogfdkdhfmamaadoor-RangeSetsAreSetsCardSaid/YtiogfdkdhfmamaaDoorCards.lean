/-
  DERIVED. GIVEN WITH THE SEED: THE CARDS: each row of YtiogfdkdhfmamaaDoorRows.lean that lists a variable, with what it lists TIED to the program's text (the seventh form; the later family's looks); each row that meets fmt, with fmt's text TOLD by the authors' own Lean function (tested against real Go, not proved from fmt's source: count such statements apart). THE CARD IS WHAT COUNTS. Prove the row's statement (the work); the ties are given (YtiogfdkdhfmamaaDoorTie.lean); close each card by the builder's one call (the guide's Derived/Test/ToyasCard.lean, 'card_holds'). Laid BY PROGRAM, IN A SANDBOX (cutbox-door.mjs). By AI agents, Wed Nov 11 2026. No macro, syntax, notation, axiom, sorry.
-/
import Derived.Test.YtiogfdkdhfmamaaDoorRows
import GoSem.ClaimSeven
namespace Go.Proofs.YtiogfdkdhfmamaaDoor
namespace Rows

/-- THE TIED CARD OF 'burgeelaw1.RangeSetsAreSets'. -/
def rangeSetsAreSetsCard : Claim7 := { stood := { row := rangeSetsAreSetsRow, standIns := [], harness := (true, "de61e96e740239a23fb0bb179d2532d830adf722588314c2b4aa8b8502b58835"), looks := false }, kinds := [], alts := [], laidByText := true, laidKinds := [.data, .pinned], laidTests := true, laidLooks := .later }
def RangeSetsAreSetsCardSaid : Prop := Claim7.holds Tryd.pinned (.plain (OpenSpec.ofChange rangeSetsAreSetsSpec)) rangeSetsAreSetsCard

/-- THE SECOND FORM's CARD OF 'burgeelaw1.RangeSetsAreSets'. -/
def rangeSetsAreSetsUptoCard : Claim7 := { stood := { row := rangeSetsAreSetsUptoRow, standIns := [], harness := (true, "de61e96e740239a23fb0bb179d2532d830adf722588314c2b4aa8b8502b58835"), looks := false }, kinds := [], alts := [], laidByText := true, laidKinds := [.data, .pinned], laidTests := true, laidLooks := .later }
def RangeSetsAreSetsUptoCardSaid : Prop := Claim7.holds Tryd.pinned (.plain (OpenSpec.upto rangeSetsAreSetsSpec)) rangeSetsAreSetsUptoCard
end Rows
end Go.Proofs.YtiogfdkdhfmamaaDoor
