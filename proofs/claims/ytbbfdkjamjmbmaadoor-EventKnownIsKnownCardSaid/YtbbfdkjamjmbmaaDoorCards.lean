/-
  DERIVED. GIVEN WITH THE SEED: THE CARDS: each row of YtbbfdkjamjmbmaaDoorRows.lean that lists a variable, with what it lists TIED to the program's text (the seventh form; the later family's looks); each row that meets fmt, with fmt's text TOLD by the authors' own Lean function (tested against real Go, not proved from fmt's source: count such statements apart). THE CARD IS WHAT COUNTS. Prove the row's statement (the work); the ties are given (YtbbfdkjamjmbmaaDoorTie.lean); close each card by the builder's one call (the guide's Derived/Test/ToyasCard.lean, 'card_holds'). Laid BY PROGRAM, IN A SANDBOX (cutbox-door.mjs). By AI agents, Wed Nov 11 2026. No macro, syntax, notation, axiom, sorry.
-/
import Derived.Test.YtbbfdkjamjmbmaaDoorRows
import GoSem.ClaimSeven
namespace Go.Proofs.YtbbfdkjamjmbmaaDoor
namespace Rows

/-- THE TIED CARD OF 'burgeelaw7.EventJoinsAreAJoin'. -/
def eventJoinsAreAJoinCard : Claim7 := { stood := { row := eventJoinsAreAJoinRow, standIns := [], harness := (true, "80cdec5cca83cfe94a24f1be91a9c766d7f8db10e9f9c2f5d966ed7d86b720e1"), looks := false }, kinds := [], alts := [], laidByText := true, laidKinds := [.data, .data, .data], laidTests := true, laidLooks := .later }
def EventJoinsAreAJoinCardSaid : Prop := Claim7.holds Tryd.pinned (.plain (OpenSpec.ofChange eventJoinsAreAJoinSpec)) eventJoinsAreAJoinCard

/-- THE TIED CARD OF 'burgeelaw7.EventKnownIsKnown'. -/
def eventKnownIsKnownCard : Claim7 := { stood := { row := eventKnownIsKnownRow, standIns := [], harness := (true, "80cdec5cca83cfe94a24f1be91a9c766d7f8db10e9f9c2f5d966ed7d86b720e1"), looks := false }, kinds := [], alts := [], laidByText := true, laidKinds := [.data, .data, .data], laidTests := true, laidLooks := .later }
def EventKnownIsKnownCardSaid : Prop := Claim7.holds Tryd.pinned (.plain (OpenSpec.ofChange eventKnownIsKnownSpec)) eventKnownIsKnownCard

/-- THE SECOND FORM's CARD OF 'burgeelaw7.EventJoinsAreAJoin'. -/
def eventJoinsAreAJoinUptoCard : Claim7 := { stood := { row := eventJoinsAreAJoinUptoRow, standIns := [], harness := (true, "80cdec5cca83cfe94a24f1be91a9c766d7f8db10e9f9c2f5d966ed7d86b720e1"), looks := false }, kinds := [], alts := [], laidByText := true, laidKinds := [.data, .data, .data], laidTests := true, laidLooks := .later }
def EventJoinsAreAJoinUptoCardSaid : Prop := Claim7.holds Tryd.pinned (.plain (OpenSpec.upto eventJoinsAreAJoinSpec)) eventJoinsAreAJoinUptoCard

/-- THE SECOND FORM's CARD OF 'burgeelaw7.EventKnownIsKnown'. -/
def eventKnownIsKnownUptoCard : Claim7 := { stood := { row := eventKnownIsKnownUptoRow, standIns := [], harness := (true, "80cdec5cca83cfe94a24f1be91a9c766d7f8db10e9f9c2f5d966ed7d86b720e1"), looks := false }, kinds := [], alts := [], laidByText := true, laidKinds := [.data, .data, .data], laidTests := true, laidLooks := .later }
def EventKnownIsKnownUptoCardSaid : Prop := Claim7.holds Tryd.pinned (.plain (OpenSpec.upto eventKnownIsKnownSpec)) eventKnownIsKnownUptoCard
end Rows
end Go.Proofs.YtbbfdkjamjmbmaaDoor
