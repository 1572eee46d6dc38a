/-
  No cell of these rows narrows 'for every input' (looked for: loops, veiled, ifaces, maps, wideKeys, modest, calm, conditions, laid).
  DERIVED. THE GIVEN ROWS OF THIS SEAT. 3 by the template 'for every input the law returns true; each argument reads behind the call as it read before'; 0 by the template 'total and deterministic' (their statements: YtacchooggifnhaaTotals.lean).
  GIVEN WITH THE SEED: the statements are not yours to turn. If you find one false, say at which input.
  Laid BY PROGRAM, IN A SANDBOX (cutbox-rows.mjs): the forced cells as the released guide's own fill.sh prints them over the translation d1a5863c9a463047… (all of the seat's roots in one cut). By AI agents, Wed Nov 11 2026. No macro, syntax, notation, axiom, sorry.
-/
import Derived.Test.YtacchooggifnhaaChecked
import GoSem.Claim
import GoSem.ClaimJoined
import GoSem.ClaimMapViews
import Derived.JoinedTies
import Derived.KernelRfl
namespace Go.Proofs.Ytacchooggifnhaa
/- THE CELL 'sum', in the pinned program and in every row, IS THE sha256 OF THE DUMP (.gsa) THAT YtacchooggifnhaaProg.lean LOADS. Nothing in Lean hashes anything: it is a label: what it is worth is what the hold of that sum in a sandbox is worth. -/
noncomputable def Try.pinned : Pinned := { name := "ytacchooggifnhaa", sum := "d1a5863c9a4630475d485c9dcbc9aaffb8dac3aeb4252b0b866d28f890a9951e", checked := Try.checked }
namespace Rows
def none {H : Type} : Left H := { results := [], args := [] }

/-- 'burgeelaw7.EventTalliesAddUp': WHATEVER THE INPUT: true; the input reads as it did. -/
def eventTalliesAddUpSpec : ChangeSpec := { name := "eventTalliesAddUp", fn := fun _ => fun
  | [d1, d2, d3, d4, d5, d6] => { results := [.lit (.bool true)], args := [d1, d2, d3, d4, d5, d6] }
  | _ => none }
def eventTalliesAddUpRow : OpenClaim := { program := "ytacchooggifnhaa", sum := "d1a5863c9a4630475d485c9dcbc9aaffb8dac3aeb4252b0b866d28f890a9951e", func := "burgee/burgeelaw7.EventTalliesAddUp", spec := "eventTalliesAddUp", inPlace := ["internal/bytealg.abigen_runtime_cmpstring"], unfollowed := true, recurses := true, apart := false }
def EventTalliesAddUpSaid : Prop := eventTalliesAddUpRow.holds Try.pinned (OpenSpec.ofChange eventTalliesAddUpSpec)

/-- ITS FALSE NEIGHBOUR: 'it returns false'. Refute it at one input. -/
def eventTalliesAddUpWrong : ChangeSpec := { name := "eventTalliesAddUp", fn := fun _ => fun
  | [d1, d2, d3, d4, d5, d6] => { results := [.lit (.bool false)], args := [d1, d2, d3, d4, d5, d6] }
  | _ => none }
def EventTalliesAddUpWrongFalsely : Prop := eventTalliesAddUpRow.holds Try.pinned (OpenSpec.ofChange eventTalliesAddUpWrong)

/-- 'burgeelaw7.EventVisitsMatchSpec': WHATEVER THE INPUT: true; the input reads as it did. -/
def eventVisitsMatchSpecSpec : ChangeSpec := { name := "eventVisitsMatchSpec", fn := fun _ => fun
  | [d1, d2, d3, d4, d5, d6] => { results := [.lit (.bool true)], args := [d1, d2, d3, d4, d5, d6] }
  | _ => none }
def eventVisitsMatchSpecRow : OpenClaim := { program := "ytacchooggifnhaa", sum := "d1a5863c9a4630475d485c9dcbc9aaffb8dac3aeb4252b0b866d28f890a9951e", func := "burgee/burgeelaw7.EventVisitsMatchSpec", spec := "eventVisitsMatchSpec", inPlace := ["internal/bytealg.abigen_runtime_cmpstring"], unfollowed := true, recurses := true, apart := false }
def EventVisitsMatchSpecSaid : Prop := eventVisitsMatchSpecRow.holds Try.pinned (OpenSpec.ofChange eventVisitsMatchSpecSpec)

/-- ITS FALSE NEIGHBOUR: 'it returns false'. Refute it at one input. -/
def eventVisitsMatchSpecWrong : ChangeSpec := { name := "eventVisitsMatchSpec", fn := fun _ => fun
  | [d1, d2, d3, d4, d5, d6] => { results := [.lit (.bool false)], args := [d1, d2, d3, d4, d5, d6] }
  | _ => none }
def EventVisitsMatchSpecWrongFalsely : Prop := eventVisitsMatchSpecRow.holds Try.pinned (OpenSpec.ofChange eventVisitsMatchSpecWrong)

/-- 'burgeelaw7.EventSubjectsMatchSpec': WHATEVER THE INPUT: true; the input reads as it did. -/
def eventSubjectsMatchSpecSpec : ChangeSpec := { name := "eventSubjectsMatchSpec", fn := fun _ => fun
  | [d1, d2, d3, d4, d5, d6] => { results := [.lit (.bool true)], args := [d1, d2, d3, d4, d5, d6] }
  | _ => none }
def eventSubjectsMatchSpecRow : OpenClaim := { program := "ytacchooggifnhaa", sum := "d1a5863c9a4630475d485c9dcbc9aaffb8dac3aeb4252b0b866d28f890a9951e", func := "burgee/burgeelaw7.EventSubjectsMatchSpec", spec := "eventSubjectsMatchSpec", inPlace := ["internal/bytealg.abigen_runtime_cmpstring"], unfollowed := true, recurses := true, apart := false }
def EventSubjectsMatchSpecSaid : Prop := eventSubjectsMatchSpecRow.holds Try.pinned (OpenSpec.ofChange eventSubjectsMatchSpecSpec)

/-- ITS FALSE NEIGHBOUR: 'it returns false'. Refute it at one input. -/
def eventSubjectsMatchSpecWrong : ChangeSpec := { name := "eventSubjectsMatchSpec", fn := fun _ => fun
  | [d1, d2, d3, d4, d5, d6] => { results := [.lit (.bool false)], args := [d1, d2, d3, d4, d5, d6] }
  | _ => none }
def EventSubjectsMatchSpecWrongFalsely : Prop := eventSubjectsMatchSpecRow.holds Try.pinned (OpenSpec.ofChange eventSubjectsMatchSpecWrong)

/- THE SECOND FORM. 'bulk': how many values and letters a reading holds, each counted each time it is reached (what is shared counts as often as it is met; a slice's spare places count too). A statement '..UptoSaid' is the law's where the arguments, and the package variables that the reading takes, are together of bulk at most 1048576: NARROWER than '..Said'. Prove '..Said' where nothing that the law and all that it calls make is longer than what came in: it says more and counts as full. Else prove '..UptoSaid'. A law counts once. -/
mutual
def uptoBulk {H : Type} : DataW H → Nat
  | .lit (.string bytes) => bytes.length + 1
  | .lit _ => 1
  | .nil => 1
  | .ptr d => uptoBulk d + 1
  | .slice elems spare => uptoBulkAll elems + uptoBulkAll spare + 1
  | .agg parts => uptoBulkAll parts + 1
  | .iface _ d => uptoBulk d + 1
  | .map entries => uptoBulkEntries entries + 1
  | .held _ => 1
def uptoBulkAll {H : Type} : List (DataW H) → Nat
  | [] => 0
  | d :: r => uptoBulk d + uptoBulkAll r
def uptoBulkEntries {H : Type} : List (Lit × DataW H) → Nat
  | [] => 0
  | x :: r => uptoBulkEntry x + uptoBulkEntries r
def uptoBulkEntry {H : Type} : Lit × DataW H → Nat
  | (.string bytes, d) => bytes.length + uptoBulk d + 1
  | (_, d) => uptoBulk d + 1
 end
def uptoSmall : (H : Type) → List (DataW H) → Bool := fun _ ds => decide (uptoBulkAll ds ≤ 1048576)
def OpenSpec.upto (s : _root_.Go.ChangeSpec) : _root_.Go.OpenSpec := { _root_.Go.OpenSpec.ofChange s with cond := some uptoSmall }

/-- 'burgeelaw7.EventTalliesAddUp', WHERE WHAT IT READS IS OF BULK AT MOST 1048576: true; the input reads as it did. -/
def eventTalliesAddUpUptoRow : OpenClaim := { program := "ytacchooggifnhaa", sum := "d1a5863c9a4630475d485c9dcbc9aaffb8dac3aeb4252b0b866d28f890a9951e", func := "burgee/burgeelaw7.EventTalliesAddUp", spec := "eventTalliesAddUp", inPlace := ["internal/bytealg.abigen_runtime_cmpstring"], unfollowed := true, recurses := true, apart := false, narrowed := true }
def EventTalliesAddUpUptoSaid : Prop := eventTalliesAddUpUptoRow.holds Try.pinned (OpenSpec.upto eventTalliesAddUpSpec)

/-- 'burgeelaw7.EventVisitsMatchSpec', WHERE WHAT IT READS IS OF BULK AT MOST 1048576: true; the input reads as it did. -/
def eventVisitsMatchSpecUptoRow : OpenClaim := { program := "ytacchooggifnhaa", sum := "d1a5863c9a4630475d485c9dcbc9aaffb8dac3aeb4252b0b866d28f890a9951e", func := "burgee/burgeelaw7.EventVisitsMatchSpec", spec := "eventVisitsMatchSpec", inPlace := ["internal/bytealg.abigen_runtime_cmpstring"], unfollowed := true, recurses := true, apart := false, narrowed := true }
def EventVisitsMatchSpecUptoSaid : Prop := eventVisitsMatchSpecUptoRow.holds Try.pinned (OpenSpec.upto eventVisitsMatchSpecSpec)

/-- 'burgeelaw7.EventSubjectsMatchSpec', WHERE WHAT IT READS IS OF BULK AT MOST 1048576: true; the input reads as it did. -/
def eventSubjectsMatchSpecUptoRow : OpenClaim := { program := "ytacchooggifnhaa", sum := "d1a5863c9a4630475d485c9dcbc9aaffb8dac3aeb4252b0b866d28f890a9951e", func := "burgee/burgeelaw7.EventSubjectsMatchSpec", spec := "eventSubjectsMatchSpec", inPlace := ["internal/bytealg.abigen_runtime_cmpstring"], unfollowed := true, recurses := true, apart := false, narrowed := true }
def EventSubjectsMatchSpecUptoSaid : Prop := eventSubjectsMatchSpecUptoRow.holds Try.pinned (OpenSpec.upto eventSubjectsMatchSpecSpec)

end Rows
end Go.Proofs.Ytacchooggifnhaa
