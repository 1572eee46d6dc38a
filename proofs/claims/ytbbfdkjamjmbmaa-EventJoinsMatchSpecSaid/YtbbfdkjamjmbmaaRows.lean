/-
  No cell of these rows narrows 'for every input' (looked for: loops, veiled, ifaces, maps, wideKeys, modest, calm, conditions, laid).
  DERIVED. THE GIVEN ROWS OF THIS SEAT. 4 by the template 'for every input the law returns true; each argument reads behind the call as it read before'; 0 by the template 'total and deterministic' (their statements: YtbbfdkjamjmbmaaTotals.lean).
  GIVEN WITH THE SEED: the statements are not yours to turn. If you find one false, say at which input.
  Laid BY PROGRAM, IN A SANDBOX (cutbox-rows.mjs): the forced cells as the released guide's own fill.sh prints them over the translation 864d7bb96195ceda… (all of the seat's roots in one cut). By AI agents, Wed Nov 11 2026. No macro, syntax, notation, axiom, sorry.
-/
import Derived.Test.YtbbfdkjamjmbmaaChecked
import GoSem.Claim
import GoSem.ClaimJoined
import GoSem.ClaimMapViews
import Derived.JoinedTies
import Derived.KernelRfl
namespace Go.Proofs.Ytbbfdkjamjmbmaa
/- THE CELL 'sum', in the pinned program and in every row, IS THE sha256 OF THE DUMP (.gsa) THAT YtbbfdkjamjmbmaaProg.lean LOADS. Nothing in Lean hashes anything: it is a label: what it is worth is what the hold of that sum in a sandbox is worth. -/
noncomputable def Try.pinned : Pinned := { name := "ytbbfdkjamjmbmaa", sum := "864d7bb96195ceda6ba2d6121458d95c7256bcf69e30feab122b5b477e909a8d", checked := Try.checked }
namespace Rows
def none {H : Type} : Left H := { results := [], args := [] }

/-- 'burgeelaw8.MetricSamplesMatchSpec': WHATEVER THE INPUT: true; the input reads as it did. -/
def metricSamplesMatchSpecSpec : ChangeSpec := { name := "metricSamplesMatchSpec", fn := fun _ => fun
  | [d1, d2, d3] => { results := [.lit (.bool true)], args := [d1, d2, d3] }
  | _ => none }
def metricSamplesMatchSpecRow : OpenClaim := { program := "ytbbfdkjamjmbmaa", sum := "864d7bb96195ceda6ba2d6121458d95c7256bcf69e30feab122b5b477e909a8d", func := "burgee/burgeelaw8.MetricSamplesMatchSpec", spec := "metricSamplesMatchSpec", plainKeys := false, apart := false }
def MetricSamplesMatchSpecSaid : Prop := metricSamplesMatchSpecRow.holds Try.pinned (OpenSpec.ofChange metricSamplesMatchSpecSpec)

/-- ITS FALSE NEIGHBOUR: 'it returns false'. Refute it at one input. -/
def metricSamplesMatchSpecWrong : ChangeSpec := { name := "metricSamplesMatchSpec", fn := fun _ => fun
  | [d1, d2, d3] => { results := [.lit (.bool false)], args := [d1, d2, d3] }
  | _ => none }
def MetricSamplesMatchSpecWrongFalsely : Prop := metricSamplesMatchSpecRow.holds Try.pinned (OpenSpec.ofChange metricSamplesMatchSpecWrong)

/-- 'burgeelaw7.EventKnownMatchesSpec': WHATEVER THE INPUT: true; the input reads as it did. -/
def eventKnownMatchesSpecSpec : ChangeSpec := { name := "eventKnownMatchesSpec", fn := fun _ => fun
  | [d1, d2] => { results := [.lit (.bool true)], args := [d1, d2] }
  | _ => none }
def eventKnownMatchesSpecRow : OpenClaim := { program := "ytbbfdkjamjmbmaa", sum := "864d7bb96195ceda6ba2d6121458d95c7256bcf69e30feab122b5b477e909a8d", func := "burgee/burgeelaw7.EventKnownMatchesSpec", spec := "eventKnownMatchesSpec", inPlace := ["internal/bytealg.abigen_runtime_cmpstring"], plainKeys := false, apart := false }
def EventKnownMatchesSpecSaid : Prop := eventKnownMatchesSpecRow.holds Try.pinned (OpenSpec.ofChange eventKnownMatchesSpecSpec)

/-- ITS FALSE NEIGHBOUR: 'it returns false'. Refute it at one input. -/
def eventKnownMatchesSpecWrong : ChangeSpec := { name := "eventKnownMatchesSpec", fn := fun _ => fun
  | [d1, d2] => { results := [.lit (.bool false)], args := [d1, d2] }
  | _ => none }
def EventKnownMatchesSpecWrongFalsely : Prop := eventKnownMatchesSpecRow.holds Try.pinned (OpenSpec.ofChange eventKnownMatchesSpecWrong)

/-- 'burgeelaw7.EventJoinsMatchSpec': WHATEVER THE INPUT: true; the input reads as it did. -/
def eventJoinsMatchSpecSpec : ChangeSpec := { name := "eventJoinsMatchSpec", fn := fun _ => fun
  | [d1, d2] => { results := [.lit (.bool true)], args := [d1, d2] }
  | _ => none }
def eventJoinsMatchSpecRow : OpenClaim := { program := "ytbbfdkjamjmbmaa", sum := "864d7bb96195ceda6ba2d6121458d95c7256bcf69e30feab122b5b477e909a8d", func := "burgee/burgeelaw7.EventJoinsMatchSpec", spec := "eventJoinsMatchSpec", inPlace := ["internal/bytealg.abigen_runtime_cmpstring"], unfollowed := true, recurses := true, plainKeys := false, apart := false }
def EventJoinsMatchSpecSaid : Prop := eventJoinsMatchSpecRow.holds Try.pinned (OpenSpec.ofChange eventJoinsMatchSpecSpec)

/-- ITS FALSE NEIGHBOUR: 'it returns false'. Refute it at one input. -/
def eventJoinsMatchSpecWrong : ChangeSpec := { name := "eventJoinsMatchSpec", fn := fun _ => fun
  | [d1, d2] => { results := [.lit (.bool false)], args := [d1, d2] }
  | _ => none }
def EventJoinsMatchSpecWrongFalsely : Prop := eventJoinsMatchSpecRow.holds Try.pinned (OpenSpec.ofChange eventJoinsMatchSpecWrong)

/-- 'burgeelaw8.MetricQuantilesDivide': WHATEVER THE INPUT: true; the input reads as it did. -/
def metricQuantilesDivideSpec : ChangeSpec := { name := "metricQuantilesDivide", fn := fun _ => fun
  | [d1, d2] => { results := [.lit (.bool true)], args := [d1, d2] }
  | _ => none }
def metricQuantilesDivideRow : OpenClaim := { program := "ytbbfdkjamjmbmaa", sum := "864d7bb96195ceda6ba2d6121458d95c7256bcf69e30feab122b5b477e909a8d", func := "burgee/burgeelaw8.MetricQuantilesDivide", spec := "metricQuantilesDivide", recurses := true, plainKeys := false, apart := false }
def MetricQuantilesDivideSaid : Prop := metricQuantilesDivideRow.holds Try.pinned (OpenSpec.ofChange metricQuantilesDivideSpec)

/-- ITS FALSE NEIGHBOUR: 'it returns false'. Refute it at one input. -/
def metricQuantilesDivideWrong : ChangeSpec := { name := "metricQuantilesDivide", fn := fun _ => fun
  | [d1, d2] => { results := [.lit (.bool false)], args := [d1, d2] }
  | _ => none }
def MetricQuantilesDivideWrongFalsely : Prop := metricQuantilesDivideRow.holds Try.pinned (OpenSpec.ofChange metricQuantilesDivideWrong)

/- THE SECOND FORM. 'bulk': how many values and letters a reading holds, each counted each time it is reached (what is shared counts as often as it is met; a slice's spare places count too). A statement '..UptoSaid' is the law's where the arguments, and the package variables that the reading takes, are together of bulk at most 1048576: NARROWER than '..Said'. Prove '..Said' where nothing that the law and all that it calls make is longer than what came in: it says more and counts as full. Else prove '..UptoSaid'. A law counts once. -/
mutual
def uptoBulk {H : Type} : DataW H → Nat
  | .lit (.string bytes) => bytes.length + 1
  | .lit _ => 1
  | .nil => 1
  | .ptr d => uptoBulk d + 1
  | .slice elems spare => uptoBulkAll elems + uptoBulkAll spare + 1
  | .agg parts => uptoBulkAll parts + 1
  | .iface _ d => uptoBulk d + 1
  | .map entries => uptoBulkEntries entries + 1
  | .held _ => 1
def uptoBulkAll {H : Type} : List (DataW H) → Nat
  | [] => 0
  | d :: r => uptoBulk d + uptoBulkAll r
def uptoBulkEntries {H : Type} : List (Lit × DataW H) → Nat
  | [] => 0
  | x :: r => uptoBulkEntry x + uptoBulkEntries r
def uptoBulkEntry {H : Type} : Lit × DataW H → Nat
  | (.string bytes, d) => bytes.length + uptoBulk d + 1
  | (_, d) => uptoBulk d + 1
 end
def uptoSmall : (H : Type) → List (DataW H) → Bool := fun _ ds => decide (uptoBulkAll ds ≤ 1048576)
def OpenSpec.upto (s : _root_.Go.ChangeSpec) : _root_.Go.OpenSpec := { _root_.Go.OpenSpec.ofChange s with cond := some uptoSmall }

/-- 'burgeelaw8.MetricSamplesMatchSpec', WHERE WHAT IT READS IS OF BULK AT MOST 1048576: true; the input reads as it did. -/
def metricSamplesMatchSpecUptoRow : OpenClaim := { program := "ytbbfdkjamjmbmaa", sum := "864d7bb96195ceda6ba2d6121458d95c7256bcf69e30feab122b5b477e909a8d", func := "burgee/burgeelaw8.MetricSamplesMatchSpec", spec := "metricSamplesMatchSpec", plainKeys := false, apart := false, narrowed := true }
def MetricSamplesMatchSpecUptoSaid : Prop := metricSamplesMatchSpecUptoRow.holds Try.pinned (OpenSpec.upto metricSamplesMatchSpecSpec)

/-- 'burgeelaw7.EventKnownMatchesSpec', WHERE WHAT IT READS IS OF BULK AT MOST 1048576: true; the input reads as it did. -/
def eventKnownMatchesSpecUptoRow : OpenClaim := { program := "ytbbfdkjamjmbmaa", sum := "864d7bb96195ceda6ba2d6121458d95c7256bcf69e30feab122b5b477e909a8d", func := "burgee/burgeelaw7.EventKnownMatchesSpec", spec := "eventKnownMatchesSpec", inPlace := ["internal/bytealg.abigen_runtime_cmpstring"], plainKeys := false, apart := false, narrowed := true }
def EventKnownMatchesSpecUptoSaid : Prop := eventKnownMatchesSpecUptoRow.holds Try.pinned (OpenSpec.upto eventKnownMatchesSpecSpec)

/-- 'burgeelaw7.EventJoinsMatchSpec', WHERE WHAT IT READS IS OF BULK AT MOST 1048576: true; the input reads as it did. -/
def eventJoinsMatchSpecUptoRow : OpenClaim := { program := "ytbbfdkjamjmbmaa", sum := "864d7bb96195ceda6ba2d6121458d95c7256bcf69e30feab122b5b477e909a8d", func := "burgee/burgeelaw7.EventJoinsMatchSpec", spec := "eventJoinsMatchSpec", inPlace := ["internal/bytealg.abigen_runtime_cmpstring"], unfollowed := true, recurses := true, plainKeys := false, apart := false, narrowed := true }
def EventJoinsMatchSpecUptoSaid : Prop := eventJoinsMatchSpecUptoRow.holds Try.pinned (OpenSpec.upto eventJoinsMatchSpecSpec)

/-- 'burgeelaw8.MetricQuantilesDivide', WHERE WHAT IT READS IS OF BULK AT MOST 1048576: true; the input reads as it did. -/
def metricQuantilesDivideUptoRow : OpenClaim := { program := "ytbbfdkjamjmbmaa", sum := "864d7bb96195ceda6ba2d6121458d95c7256bcf69e30feab122b5b477e909a8d", func := "burgee/burgeelaw8.MetricQuantilesDivide", spec := "metricQuantilesDivide", recurses := true, plainKeys := false, apart := false, narrowed := true }
def MetricQuantilesDivideUptoSaid : Prop := metricQuantilesDivideUptoRow.holds Try.pinned (OpenSpec.upto metricQuantilesDivideSpec)

end Rows
end Go.Proofs.Ytbbfdkjamjmbmaa
