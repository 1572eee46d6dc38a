/-
  NARROWER THAN 'FOR EVERY INPUT', by the rows' own cells (each row's printed sentence says how): ValueOrdersMatchSpec: loops.
  DERIVED. THE GIVEN ROWS OF THIS SEAT. 3 by the template 'for every input the law returns true; each argument reads behind the call as it read before'; 0 by the template 'total and deterministic' (their statements: YtepgibhgjhjjaaaTotals.lean).
  GIVEN WITH THE SEED: the statements are not yours to turn. If you find one false, say at which input.
  Laid BY PROGRAM, IN A SANDBOX (cutbox-rows.mjs): the forced cells as the released guide's own fill.sh prints them over the translation 17e1064b01d2bbe0… (all of the seat's roots in one cut). By AI agents, Wed Nov 11 2026. No macro, syntax, notation, axiom, sorry.
-/
import Derived.Test.YtepgibhgjhjjaaaChecked
import GoSem.Claim
import GoSem.ClaimJoined
import GoSem.ClaimMapViews
import Derived.JoinedTies
import Derived.KernelRfl
namespace Go.Proofs.Ytepgibhgjhjjaaa
/- THE CELL 'sum', in the pinned program and in every row, IS THE sha256 OF THE DUMP (.gsa) THAT YtepgibhgjhjjaaaProg.lean LOADS. Nothing in Lean hashes anything: it is a label: what it is worth is what the hold of that sum in a sandbox is worth. -/
noncomputable def Try.pinned : Pinned := { name := "ytepgibhgjhjjaaa", sum := "17e1064b01d2bbe0b1ddc91696760018f06e1b0b2094ed4e9a12547fc99d0acf", checked := Try.checked }
namespace Rows
def none {H : Type} : Left H := { results := [], args := [] }

/-- 'burgeelaw1.BucketsMatchSpec': WHATEVER THE INPUT: true; the input reads as it did. -/
def bucketsMatchSpecSpec : ChangeSpec := { name := "bucketsMatchSpec", fn := fun _ => fun
  | [d1, d2] => { results := [.lit (.bool true)], args := [d1, d2] }
  | _ => none }
def bucketsMatchSpecRow : OpenClaim := { program := "ytepgibhgjhjjaaa", sum := "17e1064b01d2bbe0b1ddc91696760018f06e1b0b2094ed4e9a12547fc99d0acf", func := "burgee/burgeelaw1.BucketsMatchSpec", spec := "bucketsMatchSpec", apart := false }
def BucketsMatchSpecSaid : Prop := bucketsMatchSpecRow.holds Try.pinned (OpenSpec.ofChange bucketsMatchSpecSpec)

/-- ITS FALSE NEIGHBOUR: 'it returns false'. Refute it at one input. -/
def bucketsMatchSpecWrong : ChangeSpec := { name := "bucketsMatchSpec", fn := fun _ => fun
  | [d1, d2] => { results := [.lit (.bool false)], args := [d1, d2] }
  | _ => none }
def BucketsMatchSpecWrongFalsely : Prop := bucketsMatchSpecRow.holds Try.pinned (OpenSpec.ofChange bucketsMatchSpecWrong)

/-- 'burgeelaw1.ValueOrdersMatchSpec': WHATEVER THE INPUT: true; the input reads as it did. -/
def valueOrdersMatchSpecSpec : ChangeSpec := { name := "valueOrdersMatchSpec", fn := fun _ => fun
  | [d1, d2, d3] => { results := [.lit (.bool true)], args := [d1, d2, d3] }
  | _ => none }
def valueOrdersMatchSpecRow : OpenClaim := { program := "ytepgibhgjhjjaaa", sum := "17e1064b01d2bbe0b1ddc91696760018f06e1b0b2094ed4e9a12547fc99d0acf", func := "burgee/burgeelaw1.ValueOrdersMatchSpec", spec := "valueOrdersMatchSpec", inPlace := ["internal/bytealg.abigen_runtime_cmpstring"], unfollowed := true, recurses := true, loops := true, apart := false }
def ValueOrdersMatchSpecSaid : Prop := valueOrdersMatchSpecRow.holds Try.pinned (OpenSpec.ofChange valueOrdersMatchSpecSpec)

/-- ITS FALSE NEIGHBOUR: 'it returns false'. Refute it at one input. -/
def valueOrdersMatchSpecWrong : ChangeSpec := { name := "valueOrdersMatchSpec", fn := fun _ => fun
  | [d1, d2, d3] => { results := [.lit (.bool false)], args := [d1, d2, d3] }
  | _ => none }
def ValueOrdersMatchSpecWrongFalsely : Prop := valueOrdersMatchSpecRow.holds Try.pinned (OpenSpec.ofChange valueOrdersMatchSpecWrong)

/-- 'burgeelaw1.RatiosAddUp': WHATEVER THE INPUT: true; the input reads as it did. -/
def ratiosAddUpSpec : ChangeSpec := { name := "ratiosAddUp", fn := fun _ => fun
  | [d1, d2, d3] => { results := [.lit (.bool true)], args := [d1, d2, d3] }
  | _ => none }
def ratiosAddUpRow : OpenClaim := { program := "ytepgibhgjhjjaaa", sum := "17e1064b01d2bbe0b1ddc91696760018f06e1b0b2094ed4e9a12547fc99d0acf", func := "burgee/burgeelaw1.RatiosAddUp", spec := "ratiosAddUp", apart := false }
def RatiosAddUpSaid : Prop := ratiosAddUpRow.holds Try.pinned (OpenSpec.ofChange ratiosAddUpSpec)

/-- ITS FALSE NEIGHBOUR: 'it returns false'. Refute it at one input. -/
def ratiosAddUpWrong : ChangeSpec := { name := "ratiosAddUp", fn := fun _ => fun
  | [d1, d2, d3] => { results := [.lit (.bool false)], args := [d1, d2, d3] }
  | _ => none }
def RatiosAddUpWrongFalsely : Prop := ratiosAddUpRow.holds Try.pinned (OpenSpec.ofChange ratiosAddUpWrong)

/- THE SECOND FORM. 'bulk': how many values and letters a reading holds, each counted each time it is reached (what is shared counts as often as it is met; a slice's spare places count too). A statement '..UptoSaid' is the law's where the arguments, and the package variables that the reading takes, are together of bulk at most 1048576: NARROWER than '..Said'. Prove '..Said' where nothing that the law and all that it calls make is longer than what came in: it says more and counts as full. Else prove '..UptoSaid'. A law counts once. -/
mutual
def uptoBulk {H : Type} : DataW H → Nat
  | .lit (.string bytes) => bytes.length + 1
  | .lit _ => 1
  | .nil => 1
  | .ptr d => uptoBulk d + 1
  | .slice elems spare => uptoBulkAll elems + uptoBulkAll spare + 1
  | .agg parts => uptoBulkAll parts + 1
  | .iface _ d => uptoBulk d + 1
  | .map entries => uptoBulkEntries entries + 1
  | .held _ => 1
def uptoBulkAll {H : Type} : List (DataW H) → Nat
  | [] => 0
  | d :: r => uptoBulk d + uptoBulkAll r
def uptoBulkEntries {H : Type} : List (Lit × DataW H) → Nat
  | [] => 0
  | x :: r => uptoBulkEntry x + uptoBulkEntries r
def uptoBulkEntry {H : Type} : Lit × DataW H → Nat
  | (.string bytes, d) => bytes.length + uptoBulk d + 1
  | (_, d) => uptoBulk d + 1
 end
def uptoSmall : (H : Type) → List (DataW H) → Bool := fun _ ds => decide (uptoBulkAll ds ≤ 1048576)
def OpenSpec.upto (s : _root_.Go.ChangeSpec) : _root_.Go.OpenSpec := { _root_.Go.OpenSpec.ofChange s with cond := some uptoSmall }

/-- 'burgeelaw1.BucketsMatchSpec', WHERE WHAT IT READS IS OF BULK AT MOST 1048576: true; the input reads as it did. -/
def bucketsMatchSpecUptoRow : OpenClaim := { program := "ytepgibhgjhjjaaa", sum := "17e1064b01d2bbe0b1ddc91696760018f06e1b0b2094ed4e9a12547fc99d0acf", func := "burgee/burgeelaw1.BucketsMatchSpec", spec := "bucketsMatchSpec", apart := false, narrowed := true }
def BucketsMatchSpecUptoSaid : Prop := bucketsMatchSpecUptoRow.holds Try.pinned (OpenSpec.upto bucketsMatchSpecSpec)

/-- 'burgeelaw1.ValueOrdersMatchSpec', WHERE WHAT IT READS IS OF BULK AT MOST 1048576: true; the input reads as it did. -/
def valueOrdersMatchSpecUptoRow : OpenClaim := { program := "ytepgibhgjhjjaaa", sum := "17e1064b01d2bbe0b1ddc91696760018f06e1b0b2094ed4e9a12547fc99d0acf", func := "burgee/burgeelaw1.ValueOrdersMatchSpec", spec := "valueOrdersMatchSpec", inPlace := ["internal/bytealg.abigen_runtime_cmpstring"], unfollowed := true, recurses := true, loops := true, apart := false, narrowed := true }
def ValueOrdersMatchSpecUptoSaid : Prop := valueOrdersMatchSpecUptoRow.holds Try.pinned (OpenSpec.upto valueOrdersMatchSpecSpec)

/-- 'burgeelaw1.RatiosAddUp', WHERE WHAT IT READS IS OF BULK AT MOST 1048576: true; the input reads as it did. -/
def ratiosAddUpUptoRow : OpenClaim := { program := "ytepgibhgjhjjaaa", sum := "17e1064b01d2bbe0b1ddc91696760018f06e1b0b2094ed4e9a12547fc99d0acf", func := "burgee/burgeelaw1.RatiosAddUp", spec := "ratiosAddUp", apart := false, narrowed := true }
def RatiosAddUpUptoSaid : Prop := ratiosAddUpUptoRow.holds Try.pinned (OpenSpec.upto ratiosAddUpSpec)

end Rows
end Go.Proofs.Ytepgibhgjhjjaaa
