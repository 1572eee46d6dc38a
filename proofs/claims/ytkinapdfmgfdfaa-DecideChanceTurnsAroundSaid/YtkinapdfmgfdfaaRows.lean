/-
  No cell of these rows narrows 'for every input' (looked for: loops, veiled, ifaces, maps, wideKeys, modest, calm, conditions, laid).
  DERIVED. THE GIVEN ROWS OF THIS SEAT. 3 by the template 'for every input the law returns true; each argument reads behind the call as it read before'; 0 by the template 'total and deterministic' (their statements: YtkinapdfmgfdfaaTotals.lean).
  GIVEN WITH THE SEED: the statements are not yours to turn. If you find one false, say at which input.
  Laid BY PROGRAM, IN A SANDBOX (cutbox-rows.mjs): the forced cells as the released guide's own fill.sh prints them over the translation d663c620bb1ffda1… (all of the seat's roots in one cut). By AI agents, Wed Nov 11 2026. No macro, syntax, notation, axiom, sorry.
-/
import Derived.Test.YtkinapdfmgfdfaaChecked
import GoSem.Claim
import GoSem.ClaimJoined
import GoSem.ClaimMapViews
import Derived.JoinedTies
import Derived.KernelRfl
namespace Go.Proofs.Ytkinapdfmgfdfaa
/- THE CELL 'sum', in the pinned program and in every row, IS THE sha256 OF THE DUMP (.gsa) THAT YtkinapdfmgfdfaaProg.lean LOADS. Nothing in Lean hashes anything: it is a label: what it is worth is what the hold of that sum in a sandbox is worth. -/
noncomputable def Try.pinned : Pinned := { name := "ytkinapdfmgfdfaa", sum := "d663c620bb1ffda1b63b2dae676e3f0f1dc1226fe7d62d0106ef577c860aeb59", checked := Try.checked }
namespace Rows
def none {H : Type} : Left H := { results := [], args := [] }

/-- 'burgeelaw9.DecideVerdictsStay': WHATEVER THE INPUT: true; the input reads as it did. -/
def decideVerdictsStaySpec : ChangeSpec := { name := "decideVerdictsStay", fn := fun _ => fun
  | [d1, d2, d3, d4, d5] => { results := [.lit (.bool true)], args := [d1, d2, d3, d4, d5] }
  | _ => none }
def decideVerdictsStayRow : OpenClaim := { program := "ytkinapdfmgfdfaa", sum := "d663c620bb1ffda1b63b2dae676e3f0f1dc1226fe7d62d0106ef577c860aeb59", func := "burgee/burgeelaw9.DecideVerdictsStay", spec := "decideVerdictsStay", unfollowed := true, recurses := true, plainKeys := false, apart := false }
def DecideVerdictsStaySaid : Prop := decideVerdictsStayRow.holds Try.pinned (OpenSpec.ofChange decideVerdictsStaySpec)

/-- ITS FALSE NEIGHBOUR: 'it returns false'. Refute it at one input. -/
def decideVerdictsStayWrong : ChangeSpec := { name := "decideVerdictsStay", fn := fun _ => fun
  | [d1, d2, d3, d4, d5] => { results := [.lit (.bool false)], args := [d1, d2, d3, d4, d5] }
  | _ => none }
def DecideVerdictsStayWrongFalsely : Prop := decideVerdictsStayRow.holds Try.pinned (OpenSpec.ofChange decideVerdictsStayWrong)

/-- 'burgeelaw9.DecideChanceTurnsAround': WHATEVER THE INPUT: true; the input reads as it did. -/
def decideChanceTurnsAroundSpec : ChangeSpec := { name := "decideChanceTurnsAround", fn := fun _ => fun
  | [d1, d2, d3, d4] => { results := [.lit (.bool true)], args := [d1, d2, d3, d4] }
  | _ => none }
def decideChanceTurnsAroundRow : OpenClaim := { program := "ytkinapdfmgfdfaa", sum := "d663c620bb1ffda1b63b2dae676e3f0f1dc1226fe7d62d0106ef577c860aeb59", func := "burgee/burgeelaw9.DecideChanceTurnsAround", spec := "decideChanceTurnsAround", plainKeys := false, apart := false }
def DecideChanceTurnsAroundSaid : Prop := decideChanceTurnsAroundRow.holds Try.pinned (OpenSpec.ofChange decideChanceTurnsAroundSpec)

/-- ITS FALSE NEIGHBOUR: 'it returns false'. Refute it at one input. -/
def decideChanceTurnsAroundWrong : ChangeSpec := { name := "decideChanceTurnsAround", fn := fun _ => fun
  | [d1, d2, d3, d4] => { results := [.lit (.bool false)], args := [d1, d2, d3, d4] }
  | _ => none }
def DecideChanceTurnsAroundWrongFalsely : Prop := decideChanceTurnsAroundRow.holds Try.pinned (OpenSpec.ofChange decideChanceTurnsAroundWrong)

/-- 'burgeelaw9.DecideDecisionsStay': WHATEVER THE INPUT: true; the input reads as it did. -/
def decideDecisionsStaySpec : ChangeSpec := { name := "decideDecisionsStay", fn := fun _ => fun
  | [d1, d2, d3] => { results := [.lit (.bool true)], args := [d1, d2, d3] }
  | _ => none }
def decideDecisionsStayRow : OpenClaim := { program := "ytkinapdfmgfdfaa", sum := "d663c620bb1ffda1b63b2dae676e3f0f1dc1226fe7d62d0106ef577c860aeb59", func := "burgee/burgeelaw9.DecideDecisionsStay", spec := "decideDecisionsStay", unfollowed := true, recurses := true, plainKeys := false, apart := false }
def DecideDecisionsStaySaid : Prop := decideDecisionsStayRow.holds Try.pinned (OpenSpec.ofChange decideDecisionsStaySpec)

/-- ITS FALSE NEIGHBOUR: 'it returns false'. Refute it at one input. -/
def decideDecisionsStayWrong : ChangeSpec := { name := "decideDecisionsStay", fn := fun _ => fun
  | [d1, d2, d3] => { results := [.lit (.bool false)], args := [d1, d2, d3] }
  | _ => none }
def DecideDecisionsStayWrongFalsely : Prop := decideDecisionsStayRow.holds Try.pinned (OpenSpec.ofChange decideDecisionsStayWrong)

/- THE SECOND FORM. 'bulk': how many values and letters a reading holds, each counted each time it is reached (what is shared counts as often as it is met; a slice's spare places count too). A statement '..UptoSaid' is the law's where the arguments, and the package variables that the reading takes, are together of bulk at most 1048576: NARROWER than '..Said'. Prove '..Said' where nothing that the law and all that it calls make is longer than what came in: it says more and counts as full. Else prove '..UptoSaid'. A law counts once. -/
mutual
def uptoBulk {H : Type} : DataW H → Nat
  | .lit (.string bytes) => bytes.length + 1
  | .lit _ => 1
  | .nil => 1
  | .ptr d => uptoBulk d + 1
  | .slice elems spare => uptoBulkAll elems + uptoBulkAll spare + 1
  | .agg parts => uptoBulkAll parts + 1
  | .iface _ d => uptoBulk d + 1
  | .map entries => uptoBulkEntries entries + 1
  | .held _ => 1
def uptoBulkAll {H : Type} : List (DataW H) → Nat
  | [] => 0
  | d :: r => uptoBulk d + uptoBulkAll r
def uptoBulkEntries {H : Type} : List (Lit × DataW H) → Nat
  | [] => 0
  | x :: r => uptoBulkEntry x + uptoBulkEntries r
def uptoBulkEntry {H : Type} : Lit × DataW H → Nat
  | (.string bytes, d) => bytes.length + uptoBulk d + 1
  | (_, d) => uptoBulk d + 1
 end
def uptoSmall : (H : Type) → List (DataW H) → Bool := fun _ ds => decide (uptoBulkAll ds ≤ 1048576)
def OpenSpec.upto (s : _root_.Go.ChangeSpec) : _root_.Go.OpenSpec := { _root_.Go.OpenSpec.ofChange s with cond := some uptoSmall }

/-- 'burgeelaw9.DecideVerdictsStay', WHERE WHAT IT READS IS OF BULK AT MOST 1048576: true; the input reads as it did. -/
def decideVerdictsStayUptoRow : OpenClaim := { program := "ytkinapdfmgfdfaa", sum := "d663c620bb1ffda1b63b2dae676e3f0f1dc1226fe7d62d0106ef577c860aeb59", func := "burgee/burgeelaw9.DecideVerdictsStay", spec := "decideVerdictsStay", unfollowed := true, recurses := true, plainKeys := false, apart := false, narrowed := true }
def DecideVerdictsStayUptoSaid : Prop := decideVerdictsStayUptoRow.holds Try.pinned (OpenSpec.upto decideVerdictsStaySpec)

/-- 'burgeelaw9.DecideChanceTurnsAround', WHERE WHAT IT READS IS OF BULK AT MOST 1048576: true; the input reads as it did. -/
def decideChanceTurnsAroundUptoRow : OpenClaim := { program := "ytkinapdfmgfdfaa", sum := "d663c620bb1ffda1b63b2dae676e3f0f1dc1226fe7d62d0106ef577c860aeb59", func := "burgee/burgeelaw9.DecideChanceTurnsAround", spec := "decideChanceTurnsAround", plainKeys := false, apart := false, narrowed := true }
def DecideChanceTurnsAroundUptoSaid : Prop := decideChanceTurnsAroundUptoRow.holds Try.pinned (OpenSpec.upto decideChanceTurnsAroundSpec)

/-- 'burgeelaw9.DecideDecisionsStay', WHERE WHAT IT READS IS OF BULK AT MOST 1048576: true; the input reads as it did. -/
def decideDecisionsStayUptoRow : OpenClaim := { program := "ytkinapdfmgfdfaa", sum := "d663c620bb1ffda1b63b2dae676e3f0f1dc1226fe7d62d0106ef577c860aeb59", func := "burgee/burgeelaw9.DecideDecisionsStay", spec := "decideDecisionsStay", unfollowed := true, recurses := true, plainKeys := false, apart := false, narrowed := true }
def DecideDecisionsStayUptoSaid : Prop := decideDecisionsStayUptoRow.holds Try.pinned (OpenSpec.upto decideDecisionsStaySpec)

end Rows
end Go.Proofs.Ytkinapdfmgfdfaa
