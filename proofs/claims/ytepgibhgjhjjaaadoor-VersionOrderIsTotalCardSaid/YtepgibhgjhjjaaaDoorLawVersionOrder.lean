/- CompareVersions is a total order of versions that are right, in which a version with Pre comes before the one without it: for all three versions the law returns true. No condition. -/
import Derived.Test.YtepgibhgjhjjaaaDoorCards
import Derived.Test.YtepgibhgjhjjaaaDoorTie
import Derived.Test.YtepgibhgjhjjaaaDoorFrame
import Derived.Test.YtepgibhgjhjjaaaDoorVerLaw
import Derived.Test.YtepgibhgjhjjaaaDoorReadVer
import Derived.Deep.DeepHandedRow
import Derived.Lib.LaidTab
namespace Go.Proofs.YtepgibhgjhjjaaaDoor.lawVersionOrder
open Go.ChangeShapes Go.WideShapes Go.ChangeAt Go.RowKit

abbrev S3 (W : World) (b1 : Nat) (A1 : Array Value) (b2 : Nat) (A2 : Array Value) (b3 : Nat) (A3 : Array Value) (w' : World) : Prop :=
  Below W.heap.size W w' ∧ (∀ j, w'.cell? ⟨b1, j, none⟩ = A1[j]?) ∧ (∀ j, w'.cell? ⟨b2, j, none⟩ = A2[j]?) ∧ (∀ j, w'.cell? ⟨b3, j, none⟩ = A3[j]?)
theorem S3.start {W : World} {b1 : Nat} {A1 : Array Value} {b2 : Nat} {A2 : Array Value} {b3 : Nat} {A3 : Array Value} (h1 : Box W b1 A1) (h2 : Box W b2 A2) (h3 : Box W b3 A3) : S3 W b1 A1 b2 A2 b3 A3 W.drew :=
  ⟨(Below.refl _ _).drew, h1.2, h2.2, h3.2⟩
theorem S3.base {W w' : World} {b1 : Nat} {A1 : Array Value} {b2 : Nat} {A2 : Array Value} {b3 : Nat} {A3 : Array Value} (h : S3 W b1 A1 b2 A2 b3 A3 w') : Below W.heap.size W w' := h.1
theorem S3.ext {W w1 w2 : World} {b1 : Nat} {A1 : Array Value} {b2 : Nat} {A2 : Array Value} {b3 : Nat} {A3 : Array Value} (hb : Below w1.heap.size w1 w2) (h : S3 W b1 A1 b2 A2 b3 A3 w1) (h1 : Box W b1 A1) (h2 : Box W b2 A2) (h3 : Box W b3 A3) : S3 W b1 A1 b2 A2 b3 A3 w2 :=
  ⟨ext_trans h.1 hb, fun j => (hb.cell (p := ⟨b1, j, none⟩) (Nat.lt_of_lt_of_le h1.1 h.1.size)).trans (h.2.1 j), fun j => (hb.cell (p := ⟨b2, j, none⟩) (Nat.lt_of_lt_of_le h2.1 h.1.size)).trans (h.2.2.1 j), fun j => (hb.cell (p := ⟨b3, j, none⟩) (Nat.lt_of_lt_of_le h3.1 h.1.size)).trans (h.2.2.2 j)⟩

set_option maxHeartbeats 4000000 in
theorem walk (x y z : Ver) (cx cy cz : List Value) (w : World) (hx : RepVer w x cx) (hy : RepVer w y cy) (hz : RepVer w z cz) :
    Calls Tryd.prog 3 #[.agg cx.toArray, .agg cy.toArray, .agg cz.toArray] w fun e w' => e = .returned (.bool true) ∧ Below w.heap.size w w' := by
  obtain ⟨a1, c1, rfl, _⟩ := id hx
  obtain ⟨a2, c2, rfl, _⟩ := id hy
  obtain ⟨a3, c3, rfl, _⟩ := id hz
  go_enter Tryd.func3, Tryd.ntmps3
  go_wp2
  refine wp_box3 fun W hsz hbW hA hB hC => ?_
  clear hsz
  have HX := Lib.hid (hx.ext hbW)
  have HY := Lib.hid (hy.ext hbW)
  have HZ := Lib.hid (hz.ext hbW)
  have tok1 : True := trivial
  have tok2 : True := trivial
  go_region_held3 (S3 W w.heap.size #[Value.int IntKind.i64 x.ma, Value.int IntKind.i64 x.mi, Value.int IntKind.i64 x.pa, Value.slice a1 x.pre.length c1] (w.heap.size + 1) #[Value.int IntKind.i64 y.ma, Value.int IntKind.i64 y.mi, Value.int IntKind.i64 y.pa, Value.slice a2 y.pre.length c2] (w.heap.size + 2) #[Value.int IntKind.i64 z.ma, Value.int IntKind.i64 z.mi, Value.int IntKind.i64 z.pa, Value.slice a3 z.pre.length c3])
    (first | exact S3.start hA hB hC | exact S3.ext (by assumption) (by assumption) hA hB hC | assumption) (first | (have _t := tok1; go_at_call 4; refine (compareVersions_at x y _ _ _ (HX.out.ext (S3.base (by assumption))) (HY.out.ext (S3.base (by assumption)))).mono ?_; rintro e w2 ⟨rfl, hb2⟩; clear tok1) | (have _t := tok2; go_at_call 4; refine (compareVersions_at y z _ _ _ (HY.out.ext (S3.base (by assumption))) (HZ.out.ext (S3.base (by assumption)))).mono ?_; rintro e w3 ⟨rfl, hb3⟩; clear tok2) | (go_at_call 4; refine (compareVersions_at x z _ _ _ (HX.out.ext (S3.base (by assumption))) (HZ.out.ext (S3.base (by assumption)))).mono ?_; rintro e w4 ⟨rfl, hb4⟩))
  have hbW4 : Below W.heap.size W w4 := S3.base (by assumption)
  have hA4 := hA.ext hbW4
  have hB4 := hB.ext hbW4
  have hC4 := hC.ext hbW4
  have HX4 := Lib.hid (HX.out.ext hbW4)
  have HY4 := Lib.hid (HY.out.ext hbW4)
  have HZ4 := Lib.hid (HZ.out.ext hbW4)
  have hbw4 := ext_trans hbW hbW4
  have HT := Lib.hid (Vl.cmpVer_T3 x y z)
  have HYX := Lib.hid (Vl.cmpVer_anti x y)
  have hp := Vl.cmpVer_tri x y
  have HS : Hid (chkVer x = 0 → chkVer y = 0 → decide (cmpVer x y = 0) = sameVer x y) := by
    have : chkVer x = 0 → chkVer y = 0 → decide (cmpVer x y = 0) = sameVer x y := fun h1 h2 => Vl.cmpVer_zero h1 h2
    exact this
  generalize hpp : cmpVer x y = p at *
  generalize cmpVer y z = q at *
  generalize cmpVer x z = r at *
  have HP := Lib.hid hpp
  obtain ⟨hp1, hp2⟩ := hp
  clear hpp hb2 hb3 hb4 hbW hbW4 HX HY HZ hx hy hz hA hB hC
  obtain ⟨_, oA⟩ := id hA4
  obtain ⟨_, oB⟩ := id hB4
  obtain ⟨_, oC⟩ := id hC4
  go_wp2_with fail
  refine (checkVersion_at x _ _ HX4.out).mono ?_
  by_cases hcx : chkVer x = 0
  rotate_left
  · have hne : (chkVer x != 0) = true := by simp [hcx]
    rintro e w5 ⟨rfl, hb5⟩
    have hbw5 := ext_trans hbw4 hb5
    clear hA4 oA HX4 hB4 oB HY4 hC4 oC HZ4 hb5
    go_wp2
    go_ret
    exact ⟨rfl, hbw5⟩
  rw [hcx]
  rintro e w5 ⟨rfl, hb5⟩
  have hA5 := hA4.ext hb5
  have HX5 := Lib.hid (HX4.out.ext hb5)
  have hB5 := hB4.ext hb5
  have HY5 := Lib.hid (HY4.out.ext hb5)
  have hC5 := hC4.ext hb5
  have HZ5 := Lib.hid (HZ4.out.ext hb5)
  have hbw5 := ext_trans hbw4 hb5
  clear hA4 oA HX4 hB4 oB HY4 hC4 oC HZ4 hb5
  obtain ⟨_, oA⟩ := id hA5
  obtain ⟨_, oB⟩ := id hB5
  obtain ⟨_, oC⟩ := id hC5
  go_wp2_with fail
  refine (checkVersion_at y _ _ HY5.out).mono ?_
  by_cases hcy : chkVer y = 0
  rotate_left
  · have hne : (chkVer y != 0) = true := by simp [hcy]
    rintro e w6 ⟨rfl, hb6⟩
    have hbw6 := ext_trans hbw5 hb6
    clear hA5 oA HX5 hB5 oB HY5 hC5 oC HZ5 hb6
    go_wp2
    go_ret
    exact ⟨rfl, hbw6⟩
  rw [hcy]
  rintro e w6 ⟨rfl, hb6⟩
  have hA6 := hA5.ext hb6
  have HX6 := Lib.hid (HX5.out.ext hb6)
  have hB6 := hB5.ext hb6
  have HY6 := Lib.hid (HY5.out.ext hb6)
  have hC6 := hC5.ext hb6
  have HZ6 := Lib.hid (HZ5.out.ext hb6)
  have hbw6 := ext_trans hbw5 hb6
  clear hA5 oA HX5 hB5 oB HY5 hC5 oC HZ5 hb6
  obtain ⟨_, oA⟩ := id hA6
  obtain ⟨_, oB⟩ := id hB6
  obtain ⟨_, oC⟩ := id hC6
  go_wp2_with fail
  refine (checkVersion_at z _ _ HZ6.out).mono ?_
  by_cases hcz : chkVer z = 0
  rotate_left
  · have hne : (chkVer z != 0) = true := by simp [hcz]
    rintro e w7 ⟨rfl, hb7⟩
    have hbw7 := ext_trans hbw6 hb7
    clear hA6 oA HX6 hB6 oB HY6 hC6 oC HZ6 hb7
    go_wp2
    go_ret
    exact ⟨rfl, hbw7⟩
  rw [hcz]
  rintro e w7 ⟨rfl, hb7⟩
  have hA7 := hA6.ext hb7
  have HX7 := Lib.hid (HX6.out.ext hb7)
  have hB7 := hB6.ext hb7
  have HY7 := Lib.hid (HY6.out.ext hb7)
  have hC7 := hC6.ext hb7
  have HZ7 := Lib.hid (HZ6.out.ext hb7)
  have hbw7 := ext_trans hbw6 hb7
  clear hA6 oA HX6 hB6 oB HY6 hC6 oC HZ6 hb7
  have HS7 := Lib.hid (HS.out hcx hcy)
  clear HS hcx hcy hcz
  obtain ⟨_, oA⟩ := id hA7
  obtain ⟨_, oB⟩ := id hB7
  obtain ⟨_, oC⟩ := id hC7
  go_wp2_with fail
  · have hne : x.pre ≠ [] := List.ne_nil_of_length_pos (by omega)
    refine (compareVersions_at x { x with pre := [] } _ _ _ (HX7.out.ext ?_) ⟨_, _, rfl, Sl.nil _, fun s h => by cases h⟩).mono ?_
    · go_grown
    rw [Vl.cmpVer_bare x hne]
    rintro e w8 ⟨rfl, hb8⟩
    have hg8 : Below w7.heap.size w7 w8 := Below.trans (by go_grown) (hb8.mono (by simp))
    have hA8 := hA7.ext hg8
    have HX8 := Lib.hid (HX7.out.ext hg8)
    have hB8 := hB7.ext hg8
    have HY8 := Lib.hid (HY7.out.ext hg8)
    have hC8 := hC7.ext hg8
    have HZ8 := Lib.hid (HZ7.out.ext hg8)
    have hbw8 := ext_trans hbw7 hg8
    clear hA7 hB7 hC7 HX7 HY7 HZ7 oA oB oC hb8 hg8 hne
    obtain ⟨_, oA⟩ := id hA8
    obtain ⟨_, oB⟩ := id hB8
    obtain ⟨_, oC⟩ := id hC8
    go_wp2_with fail
    refine (compareVersions_at y x _ _ _ (HY8.out.ext ?_) (HX8.out.ext ?_)).mono ?_
    · go_grown
    · go_grown
    rw [HYX.out]
    rintro e w9 ⟨rfl, hb9⟩
    have hg9 : Below w8.heap.size w8 w9 := Below.trans (by go_grown) (hb9.mono (by simp))
    have hA9 := hA8.ext hg9
    have HX9 := Lib.hid (HX8.out.ext hg9)
    have hB9 := hB8.ext hg9
    have HY9 := Lib.hid (HY8.out.ext hg9)
    have hbw9 := ext_trans hbw8 hg9
    clear hA8 hB8 HX8 HY8 hb9 hg9 oA oB hC8 HZ8 oC
    obtain ⟨_, oA⟩ := id hA9
    obtain ⟨_, oB⟩ := id hB9
    have e2 : (-p == -p) = true := by simp
    go_wp2_with fail
    refine (sameVersion_at x y _ _ _ HX9.out HY9.out).mono ?_
    rw [← HS7.out]
    rintro e w10 ⟨rfl, hb10⟩
    have hbw10 := ext_trans hbw9 hb10
    have e3 : ((p == 0) == decide (p = 0)) = true := by rw [beq_iff_eq, Bool.eq_iff_iff]; simp
    clear hA9 hB9 HX9 HY9 oA oB hb10
    go_wp2
    all_goals go_ret
    all_goals refine ⟨?_, hbw10⟩
    all_goals first | rfl | exact congrArg (fun b => Ending.returned (.bool b)) (decide_eq_true (HT.out ‹p ≤ 0› ‹q ≤ 0›).1)
  · refine (compareVersions_at y x _ _ _ (HY7.out.ext ?_) (HX7.out.ext ?_)).mono ?_
    · go_grown
    · go_grown
    rw [HYX.out]
    rintro e w8 ⟨rfl, hb8⟩
    have hg8 : Below w7.heap.size w7 w8 := Below.trans (by go_grown) (hb8.mono (by simp))
    have hA8 := hA7.ext hg8
    have HX8 := Lib.hid (HX7.out.ext hg8)
    have hB8 := hB7.ext hg8
    have HY8 := Lib.hid (HY7.out.ext hg8)
    have hbw8 := ext_trans hbw7 hg8
    clear hA7 hB7 HX7 HY7 hb8 hg8 oA oB hC7 HZ7 oC
    obtain ⟨_, oA⟩ := id hA8
    obtain ⟨_, oB⟩ := id hB8
    have e2 : (-p == -p) = true := by simp
    go_wp2_with fail
    refine (sameVersion_at x y _ _ _ HX8.out HY8.out).mono ?_
    rw [← HS7.out]
    rintro e w9 ⟨rfl, hb9⟩
    have hbw9 := ext_trans hbw8 hb9
    have e3 : ((p == 0) == decide (p = 0)) = true := by rw [beq_iff_eq, Bool.eq_iff_iff]; simp
    clear hA8 hB8 HX8 HY8 oA oB hb9
    go_wp2
    all_goals go_ret
    all_goals refine ⟨?_, hbw9⟩
    all_goals first | rfl | exact congrArg (fun b => Ending.returned (.bool b)) (decide_eq_true (HT.out ‹p ≤ 0› ‹q ≤ 0›).1)

/-- what the walk gives, for all arguments -/
theorem contract (H : Type) (enc : TypeId × Value → H) (W : World) (args : Array Value) (ds gs : List (DataW H)) (before : List MemPlace)
    (hW : DataW.Whole enc Tryd.prog Tryd.f3.params.toList Rows.versionOrderIsTotalSpec.vars false W args.toList ds gs before) :
    Calls Tryd.prog 3 args W fun e W' => ∃ v, e = .returned v ∧ Rows.versionOrderIsTotalSpec.post enc Tryd.prog Tryd.f3 false true false false W args v W' := by
  have hW' := hW
  obtain ⟨p, q, hA0, hV, rfl, hfz, hnd⟩ := hW
  have hA : DataW.TrodAll enc Tryd.prog W 0 (fun _ => true) true Tryd.f3.params.toList args.toList ds p := hA0
  rw [Tryd.params3] at hA
  obtain ⟨v0, vs0, d0, ds0, p0, q0, hargs, rfl, rfl, h0, r0⟩ := trodAll_cons hA
  obtain ⟨v1, vs1, d1, ds1, p1, q1, rfl, rfl, rfl, h1, r1⟩ := trodAll_cons r0
  obtain ⟨v2, vs2, d2, ds2, p2, q2, rfl, rfl, rfl, h2, r2⟩ := trodAll_cons r1
  obtain ⟨rfl, rfl, rfl⟩ := trodAll_nil r2
  obtain rfl : args = #[v0, v1, v2] := by cases args; simp_all
  obtain ⟨rfl, rfl⟩ := trodVars_none hV
  obtain ⟨n0, g0⟩ := h0
  obtain ⟨n1, g1⟩ := h1
  obtain ⟨n2, g2⟩ := h2
  obtain ⟨x0, e0⟩ := Rv.read_Ver _ _ _ g0
  obtain ⟨x1, e1⟩ := Rv.read_Ver _ _ _ g1
  obtain ⟨x2, e2⟩ := Rv.read_Ver _ _ _ g2
  have len : ∀ {x : Ver} {cs : List Value}, RepVer W x cs → cs.length ≠ 1 := fun h => by obtain ⟨_, _, rfl, _⟩ := h; simp
  have k := walk x0 x1 x2 _ _ _ W e0 e1 e2
  rw [← agg_of_cells (len e0), ← agg_of_cells (len e1), ← agg_of_cells (len e2)] at k
  refine k.mono fun e W' ⟨he, hg⟩ => ?_
  subst he
  exact ⟨_, rfl, law_post laidOut rfl hW' hg (by kernel_rfl) (by kernel_rfl) Tryd.underlying4 rfl⟩

def firstCells : Array Value := (Go.Pinned.utf8FirstZ.map fun (n : Nat) => Value.int .u8 (n : Int)).toArray
def rangeCells : Array Value := (([128, 191, 160, 191, 128, 159, 144, 191, 128, 143, 0, 0, 0, 0, 0, 0, 0, 0, 0, 0, 0, 0, 0, 0, 0, 0, 0, 0, 0, 0, 0, 0] : List Int).map fun n => Value.int .u8 n).toArray
/-- The block with other cells. -/
def putCells (cs : Array Value) (o : Obj) : Obj := match o with
  | .cells _ t frozen => .cells cs t frozen
  | o => o
/-- A world for the witness: the settled one, the two tables laid. -/
noncomputable def laidWorld (os : Os) : World :=
  { World.holding Tryd.prog os ⟨#[], #[], []⟩ with heap := ((World.holding Tryd.prog os ⟨#[], #[], []⟩).heap.modify 1 (putCells firstCells)).modify 2 (putCells rangeCells) }
abbrev zeroVer : Value := .agg #[.int .i64 0, .int .i64 0, .int .i64 0, .slice none 0 0]
abbrev dataVer {H : Type} : DataW H := .agg [.lit (.int .i64 0), .lit (.int .i64 0), .lit (.int .i64 0), .nil]
set_option maxRecDepth 100000 in
theorem laid_met (os : Os) : laidMet Tryd.prog Rows.versionOrderIsTotalRow.laid ((laidWorld os).forCall (fun _ _ => 0) ⟨#[], #[zeroVer, zeroVer, zeroVer], []⟩).memory :=
  laidMet_of_run' 8 (by kernel_rfl) (by kernel_rfl)
theorem reads (os : Os) {H : Type} (enc : TypeId × Value → H) : ∃ places, DataW.whole enc Tryd.prog ((laidWorld os).forCall (fun _ _ => 0) ⟨#[], #[zeroVer, zeroVer, zeroVer], []⟩).memory Tryd.f3.params.toList Rows.versionOrderIsTotalSpec.vars false #[zeroVer, zeroVer, zeroVer].toList 8 = some ([dataVer, dataVer, dataVer], [], places) :=
  ⟨[], by kernel_rfl⟩
set_option maxRecDepth 100000 in
theorem lifted (os : Os) (started : os.Started) (H : Type) (enc : TypeId × Value → H) (F : Stop.Interp) :
    ReturnsInHanded {} Tryd.checked os 3 .any ((OpenSpec.ofChange Rows.versionOrderIsTotalSpec).preRow enc Tryd.prog Tryd.f3 Rows.versionOrderIsTotalRow.domain false Rows.versionOrderIsTotalRow.laid) (((OpenSpec.ofChange Rows.versionOrderIsTotalSpec).at F).post enc Tryd.prog Tryd.f3 false true false false) := by
  obtain ⟨places, hx⟩ := reads os enc
  refine returnsInHanded_of_row (C := Tryd.checked) (s := OpenSpec.ofChange Rows.versionOrderIsTotalSpec) own started (by kernel_rfl) Tryd.func3
    (witness_row_at (enc := enc) (C := Tryd.checked) false (laidWorld os) #[zeroVer, zeroVer, zeroVer] rfl (by kernel_rfl) (by kernel_rfl) (by kernel_rfl)
      (OpenSpec.preRow_of_cond 8 hx (by kernel_rfl) (fun k hk => by cases hk) (by kernel_rfl) (laid_met os))) ?_
  intro W base args ds gs before _ hW _ _ _ _ _ _
  exact contract H enc W args ds gs before hW
theorem said : Rows.VersionOrderIsTotalSaid :=
  OpenClaim.holds_of_cond 3 Tryd.f3 rfl rfl rfl rfl rfl rfl rfl ⟨rfl, rfl, rfl, rfl, rfl⟩ rfl rfl rfl rfl rfl (by kernel_rfl) Tryd.func3 (by kernel_rfl)
    (of_decide_eq_true (by kernel_rfl)) (by unfold Func.isWrapper; first | (rw [if_pos (by decide +kernel)]; kernel_rfl) | (rw [if_neg (by decide +kernel)]; exact ⟨rfl, rfl⟩))
    (fun os started H enc _ F => by rw [OpenClaim.pre_eq_preRow]; exact lifted os started H enc F)
/-- No parameter wants a stand-in; the program's own looks are off. -/
theorem plain (f : FuncId) (fn : Func) (hf : Tryd.pinned.checked.prog.funcNamed "burgee/burgeelaw1.VersionOrderIsTotal" = some f) (hfn : Tryd.pinned.checked.prog.funcs[f]? = some fn) :
    false = Tryd.pinned.checked.prog.looks [] ∧ ∀ (j : Nat) t, fn.params[j]? = some t → Tryd.pinned.checked.prog.wantsStandIn t = false := by
  obtain rfl : f = 3 := Option.some.inj ((show Tryd.prog.funcNamed "burgee/burgeelaw1.VersionOrderIsTotal" = some 3 by kernel_rfl).symm.trans hf) |>.symm
  obtain rfl : fn = Tryd.f3 := (Option.some.inj (Tryd.func3.symm.trans hfn)).symm
  refine ⟨by kernel_rfl, fun j t ht => ?_⟩
  rw [Tryd.params3] at ht
  obtain rfl : t = 24 := by simpa using Array.mem_of_getElem? ht
  exact (show Tryd.prog.wantsStandIn 24 = false by kernel_rfl)
theorem proved : Rows.VersionOrderIsTotalCardSaid :=
  Claim7.holds_tied_plain_at .later [] _ _ _ _ said (fun _ h => by cases h) (by kernel_rfl) (fun _ h => by cases h) versionOrderIsTotal_row_tie rfl ⟨rfl, rfl⟩ (by kernel_rfl) rfl plain (by kernel_rfl)
end Go.Proofs.YtepgibhgjhjjaaaDoor.lawVersionOrder
