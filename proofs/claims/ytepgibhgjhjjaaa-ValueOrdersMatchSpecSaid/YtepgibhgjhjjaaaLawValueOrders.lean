/- Compare is as specified for all values, right or not, and a total order: for all three values the law returns true. No condition. -/
import Derived.Test.YtepgibhgjhjjaaaFrame
import Derived.Test.YtepgibhgjhjjaaaValWalk3
import Derived.Test.YtepgibhgjhjjaaaReadV
namespace Go.Proofs.Ytepgibhgjhjjaaa.lawValueOrders
open Go.ChangeShapes Go.WideShapes Go.ChangeAt Go.RowKit

abbrev S3 (W : World) (b1 : Nat) (A1 : Array Value) (b2 : Nat) (A2 : Array Value) (b3 : Nat) (A3 : Array Value) (w' : World) : Prop :=
  Below W.heap.size W w' ∧ (∀ j, w'.cell? ⟨b1, j, none⟩ = A1[j]?) ∧ (∀ j, w'.cell? ⟨b2, j, none⟩ = A2[j]?) ∧ (∀ j, w'.cell? ⟨b3, j, none⟩ = A3[j]?)
theorem S3.start {W : World} {b1 : Nat} {A1 : Array Value} {b2 : Nat} {A2 : Array Value} {b3 : Nat} {A3 : Array Value} (h1 : Box W b1 A1) (h2 : Box W b2 A2) (h3 : Box W b3 A3) : S3 W b1 A1 b2 A2 b3 A3 W.drew :=
  ⟨(Below.refl _ _).drew, h1.2, h2.2, h3.2⟩
theorem S3.base {W w' : World} {b1 : Nat} {A1 : Array Value} {b2 : Nat} {A2 : Array Value} {b3 : Nat} {A3 : Array Value} (h : S3 W b1 A1 b2 A2 b3 A3 w') : Below W.heap.size W w' := h.1
theorem S3.ext {W w1 w2 : World} {b1 : Nat} {A1 : Array Value} {b2 : Nat} {A2 : Array Value} {b3 : Nat} {A3 : Array Value} (hb : Below w1.heap.size w1 w2) (h : S3 W b1 A1 b2 A2 b3 A3 w1) (h1 : Box W b1 A1) (h2 : Box W b2 A2) (h3 : Box W b3 A3) : S3 W b1 A1 b2 A2 b3 A3 w2 :=
  ⟨ext_trans h.1 hb, fun j => (hb.cell (p := ⟨b1, j, none⟩) (Nat.lt_of_lt_of_le h1.1 h.1.size)).trans (h.2.1 j), fun j => (hb.cell (p := ⟨b2, j, none⟩) (Nat.lt_of_lt_of_le h2.1 h.1.size)).trans (h.2.2.1 j), fun j => (hb.cell (p := ⟨b3, j, none⟩) (Nat.lt_of_lt_of_le h3.1 h.1.size)).trans (h.2.2.2 j)⟩

set_option maxHeartbeats 2000000 in
theorem walk (x y z : V) (cx cy cz : List Value) (w : World) (hx : RepV w x cx) (hy : RepV w y cy) (hz : RepV w z cz) :
    Calls Try.prog 4 #[.agg cx.toArray, .agg cy.toArray, .agg cz.toArray] w fun e w' => e = .returned (.bool true) ∧ Below w.heap.size w w' := by
  obtain ⟨k1, n1, s1, a1, m1, q1, a2, m2, q2, rfl⟩ := cells5 hx
  obtain ⟨k2, n2, s2, a3, m3, q3, a4, m4, q4, rfl⟩ := cells5 hy
  obtain ⟨k3, n3, s3, a5, m5, q5, a6, m6, q6, rfl⟩ := cells5 hz
  go_enter Try.func4, Try.ntmps4
  go_wp2
  refine wp_box3 fun W hsz hbW hA hB hC => ?_
  have HX := Lib.hid (hx.ext hbW)
  have HY := Lib.hid (hy.ext hbW)
  have HZ := Lib.hid (hz.ext hbW)
  have ht := cmpV_T3 x y z
  have HT := Lib.hid ht
  have hxy := cmpV_tri x y
  have hyx := cmpV_anti x y
  have HYX := Lib.hid hyx
  have HXX := Lib.hid (cmpV_self x)
  have tok1 : True := trivial
  have tok2 : True := trivial
  clear ht hyx
  go_region_held3 (S3 W w.heap.size #[Value.int IntKind.i64 k1, Value.int IntKind.i64 n1, Value.string s1, Value.slice a1 m1 q1, Value.slice a2 m2 q2] (w.heap.size + 1) #[Value.int IntKind.i64 k2, Value.int IntKind.i64 n2, Value.string s2, Value.slice a3 m3 q3, Value.slice a4 m4 q4] (w.heap.size + 2) #[Value.int IntKind.i64 k3, Value.int IntKind.i64 n3, Value.string s3, Value.slice a5 m5 q5, Value.slice a6 m6 q6])
    (first | exact S3.start hA hB hC | exact S3.ext (by assumption) (by assumption) hA hB hC | assumption) (first | (have _t := tok1; go_at_call 8; refine (compare_at x y _ _ _ (HX.out.ext (S3.base (by assumption))) (HY.out.ext (S3.base (by assumption)))).mono ?_; rintro e w2 ⟨rfl, hb2⟩; clear tok1) | (have _t := tok2; go_at_call 8; refine (compare_at y z _ _ _ (HY.out.ext (S3.base (by assumption))) (HZ.out.ext (S3.base (by assumption)))).mono ?_; rintro e w3 ⟨rfl, hb3⟩; clear tok2) | (go_at_call 8; refine (compare_at x z _ _ _ (HX.out.ext (S3.base (by assumption))) (HZ.out.ext (S3.base (by assumption)))).mono ?_; rintro e w4 ⟨rfl, hb4⟩))
  have hbW4 : Below W.heap.size W w4 := S3.base (by assumption)
  have hA4 := hA.ext hbW4
  have hB4 := hB.ext hbW4
  have HX4 := Lib.hid (HX.out.ext hbW4)
  have HY4 := Lib.hid (HY.out.ext hbW4)
  have hbw4 := ext_trans hbW hbW4
  generalize hp : cmpV x y = p at *
  generalize hq : cmpV y z = q at *
  generalize hr : cmpV x z = r at *
  have HP := Lib.hid hp
  have e1 : (p != p) = false := by simp
  have hp1 : -1 ≤ p := by omega
  have hp2 : p ≤ 1 := by omega
  have e2 : (-p != -p) = false := by simp
  clear hp hq hr hxy hA hB hC hb2 hb3 hb4 hbW hbW4 HX HY HZ hsz hx hy hz
  obtain ⟨_, hA5⟩ := id hA4
  obtain ⟨_, hB5⟩ := id hB4
  go_wp2_with fail
  refine (ref_at x y _ _ _ HX4.out HY4.out).mono ?_
  rw [HP.out]
  rintro e w5 ⟨rfl, hb5⟩
  have hA6 := hA4.ext hb5
  have hB6 := hB4.ext hb5
  have HX6 := Lib.hid (HX4.out.ext hb5)
  have HY6 := Lib.hid (HY4.out.ext hb5)
  have hbw5 := ext_trans hbw4 hb5
  clear hA5 hB5 hA4 hB4 HX4 HY4 hb5
  obtain ⟨_, hA5⟩ := id hA6
  obtain ⟨_, hB5⟩ := id hB6
  go_wp2_with fail
  refine (compare_at y x _ _ _ HY6.out HX6.out).mono ?_
  rw [HYX.out]
  rintro e w6 ⟨rfl, hb6⟩
  have hA7 := hA6.ext hb6
  have HX7 := Lib.hid (HX6.out.ext hb6)
  have hbw6 := ext_trans hbw5 hb6
  clear hA5 hB5 hA6 hB6 HX6 HY6 hb6
  obtain ⟨_, hA5⟩ := id hA7
  go_wp2_with fail
  refine (compare_at x x _ _ _ HX7.out HX7.out).mono ?_
  rw [HXX.out]
  rintro e w7 ⟨rfl, hb7⟩
  have hbw7 := ext_trans hbw6 hb7
  clear hA5 hA7 HX7 hb7
  go_wp2
  all_goals go_ret
  all_goals refine ⟨?_, hbw7⟩
  all_goals first | rfl | exact congrArg (fun b => Ending.returned (.bool b)) (decide_eq_true (HT.out ‹p ≤ 0› ‹q ≤ 0›).1)

set_option maxRecDepth 100000 in
theorem lifted (os : Os) (started : os.Started) (H : Type) (enc : TypeId × Value → H) :
    ReturnsInHanded {} Try.checked os 4 .any (Rows.valueOrdersMatchSpecSpec.pre6 enc Try.prog Try.f4 Rows.valueOrdersMatchSpecRow.domain false) (Rows.valueOrdersMatchSpecSpec.post enc Try.prog Try.f4 false true false false) := by
  refine returnsInHanded_of_change_sized (C := Try.checked) own started (by kernel_rfl) Try.func4
    (ChangeSpec.witness6 (enc := enc) (C := Try.checked) false ⟨#[], #[.agg #[.int .i64 0, .int .i64 0, .string ByteArray.empty, .slice none 0 0, .slice none 0 0], .agg #[.int .i64 0, .int .i64 0, .string ByteArray.empty, .slice none 0 0, .slice none 0 0], .agg #[.int .i64 0, .int .i64 0, .string ByteArray.empty, .slice none 0 0, .slice none 0 0]], []⟩ 8 (by kernel_rfl) (by kernel_rfl) (by kernel_rfl) (by kernel_rfl)) ?_
  intro W base args ds gs before hval0 hW hcnd hsz0 _
  have hW' := hW
  obtain ⟨p, q, hA0, hV, rfl, hfz, hnd⟩ := hW
  have hA : DataW.TrodAll enc Try.prog W 0 (fun _ => true) true Try.f4.params.toList args.toList ds p := hA0
  rw [Try.params4] at hA
  obtain ⟨v0, vs0, d0, ds0, p0, q0, hargs, rfl, rfl, h0, r0⟩ := trodAll_cons hA
  obtain ⟨v1, vs1, d1, ds1, p1, q1, rfl, rfl, rfl, h1, r1⟩ := trodAll_cons r0
  obtain ⟨v2, vs2, d2, ds2, p2, q2, rfl, rfl, rfl, h2, r2⟩ := trodAll_cons r1
  obtain ⟨rfl, rfl, rfl⟩ := trodAll_nil r2
  obtain rfl : args = #[v0, v1, v2] := by cases args; simp_all
  obtain ⟨rfl, rfl⟩ := trodVars_none hV
  obtain ⟨n0, g0⟩ := h0
  obtain ⟨n1, g1⟩ := h1
  obtain ⟨n2, g2⟩ := h2
  obtain ⟨x0, e0⟩ := read_V _ _ _ g0
  obtain ⟨x1, e1⟩ := read_V _ _ _ g1
  obtain ⟨x2, e2⟩ := read_V _ _ _ g2
  have k := walk x0 x1 x2 _ _ _ W e0 e1 e2
  rw [← agg_of_cells (by rw [e0.len]; omega), ← agg_of_cells (by rw [e1.len]; omega), ← agg_of_cells (by rw [e2.len]; omega)] at k
  refine k.mono fun e W' ⟨he, hg⟩ => ?_
  subst he
  exact ⟨_, rfl, law_post laidOut rfl hW' hg (by kernel_rfl) (by kernel_rfl) Try.underlying4 rfl⟩

theorem over : Rows.valueOrdersMatchSpecRow.holds Try.pinned (OpenSpec.ofChange Rows.valueOrdersMatchSpecSpec) :=
  OpenClaim.holds_of_wide 4 Try.f4 rfl rfl rfl rfl rfl rfl rfl ⟨rfl, rfl, rfl, rfl, rfl⟩ rfl rfl rfl rfl rfl (by kernel_rfl) Try.func4 (by kernel_rfl)
    (of_decide_eq_true (by kernel_rfl)) (by unfold Func.isWrapper; first | (rw [if_pos (by decide +kernel)]; kernel_rfl) | (rw [if_neg (by decide +kernel)]; exact ⟨rfl, rfl⟩))
    (fun os started H enc _ => lifted os started H enc)

theorem proved : Rows.ValueOrdersMatchSpecSaid := over
end Go.Proofs.Ytepgibhgjhjjaaa.lawValueOrders
