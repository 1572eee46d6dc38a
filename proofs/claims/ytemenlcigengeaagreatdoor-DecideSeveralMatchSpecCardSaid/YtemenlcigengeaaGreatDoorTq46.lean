/- Inverse of package value. Inverse of the reference. Product of the reference. Printed by gen_rrat7.py. -/
import Derived.Test.YtemenlcigengeaaGreatDoorTq32
import Derived.Test.YtemenlcigengeaaGreatDoorTq45
import Derived.Test.YtemenlcigengeaaGreatDoorTq33
import Derived.Test.YtemenlcigengeaaGreatDoorTq16
import Derived.Test.YtemenlcigengeaaGreatDoorProg
import Derived.Test.YtemenlcigengeaaGreatDoorTq00
import Derived.Test.YtemenlcigengeaaGreatDoorTq40
import Derived.Test.YtemenlcigengeaaGreatDoorTq17
import Derived.Test.YtemenlcigengeaaGreatDoorTq05
import Derived.Test.YtemenlcigengeaaGreatDoorTq06
import Derived.Test.YtemenlcigengeaaGreatDoorTq03
import Derived.Test.YtemenlcigengeaaGreatDoorTq07
import Derived.Test.YtemenlcigengeaaGreatDoorTq08
import Derived.Test.YtemenlcigengeaaGreatDoorTq18
import Derived.Test.YtemenlcigengeaaGreatDoorTq19
import Derived.Test.YtemenlcigengeaaGreatDoorTq24
import Derived.Test.YtemenlcigengeaaGreatDoorTq23
import Derived.Test.YtemenlcigengeaaGreatDoorTq25
import Derived.Test.YtemenlcigengeaaGreatDoorTq26
import Derived.Test.YtemenlcigengeaaGreatDoorTq27
import Derived.Test.YtemenlcigengeaaGreatDoorTq28
import Derived.Test.YtemenlcigengeaaGreatDoorTq29
import Derived.Test.YtemenlcigengeaaGreatDoorShelf
import Derived.Test.YtemenlcigengeaaGreatDoorTq44
import Derived.Test.YtemenlcigengeaaGreatDoorTq30
import Derived.Test.YtemenlcigengeaaGreatDoorTq20
import Derived.Test.YtemenlcigengeaaGreatDoorTq41
import Derived.Test.YtemenlcigengeaaGreatDoorTq31
import Derived.Test.YtemenlcigengeaaGreatDoorTq34
namespace Go.Proofs.YtemenlcigengeaaGreatDoor
open Go.RowKit
namespace Nm
/-- the inverse of a ratio -/
def iF (n d : ByteArray) : Int := if rF n d ≠ 0 then rF n d else if (rQ n d).num = 0 then 14 else outF (rQ n d)⁻¹
def iN (n d : ByteArray) : ByteArray := if rF n d ≠ 0 then ⟨#[]⟩ else if (rQ n d).num = 0 then ⟨#[]⟩ else outN (rQ n d)⁻¹
def iD (n d : ByteArray) : ByteArray := if rF n d ≠ 0 then ⟨#[]⟩ else if (rQ n d).num = 0 then ⟨#[]⟩ else outD (rQ n d)⁻¹
end Nm
end Go.Proofs.YtemenlcigengeaaGreatDoor
namespace Go.Proofs.YtemenlcigengeaaGreatDoor
open Go.RowKit
namespace Nt
open _root_.Go.Proofs.YtemenlcigengeaaGreatDoor.Nm (rF rQ sgn outN outD outF AnsPost bF iN iD iF rQ_facts inv_facts sgn_self cutS cutB)
theorem inv_norm {q : Rat} (h : q.num.natAbs ≠ 0) : Rat.normalize (sgn (decide (q.num < 0)) q.den) q.num.natAbs h = q⁻¹ := by
  have h0 : q.num ≠ 0 := by omega
  obtain ⟨f1, f2, f3, f4⟩ := inv_facts h0
  have e : sgn (decide (q.num < 0)) q.den = q⁻¹.num := by
    have := sgn_self q⁻¹.num
    rw [f1, f3] at this
    exact this
  have hr := Rat.normalize_self q⁻¹
  have hd : q⁻¹.den ≠ 0 := q⁻¹.den_nz
  rw [← hr]
  simp only [e, f2]
set_option maxRecDepth 100000 in
set_option maxHeartbeats 8000000 in
theorem refInverse_at (n d : ByteArray) (h1 : n.size ≤ maxLen) (h2 : d.size ≤ maxLen) (w : World) (ht : Tab w) : Calls Tryz.prog 81 #[.agg #[.string n, .string d]] w (AnsPost w (iN n d) (iD n d) (iF n d)) := by
  have HN : Hid (iN n d = if rF n d ≠ 0 then ⟨#[]⟩ else if (rQ n d).num = 0 then ⟨#[]⟩ else outN (rQ n d)⁻¹) := Lib.hid rfl
  have HDn : Hid (iD n d = if rF n d ≠ 0 then ⟨#[]⟩ else if (rQ n d).num = 0 then ⟨#[]⟩ else outD (rQ n d)⁻¹) := Lib.hid rfl
  have HFn : Hid (iF n d = if rF n d ≠ 0 then rF n d else if (rQ n d).num = 0 then 14 else outF (rQ n d)⁻¹) := Lib.hid rfl
  generalize iN n d = on at *
  generalize iD n d = od at *
  generalize iF n d = of at *
  go_enter Tryz.func81, Tryz.ntmps81
  go_upto_region 1 with (fail)
  refine wp_box2r fun W hsz hbW hA hC hF => ?_
  have HT := Lib.hid (ht.ext hbW)
  clear hsz ht
  have a0 : W.cell? ⟨w.heap.size, 0, none⟩ = some (.string n) := hA.2 0
  have a1 : W.cell? ⟨w.heap.size, 1, none⟩ = some (.string d) := hA.2 1
  go_wp2_with fail
  refine (refCheck_at n d h1 h2 W HT.out).mono ?_
  rintro e w1 ⟨rfl, hb1⟩
  have hA1 := hA.ext hb1
  have hC1 := hC.ext hb1
  have hF1 := hF.ext hC hb1
  have hbw1 := ext_trans hbW hb1
  have HT1 := Lib.hid (HT.out.ext hb1)
  clear hA hC hF hbW hb1 a0 a1 HT
  have a0 : w1.cell? ⟨w.heap.size, 0, none⟩ = some (.string n) := hA1.2 0
  have a1 : w1.cell? ⟨w.heap.size, 1, none⟩ = some (.string d) := hA1.2 1
  by_cases hz : rF n d = 0
  · have hne : (rF n d != 0) = false := by simp [hz]
    have hsm := small_digs9 hz
    have HO := Lib.hid (open_is n d h1 hz w1)
    have HB := Lib.hid (And.intro hC1 (And.intro hF1 hbw1))
    clear hA1 hC1 hF1 hbw1
    go_wp2_with fail
    refine HO.out.mono ?_
    rintro e w2 ⟨v1, v2, rfl, hv1, hv2, hb2⟩
    obtain ⟨p1, c1, rfl, _⟩ := hv1.open_
    obtain ⟨p2, c2, rfl, _⟩ := hv2.open_
    have hC2 := HB.out.1.ext hb2
    have hF2 := HB.out.2.1.ext HB.out.1 hb2
    have hbw2 := ext_trans HB.out.2.2 hb2
    have HT2 := Lib.hid (HT1.out.ext hb2)
    have HV := Lib.hid (And.intro hv1 hv2)
    have HB2 := Lib.hid (And.intro hC2 (And.intro hF2 hbw2))
    clear a0 a1 HO HB hv1 hv2 hb2 hC2 hF2 hbw2 HT1
    go_upto_region 5 with (fail)
    refine wp_box1 fun w3 hsz3 hb3 hX3 => ?_
    clear hsz3
    have hC3 := HB2.out.1.ext hb3
    have hF3 := HB2.out.2.1.ext HB2.out.1 hb3
    have hbw3 := ext_trans HB2.out.2.2 hb3
    have HT3 := Lib.hid (HT2.out.ext hb3)
    have HV3 := Lib.hid (And.intro (HV.out.1.ext hb3) (HV.out.2.ext hb3))
    have HB3 := Lib.hid (And.intro hC3 (And.intro hF3 hbw3))
    have x0 : w3.cell? ⟨w2.heap.size, 0, none⟩ = some (.bool (decide ((rQ n d).num < 0))) := hX3.2 0
    have x1 : w3.cell? ⟨w2.heap.size, 1, none⟩ = some (.slice p1 (digs (rQ n d).num.natAbs).length c1) := hX3.2 1
    have x2 : w3.cell? ⟨w2.heap.size, 2, none⟩ = some (.slice p2 (digs (rQ n d).den).length c2) := hX3.2 2
    have HZ : Hid (((((digs (rQ n d).num.natAbs).length : Nat) : Int) == 0) = decide ((rQ n d).num = 0)) := by
      have : ((((digs (rQ n d).num.natAbs).length : Nat) : Int) == 0) = decide ((rQ n d).num = 0) := by
        rw [Bool.eq_iff_iff, beq_iff_eq, decide_eq_true_eq]
        have h := @wlen_eq_zero (rQ n d).num.natAbs
        unfold wlen at h
        omega
      exact this
    clear HB2 HV HT2 hb3 hC3 hF3 hbw3 hX3
    by_cases h0 : (rQ n d).num = 0
    · have HN2 : Hid (on = ⟨#[]⟩) := by have := HN.out; rw [if_neg (by simpa using hz), if_pos h0] at this; exact this
      have HD2 : Hid (od = ⟨#[]⟩) := by have := HDn.out; rw [if_neg (by simpa using hz), if_pos h0] at this; exact this
      have HF2 : Hid (of = 14) := by have := HFn.out; rw [if_neg (by simpa using hz), if_pos h0] at this; exact this
      have hz0 : ((((digs (rQ n d).num.natAbs).length : Nat) : Int) == 0) = true := HZ.out.trans (decide_eq_true h0)
      clear h0 HN HDn HFn hz hsm HZ
      have HR := Lib.hid (res2s (.string ⟨#[]⟩) (.string ⟨#[]⟩) HB3.out.1 HB3.out.2.2 (by omega))
      obtain ⟨hbF, z0, z1⟩ := id HR.out
      have r0 : w3.cell? ⟨w.heap.size + 1, 0, none⟩ = some (.string ⟨#[]⟩) := HB3.out.1.2 0
      have r1 : w3.cell? ⟨w.heap.size + 1, 1, none⟩ = some (.string ⟨#[]⟩) := HB3.out.1.2 1
      have g0 := HB3.out.2.1 0
      have g1 := HB3.out.2.1 1
      clear hbF
      go_wp2
      exact bodyPost_ret (v := .tuple #[.agg #[.string ⟨#[]⟩, .string ⟨#[]⟩], .int .i64 14]) (by simp [results, Tryz.results81, go_sem, z0, z1]) rfl ⟨by rw [HN2.out, HD2.out, HF2.out], HR.out.1⟩
    · have HN2 : Hid (on = outN (rQ n d)⁻¹) := by have := HN.out; rw [if_neg (by simpa using hz), if_neg h0] at this; exact this
      have HD2 : Hid (od = outD (rQ n d)⁻¹) := by have := HDn.out; rw [if_neg (by simpa using hz), if_neg h0] at this; exact this
      have HF2 : Hid (of = outF (rQ n d)⁻¹) := by have := HFn.out; rw [if_neg (by simpa using hz), if_neg h0] at this; exact this
      have hz0 : ((((digs (rQ n d).num.natAbs).length : Nat) : Int) == 0) = false := HZ.out.trans (decide_eq_false h0)
      have hnn : (rQ n d).num.natAbs ≠ 0 := by omega
      have HS := Lib.hid (shut_at (decide ((rQ n d).num < 0)) (rQ n d).den (rQ n d).num.natAbs hnn _ _ w3 HV3.out.2 HV3.out.1 (by omega) (by omega) HT3.out)
      rw [inv_norm hnn, ← HN2.out, ← HD2.out, ← HF2.out] at HS
      clear h0 hnn HN HDn HFn hz hsm HZ HN2 HD2 HF2 HT3 HV3
      go_wp2_with fail
      refine HS.out.mono ?_
      rintro e w4 ⟨rfl, hb4⟩
      have hC4 := HB3.out.1.ext hb4
      have hF4 := HB3.out.2.1.ext HB3.out.1 hb4
      have hbw4 := ext_trans HB3.out.2.2 hb4
      clear x0 x1 x2 HS HB3 hb4
      have HR := Lib.hid (res2s (.string on) (.string od) hC4 hbw4 (by omega))
      obtain ⟨hbF, z0, z1⟩ := id HR.out
      have r0 : w4.cell? ⟨w.heap.size + 1, 0, none⟩ = some (.string ⟨#[]⟩) := hC4.2 0
      have r1 : w4.cell? ⟨w.heap.size + 1, 1, none⟩ = some (.string ⟨#[]⟩) := hC4.2 1
      have g0 := hF4 0
      have g1 := hF4 1
      clear hbF
      go_wp2
      exact bodyPost_ret (v := .tuple #[.agg #[.string on, .string od], .int .i64 of]) (by simp [results, Tryz.results81, go_sem, z0, z1]) rfl ⟨rfl, HR.out.1⟩
  · have hne : (rF n d != 0) = true := by simp [hz]
    have HN2 : Hid (on = ⟨#[]⟩) := by have := HN.out; rw [if_pos hz] at this; exact this
    have HD2 : Hid (od = ⟨#[]⟩) := by have := HDn.out; rw [if_pos hz] at this; exact this
    have HF3 : Hid (of = rF n d) := by have := HFn.out; rw [if_pos hz] at this; exact this
    clear hz HN HDn HFn
    have HR := Lib.hid (res2s (.string ⟨#[]⟩) (.string ⟨#[]⟩) hC1 hbw1 (by omega))
    obtain ⟨hbF, z0, z1⟩ := id HR.out
    have r0 : w1.cell? ⟨w.heap.size + 1, 0, none⟩ = some (.string ⟨#[]⟩) := hC1.2 0
    have r1 : w1.cell? ⟨w.heap.size + 1, 1, none⟩ = some (.string ⟨#[]⟩) := hC1.2 1
    have g0 := hF1 0
    have g1 := hF1 1
    clear hbF hA1 hC1 hF1 hbw1
    go_wp2
    exact bodyPost_ret (v := .tuple #[.agg #[.string ⟨#[]⟩, .string ⟨#[]⟩], .int .i64 (rF n d)]) (by simp [results, Tryz.results81, go_sem, z0, z1]) rfl ⟨by rw [HN2.out, HD2.out, HF3.out], HR.out.1⟩
end Nt
end Go.Proofs.YtemenlcigengeaaGreatDoor
namespace Go.Proofs.YtemenlcigengeaaGreatDoor
open Go.RowKit
namespace Nt
open _root_.Go.Proofs.YtemenlcigengeaaGreatDoor.Nm (rF rQ sgn outN outD outF AnsPost bF opN opD opF zeroX)
theorem mul_norm (x y : Rat) (h : x.den * y.den ≠ 0) : Rat.normalize (sgn (decide (x.num < 0) != decide (y.num < 0)) (x.num.natAbs * y.num.natAbs)) (x.den * y.den) h = x * y := by
  rw [Rat.mul_def]
  exact Nm.normalize_congr _ _ (Nm.mul_sgn x y).symm
set_option maxRecDepth 100000 in
set_option maxHeartbeats 16000000 in
theorem refProduct_at (n1 d1 n2 d2 : ByteArray) (h1 : n1.size ≤ maxLen) (h2 : d1.size ≤ maxLen) (h3 : n2.size ≤ maxLen) (h4 : d2.size ≤ maxLen) (w : World) (ht : Tab w) : Calls Tryz.prog 80 #[.agg #[.string n1, .string d1], .agg #[.string n2, .string d2]] w (AnsPost w (opN (· * ·) n1 d1 n2 d2) (opD (· * ·) n1 d1 n2 d2) (opF (· * ·) n1 d1 n2 d2)) := by
  have HN : Hid (opN (· * ·) n1 d1 n2 d2 = if bF n1 d1 n2 d2 = 0 then outN (rQ n1 d1 * rQ n2 d2) else ⟨#[]⟩) := Lib.hid rfl
  have HDn : Hid (opD (· * ·) n1 d1 n2 d2 = if bF n1 d1 n2 d2 = 0 then outD (rQ n1 d1 * rQ n2 d2) else ⟨#[]⟩) := Lib.hid rfl
  have HFn : Hid (opF (· * ·) n1 d1 n2 d2 = if bF n1 d1 n2 d2 = 0 then outF (rQ n1 d1 * rQ n2 d2) else bF n1 d1 n2 d2) := Lib.hid rfl
  generalize opN (· * ·) n1 d1 n2 d2 = on at *
  generalize opD (· * ·) n1 d1 n2 d2 = od at *
  generalize opF (· * ·) n1 d1 n2 d2 = of at *
  go_enter Tryz.func80, Tryz.ntmps80
  go_upto_region 1 with (fail)
  refine wp_box3r fun W hsz hbW hA hB hC hF => ?_
  have HT := Lib.hid (ht.ext hbW)
  clear hsz ht
  have a0 : W.cell? ⟨w.heap.size, 0, none⟩ = some (.string n1) := hA.2 0
  have a1 : W.cell? ⟨w.heap.size, 1, none⟩ = some (.string d1) := hA.2 1
  have a2 : W.cell? ⟨w.heap.size + 1, 0, none⟩ = some (.string n2) := hB.2 0
  have a3 : W.cell? ⟨w.heap.size + 1, 1, none⟩ = some (.string d2) := hB.2 1
  go_wp2_with fail
  refine (refBoth_at n1 d1 n2 d2 h1 h2 h3 h4 W HT.out).mono ?_
  rintro e w1 ⟨rfl, hb1⟩
  have hA1 := hA.ext hb1
  have hB1 := hB.ext hb1
  have hC1 := hC.ext hb1
  have hF1 := hF.ext hC hb1
  have hbw1 := ext_trans hbW hb1
  have HT1 := Lib.hid (HT.out.ext hb1)
  clear hA hB hC hF hbW hb1 a0 a1 a2 a3 HT
  have a0 : w1.cell? ⟨w.heap.size, 0, none⟩ = some (.string n1) := hA1.2 0
  have a1 : w1.cell? ⟨w.heap.size, 1, none⟩ = some (.string d1) := hA1.2 1
  have a2 : w1.cell? ⟨w.heap.size + 1, 0, none⟩ = some (.string n2) := hB1.2 0
  have a3 : w1.cell? ⟨w.heap.size + 1, 1, none⟩ = some (.string d2) := hB1.2 1
  clear hA1 hB1
  have HB := Lib.hid (And.intro hC1 (And.intro hF1 hbw1))
  clear hC1 hF1 hbw1
  by_cases hz : bF n1 d1 n2 d2 = 0
  · have hne : (bF n1 d1 n2 d2 != 0) = false := by simp [hz]
    obtain ⟨e1, e2⟩ := bF_zero hz
    have HO1 := Lib.hid (fun w' => open_is n1 d1 h1 e1 w')
    have HO2 := Lib.hid (fun w' => open_is n2 d2 h3 e2 w')
    have HS1 := Lib.hid (small_digs9 e1)
    have HS2 := Lib.hid (small_digs9 e2)
    have HN2 : Hid (on = outN (rQ n1 d1 * rQ n2 d2)) := by have := HN.out; rw [if_pos hz] at this; exact this
    have HD2 : Hid (od = outD (rQ n1 d1 * rQ n2 d2)) := by have := HDn.out; rw [if_pos hz] at this; exact this
    have HF2 : Hid (of = outF (rQ n1 d1 * rQ n2 d2)) := by have := HFn.out; rw [if_pos hz] at this; exact this
    generalize rQ n1 d1 = q1 at *
    generalize rQ n2 d2 = q2 at *
    have hw1 := HS1.out.1
    have hw2 := HS1.out.2
    have hw3 := HS2.out.1
    have hw4 := HS2.out.2
    have HSH : Hid (∀ v1 v2 w', N w' v1 (q1.num.natAbs * q2.num.natAbs) → N w' v2 (q1.den * q2.den) → Tab w' → Calls Tryz.prog 88 #[.agg #[.bool (decide (q1.num < 0) != decide (q2.num < 0)), v1, v2]] w' (AnsPost w' on od of)) := by
      refine Lib.hid (fun v1 v2 w' k1 k2 ht' => ?_)
      have hm1 := wlen_mul q1.num.natAbs q2.num.natAbs
      have hm2 := wlen_mul q1.den q2.den
      have h := shut_at (decide (q1.num < 0) != decide (q2.num < 0)) (q1.num.natAbs * q2.num.natAbs) (q1.den * q2.den) (Nm.den_pos q1 q2) v1 v2 w' k1 k2 (by omega) (by omega) ht'
      rw [mul_norm, ← HN2.out, ← HD2.out, ← HF2.out] at h
      exact h
    clear hz HN HDn HFn HN2 HD2 HF2 e1 e2
    go_upto_region 4 with (fail)
    refine Grow.wp_region_grow2 6 [.is (TP.eq (.agg #[.string n1, .string d1])), .is (TP.frac (decide (q1.num < 0)) q1.num.natAbs q1.den), .is (TP.eq (.agg #[.string n2, .string d2])), .is (TP.frac (decide (q2.num < 0)) q2.num.natAbs q2.den), .new zeroX, .new zeroX] [[], [0], [], [2], [], []] (by kernel_rfl) (by kernel_rfl) ⟨?p0, ?p1, ?p2, ?p3, ?p4, ?p5, trivial⟩ ?_
    case p0 =>
      intro w' hb
      have ca : w'.cell? ⟨w.heap.size, 0, none⟩ = some (.string n1) := (hb.cell (World.block_lt_of_cell? _ _ a0)).trans a0
      have cb : w'.cell? ⟨w.heap.size, 1, none⟩ = some (.string d1) := (hb.cell (World.block_lt_of_cell? _ _ a1)).trans a1
      show wpList _ _ _ _ _ _
      go_wp2
      exact ⟨rfl, Below.refl _ _, rfl⟩
    case p1 =>
      intro w' hb v1 hv1
      obtain rfl : v1 = _ := hv1
      show wpList _ _ _ _ _ _
      simp only [Grow.dstOf, List.getElem?_toArray, List.getElem?_cons_zero, Option.bind_some, Act.put, List.setIfInBounds_toArray, List.set_cons_succ, List.set_cons_zero]
      go_wp2_with fail
      refine (HO1.out w').mono ?_
      rintro e wz ⟨z1, z2, rfl, hx1, hx2, hbz⟩
      have HX1 := Lib.hid hx1
      have HX2 := Lib.hid hx2
      clear hx1 hx2
      go_wp2
      exact ⟨⟨_, _, rfl, HX1.out, HX2.out⟩, hbz, rfl⟩
    case p2 =>
      intro w' hb
      have ca : w'.cell? ⟨w.heap.size + 1, 0, none⟩ = some (.string n2) := (hb.cell (World.block_lt_of_cell? _ _ a2)).trans a2
      have cb : w'.cell? ⟨w.heap.size + 1, 1, none⟩ = some (.string d2) := (hb.cell (World.block_lt_of_cell? _ _ a3)).trans a3
      show wpList _ _ _ _ _ _
      go_wp2
      exact ⟨rfl, Below.refl _ _, rfl⟩
    case p3 =>
      intro w' hb v1 hv1
      obtain rfl : v1 = _ := hv1
      show wpList _ _ _ _ _ _
      simp only [Grow.dstOf, List.getElem?_toArray, List.getElem?_cons_succ, List.getElem?_cons_zero, Option.bind_some, Act.put, List.setIfInBounds_toArray, List.set_cons_succ, List.set_cons_zero]
      go_wp2_with fail
      refine (HO2.out w').mono ?_
      rintro e wz ⟨z1, z2, rfl, hx1, hx2, hbz⟩
      have HX1 := Lib.hid hx1
      have HX2 := Lib.hid hx2
      clear hx1 hx2
      go_wp2
      exact ⟨⟨_, _, rfl, HX1.out, HX2.out⟩, hbz, rfl⟩
    case p4 =>
      intro w' hb
      show wpList _ _ _ _ _ _
      go_wp2
      exact ⟨⟨_, rfl, Nat.le_refl _, Box.new _ _ _, Fre.new _ _ _⟩, ext_alloc _ _, rfl⟩
    case p5 =>
      intro w' hb
      show wpList _ _ _ _ _ _
      go_wp2
      exact ⟨⟨_, rfl, Nat.le_refl _, Box.new _ _ _, Fre.new _ _ _⟩, ext_alloc _ _, rfl⟩
    intro w7 hb7 v0 h0 v1 h1 v2 h2 v3 h3 v4 h4 v5 h5 hpw
    have hne : v4 ≠ v5 := hpw 4 5 (by omega) (by omega) (by omega) rfl rfl
    have g1 : ∃ u1 u2, v1 = .agg #[.bool (decide (q1.num < 0)), u1, u2] ∧ N w7 u1 q1.num.natAbs ∧ N w7 u2 q1.den := h1
    have g3 : ∃ u1 u2, v3 = .agg #[.bool (decide (q2.num < 0)), u1, u2] ∧ N w7 u1 q2.num.natAbs ∧ N w7 u2 q2.den := h3
    have g4 : ∃ g, v4 = .pointer (some ⟨g, 0, none⟩) ∧ w1.heap.size ≤ g ∧ Box w7 g zeroX ∧ Fre w7 g := h4
    have g5 : ∃ g, v5 = .pointer (some ⟨g, 0, none⟩) ∧ w1.heap.size ≤ g ∧ Box w7 g zeroX ∧ Fre w7 g := h5
    clear h0 h1 h2 h3 h4 h5 hpw
    obtain ⟨u1, u2, rfl, k1, k2⟩ := g1
    obtain ⟨u3, u4, rfl, k3, k4⟩ := g3
    obtain ⟨g, rfl, hgl, hgB, hgF⟩ := g4
    obtain ⟨g', rfl, hgl', hgB', hgF'⟩ := g5
    have hgg : g ≠ g' := fun e => hne (by rw [e])
    have hgg' : g' ≠ g := fun e => hgg e.symm
    obtain ⟨m1, c1, rfl, _⟩ := k1.open_
    obtain ⟨m2, c2, rfl, _⟩ := k2.open_
    obtain ⟨m3, c3, rfl, _⟩ := k3.open_
    obtain ⟨m4, c4, rfl, _⟩ := k4.open_
    have HP := Lib.hid (pairSet (b := decide (q1.num < 0)) (b' := decide (q2.num < 0)) hgB hgB' hgg k1 k2 k3 k4 hb7 hgl hgl')
    obtain ⟨r0, r1, r2⟩ := Nm.boxX hgB
    obtain ⟨r3, r4, r5⟩ := Nm.boxX hgB'
    have f0 := hgF 0
    have f1 := hgF 1
    have f2 := hgF 2
    have f3 := hgF' 0
    have f4 := hgF' 1
    have f5 := hgF' 2
    clear hne k1 k2 k3 k4 hgB hgF hgB' hgF' hb7
    show wpList _ _ _ _ _ _
    simp only [Act.put, List.setIfInBounds_toArray, List.set_cons_succ, List.set_cons_zero]
    go_upto_region 5 with (fail)
    clear r0 r1 r2 r3 r4 r5 f0 f1 f2 f3 f4 f5
    obtain ⟨X, hX⟩ : ∃ X, X = (((((w7.setCell ⟨g, 0, none⟩ (.bool (decide (q1.num < 0)))).setCell ⟨g, 1, none⟩ (.slice m1 (digs q1.num.natAbs).length c1)).setCell ⟨g, 2, none⟩ (.slice m2 (digs q1.den).length c2)).setCell ⟨g', 0, none⟩ (.bool (decide (q2.num < 0)))).setCell ⟨g', 1, none⟩ (.slice m3 (digs q2.num.natAbs).length c3)).setCell ⟨g', 2, none⟩ (.slice m4 (digs q2.den).length c4) := ⟨_, rfl⟩
    rw [← hX]
    have HPX : Hid ((Box X g #[.bool (decide (q1.num < 0)), .slice m1 (digs q1.num.natAbs).length c1, .slice m2 (digs q1.den).length c2] ∧ Box X g' #[.bool (decide (q2.num < 0)), .slice m3 (digs q2.num.natAbs).length c3, .slice m4 (digs q2.den).length c4]) ∧ (N X (.slice m1 (digs q1.num.natAbs).length c1) q1.num.natAbs ∧ N X (.slice m2 (digs q1.den).length c2) q1.den ∧ N X (.slice m3 (digs q2.num.natAbs).length c3) q2.num.natAbs ∧ N X (.slice m4 (digs q2.den).length c4) q2.den) ∧ Below w1.heap.size w1 X) := by
      have h := HP.out
      rw [hX]
      exact Lib.hid h
    clear hX HP hgg hgg'
    obtain ⟨⟨hbx, hby⟩, ⟨hn1, hn2, hn3, hn4⟩, hbX⟩ := id HPX.out
    have HNX := Lib.hid (And.intro hn1 (And.intro hn2 (And.intro hn3 hn4)))
    have x0 : X.cell? ⟨g, 0, none⟩ = some (.bool (decide (q1.num < 0))) := hbx.2 0
    have x1 : X.cell? ⟨g, 1, none⟩ = some (.slice m1 (digs q1.num.natAbs).length c1) := hbx.2 1
    have x2 : X.cell? ⟨g, 2, none⟩ = some (.slice m2 (digs q1.den).length c2) := hbx.2 2
    have y0 : X.cell? ⟨g', 0, none⟩ = some (.bool (decide (q2.num < 0))) := hby.2 0
    have y1 : X.cell? ⟨g', 1, none⟩ = some (.slice m3 (digs q2.num.natAbs).length c3) := hby.2 1
    have y2 : X.cell? ⟨g', 2, none⟩ = some (.slice m4 (digs q2.den).length c4) := hby.2 2
    clear hbx hby hn1 hn2 hn3 hn4 HPX
    have HTX := Lib.hid (HT1.out.ext hbX)
    clear a0 a1 a2 a3 HO1 HO2
    refine Grow.wp_region_grow 19 [TP.eq (.pointer (some ⟨g, 0, none⟩)), TP.eq (.bool (decide (q1.num < 0))), TP.eq (.pointer (some ⟨g', 0, none⟩)), TP.eq (.bool (decide (q2.num < 0))), TP.eq (.bool (decide (q1.num < 0) != decide (q2.num < 0))), TP.eq (.pointer (some ⟨g, 1, none⟩)), TP.eq (.slice m1 (digs q1.num.natAbs).length c1), TP.eq (.pointer (some ⟨g', 1, none⟩)), TP.eq (.slice m3 (digs q2.num.natAbs).length c3), TP.nat (q1.num.natAbs * q2.num.natAbs), TP.eq (.pointer (some ⟨g, 2, none⟩)), TP.eq (.slice m2 (digs q1.den).length c2), TP.eq (.pointer (some ⟨g', 2, none⟩)), TP.eq (.slice m4 (digs q2.den).length c4), TP.nat (q1.den * q2.den), TP.frac (decide (q1.num < 0) != decide (q2.num < 0)) (q1.num.natAbs * q2.num.natAbs) (q1.den * q2.den), TP.eq (.tuple #[.agg #[.string on, .string od], .int .i64 of]), TP.eq (.agg #[.string on, .string od]), TP.eq (.int .i64 of)] [[], [0], [], [2], [1, 3], [], [5], [], [7], [6, 8], [], [10], [], [12], [11, 13], [4, 9, 14], [15], [16], [16]] (by kernel_rfl) (by kernel_rfl) ⟨?o0, ?o1, ?o2, ?o3, ?o4, ?o5, ?o6, ?o7, ?o8, ?o9, ?o10, ?o11, ?o12, ?o13, ?o14, ?o15, ?o16, ?o17, ?o18, trivial⟩ ?_
    case o0 =>
      intro w' hb
      show wpList _ _ _ _ _ _
      go_wp2
      exact ⟨rfl, Below.refl _ _, rfl⟩
    case o1 =>
      intro w' hb v1 hv1
      obtain rfl : v1 = _ := hv1
      have cx0 : w'.cell? ⟨g, 0, none⟩ = some (.bool (decide (q1.num < 0))) := (hb.cell (World.block_lt_of_cell? _ _ x0)).trans x0
      show wpList _ _ _ _ _ _
      simp only [Grow.dstOf, List.getElem?_toArray, List.getElem?_cons_zero, Option.bind_some, Act.put, List.setIfInBounds_toArray, List.set_cons_succ, List.set_cons_zero]
      go_wp2
      exact ⟨rfl, Below.refl _ _, rfl⟩
    case o2 =>
      intro w' hb
      show wpList _ _ _ _ _ _
      go_wp2
      exact ⟨rfl, Below.refl _ _, rfl⟩
    case o3 =>
      intro w' hb v1 hv1
      obtain rfl : v1 = _ := hv1
      have cy0 : w'.cell? ⟨g', 0, none⟩ = some (.bool (decide (q2.num < 0))) := (hb.cell (World.block_lt_of_cell? _ _ y0)).trans y0
      show wpList _ _ _ _ _ _
      simp only [Grow.dstOf, List.getElem?_toArray, List.getElem?_cons_succ, List.getElem?_cons_zero, Option.bind_some, Act.put, List.setIfInBounds_toArray, List.set_cons_succ, List.set_cons_zero]
      go_wp2
      exact ⟨rfl, Below.refl _ _, rfl⟩
    case o4 =>
      intro w' hb v1 hv1 v2 hv2
      obtain rfl : v1 = _ := hv1
      obtain rfl : v2 = _ := hv2
      show wpList _ _ _ _ _ _
      simp only [Grow.dstOf, List.getElem?_toArray, List.getElem?_cons_succ, List.getElem?_cons_zero, Option.bind_some, Act.put, List.setIfInBounds_toArray, List.set_cons_succ, List.set_cons_zero]
      go_wp2
      exact ⟨rfl, Below.refl _ _, rfl⟩
    case o5 =>
      intro w' hb
      show wpList _ _ _ _ _ _
      go_wp2
      exact ⟨rfl, Below.refl _ _, rfl⟩
    case o6 =>
      intro w' hb v1 hv1
      obtain rfl : v1 = _ := hv1
      have cx1 : w'.cell? ⟨g, 1, none⟩ = some (.slice m1 (digs q1.num.natAbs).length c1) := (hb.cell (World.block_lt_of_cell? _ _ x1)).trans x1
      show wpList _ _ _ _ _ _
      simp only [Grow.dstOf, List.getElem?_toArray, List.getElem?_cons_succ, List.getElem?_cons_zero, Option.bind_some, Act.put, List.setIfInBounds_toArray, List.set_cons_succ, List.set_cons_zero]
      go_wp2
      exact ⟨rfl, Below.refl _ _, rfl⟩
    case o7 =>
      intro w' hb
      show wpList _ _ _ _ _ _
      go_wp2
      exact ⟨rfl, Below.refl _ _, rfl⟩
    case o8 =>
      intro w' hb v1 hv1
      obtain rfl : v1 = _ := hv1
      have cy1 : w'.cell? ⟨g', 1, none⟩ = some (.slice m3 (digs q2.num.natAbs).length c3) := (hb.cell (World.block_lt_of_cell? _ _ y1)).trans y1
      show wpList _ _ _ _ _ _
      simp only [Grow.dstOf, List.getElem?_toArray, List.getElem?_cons_succ, List.getElem?_cons_zero, Option.bind_some, Act.put, List.setIfInBounds_toArray, List.set_cons_succ, List.set_cons_zero]
      go_wp2
      exact ⟨rfl, Below.refl _ _, rfl⟩
    case o9 =>
      intro w' hb v1 hv1 v2 hv2
      obtain rfl : v1 = _ := hv1
      obtain rfl : v2 = _ := hv2
      show wpList _ _ _ _ _ _
      simp only [Grow.dstOf, List.getElem?_toArray, List.getElem?_cons_succ, List.getElem?_cons_zero, Option.bind_some, Act.put, List.setIfInBounds_toArray, List.set_cons_succ, List.set_cons_zero]
      go_wp2_with fail
      refine (times_at (q1.num.natAbs) (q2.num.natAbs) _ _ w' (HNX.out.1.ext hb) (HNX.out.2.2.1.ext hb) (by omega) (by omega)).mono ?_
      rintro e wz ⟨vz, rfl, hxz, hbz⟩
      have HXZ := Lib.hid hxz
      clear hxz
      go_wp2
      exact ⟨HXZ.out, hbz, rfl⟩
    case o10 =>
      intro w' hb
      show wpList _ _ _ _ _ _
      go_wp2
      exact ⟨rfl, Below.refl _ _, rfl⟩
    case o11 =>
      intro w' hb v1 hv1
      obtain rfl : v1 = _ := hv1
      have cx2 : w'.cell? ⟨g, 2, none⟩ = some (.slice m2 (digs q1.den).length c2) := (hb.cell (World.block_lt_of_cell? _ _ x2)).trans x2
      show wpList _ _ _ _ _ _
      simp only [Grow.dstOf, List.getElem?_toArray, List.getElem?_cons_succ, List.getElem?_cons_zero, Option.bind_some, Act.put, List.setIfInBounds_toArray, List.set_cons_succ, List.set_cons_zero]
      go_wp2
      exact ⟨rfl, Below.refl _ _, rfl⟩
    case o12 =>
      intro w' hb
      show wpList _ _ _ _ _ _
      go_wp2
      exact ⟨rfl, Below.refl _ _, rfl⟩
    case o13 =>
      intro w' hb v1 hv1
      obtain rfl : v1 = _ := hv1
      have cy2 : w'.cell? ⟨g', 2, none⟩ = some (.slice m4 (digs q2.den).length c4) := (hb.cell (World.block_lt_of_cell? _ _ y2)).trans y2
      show wpList _ _ _ _ _ _
      simp only [Grow.dstOf, List.getElem?_toArray, List.getElem?_cons_succ, List.getElem?_cons_zero, Option.bind_some, Act.put, List.setIfInBounds_toArray, List.set_cons_succ, List.set_cons_zero]
      go_wp2
      exact ⟨rfl, Below.refl _ _, rfl⟩
    case o14 =>
      intro w' hb v1 hv1 v2 hv2
      obtain rfl : v1 = _ := hv1
      obtain rfl : v2 = _ := hv2
      show wpList _ _ _ _ _ _
      simp only [Grow.dstOf, List.getElem?_toArray, List.getElem?_cons_succ, List.getElem?_cons_zero, Option.bind_some, Act.put, List.setIfInBounds_toArray, List.set_cons_succ, List.set_cons_zero]
      go_wp2_with fail
      refine (times_at (q1.den) (q2.den) _ _ w' (HNX.out.2.1.ext hb) (HNX.out.2.2.2.ext hb) (by omega) (by omega)).mono ?_
      rintro e wz ⟨vz, rfl, hxz, hbz⟩
      have HXZ := Lib.hid hxz
      clear hxz
      go_wp2
      exact ⟨HXZ.out, hbz, rfl⟩
    case o15 =>
      intro w' hb v1 hv1 v2 hv2 v3 hv3
      obtain rfl : v1 = _ := hv1
      have hk1 : N w' v2 (q1.num.natAbs * q2.num.natAbs) := hv2
      have hk2 : N w' v3 (q1.den * q2.den) := hv3
      obtain ⟨m5, c5, rfl, _⟩ := hk1.open_
      obtain ⟨m6, c6, rfl, _⟩ := hk2.open_
      have HK1 := Lib.hid hk1
      have HK2 := Lib.hid hk2
      clear hv2 hv3 hk1 hk2
      show wpList _ _ _ _ _ _
      simp only [Grow.dstOf, List.getElem?_toArray, List.getElem?_cons_succ, List.getElem?_cons_zero, Option.bind_some, Act.put, List.setIfInBounds_toArray, List.set_cons_succ, List.set_cons_zero]
      go_wp2
      exact ⟨⟨_, _, rfl, HK1.out, HK2.out⟩, Below.refl _ _, rfl⟩
    case o16 =>
      intro w' hb v1 hv1
      have hk : ∃ u1 u2, v1 = .agg #[.bool (decide (q1.num < 0) != decide (q2.num < 0)), u1, u2] ∧ N w' u1 (q1.num.natAbs * q2.num.natAbs) ∧ N w' u2 (q1.den * q2.den) := hv1
      clear hv1
      obtain ⟨w1', w2', rfl, hk1, hk2⟩ := hk
      have HK1 := Lib.hid hk1
      have HK2 := Lib.hid hk2
      clear hk1 hk2
      show wpList _ _ _ _ _ _
      simp only [Grow.dstOf, List.getElem?_toArray, List.getElem?_cons_succ, List.getElem?_cons_zero, Option.bind_some, Act.put, List.setIfInBounds_toArray, List.set_cons_succ, List.set_cons_zero]
      go_wp2_with fail
      refine (HSH.out _ _ w' HK1.out HK2.out (HTX.out.ext hb)).mono ?_
      rintro e wz ⟨rfl, hbz⟩
      go_wp2
      exact ⟨rfl, hbz, rfl⟩
    case o17 =>
      intro w' hb v1 hv1
      obtain rfl : v1 = _ := hv1
      show wpList _ _ _ _ _ _
      simp only [Grow.dstOf, List.getElem?_toArray, List.getElem?_cons_succ, List.getElem?_cons_zero, Option.bind_some, Act.put, List.setIfInBounds_toArray, List.set_cons_succ, List.set_cons_zero]
      go_wp2
      exact ⟨rfl, Below.refl _ _, rfl⟩
    case o18 =>
      intro w' hb v1 hv1
      obtain rfl : v1 = _ := hv1
      show wpList _ _ _ _ _ _
      simp only [Grow.dstOf, List.getElem?_toArray, List.getElem?_cons_succ, List.getElem?_cons_zero, Option.bind_some, Act.put, List.setIfInBounds_toArray, List.set_cons_succ, List.set_cons_zero]
      go_wp2
      exact ⟨rfl, Below.refl _ _, rfl⟩
    intro w8 hb8 v0 h0 v1 h1 v2 h2 v3 h3 v4 h4 v5 h5 v6 h6 v7 h7 v8 h8 v9 h9 v10 h10 v11 h11 v12 h12 v13 h13 v14 h14 v15 h15 v16 h16 v17 h17 v18 h18
    obtain rfl : v17 = _ := h17
    obtain rfl : v18 = _ := h18
    clear h0 h1 h2 h3 h4 h5 h6 h7 h8 h9 h10 h11 h12 h13 h14 h15 h16
    have hb18 := ext_trans hbX hb8
    have hC8 := HB.out.1.ext hb18
    have hF8 := HB.out.2.1.ext HB.out.1 hb18
    have hbw8 := ext_trans HB.out.2.2 hb18
    have HR := Lib.hid (res2s (.string on) (.string od) hC8 hbw8 (by omega))
    obtain ⟨hbF, z0, z1⟩ := id HR.out
    have r0 : w8.cell? ⟨w.heap.size + 2, 0, none⟩ = some (.string ⟨#[]⟩) := hC8.2 0
    have r1 : w8.cell? ⟨w.heap.size + 2, 1, none⟩ = some (.string ⟨#[]⟩) := hC8.2 1
    have g0 := hF8 0
    have g1 := hF8 1
    clear hbF x0 x1 x2 y0 y1 y2 hC8 hF8 hbw8 hb8 hb18
    show wpList _ _ _ _ _ _
    simp only [Act.put, List.setIfInBounds_toArray, List.set_cons_succ, List.set_cons_zero]
    go_wp2
    exact bodyPost_ret (v := .tuple #[.agg #[.string on, .string od], .int .i64 of]) (by simp [results, Tryz.results80, go_sem, z0, z1]) rfl ⟨rfl, HR.out.1⟩
  · have hne : (bF n1 d1 n2 d2 != 0) = true := by simp [hz]
    have HN2 : Hid (on = ⟨#[]⟩) := by have := HN.out; rw [if_neg hz] at this; exact this
    have HD2 : Hid (od = ⟨#[]⟩) := by have := HDn.out; rw [if_neg hz] at this; exact this
    have HF3 : Hid (of = bF n1 d1 n2 d2) := by have := HFn.out; rw [if_neg hz] at this; exact this
    clear hz HN HDn HFn
    have HR := Lib.hid (res2s (.string ⟨#[]⟩) (.string ⟨#[]⟩) HB.out.1 HB.out.2.2 (by omega))
    obtain ⟨hbF, z0, z1⟩ := id HR.out
    have r0 : w1.cell? ⟨w.heap.size + 2, 0, none⟩ = some (.string ⟨#[]⟩) := HB.out.1.2 0
    have r1 : w1.cell? ⟨w.heap.size + 2, 1, none⟩ = some (.string ⟨#[]⟩) := HB.out.1.2 1
    have g0 := HB.out.2.1 0
    have g1 := HB.out.2.1 1
    clear hbF
    go_wp2
    exact bodyPost_ret (v := .tuple #[.agg #[.string ⟨#[]⟩, .string ⟨#[]⟩], .int .i64 (bF n1 d1 n2 d2)]) (by simp [results, Tryz.results80, go_sem, z0, z1]) rfl ⟨by rw [HN2.out, HD2.out, HF3.out], HR.out.1⟩
end Nt
end Go.Proofs.YtemenlcigengeaaGreatDoor
