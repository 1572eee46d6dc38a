/- Inverse of package value. Inverse of the reference. A region that draws its order and makes several new blocks: they differ. No program stands in it. Printed by gen_grow2.py from XGrow. -/
import Derived.Test.YtmnmepbljegjeaaGreatDoorFair27
import Derived.Test.YtmnmepbljegjeaaGreatDoorFair28
import Derived.Test.YtmnmepbljegjeaaGreatDoorFair25
namespace Go.Proofs.YtmnmepbljegjeaaGreatDoor
open Go.RowKit
namespace Nm
/-- the inverse of a ratio -/
def iF (n d : ByteArray) : Int := if rF n d ≠ 0 then rF n d else if (rQ n d).num = 0 then 14 else outF (rQ n d)⁻¹
def iN (n d : ByteArray) : ByteArray := if rF n d ≠ 0 then ⟨#[]⟩ else if (rQ n d).num = 0 then ⟨#[]⟩ else outN (rQ n d)⁻¹
def iD (n d : ByteArray) : ByteArray := if rF n d ≠ 0 then ⟨#[]⟩ else if (rQ n d).num = 0 then ⟨#[]⟩ else outD (rQ n d)⁻¹
set_option maxHeartbeats 1000000 in
theorem inverse_at (n d : ByteArray) (h1 : n.size ≤ maxLen) (h2 : d.size ≤ maxLen) (w : World) : Calls Tryz.prog 21 #[.agg #[.string n, .string d]] w (AnsPost w (iN n d) (iD n d) (iF n d)) := by
  have HN : Hid (iN n d = if rF n d ≠ 0 then ⟨#[]⟩ else if (rQ n d).num = 0 then ⟨#[]⟩ else outN (rQ n d)⁻¹) := Lib.hid rfl
  have HDn : Hid (iD n d = if rF n d ≠ 0 then ⟨#[]⟩ else if (rQ n d).num = 0 then ⟨#[]⟩ else outD (rQ n d)⁻¹) := Lib.hid rfl
  have HFn : Hid (iF n d = if rF n d ≠ 0 then rF n d else if (rQ n d).num = 0 then 14 else outF (rQ n d)⁻¹) := Lib.hid rfl
  generalize iN n d = on at *
  generalize iD n d = od at *
  generalize iF n d = of at *
  go_enter Tryz.func21, Tryz.ntmps21
  go_upto_region 1 with (fail)
  refine wp_box2r fun W hsz hbW hA hC hF => ?_
  clear hsz
  obtain ⟨_, oA⟩ := id hA
  go_wp2_with fail
  refine (xratOf_is n d h1 h2 W).mono ?_
  rintro e w1 ⟨b, p1, m1, c1, p2, m2, c2, rfl, hX, hb1⟩
  have hC1 := hC.ext hb1
  have hF1 := hF.ext hC hb1
  have hbw1 := ext_trans hbW hb1
  clear hA hC hF hbW hb1 oA
  have hC2 := hC1.ext (W' := (w1.alloc (Obj.cells #[Value.bool b, Value.slice p1 m1 c1, Value.slice p2 m2 c2] 88))) (by go_grown)
  have hF2 := hF1.ext hC1 (W' := (w1.alloc (Obj.cells #[Value.bool b, Value.slice p1 m1 c1, Value.slice p2 m2 c2] 88))) (by go_grown)
  have hbw2 : Below w.heap.size w (w1.alloc (Obj.cells #[Value.bool b, Value.slice p1 m1 c1, Value.slice p2 m2 c2] 88)) := ext_trans hbw1 (by go_grown)
  have hnw : Box (w1.alloc (Obj.cells #[Value.bool b, Value.slice p1 m1 c1, Value.slice p2 m2 c2] 88)) w1.heap.size #[Value.bool b, Value.slice p1 m1 c1, Value.slice p2 m2 c2] := Box.new _ _ _
  have hX2 : rF n d = 0 → XR (w1.alloc (Obj.cells #[Value.bool b, Value.slice p1 m1 c1, Value.slice p2 m2 c2] 88)) (xv b p1 m1 c1 p2 m2 c2) (rQ n d) := fun h => (hX h).ext (by go_grown)
  have HC2 := Lib.hid hC2
  have HF2 := Lib.hid hF2
  have HBW := Lib.hid hbw2
  have HNW := Lib.hid hnw
  have HX2 := Lib.hid hX2
  clear hC1 hF1 hbw1 hX hC2 hF2 hbw2 hnw hX2
  by_cases hz : rF n d = 0
  · have hne : (rF n d != 0) = false := by simp [hz]
    have HZ := Lib.hid hz
    have hsm := rQ_small hz
    go_upto_region 4 with (fail)
    have hC3 := HC2.out
    have hF3 := HF2.out
    have hbw3 := HBW.out
    have hnw3 := HNW.out
    have hx3 := HX2.out hz
    clear HC2 HF2 HBW HNW HX2
    generalize (w1.alloc (Obj.cells #[Value.bool b, Value.slice p1 m1 c1, Value.slice p2 m2 c2] 88)) = w2 at *
    obtain ⟨_, oX⟩ := id hnw3
    go_wp2_with fail
    refine (zero_at (rQ n d) _ w2 hx3).mono ?_
    rintro e w3 ⟨rfl, hb3⟩
    have hC4 := hC3.ext hb3
    have hF4 := hF3.ext hC3 hb3
    have hbw4 := ext_trans hbw3 hb3
    have hnw4 := hnw3.ext hb3
    have hx4 := hx3.ext hb3
    clear hC3 hF3 hbw3 hnw3 hx3 oX hb3
    by_cases h0 : (rQ n d).num = 0
    · have HN2 : Hid (on = ⟨#[]⟩) := by have := HN.out; rw [if_neg (by simpa using hz), if_pos h0] at this; exact this
      have HD2 : Hid (od = ⟨#[]⟩) := by have := HDn.out; rw [if_neg (by simpa using hz), if_pos h0] at this; exact this
      have HF2 : Hid (of = 14) := by have := HFn.out; rw [if_neg (by simpa using hz), if_pos h0] at this; exact this
      have hd0 : decide ((rQ n d).num = 0) = true := decide_eq_true h0
      rw [hd0]
      clear h0 hz hd0 HN HDn HFn
      have r0 : w3.cell? ⟨w.heap.size + 1, 0, none⟩ = some (.string ⟨#[]⟩) := hC4.2 0
      have r1 : w3.cell? ⟨w.heap.size + 1, 1, none⟩ = some (.string ⟨#[]⟩) := hC4.2 1
      have g0 := hF4 0
      have g1 := hF4 1
      have hq := two_set (.string ⟨#[]⟩) (.string ⟨#[]⟩) r0 r1
      have hbF : Below w.heap.size w ((w3.setCell ⟨w.heap.size + 1, 0, none⟩ (.string ⟨#[]⟩)).setCell ⟨w.heap.size + 1, 1, none⟩ (.string ⟨#[]⟩)) := (hbw4.setCell (by simp) _).setCell (by simp) _
      go_wp2
      exact bodyPost_ret (v := .tuple #[.agg #[.string ⟨#[]⟩, .string ⟨#[]⟩], .int .i64 14]) (by simp [results, Tryz.results21, go_sem, hq.1, hq.2]) rfl ⟨by rw [HN2.out, HD2.out, HF2.out], hbF⟩
    · have HN2 : Hid (on = outN (rQ n d)⁻¹) := by have := HN.out; rw [if_neg (by simpa using hz), if_neg h0] at this; exact this
      have HD2 : Hid (od = outD (rQ n d)⁻¹) := by have := HDn.out; rw [if_neg (by simpa using hz), if_neg h0] at this; exact this
      have HF2 : Hid (of = outF (rQ n d)⁻¹) := by have := HFn.out; rw [if_neg (by simpa using hz), if_neg h0] at this; exact this
      have hd0 : decide ((rQ n d).num = 0) = false := decide_eq_false h0
      have HIV := Lib.hid (inv_facts h0)
      have HH0 := Lib.hid h0
      rw [hd0]
      clear h0 hz hd0 HN HDn HFn
      have HT := Lib.hid (turned_at (rQ n d) _ w3 hx4 HH0.out)
      generalize (rQ n d)⁻¹ = Z at *
      obtain ⟨_, oX⟩ := id hnw4
      go_wp2_with fail
      refine HT.out.mono ?_
      rintro e w5 ⟨vz, rfl, hz5, hb5⟩
      have hC5 := hC4.ext hb5
      have hF5 := hF4.ext hC4 hb5
      have hbw5 := ext_trans hbw4 hb5
      have HZ5 := Lib.hid hz5
      obtain ⟨e1, e2, e3, e4, rfl, _, _⟩ := hz5.open_
      clear hC4 hF4 hbw4 hnw4 hx4 oX hb5 hz5
      go_wp2_with fail
      refine (ratio_at _ _ _ HZ5.out (by rw [HIV.out.1]; have := hsm.2; omega) (by rw [HIV.out.2.1]; have := hsm.1; omega)).mono ?_
      rintro e w6 ⟨rfl, hb6⟩
      rw [← HN2.out, ← HD2.out, ← HF2.out]
      have hC6 := hC5.ext hb6
      have hF6 := hF5.ext hC5 hb6
      have hbw6 := ext_trans hbw5 hb6
      clear hC5 hF5 hbw5 hb6 HZ5 HN2 HD2 HF2
      have r0 : w6.cell? ⟨w.heap.size + 1, 0, none⟩ = some (.string ⟨#[]⟩) := hC6.2 0
      have r1 : w6.cell? ⟨w.heap.size + 1, 1, none⟩ = some (.string ⟨#[]⟩) := hC6.2 1
      have g0 := hF6 0
      have g1 := hF6 1
      have hq := two_set (.string on) (.string od) r0 r1
      have hbF : Below w.heap.size w ((w6.setCell ⟨w.heap.size + 1, 0, none⟩ (.string on)).setCell ⟨w.heap.size + 1, 1, none⟩ (.string od)) := (hbw6.setCell (by simp) _).setCell (by simp) _
      go_wp2
      exact bodyPost_ret (v := .tuple #[.agg #[.string on, .string od], .int .i64 of]) (by simp [results, Tryz.results21, go_sem, hq.1, hq.2]) rfl ⟨rfl, hbF⟩
  · have hne : (rF n d != 0) = true := by simp [hz]
    have HN2 : Hid (on = ⟨#[]⟩) := by have := HN.out; rw [if_pos hz] at this; exact this
    have HD2 : Hid (od = ⟨#[]⟩) := by have := HDn.out; rw [if_pos hz] at this; exact this
    have HF3 : Hid (of = rF n d) := by have := HFn.out; rw [if_pos hz] at this; exact this
    clear hz HN HDn HFn
    go_upto_region 3 with (fail)
    have hC3 := HC2.out
    have hF3 := HF2.out
    have hbw3 := HBW.out
    clear HC2 HF2 HBW HNW HX2
    generalize (w1.alloc (Obj.cells #[Value.bool b, Value.slice p1 m1 c1, Value.slice p2 m2 c2] 88)) = w2 at *
    have r0 : w2.cell? ⟨w.heap.size + 1, 0, none⟩ = some (.string ⟨#[]⟩) := hC3.2 0
    have r1 : w2.cell? ⟨w.heap.size + 1, 1, none⟩ = some (.string ⟨#[]⟩) := hC3.2 1
    have g0 := hF3 0
    have g1 := hF3 1
    have hq := two_set (.string ⟨#[]⟩) (.string ⟨#[]⟩) r0 r1
    have hbF : Below w.heap.size w ((w2.setCell ⟨w.heap.size + 1, 0, none⟩ (.string ⟨#[]⟩)).setCell ⟨w.heap.size + 1, 1, none⟩ (.string ⟨#[]⟩)) := (hbw3.setCell (by simp) _).setCell (by simp) _
    go_wp2
    exact bodyPost_ret (v := .tuple #[.agg #[.string ⟨#[]⟩, .string ⟨#[]⟩], .int .i64 (rF n d)]) (by simp [results, Tryz.results21, go_sem, hq.1, hq.2]) rfl ⟨by rw [HN2.out, HD2.out, HF3.out], hbF⟩
end Nm
end Go.Proofs.YtmnmepbljegjeaaGreatDoor
namespace Go.Proofs.YtmnmepbljegjeaaGreatDoor
open Go.RowKit
namespace Nt
open _root_.Go.Proofs.YtmnmepbljegjeaaGreatDoor.Nm (rF rQ sgn outN outD outF AnsPost bF iN iD iF rQ_facts inv_facts sgn_self cutS cutB)
theorem small_digs9 {n d : ByteArray} (h : rF n d = 0) : wlen (rQ n d).num.natAbs ≤ 4000 ∧ wlen (rQ n d).den ≤ 4000 := by
  obtain ⟨_, h2, h3, h4, h5, h6, h7, _⟩ := rQ_facts h
  have l1 : (cutS n).data.toList.length = (cutS n).size := Array.length_toList
  have l2 : d.data.toList.length = d.size := Array.length_toList
  refine ⟨?_, ?_⟩
  · rw [h2, Nm.sgn_natAbs]; exact wlen_dec9 (whole_digs h4) (by omega)
  · rw [h3]; exact wlen_dec9 (whole_digs h5) (by omega)
theorem open_is (n d : ByteArray) (hn : n.size ≤ maxLen) (h : rF n d = 0) (w : World) : Calls Tryz.prog 84 #[.agg #[.string n, .string d]] w (FrPost w (decide ((rQ n d).num < 0)) (rQ n d).num.natAbs (rQ n d).den) := by
  obtain ⟨_, h2, h3, h4, h5, h6, h7, h8⟩ := rQ_facts h
  have := open_at n d hn (whole_digs h4) (whole_digs h5) h6 h7 w
  rw [h8, h2, h3, Nm.sgn_natAbs]
  exact this
theorem inv_norm {q : Rat} (h : q.num.natAbs ≠ 0) : Rat.normalize (sgn (decide (q.num < 0)) q.den) q.num.natAbs h = q⁻¹ := by
  have h0 : q.num ≠ 0 := by omega
  obtain ⟨f1, f2, f3, f4⟩ := inv_facts h0
  have e : sgn (decide (q.num < 0)) q.den = q⁻¹.num := by
    have := sgn_self q⁻¹.num
    rw [f1, f3] at this
    exact this
  have hr := Rat.normalize_self q⁻¹
  have hd : q⁻¹.den ≠ 0 := q⁻¹.den_nz
  rw [← hr]
  simp only [e, f2]
set_option maxRecDepth 100000 in
set_option maxHeartbeats 8000000 in
theorem refInverse_at (n d : ByteArray) (h1 : n.size ≤ maxLen) (h2 : d.size ≤ maxLen) (w : World) (ht : Tab w) : Calls Tryz.prog 22 #[.agg #[.string n, .string d]] w (AnsPost w (iN n d) (iD n d) (iF n d)) := by
  have HN : Hid (iN n d = if rF n d ≠ 0 then ⟨#[]⟩ else if (rQ n d).num = 0 then ⟨#[]⟩ else outN (rQ n d)⁻¹) := Lib.hid rfl
  have HDn : Hid (iD n d = if rF n d ≠ 0 then ⟨#[]⟩ else if (rQ n d).num = 0 then ⟨#[]⟩ else outD (rQ n d)⁻¹) := Lib.hid rfl
  have HFn : Hid (iF n d = if rF n d ≠ 0 then rF n d else if (rQ n d).num = 0 then 14 else outF (rQ n d)⁻¹) := Lib.hid rfl
  generalize iN n d = on at *
  generalize iD n d = od at *
  generalize iF n d = of at *
  go_enter Tryz.func22, Tryz.ntmps22
  go_upto_region 1 with (fail)
  refine wp_box2r fun W hsz hbW hA hC hF => ?_
  have HT := Lib.hid (ht.ext hbW)
  clear hsz ht
  have a0 : W.cell? ⟨w.heap.size, 0, none⟩ = some (.string n) := hA.2 0
  have a1 : W.cell? ⟨w.heap.size, 1, none⟩ = some (.string d) := hA.2 1
  go_wp2_with fail
  refine (refCheck_at n d h1 h2 W HT.out).mono ?_
  rintro e w1 ⟨rfl, hb1⟩
  have hA1 := hA.ext hb1
  have hC1 := hC.ext hb1
  have hF1 := hF.ext hC hb1
  have hbw1 := ext_trans hbW hb1
  have HT1 := Lib.hid (HT.out.ext hb1)
  clear hA hC hF hbW hb1 a0 a1 HT
  have a0 : w1.cell? ⟨w.heap.size, 0, none⟩ = some (.string n) := hA1.2 0
  have a1 : w1.cell? ⟨w.heap.size, 1, none⟩ = some (.string d) := hA1.2 1
  by_cases hz : rF n d = 0
  · have hne : (rF n d != 0) = false := by simp [hz]
    have hsm := small_digs9 hz
    have HO := Lib.hid (open_is n d h1 hz w1)
    have HB := Lib.hid (And.intro hC1 (And.intro hF1 hbw1))
    clear hA1 hC1 hF1 hbw1
    go_wp2_with fail
    refine HO.out.mono ?_
    rintro e w2 ⟨v1, v2, rfl, hv1, hv2, hb2⟩
    obtain ⟨p1, c1, rfl, _⟩ := hv1.open_
    obtain ⟨p2, c2, rfl, _⟩ := hv2.open_
    have hC2 := HB.out.1.ext hb2
    have hF2 := HB.out.2.1.ext HB.out.1 hb2
    have hbw2 := ext_trans HB.out.2.2 hb2
    have HT2 := Lib.hid (HT1.out.ext hb2)
    have HV := Lib.hid (And.intro hv1 hv2)
    have HB2 := Lib.hid (And.intro hC2 (And.intro hF2 hbw2))
    clear a0 a1 HO HB hv1 hv2 hb2 hC2 hF2 hbw2 HT1
    go_upto_region 5 with (fail)
    refine wp_box1 fun w3 hsz3 hb3 hX3 => ?_
    clear hsz3
    have hC3 := HB2.out.1.ext hb3
    have hF3 := HB2.out.2.1.ext HB2.out.1 hb3
    have hbw3 := ext_trans HB2.out.2.2 hb3
    have HT3 := Lib.hid (HT2.out.ext hb3)
    have HV3 := Lib.hid (And.intro (HV.out.1.ext hb3) (HV.out.2.ext hb3))
    have HB3 := Lib.hid (And.intro hC3 (And.intro hF3 hbw3))
    have x0 : w3.cell? ⟨w2.heap.size, 0, none⟩ = some (.bool (decide ((rQ n d).num < 0))) := hX3.2 0
    have x1 : w3.cell? ⟨w2.heap.size, 1, none⟩ = some (.slice p1 (digs (rQ n d).num.natAbs).length c1) := hX3.2 1
    have x2 : w3.cell? ⟨w2.heap.size, 2, none⟩ = some (.slice p2 (digs (rQ n d).den).length c2) := hX3.2 2
    have HZ : Hid (((((digs (rQ n d).num.natAbs).length : Nat) : Int) == 0) = decide ((rQ n d).num = 0)) := by
      have : ((((digs (rQ n d).num.natAbs).length : Nat) : Int) == 0) = decide ((rQ n d).num = 0) := by
        rw [Bool.eq_iff_iff, beq_iff_eq, decide_eq_true_eq]
        have h := @wlen_eq_zero (rQ n d).num.natAbs
        unfold wlen at h
        omega
      exact this
    clear HB2 HV HT2 hb3 hC3 hF3 hbw3 hX3
    by_cases h0 : (rQ n d).num = 0
    · have HN2 : Hid (on = ⟨#[]⟩) := by have := HN.out; rw [if_neg (by simpa using hz), if_pos h0] at this; exact this
      have HD2 : Hid (od = ⟨#[]⟩) := by have := HDn.out; rw [if_neg (by simpa using hz), if_pos h0] at this; exact this
      have HF2 : Hid (of = 14) := by have := HFn.out; rw [if_neg (by simpa using hz), if_pos h0] at this; exact this
      have hz0 : ((((digs (rQ n d).num.natAbs).length : Nat) : Int) == 0) = true := HZ.out.trans (decide_eq_true h0)
      clear h0 HN HDn HFn hz hsm HZ
      have HR := Lib.hid (res2s (.string ⟨#[]⟩) (.string ⟨#[]⟩) HB3.out.1 HB3.out.2.2 (by omega))
      obtain ⟨hbF, z0, z1⟩ := id HR.out
      have r0 : w3.cell? ⟨w.heap.size + 1, 0, none⟩ = some (.string ⟨#[]⟩) := HB3.out.1.2 0
      have r1 : w3.cell? ⟨w.heap.size + 1, 1, none⟩ = some (.string ⟨#[]⟩) := HB3.out.1.2 1
      have g0 := HB3.out.2.1 0
      have g1 := HB3.out.2.1 1
      clear hbF
      go_wp2
      exact bodyPost_ret (v := .tuple #[.agg #[.string ⟨#[]⟩, .string ⟨#[]⟩], .int .i64 14]) (by simp [results, Tryz.results22, go_sem, z0, z1]) rfl ⟨by rw [HN2.out, HD2.out, HF2.out], HR.out.1⟩
    · have HN2 : Hid (on = outN (rQ n d)⁻¹) := by have := HN.out; rw [if_neg (by simpa using hz), if_neg h0] at this; exact this
      have HD2 : Hid (od = outD (rQ n d)⁻¹) := by have := HDn.out; rw [if_neg (by simpa using hz), if_neg h0] at this; exact this
      have HF2 : Hid (of = outF (rQ n d)⁻¹) := by have := HFn.out; rw [if_neg (by simpa using hz), if_neg h0] at this; exact this
      have hz0 : ((((digs (rQ n d).num.natAbs).length : Nat) : Int) == 0) = false := HZ.out.trans (decide_eq_false h0)
      have hnn : (rQ n d).num.natAbs ≠ 0 := by omega
      have HS := Lib.hid (shut_at (decide ((rQ n d).num < 0)) (rQ n d).den (rQ n d).num.natAbs hnn _ _ w3 HV3.out.2 HV3.out.1 (by omega) (by omega) HT3.out)
      rw [inv_norm hnn, ← HN2.out, ← HD2.out, ← HF2.out] at HS
      clear h0 hnn HN HDn HFn hz hsm HZ HN2 HD2 HF2 HT3 HV3
      go_wp2_with fail
      refine HS.out.mono ?_
      rintro e w4 ⟨rfl, hb4⟩
      have hC4 := HB3.out.1.ext hb4
      have hF4 := HB3.out.2.1.ext HB3.out.1 hb4
      have hbw4 := ext_trans HB3.out.2.2 hb4
      clear x0 x1 x2 HS HB3 hb4
      have HR := Lib.hid (res2s (.string on) (.string od) hC4 hbw4 (by omega))
      obtain ⟨hbF, z0, z1⟩ := id HR.out
      have r0 : w4.cell? ⟨w.heap.size + 1, 0, none⟩ = some (.string ⟨#[]⟩) := hC4.2 0
      have r1 : w4.cell? ⟨w.heap.size + 1, 1, none⟩ = some (.string ⟨#[]⟩) := hC4.2 1
      have g0 := hF4 0
      have g1 := hF4 1
      clear hbF
      go_wp2
      exact bodyPost_ret (v := .tuple #[.agg #[.string on, .string od], .int .i64 of]) (by simp [results, Tryz.results22, go_sem, z0, z1]) rfl ⟨rfl, HR.out.1⟩
  · have hne : (rF n d != 0) = true := by simp [hz]
    have HN2 : Hid (on = ⟨#[]⟩) := by have := HN.out; rw [if_pos hz] at this; exact this
    have HD2 : Hid (od = ⟨#[]⟩) := by have := HDn.out; rw [if_pos hz] at this; exact this
    have HF3 : Hid (of = rF n d) := by have := HFn.out; rw [if_pos hz] at this; exact this
    clear hz HN HDn HFn
    have HR := Lib.hid (res2s (.string ⟨#[]⟩) (.string ⟨#[]⟩) hC1 hbw1 (by omega))
    obtain ⟨hbF, z0, z1⟩ := id HR.out
    have r0 : w1.cell? ⟨w.heap.size + 1, 0, none⟩ = some (.string ⟨#[]⟩) := hC1.2 0
    have r1 : w1.cell? ⟨w.heap.size + 1, 1, none⟩ = some (.string ⟨#[]⟩) := hC1.2 1
    have g0 := hF1 0
    have g1 := hF1 1
    clear hbF hA1 hC1 hF1 hbw1
    go_wp2
    exact bodyPost_ret (v := .tuple #[.agg #[.string ⟨#[]⟩, .string ⟨#[]⟩], .int .i64 (rF n d)]) (by simp [results, Tryz.results22, go_sem, z0, z1]) rfl ⟨by rw [HN2.out, HD2.out, HF3.out], HR.out.1⟩
end Nt
end Go.Proofs.YtmnmepbljegjeaaGreatDoor
namespace Go.Proofs.YtmnmepbljegjeaaGreatDoor
open Go.RowKit
namespace Grow
section
variable {P : Program}
/-- what an operation gives: a known thing, or a block made new -/
inductive TQ where
  | is (T : TP)
  | new (A : Array Value)
def TQ.at (B : Nat) : TQ → TP
  | .is T => T
  | .new A => TP.new B A
def TQ.isNew : TQ → Bool
  | .is _ => false
  | .new _ => true
def tpAt (B : Nat) (Ts : List TQ) (j : Nat) : TP := (Ts.getD j (.is TP.any)).at B
def newB (Ts : List TQ) (j : Nat) : Bool := (Ts.getD j (.is TP.any)).isNew
theorem tpAt_mono {B B' : Nat} {Ts : List TQ} {j : Nat} {w : World} {v : Value} (hB : B ≤ B') (h : (tpAt B' Ts j).p w v) : (tpAt B Ts j).p w v := by
  unfold tpAt at h ⊢
  cases he : Ts.getD j (.is TP.any) with
  | is T => rw [he] at h; exact h
  | new A => rw [he] at h; obtain ⟨g, h1, h2, h3⟩ := h; exact ⟨g, h1, Nat.le_trans hB h2, h3⟩
theorem tpAt_new' {B : Nat} {Ts : List TQ} {j : Nat} {w : World} {v : Value} (hn : newB Ts j = true) (h : (tpAt B Ts j).p w v) : ∃ g, v = .pointer (some ⟨g, 0, none⟩) ∧ g < w.heap.size ∧ B ≤ g := by
  unfold tpAt at h
  unfold newB at hn
  cases he : Ts.getD j (.is TP.any) with
  | is T => rw [he] at hn; cases hn
  | new A => rw [he] at h; obtain ⟨g, h1, h2, h3, _⟩ := h; exact ⟨g, h1, h3.1, h2⟩
theorem tpAt_new {B : Nat} {Ts : List TQ} {j : Nat} {w : World} {v : Value} (hn : newB Ts j = true) (h : (tpAt B Ts j).p w v) : ∃ g, v = .pointer (some ⟨g, 0, none⟩) ∧ g < w.heap.size := by
  obtain ⟨g, h1, h2, _⟩ := tpAt_new' hn h
  exact ⟨g, h1, h2⟩
def basesOf (B : Nat) (Ts : List TQ) : List TP := Ts.map (·.at B)
theorem basesOf_get (B : Nat) (Ts : List TQ) (j : Nat) : (basesOf B Ts).getD j TP.any = tpAt B Ts j := by
  unfold basesOf tpAt
  simp only [List.getD_eq_getElem?_getD, List.getElem?_map]
  cases Ts[j]? <;> rfl
def HeadOk2 (P : Program) (ops : Array Oper) (Ts : List TQ) (w : World) (a0 : Act) (D : List (List Nat)) : List Oper → Nat → Prop
  | [], _ => True
  | o :: l, i => (∀ w', Below w.heap.size w w' → Need ops (basesOf w.heap.size Ts) w' (fun a => wpList P ops (OpPost o (tpAt w'.heap.size Ts i) w' a0.defers) [o] a w') (D.getD i []) a0) ∧ HeadOk2 P ops Ts w a0 D l (i + 1)
theorem HeadOk2.get {ops : Array Oper} {Ts : List TQ} {w : World} {a0 : Act} {D : List (List Nat)} : ∀ (l : List Oper) (k : Nat), HeadOk2 P ops Ts w a0 D l k → ∀ j o, l[j]? = some o → ∀ w', Below w.heap.size w w' → Need ops (basesOf w.heap.size Ts) w' (fun a => wpList P ops (OpPost o (tpAt w'.heap.size Ts (k + j)) w' a0.defers) [o] a w') (D.getD (k + j) []) a0
  | [], _, _, _, _, h => by simp at h
  | x :: l, k, h, 0, o, ho => by
    simp at ho; subst ho; exact h.1
  | x :: l, k, h, j + 1, o, ho => by
    have := HeadOk2.get l (k + 1) h.2 j o (by simpa using ho)
    rw [show k + (j + 1) = k + 1 + j by omega]; exact this
def TailOk2 (Ts : List TQ) (B : Nat) (K : List Value → Act → Prop) (w : World) : List Oper → Nat → Act → List Value → Prop
  | [], _, a, vs => K vs a
  | o :: l, i, a, vs => ∀ v, (tpAt B Ts i).p w v → TailOk2 Ts B K w l (i + 1) (a.put o.dst v) (vs ++ [v])
theorem getD_map_range {m k : Nat} {f : Nat → Value} (h : k < m) : ((List.range m).map f).getD k undef = f k := by
  simp [List.getD_eq_getElem?_getD, h]
theorem TailOk2.at {Ts : List TQ} {B : Nat} {K : List Value → Act → Prop} {w : World} {vs : Nat → Value} : ∀ (l : List Oper) (i : Nat) (a : Act) (us : List Value), TailOk2 Ts B K w l i a us → (∀ j, j < l.length → (tpAt B Ts (i + j)).p w (vs (i + j))) → K (us ++ (List.range l.length).map (fun j => vs (i + j))) (foldPut vs l i a)
  | [], _, _, us, h, _ => by simpa [foldPut, TailOk2] using h
  | o :: l, i, a, us, h, hv => by
    have := TailOk2.at l (i + 1) _ _ (h (vs i) (by simpa using hv 0 (by simp))) (fun j hj => by have := hv (j + 1) (by simp; omega); rwa [show i + (j + 1) = i + 1 + j by omega] at this)
    simp only [List.length_cons, List.range_succ_eq_map, List.map_cons, List.map_map, foldPut]
    rw [List.append_assoc, List.singleton_append] at this
    have e : (fun j => vs (i + 1 + j)) = (fun j => vs (i + j)) ∘ Nat.succ := by
      funext j; simp only [Function.comp]; congr 1; omega
    rw [e] at this
    exact this
/-- THE LAW: as wp_region_grow, and the blocks that are made new differ. -/
theorem wp_region_grow2 {id : Nat} {Q : Exit → Act → World → Prop} {a0 : Act} {w : World} {l : List Oper} (n : Nat) (Ts : List TQ) (D : List (List Nat)) (hm : P.follows .mixedOrders = true) (hB : growB l.toArray n D = true)
    (hops : HeadOk2 P l.toArray Ts w a0 D (l.take n) 0)
    (htail : ∀ w', Below w.heap.size w w' → TailOk2 Ts w.heap.size (fun vs a => (∀ i j, i < n → j < n → i ≠ j → newB Ts i = true → newB Ts j = true → vs.getD i undef ≠ vs.getD j undef) → wpList P l.toArray Q (l.drop n) a w') w' (l.take n) 0 a0 []) : (Code.region id l.toArray true).wp P Q a0 w := by
  simp only [growB, headB, Bool.and_eq_true, decide_eq_true_eq, Bool.or_eq_true] at hB
  obtain ⟨⟨⟨⟨⟨hsel, hn⟩, hdist⟩, hlook⟩, hsink⟩, hseq⟩ := hB
  have hD := dists_spec hdist
  have hnl : n ≤ l.length := by simpa using hn
  have key : ∀ f (listed : Array Bool) (a : Act) (w' : World) (vs : Nat → Value), cnt listed n = f → HeadInv .any l.toArray n listed → a = putN l.toArray (fun j => listed.getD j false) vs a0 n →
      (∀ j, j < n → listed.getD j false = true → (tpAt w.heap.size Ts j).p w' (vs j)) → (∀ i j, i < n → j < n → i ≠ j → listed.getD i false = true → listed.getD j false = true → newB Ts i = true → newB Ts j = true → vs i ≠ vs j) → Below w.heap.size w w' → wpAny P .any l.toArray Q (f + (l.toArray.size - n)) listed a w' := by
    intro f
    induction f with
    | zero =>
      intro listed a w' vs hc inv ha hv hpw hb
      have hall : ∀ i, i < n → listed.getD i false = true := fun i hi => by
        have h1 := cnt_zero n hc i hi
        have hlt : i < listed.size := by rw [inv.size]; omega
        simp [hlt] at h1 ⊢; exact h1
      have hls : listed = ((List.range l.toArray.size).map fun i => decide (i < n)).toArray := by
        refine Array.ext (by simp [inv.size]) (fun i h1 h2 => ?_)
        simp only [List.getElem_toArray, List.getElem_map, List.getElem_range]
        by_cases hin : i < n
        · have := hall i hin
          simp only [hin, decide_true]
          simpa [h1] using this
        · have := inv.tail i (by omega) (by rw [← inv.size]; exact h1)
          simp only [hin, decide_false]
          simpa [h1] using this
      have ht := TailOk2.at (vs := vs) _ _ _ _ (htail w' hb) (fun j hj => by
        rw [Nat.zero_add]
        have hj' : j < n := by simp at hj; omega
        exact hv j hj' (hall j hj'))
      rw [List.nil_append] at ht
      have ht := ht (fun i j hi hj hij h1 h2 => by
        have hlen : (l.take n).length = n := by simp; omega
        rw [getD_map_range (by omega), getD_map_range (by omega)]
        rw [Nat.zero_add, Nat.zero_add]
        exact hpw i j hi hj hij (hall i hi) (hall j hj) h1 h2)
      rw [fold_putN (L := fun j => listed.getD j false) n hnl hall, ← ha] at ht
      have := wpAny_of_seq (md := .any) (Q' := Q) (l.drop n) n listed a w' (fun j => by simp [List.getElem?_drop]) (by rw [hls]; simpa using hseq) ht
      simpa using this
    | succ f ih =>
      intro listed a w' vs hc inv ha hv hpw hb
      obtain ⟨i0, hi0, hun0⟩ := cnt_pos n (by omega : cnt listed n ≠ 0)
      rw [show f + 1 + (l.toArray.size - n) = (f + (l.toArray.size - n)) + 1 by omega]
      refine ⟨fun h0 => absurd h0 (ready_some hlook inv.size i0 hi0 hun0), fun i hi => ?_⟩
      obtain ⟨hun, oi, hoi, hall⟩ := mem_ready.1 hi
      have hilt := (Array.getElem?_eq_some_iff.1 hoi).1
      have hin : i < n := by
        rcases hsink with h | ⟨h1, h2⟩
        · omega
        · rcases Nat.lt_or_ge i n with h | h
          · exact h
          · exact absurd hi (tail_waits h1 h2 (by omega) inv _ i0 rfl hi0 hun0 i h)
      obtain ⟨o, ho, hk⟩ := looks_spec hlook hin
      have : oi = o := Option.some.inj (hoi.symm.trans ho)
      subst this
      have hlist : ∀ j ∈ D.getD i [], listed.getD j false = true := fun j hj => by
        obtain ⟨oj, h1, e, he, hbd, hon⟩ := Region.waitsFor_spec (hk.deps j hj).2
        have : oj = oi := Option.some.inj (h1.symm.trans hoi)
        subst this
        rw [← hon]; exact hall e he hbd
      have hneed := (HeadOk2.get _ 0 hops i oi (by rw [List.getElem?_take_of_lt hin]; simpa using hoi) w' hb).at (vs := vs) _ _ (fun j hj => by
        rw [basesOf_get]
        exact hv j (hk.deps j (by simpa using hj)).1 (hlist j (by simpa using hj)))
      rw [Nat.zero_add] at hneed
      have hdef : (putD l.toArray vs (D.getD i []) a0).defers = a0.defers := by
        have : ∀ (Dl : List Nat) (b : Act), (putD l.toArray vs Dl b).defers = b.defers := by
          intro Dl
          induction Dl with
          | nil => intro b; rfl
          | cons j js ihj => intro b; unfold putD; rw [ihj, put_defers]
        exact this _ _
      have hfalse : listed.getD i false = false := getD_both hun
      have hsame : ∀ t j, j ∈ D.getD i [] → dstOf l.toArray j = some t → a.eval (.tmp t) = (putD l.toArray vs (D.getD i []) a0).eval (.tmp t) := fun t j hjD hjt => by
        have hj := (hk.deps j hjD).1
        rw [ha, putN_same n hD j hj (hlist j hjD) hjt, putD_same (D.getD i []) a0 hjD hjt (fun k hk' hkj => hD j k t hj (hk.deps k hk').1 (fun e => hkj e.symm) hjt)]
      have hwant : Region.wanted oi (yielded l.toArray a.tmps) = Region.wanted oi (yielded l.toArray (putD l.toArray vs (D.getD i []) a0).tmps) := by
        unfold Region.wanted
        cases hgd : oi.guard with
        | none => rfl
        | some gb =>
          obtain ⟨g, b⟩ := gb
          have hgD := hk.guard g b hgd
          have hgl := (hk.deps g hgD).1
          have : yielded l.toArray a.tmps g = yielded l.toArray (putD l.toArray vs (D.getD i []) a0).tmps g := by
            unfold yielded
            cases hdg : (l.toArray[g]?).bind (·.dst) with
            | none => rfl
            | some t =>
              simp only [Option.bind_some]
              rw [tmps_eval (by rw [ha, putN_size, putD_size]) (hsame t g hgD hdg)]
          simp only [this]
      refine wpOp_of_one (a1 := putD l.toArray vs (D.getD i []) a0) hoi hwant (fun cs b => Region.noSelect_spec hsel i oi cs b hoi) (fun x hx => ?_) (by rw [ha, putN_size, putD_size]) (T := tpAt w'.heap.size Ts i) (by rw [hdef]; exact hneed) (fun v w'' hT hb' => ?_)
      · cases x with
        | tmp t =>
          by_cases hex : ∃ j, j < n ∧ dstOf l.toArray j = some t
          · obtain ⟨j, hj, hjt⟩ := hex
            have hjD := hk.ops t hx j hj hjt
            rw [ha, putN_same n hD j hj (hlist j hjD) hjt, putD_same (D.getD i []) a0 hjD hjt (fun k hk' hkj => hD j k t hj (hk.deps k hk').1 (fun e => hkj e.symm) hjt)]
          · rw [ha, putN_other n (fun j hj _ e => hex ⟨j, hj, e⟩), putD_other _ _ (fun j hj e => hex ⟨j, (hk.deps j hj).1, e⟩)]
        | _ => rfl
      · have hsz : a.tmps.size = a0.tmps.size := by rw [ha, putN_size]
        refine ih (listed.setIfInBounds i true) (a.put oi.dst v) w'' (fun j => if j = i then (match oi.dst with | some d => if d < a.tmps.size then v else undef | none => v) else vs j) (by have := cnt_set hun n hin; omega) (inv.set hi hin) ?_ ?_ ?_ (hb.trans (hb'.mono hb.size))
        · have hdo : dstOf l.toArray i = oi.dst := by unfold dstOf; rw [hoi]; rfl
          have hgd : (fun j => (listed.setIfInBounds i true).getD j false) = fun j => listed.getD j false || decide (j = i) := by
            funext j
            by_cases hji : j = i
            · subst hji
              have hlt : j < listed.size := by rw [inv.size]; exact hilt
              simp [hlt]
            · rw [getD_set_ne false (fun e => hji e.symm)]; simp [hji]
          rw [hgd, putN_add _ n hD hin hfalse, ← ha, hdo]
          cases hd : oi.dst with
          | none => rfl
          | some d =>
            by_cases hlt : d < a.tmps.size
            · simp [hlt]
            · simp only [hlt, if_false, Act.put]
              rw [Array.setIfInBounds_eq_of_size_le (Nat.le_of_not_lt hlt), Array.setIfInBounds_eq_of_size_le (Nat.le_of_not_lt hlt)]
        · intro j hj hl
          by_cases hji : j = i
          · subst hji
            simp only [if_true]
            cases hd : oi.dst with
            | none => have := hk.dst; rw [hd] at this; cases this
            | some d => exact tpAt_mono hb.size (hT d hd)
          · simp only [hji, if_false]
            rw [getD_set_ne false (fun e => hji e.symm)] at hl
            exact (tpAt w.heap.size Ts j).gr _ _ _ hb' (hv j hj hl)
        · have hvi : ∀ j, j < n → j ≠ i → listed.getD j false = true → newB Ts i = true → newB Ts j = true → (match oi.dst with | some d => if d < a.tmps.size then v else undef | none => v) ≠ vs j := by
            intro j hj hji hl h1 h2
            obtain ⟨g, hg, hlt⟩ := tpAt_new h2 (hv j hj hl)
            cases hd : oi.dst with
            | none => have := hk.dst; rw [hd] at this; cases this
            | some d =>
              obtain ⟨g', hg', _, hge⟩ := tpAt_new' h1 (hT d hd)
              show (if d < a.tmps.size then v else undef) ≠ vs j
              rw [hg', hg]
              intro e
              injection e with e
              injection e with e
              injection e with e
              omega
          intro i1 j1 hi1 hj1 hij hl1 hl2 hn1 hn2
          by_cases h1 : i1 = i
          · subst h1
            have hji : j1 ≠ i1 := fun e => hij e.symm
            rw [getD_set_ne false (fun e => hji e.symm)] at hl2
            simp only [if_true, hji, if_false]
            exact hvi j1 hj1 hji hl2 hn1 hn2
          · by_cases h2 : j1 = i
            · subst h2
              rw [getD_set_ne false (fun e => h1 e.symm)] at hl1
              simp only [if_true, h1, if_false]
              exact (hvi i1 hi1 h1 hl1 hn2 hn1).symm
            · rw [getD_set_ne false (fun e => h1 e.symm)] at hl1
              rw [getD_set_ne false (fun e => h2 e.symm)] at hl2
              simp only [h1, h2, if_false]
              exact hpw i1 j1 hi1 hj1 hij hl1 hl2 hn1 hn2
  have inv0 : HeadInv .any l.toArray n (Array.replicate l.toArray.size false) :=
    ⟨by simp, fun j oj _ hl => (by rw [getD_replicate_false] at hl; cases hl), fun t _ ht => getD_in (by simpa using ht) (getD_replicate_false _ _)⟩
  refine wp_region_any hm ?_
  have hcnt : ∀ k, k ≤ l.toArray.size → cnt (Array.replicate l.toArray.size false) k = k := by
    intro k
    induction k with
    | zero => intro _; rfl
    | succ k ih =>
      intro hk
      have h1 := ih (by omega)
      have h2 : (Array.replicate l.toArray.size false).getD k true = false := getD_in (by simp at hk ⊢; omega) (getD_replicate_false _ _)
      simp only [cnt, h2, if_true]
      omega
  have := key n _ a0 { w with drawn := w.drawn + 1 } (fun _ => undef) (hcnt n hn) inv0 ?_ (fun j _ hl => by rw [getD_replicate_false] at hl; cases hl) (fun i j _ _ _ hl => by rw [getD_replicate_false] at hl; cases hl) ⟨rfl, rfl, rfl, Nat.le_refl _, fun _ _ => rfl⟩
  · rwa [show n + (l.toArray.size - n) = l.toArray.size by omega] at this
  · have : ∀ k, putN l.toArray (fun j => (Array.replicate l.toArray.size false).getD j false) (fun _ => undef) a0 k = a0 := by
      intro k
      induction k with
      | zero => rfl
      | succ k ih => rw [putN_succ, getD_replicate_false, ih]; rfl
    exact (this n).symm
end
end Grow
end Go.Proofs.YtmnmepbljegjeaaGreatDoor
