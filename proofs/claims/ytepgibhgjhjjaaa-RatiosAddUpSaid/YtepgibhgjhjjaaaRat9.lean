/- Inverse of package value. -/
import Derived.Test.YtepgibhgjhjjaaaRat8
namespace Go.Proofs.Ytepgibhgjhjjaaa
open Go.RowKit
namespace Nm
/-- the inverse of a ratio -/
def iF (n d : ByteArray) : Int := if rF n d ≠ 0 then rF n d else if (rQ n d).num = 0 then 14 else outF (rQ n d)⁻¹
def iN (n d : ByteArray) : ByteArray := if rF n d ≠ 0 then ⟨#[]⟩ else if (rQ n d).num = 0 then ⟨#[]⟩ else outN (rQ n d)⁻¹
def iD (n d : ByteArray) : ByteArray := if rF n d ≠ 0 then ⟨#[]⟩ else if (rQ n d).num = 0 then ⟨#[]⟩ else outD (rQ n d)⁻¹
set_option maxHeartbeats 1000000 in
theorem inverse_at (n d : ByteArray) (h1 : n.size ≤ maxLen) (h2 : d.size ≤ maxLen) (w : World) : Calls Try.prog 12 #[.agg #[.string n, .string d]] w (AnsPost w (iN n d) (iD n d) (iF n d)) := by
  have HN : Hid (iN n d = if rF n d ≠ 0 then ⟨#[]⟩ else if (rQ n d).num = 0 then ⟨#[]⟩ else outN (rQ n d)⁻¹) := Lib.hid rfl
  have HDn : Hid (iD n d = if rF n d ≠ 0 then ⟨#[]⟩ else if (rQ n d).num = 0 then ⟨#[]⟩ else outD (rQ n d)⁻¹) := Lib.hid rfl
  have HFn : Hid (iF n d = if rF n d ≠ 0 then rF n d else if (rQ n d).num = 0 then 14 else outF (rQ n d)⁻¹) := Lib.hid rfl
  generalize iN n d = on at *
  generalize iD n d = od at *
  generalize iF n d = of at *
  go_enter Try.func12, Try.ntmps12
  go_upto_region 1 with (fail)
  refine wp_box2r fun W hsz hbW hA hC hF => ?_
  clear hsz
  obtain ⟨_, oA⟩ := id hA
  go_wp2_with fail
  refine (xratOf_is n d h1 h2 W).mono ?_
  rintro e w1 ⟨b, p1, m1, c1, p2, m2, c2, rfl, hX, hb1⟩
  have hC1 := hC.ext hb1
  have hF1 := hF.ext hC hb1
  have hbw1 := ext_trans hbW hb1
  clear hA hC hF hbW hb1 oA
  have hC2 := hC1.ext (W' := (w1.alloc (Obj.cells #[Value.bool b, Value.slice p1 m1 c1, Value.slice p2 m2 c2] 52))) (by go_grown)
  have hF2 := hF1.ext hC1 (W' := (w1.alloc (Obj.cells #[Value.bool b, Value.slice p1 m1 c1, Value.slice p2 m2 c2] 52))) (by go_grown)
  have hbw2 : Below w.heap.size w (w1.alloc (Obj.cells #[Value.bool b, Value.slice p1 m1 c1, Value.slice p2 m2 c2] 52)) := ext_trans hbw1 (by go_grown)
  have hnw : Box (w1.alloc (Obj.cells #[Value.bool b, Value.slice p1 m1 c1, Value.slice p2 m2 c2] 52)) w1.heap.size #[Value.bool b, Value.slice p1 m1 c1, Value.slice p2 m2 c2] := Box.new _ _ _
  have hX2 : rF n d = 0 → XR (w1.alloc (Obj.cells #[Value.bool b, Value.slice p1 m1 c1, Value.slice p2 m2 c2] 52)) (xv b p1 m1 c1 p2 m2 c2) (rQ n d) := fun h => (hX h).ext (by go_grown)
  have HC2 := Lib.hid hC2
  have HF2 := Lib.hid hF2
  have HBW := Lib.hid hbw2
  have HNW := Lib.hid hnw
  have HX2 := Lib.hid hX2
  clear hC1 hF1 hbw1 hX hC2 hF2 hbw2 hnw hX2
  by_cases hz : rF n d = 0
  · have hne : (rF n d != 0) = false := by simp [hz]
    have HZ := Lib.hid hz
    have hsm := rQ_small hz
    go_upto_region 4 with (fail)
    have hC3 := HC2.out
    have hF3 := HF2.out
    have hbw3 := HBW.out
    have hnw3 := HNW.out
    have hx3 := HX2.out hz
    clear HC2 HF2 HBW HNW HX2
    generalize (w1.alloc (Obj.cells #[Value.bool b, Value.slice p1 m1 c1, Value.slice p2 m2 c2] 52)) = w2 at *
    obtain ⟨_, oX⟩ := id hnw3
    go_wp2_with fail
    refine (zero_at (rQ n d) _ w2 hx3).mono ?_
    rintro e w3 ⟨rfl, hb3⟩
    have hC4 := hC3.ext hb3
    have hF4 := hF3.ext hC3 hb3
    have hbw4 := ext_trans hbw3 hb3
    have hnw4 := hnw3.ext hb3
    have hx4 := hx3.ext hb3
    clear hC3 hF3 hbw3 hnw3 hx3 oX hb3
    by_cases h0 : (rQ n d).num = 0
    · have HN2 : Hid (on = ⟨#[]⟩) := by have := HN.out; rw [if_neg (by simpa using hz), if_pos h0] at this; exact this
      have HD2 : Hid (od = ⟨#[]⟩) := by have := HDn.out; rw [if_neg (by simpa using hz), if_pos h0] at this; exact this
      have HF2 : Hid (of = 14) := by have := HFn.out; rw [if_neg (by simpa using hz), if_pos h0] at this; exact this
      have hd0 : decide ((rQ n d).num = 0) = true := decide_eq_true h0
      rw [hd0]
      clear h0 hz hd0 HN HDn HFn
      have r0 : w3.cell? ⟨w.heap.size + 1, 0, none⟩ = some (.string ⟨#[]⟩) := hC4.2 0
      have r1 : w3.cell? ⟨w.heap.size + 1, 1, none⟩ = some (.string ⟨#[]⟩) := hC4.2 1
      have g0 := hF4 0
      have g1 := hF4 1
      have hq := two_set (.string ⟨#[]⟩) (.string ⟨#[]⟩) r0 r1
      have hbF : Below w.heap.size w ((w3.setCell ⟨w.heap.size + 1, 0, none⟩ (.string ⟨#[]⟩)).setCell ⟨w.heap.size + 1, 1, none⟩ (.string ⟨#[]⟩)) := (hbw4.setCell (by simp) _).setCell (by simp) _
      go_wp2
      exact bodyPost_ret (v := .tuple #[.agg #[.string ⟨#[]⟩, .string ⟨#[]⟩], .int .i64 14]) (by simp [results, Try.results12, go_sem, hq.1, hq.2]) rfl ⟨by rw [HN2.out, HD2.out, HF2.out], hbF⟩
    · have HN2 : Hid (on = outN (rQ n d)⁻¹) := by have := HN.out; rw [if_neg (by simpa using hz), if_neg h0] at this; exact this
      have HD2 : Hid (od = outD (rQ n d)⁻¹) := by have := HDn.out; rw [if_neg (by simpa using hz), if_neg h0] at this; exact this
      have HF2 : Hid (of = outF (rQ n d)⁻¹) := by have := HFn.out; rw [if_neg (by simpa using hz), if_neg h0] at this; exact this
      have hd0 : decide ((rQ n d).num = 0) = false := decide_eq_false h0
      have HIV := Lib.hid (inv_facts h0)
      have HH0 := Lib.hid h0
      rw [hd0]
      clear h0 hz hd0 HN HDn HFn
      have HT := Lib.hid (turned_at (rQ n d) _ w3 hx4 HH0.out)
      generalize (rQ n d)⁻¹ = Z at *
      obtain ⟨_, oX⟩ := id hnw4
      go_wp2_with fail
      refine HT.out.mono ?_
      rintro e w5 ⟨vz, rfl, hz5, hb5⟩
      have hC5 := hC4.ext hb5
      have hF5 := hF4.ext hC4 hb5
      have hbw5 := ext_trans hbw4 hb5
      have HZ5 := Lib.hid hz5
      obtain ⟨e1, e2, e3, e4, rfl, _, _⟩ := hz5.open_
      clear hC4 hF4 hbw4 hnw4 hx4 oX hb5 hz5
      go_wp2_with fail
      refine (ratio_at _ _ _ HZ5.out (by rw [HIV.out.1]; have := hsm.2; omega) (by rw [HIV.out.2.1]; have := hsm.1; omega)).mono ?_
      rintro e w6 ⟨rfl, hb6⟩
      rw [← HN2.out, ← HD2.out, ← HF2.out]
      have hC6 := hC5.ext hb6
      have hF6 := hF5.ext hC5 hb6
      have hbw6 := ext_trans hbw5 hb6
      clear hC5 hF5 hbw5 hb6 HZ5 HN2 HD2 HF2
      have r0 : w6.cell? ⟨w.heap.size + 1, 0, none⟩ = some (.string ⟨#[]⟩) := hC6.2 0
      have r1 : w6.cell? ⟨w.heap.size + 1, 1, none⟩ = some (.string ⟨#[]⟩) := hC6.2 1
      have g0 := hF6 0
      have g1 := hF6 1
      have hq := two_set (.string on) (.string od) r0 r1
      have hbF : Below w.heap.size w ((w6.setCell ⟨w.heap.size + 1, 0, none⟩ (.string on)).setCell ⟨w.heap.size + 1, 1, none⟩ (.string od)) := (hbw6.setCell (by simp) _).setCell (by simp) _
      go_wp2
      exact bodyPost_ret (v := .tuple #[.agg #[.string on, .string od], .int .i64 of]) (by simp [results, Try.results12, go_sem, hq.1, hq.2]) rfl ⟨rfl, hbF⟩
  · have hne : (rF n d != 0) = true := by simp [hz]
    have HN2 : Hid (on = ⟨#[]⟩) := by have := HN.out; rw [if_pos hz] at this; exact this
    have HD2 : Hid (od = ⟨#[]⟩) := by have := HDn.out; rw [if_pos hz] at this; exact this
    have HF3 : Hid (of = rF n d) := by have := HFn.out; rw [if_pos hz] at this; exact this
    clear hz HN HDn HFn
    go_upto_region 3 with (fail)
    have hC3 := HC2.out
    have hF3 := HF2.out
    have hbw3 := HBW.out
    clear HC2 HF2 HBW HNW HX2
    generalize (w1.alloc (Obj.cells #[Value.bool b, Value.slice p1 m1 c1, Value.slice p2 m2 c2] 52)) = w2 at *
    have r0 : w2.cell? ⟨w.heap.size + 1, 0, none⟩ = some (.string ⟨#[]⟩) := hC3.2 0
    have r1 : w2.cell? ⟨w.heap.size + 1, 1, none⟩ = some (.string ⟨#[]⟩) := hC3.2 1
    have g0 := hF3 0
    have g1 := hF3 1
    have hq := two_set (.string ⟨#[]⟩) (.string ⟨#[]⟩) r0 r1
    have hbF : Below w.heap.size w ((w2.setCell ⟨w.heap.size + 1, 0, none⟩ (.string ⟨#[]⟩)).setCell ⟨w.heap.size + 1, 1, none⟩ (.string ⟨#[]⟩)) := (hbw3.setCell (by simp) _).setCell (by simp) _
    go_wp2
    exact bodyPost_ret (v := .tuple #[.agg #[.string ⟨#[]⟩, .string ⟨#[]⟩], .int .i64 (rF n d)]) (by simp [results, Try.results12, go_sem, hq.1, hq.2]) rfl ⟨by rw [HN2.out, HD2.out, HF3.out], hbF⟩
end Nm
end Go.Proofs.Ytepgibhgjhjjaaa
