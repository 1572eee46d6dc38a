/- Sum, Product, Inverse of package value. -/
import Derived.Test.YtepgibhgjhjjaaaRat7
namespace Go.Proofs.Ytepgibhgjhjjaaa
open Go.RowKit
namespace Nm
/-- the answer: two texts, and a fault -/
def AnsPost (w : World) (s t : ByteArray) (f : Int) (e : Ending) (w' : World) : Prop := e = .returned (.tuple #[.agg #[.string s, .string t], .int .i64 f]) ∧ Below w.heap.size w w'
def opN (op : Rat → Rat → Rat) (n1 d1 n2 d2 : ByteArray) : ByteArray := if bF n1 d1 n2 d2 = 0 then outN (op (rQ n1 d1) (rQ n2 d2)) else ⟨#[]⟩
def opD (op : Rat → Rat → Rat) (n1 d1 n2 d2 : ByteArray) : ByteArray := if bF n1 d1 n2 d2 = 0 then outD (op (rQ n1 d1) (rQ n2 d2)) else ⟨#[]⟩
def opF (op : Rat → Rat → Rat) (n1 d1 n2 d2 : ByteArray) : Int := if bF n1 d1 n2 d2 = 0 then outF (op (rQ n1 d1) (rQ n2 d2)) else bF n1 d1 n2 d2
theorem rQ_small {n d : ByteArray} (h : rF n d = 0) : wlen (rQ n d).num.natAbs ≤ 4000 ∧ wlen (rQ n d).den ≤ 4000 := by
  obtain ⟨_, h2, h3, h4, h5, h6, h7, _⟩ := rQ_facts h
  have l1 : (cutS n).data.toList.length = (cutS n).size := Array.length_toList
  have l2 : d.data.toList.length = d.size := Array.length_toList
  constructor
  · rw [h2, sgn_natAbs]; have := wlen_dec (decv_lt (whole_whl h4).1); omega
  · rw [h3]; have := wlen_dec (decv_lt (whole_whl h5).1); omega
theorem wlen_div (n g : Nat) : wlen (n / g) ≤ wlen n := wlen_mono (Nat.div_le_self _ _)
theorem add_small {x y : Rat} (h1 : wlen x.num.natAbs ≤ 4000) (h2 : wlen x.den ≤ 4000) (h3 : wlen y.num.natAbs ≤ 4000) (h4 : wlen y.den ≤ 4000) : wlen (x + y).num.natAbs ≤ 100000000 ∧ wlen (x + y).den ≤ 100000000 := by
  have hm := wlen_mul x.den y.den
  have ha := wlen_mul x.num.natAbs y.den
  have hb := wlen_mul y.num.natAbs x.den
  have hs := wlen_add (x.num.natAbs * y.den) (y.num.natAbs * x.den)
  rw [Rat.add_def, Rat.normalize_eq]
  constructor
  · refine Nat.le_trans (wlen_mono (n := x.num.natAbs * y.den + y.num.natAbs * x.den) ?_) (by omega)
    refine Nat.le_trans (Int.natAbs_ediv_le_natAbs _ _) ?_
    refine Nat.le_trans (Int.natAbs_add_le _ _) ?_
    rw [Int.natAbs_mul, Int.natAbs_mul]
    exact Nat.le_refl _
  · exact Nat.le_trans (wlen_div _ _) (by omega)
theorem mul_small {x y : Rat} (h1 : wlen x.num.natAbs ≤ 4000) (h2 : wlen x.den ≤ 4000) (h3 : wlen y.num.natAbs ≤ 4000) (h4 : wlen y.den ≤ 4000) : wlen (x * y).num.natAbs ≤ 100000000 ∧ wlen (x * y).den ≤ 100000000 := by
  have hm := wlen_mul x.den y.den
  have ha := wlen_mul x.num.natAbs y.num.natAbs
  rw [Rat.mul_def, Rat.normalize_eq]
  constructor
  · refine Nat.le_trans (wlen_mono (n := x.num.natAbs * y.num.natAbs) ?_) (by omega)
    refine Nat.le_trans (Int.natAbs_ediv_le_natAbs _ _) ?_
    rw [Int.natAbs_mul]
    exact Nat.le_refl _
  · exact Nat.le_trans (wlen_div _ _) (by omega)
set_option maxHeartbeats 1000000 in
theorem sum_at (n1 d1 n2 d2 : ByteArray) (h1 : n1.size ≤ maxLen) (h2 : d1.size ≤ maxLen) (h3 : n2.size ≤ maxLen) (h4 : d2.size ≤ maxLen) (w : World) : Calls Try.prog 10 #[.agg #[.string n1, .string d1], .agg #[.string n2, .string d2]] w (AnsPost w (opN (· + ·) n1 d1 n2 d2) (opD (· + ·) n1 d1 n2 d2) (opF (· + ·) n1 d1 n2 d2)) := by
  have HN : Hid (opN (· + ·) n1 d1 n2 d2 = if bF n1 d1 n2 d2 = 0 then outN (rQ n1 d1 + rQ n2 d2) else ⟨#[]⟩) := Lib.hid rfl
  have HDn : Hid (opD (· + ·) n1 d1 n2 d2 = if bF n1 d1 n2 d2 = 0 then outD (rQ n1 d1 + rQ n2 d2) else ⟨#[]⟩) := Lib.hid rfl
  have HFn : Hid (opF (· + ·) n1 d1 n2 d2 = if bF n1 d1 n2 d2 = 0 then outF (rQ n1 d1 + rQ n2 d2) else bF n1 d1 n2 d2) := Lib.hid rfl
  generalize opN (· + ·) n1 d1 n2 d2 = on at *
  generalize opD (· + ·) n1 d1 n2 d2 = od at *
  generalize opF (· + ·) n1 d1 n2 d2 = of at *
  go_enter Try.func10, Try.ntmps10
  go_upto_region 1 with (fail)
  refine wp_box3r fun W hsz hbW hA hB hC hF => ?_
  clear hsz
  obtain ⟨_, oA⟩ := id hA
  obtain ⟨_, oB⟩ := id hB
  go_wp2_with fail
  refine (both_at n1 d1 n2 d2 h1 h2 h3 h4 W).mono ?_
  rintro e w1 ⟨b, p1, m1, c1, p2, m2, c2, b', p3, m3, c3, p4, m4, c4, rfl, hX, hb1⟩
  have hC1 := hC.ext hb1
  have hF1 := hF.ext hC hb1
  have hbw1 := ext_trans hbW hb1
  clear hA hB hC hF hbW hb1 oA oB
  by_cases hz : bF n1 d1 n2 d2 = 0
  · obtain ⟨z1, z2, hx, hy⟩ := hX hz
    have HX := Lib.hid hx
    have HY := Lib.hid hy
    have q1 := rQ_small z1
    have q2 := rQ_small z2
    have HSM := Lib.hid (add_small q1.1 q1.2 q2.1 q2.2)
    obtain ⟨s1, s2⟩ := q1
    obtain ⟨s3, s4⟩ := q2
    have HN2 : Hid (on = outN (rQ n1 d1 + rQ n2 d2)) := by have := HN.out; rw [if_pos hz] at this; exact this
    have HD2 : Hid (od = outD (rQ n1 d1 + rQ n2 d2)) := by have := HDn.out; rw [if_pos hz] at this; exact this
    have HF2 : Hid (of = outF (rQ n1 d1 + rQ n2 d2)) := by have := HFn.out; rw [if_pos hz] at this; exact this
    rw [hz]
    clear hz hX hx hy z1 z2 HN HDn HFn
    go_wp2_with fail
    refine (xplus_at (rQ n1 d1) (rQ n2 d2) _ _ _ (HX.out.ext ?_) (HY.out.ext ?_) (by omega) (by omega) (by omega) (by omega)).mono ?_
    · go_grown
    · go_grown
    rintro e w2 ⟨vz, rfl, hz2, hb2⟩
    have hg2 : Below w1.heap.size w1 w2 := Below.trans (by go_grown) (hb2.mono (by simp; try omega))
    have hC2 := hC1.ext hg2
    have hF2 := hF1.ext hC1 hg2
    have hbw2 := ext_trans hbw1 hg2
    clear hC1 hF1 hbw1 hb2 hg2 HX HY
    have HZ2 := Lib.hid hz2
    obtain ⟨e1, e2, e3, e4, rfl, _, _⟩ := hz2.open_
    clear hz2
    go_wp2_with fail
    refine (ratio_at _ _ _ HZ2.out HSM.out.1 HSM.out.2).mono ?_
    rintro e w3 ⟨rfl, hb3⟩
    rw [← HN2.out, ← HD2.out, ← HF2.out]
    have hC3 := hC2.ext hb3
    have hF3 := hF2.ext hC2 hb3
    have hbw3 := ext_trans hbw2 hb3
    clear hC2 hF2 hbw2 hb3 HZ2 HN2 HD2 HF2
    have r0 : w3.cell? ⟨w.heap.size + 2, 0, none⟩ = some (.string ⟨#[]⟩) := hC3.2 0
    have r1 : w3.cell? ⟨w.heap.size + 2, 1, none⟩ = some (.string ⟨#[]⟩) := hC3.2 1
    have g0 := hF3 0
    have g1 := hF3 1
    have hq := two_set (.string on) (.string od) r0 r1
    have hbF : Below w.heap.size w ((w3.setCell ⟨w.heap.size + 2, 0, none⟩ (.string on)).setCell ⟨w.heap.size + 2, 1, none⟩ (.string od)) := (hbw3.setCell (by simp) _).setCell (by simp) _
    go_wp2
    exact bodyPost_ret (v := .tuple #[.agg #[.string on, .string od], .int .i64 of]) (by simp [results, Try.results10, go_sem, hq.1, hq.2]) rfl ⟨rfl, hbF⟩
  · have hne : (bF n1 d1 n2 d2 != 0) = true := by simp [hz]
    have HN2 : Hid (on = ⟨#[]⟩) := by have := HN.out; rw [if_neg hz] at this; exact this
    have HD2 : Hid (od = ⟨#[]⟩) := by have := HDn.out; rw [if_neg hz] at this; exact this
    have HF2 : Hid (of = bF n1 d1 n2 d2) := by have := HFn.out; rw [if_neg hz] at this; exact this
    clear hz hX HN HDn HFn
    have HC1 := Lib.hid hC1
    have HF1 := Lib.hid hF1
    have HBW := Lib.hid hbw1
    clear hC1 hF1 hbw1
    go_upto_region 3 with (fail)
    have hC2 := HC1.out.ext (W' := (w1.alloc (Obj.cells #[Value.bool b, Value.slice p1 m1 c1, Value.slice p2 m2 c2] 52)).alloc (Obj.cells #[Value.bool b', Value.slice p3 m3 c3, Value.slice p4 m4 c4] 52)) (by go_grown)
    have hF2 := HF1.out.ext HC1.out (W' := (w1.alloc (Obj.cells #[Value.bool b, Value.slice p1 m1 c1, Value.slice p2 m2 c2] 52)).alloc (Obj.cells #[Value.bool b', Value.slice p3 m3 c3, Value.slice p4 m4 c4] 52)) (by go_grown)
    have hbw2 : Below w.heap.size w ((w1.alloc (Obj.cells #[Value.bool b, Value.slice p1 m1 c1, Value.slice p2 m2 c2] 52)).alloc (Obj.cells #[Value.bool b', Value.slice p3 m3 c3, Value.slice p4 m4 c4] 52)) := ext_trans HBW.out (by go_grown)
    generalize ((w1.alloc (Obj.cells #[Value.bool b, Value.slice p1 m1 c1, Value.slice p2 m2 c2] 52)).alloc (Obj.cells #[Value.bool b', Value.slice p3 m3 c3, Value.slice p4 m4 c4] 52)) = w3 at *
    have r0 : w3.cell? ⟨w.heap.size + 2, 0, none⟩ = some (.string ⟨#[]⟩) := hC2.2 0
    have r1 : w3.cell? ⟨w.heap.size + 2, 1, none⟩ = some (.string ⟨#[]⟩) := hC2.2 1
    have g0 := hF2 0
    have g1 := hF2 1
    have hq := two_set (.string ⟨#[]⟩) (.string ⟨#[]⟩) r0 r1
    have hbF : Below w.heap.size w ((w3.setCell ⟨w.heap.size + 2, 0, none⟩ (.string ⟨#[]⟩)).setCell ⟨w.heap.size + 2, 1, none⟩ (.string ⟨#[]⟩)) := (hbw2.setCell (by simp) _).setCell (by simp) _
    go_wp2
    exact bodyPost_ret (v := .tuple #[.agg #[.string ⟨#[]⟩, .string ⟨#[]⟩], .int .i64 (bF n1 d1 n2 d2)]) (by simp [results, Try.results10, go_sem, hq.1, hq.2]) rfl ⟨by rw [HN2.out, HD2.out, HF2.out], hbF⟩
set_option maxHeartbeats 1000000 in
theorem product_at (n1 d1 n2 d2 : ByteArray) (h1 : n1.size ≤ maxLen) (h2 : d1.size ≤ maxLen) (h3 : n2.size ≤ maxLen) (h4 : d2.size ≤ maxLen) (w : World) : Calls Try.prog 11 #[.agg #[.string n1, .string d1], .agg #[.string n2, .string d2]] w (AnsPost w (opN (· * ·) n1 d1 n2 d2) (opD (· * ·) n1 d1 n2 d2) (opF (· * ·) n1 d1 n2 d2)) := by
  have HN : Hid (opN (· * ·) n1 d1 n2 d2 = if bF n1 d1 n2 d2 = 0 then outN (rQ n1 d1 * rQ n2 d2) else ⟨#[]⟩) := Lib.hid rfl
  have HDn : Hid (opD (· * ·) n1 d1 n2 d2 = if bF n1 d1 n2 d2 = 0 then outD (rQ n1 d1 * rQ n2 d2) else ⟨#[]⟩) := Lib.hid rfl
  have HFn : Hid (opF (· * ·) n1 d1 n2 d2 = if bF n1 d1 n2 d2 = 0 then outF (rQ n1 d1 * rQ n2 d2) else bF n1 d1 n2 d2) := Lib.hid rfl
  generalize opN (· * ·) n1 d1 n2 d2 = on at *
  generalize opD (· * ·) n1 d1 n2 d2 = od at *
  generalize opF (· * ·) n1 d1 n2 d2 = of at *
  go_enter Try.func11, Try.ntmps11
  go_upto_region 1 with (fail)
  refine wp_box3r fun W hsz hbW hA hB hC hF => ?_
  clear hsz
  obtain ⟨_, oA⟩ := id hA
  obtain ⟨_, oB⟩ := id hB
  go_wp2_with fail
  refine (both_at n1 d1 n2 d2 h1 h2 h3 h4 W).mono ?_
  rintro e w1 ⟨b, p1, m1, c1, p2, m2, c2, b', p3, m3, c3, p4, m4, c4, rfl, hX, hb1⟩
  have hC1 := hC.ext hb1
  have hF1 := hF.ext hC hb1
  have hbw1 := ext_trans hbW hb1
  clear hA hB hC hF hbW hb1 oA oB
  by_cases hz : bF n1 d1 n2 d2 = 0
  · obtain ⟨z1, z2, hx, hy⟩ := hX hz
    have HX := Lib.hid hx
    have HY := Lib.hid hy
    have q1 := rQ_small z1
    have q2 := rQ_small z2
    have HSM := Lib.hid (mul_small q1.1 q1.2 q2.1 q2.2)
    obtain ⟨s1, s2⟩ := q1
    obtain ⟨s3, s4⟩ := q2
    have HN2 : Hid (on = outN (rQ n1 d1 * rQ n2 d2)) := by have := HN.out; rw [if_pos hz] at this; exact this
    have HD2 : Hid (od = outD (rQ n1 d1 * rQ n2 d2)) := by have := HDn.out; rw [if_pos hz] at this; exact this
    have HF2 : Hid (of = outF (rQ n1 d1 * rQ n2 d2)) := by have := HFn.out; rw [if_pos hz] at this; exact this
    rw [hz]
    clear hz hX hx hy z1 z2 HN HDn HFn
    go_wp2_with fail
    refine (xtimes_at (rQ n1 d1) (rQ n2 d2) _ _ _ (HX.out.ext ?_) (HY.out.ext ?_) (by omega) (by omega) (by omega) (by omega)).mono ?_
    · go_grown
    · go_grown
    rintro e w2 ⟨vz, rfl, hz2, hb2⟩
    have hg2 : Below w1.heap.size w1 w2 := Below.trans (by go_grown) (hb2.mono (by simp; try omega))
    have hC2 := hC1.ext hg2
    have hF2 := hF1.ext hC1 hg2
    have hbw2 := ext_trans hbw1 hg2
    clear hC1 hF1 hbw1 hb2 hg2 HX HY
    have HZ2 := Lib.hid hz2
    obtain ⟨e1, e2, e3, e4, rfl, _, _⟩ := hz2.open_
    clear hz2
    go_wp2_with fail
    refine (ratio_at _ _ _ HZ2.out HSM.out.1 HSM.out.2).mono ?_
    rintro e w3 ⟨rfl, hb3⟩
    rw [← HN2.out, ← HD2.out, ← HF2.out]
    have hC3 := hC2.ext hb3
    have hF3 := hF2.ext hC2 hb3
    have hbw3 := ext_trans hbw2 hb3
    clear hC2 hF2 hbw2 hb3 HZ2 HN2 HD2 HF2
    have r0 : w3.cell? ⟨w.heap.size + 2, 0, none⟩ = some (.string ⟨#[]⟩) := hC3.2 0
    have r1 : w3.cell? ⟨w.heap.size + 2, 1, none⟩ = some (.string ⟨#[]⟩) := hC3.2 1
    have g0 := hF3 0
    have g1 := hF3 1
    have hq := two_set (.string on) (.string od) r0 r1
    have hbF : Below w.heap.size w ((w3.setCell ⟨w.heap.size + 2, 0, none⟩ (.string on)).setCell ⟨w.heap.size + 2, 1, none⟩ (.string od)) := (hbw3.setCell (by simp) _).setCell (by simp) _
    go_wp2
    exact bodyPost_ret (v := .tuple #[.agg #[.string on, .string od], .int .i64 of]) (by simp [results, Try.results11, go_sem, hq.1, hq.2]) rfl ⟨rfl, hbF⟩
  · have hne : (bF n1 d1 n2 d2 != 0) = true := by simp [hz]
    have HN2 : Hid (on = ⟨#[]⟩) := by have := HN.out; rw [if_neg hz] at this; exact this
    have HD2 : Hid (od = ⟨#[]⟩) := by have := HDn.out; rw [if_neg hz] at this; exact this
    have HF2 : Hid (of = bF n1 d1 n2 d2) := by have := HFn.out; rw [if_neg hz] at this; exact this
    clear hz hX HN HDn HFn
    have HC1 := Lib.hid hC1
    have HF1 := Lib.hid hF1
    have HBW := Lib.hid hbw1
    clear hC1 hF1 hbw1
    go_upto_region 3 with (fail)
    have hC2 := HC1.out.ext (W' := (w1.alloc (Obj.cells #[Value.bool b, Value.slice p1 m1 c1, Value.slice p2 m2 c2] 52)).alloc (Obj.cells #[Value.bool b', Value.slice p3 m3 c3, Value.slice p4 m4 c4] 52)) (by go_grown)
    have hF2 := HF1.out.ext HC1.out (W' := (w1.alloc (Obj.cells #[Value.bool b, Value.slice p1 m1 c1, Value.slice p2 m2 c2] 52)).alloc (Obj.cells #[Value.bool b', Value.slice p3 m3 c3, Value.slice p4 m4 c4] 52)) (by go_grown)
    have hbw2 : Below w.heap.size w ((w1.alloc (Obj.cells #[Value.bool b, Value.slice p1 m1 c1, Value.slice p2 m2 c2] 52)).alloc (Obj.cells #[Value.bool b', Value.slice p3 m3 c3, Value.slice p4 m4 c4] 52)) := ext_trans HBW.out (by go_grown)
    generalize ((w1.alloc (Obj.cells #[Value.bool b, Value.slice p1 m1 c1, Value.slice p2 m2 c2] 52)).alloc (Obj.cells #[Value.bool b', Value.slice p3 m3 c3, Value.slice p4 m4 c4] 52)) = w3 at *
    have r0 : w3.cell? ⟨w.heap.size + 2, 0, none⟩ = some (.string ⟨#[]⟩) := hC2.2 0
    have r1 : w3.cell? ⟨w.heap.size + 2, 1, none⟩ = some (.string ⟨#[]⟩) := hC2.2 1
    have g0 := hF2 0
    have g1 := hF2 1
    have hq := two_set (.string ⟨#[]⟩) (.string ⟨#[]⟩) r0 r1
    have hbF : Below w.heap.size w ((w3.setCell ⟨w.heap.size + 2, 0, none⟩ (.string ⟨#[]⟩)).setCell ⟨w.heap.size + 2, 1, none⟩ (.string ⟨#[]⟩)) := (hbw2.setCell (by simp) _).setCell (by simp) _
    go_wp2
    exact bodyPost_ret (v := .tuple #[.agg #[.string ⟨#[]⟩, .string ⟨#[]⟩], .int .i64 (bF n1 d1 n2 d2)]) (by simp [results, Try.results11, go_sem, hq.1, hq.2]) rfl ⟨by rw [HN2.out, HD2.out, HF2.out], hbF⟩
end Nm
end Go.Proofs.Ytepgibhgjhjjaaa
