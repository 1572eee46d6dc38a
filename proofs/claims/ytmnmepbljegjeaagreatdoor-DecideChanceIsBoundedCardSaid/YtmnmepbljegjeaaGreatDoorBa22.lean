/- Sum, Product, Inverse of package value. shut of the reference: a fraction as a ratio, in lowest terms. A quotient of two ints: plain. -/
import Derived.Test.YtmnmepbljegjeaaGreatDoorBa21
import Derived.Test.YtmnmepbljegjeaaGreatDoorBa09
namespace Go.Proofs.YtmnmepbljegjeaaGreatDoor
open Go.RowKit
namespace Nm
/-- the answer: two texts, and a fault -/
def AnsPost (w : World) (s t : ByteArray) (f : Int) (e : Ending) (w' : World) : Prop := e = .returned (.tuple #[.agg #[.string s, .string t], .int .i64 f]) ∧ Below w.heap.size w w'
def opN (op : Rat → Rat → Rat) (n1 d1 n2 d2 : ByteArray) : ByteArray := if bF n1 d1 n2 d2 = 0 then outN (op (rQ n1 d1) (rQ n2 d2)) else ⟨#[]⟩
def opD (op : Rat → Rat → Rat) (n1 d1 n2 d2 : ByteArray) : ByteArray := if bF n1 d1 n2 d2 = 0 then outD (op (rQ n1 d1) (rQ n2 d2)) else ⟨#[]⟩
def opF (op : Rat → Rat → Rat) (n1 d1 n2 d2 : ByteArray) : Int := if bF n1 d1 n2 d2 = 0 then outF (op (rQ n1 d1) (rQ n2 d2)) else bF n1 d1 n2 d2
theorem rQ_small {n d : ByteArray} (h : rF n d = 0) : wlen (rQ n d).num.natAbs ≤ 4000 ∧ wlen (rQ n d).den ≤ 4000 := by
  obtain ⟨_, h2, h3, h4, h5, h6, h7, _⟩ := rQ_facts h
  have l1 : (cutS n).data.toList.length = (cutS n).size := Array.length_toList
  have l2 : d.data.toList.length = d.size := Array.length_toList
  constructor
  · rw [h2, sgn_natAbs]; have := wlen_dec (decv_lt (whole_whl h4).1); omega
  · rw [h3]; have := wlen_dec (decv_lt (whole_whl h5).1); omega
theorem wlen_div (n g : Nat) : wlen (n / g) ≤ wlen n := wlen_mono (Nat.div_le_self _ _)
theorem add_small {x y : Rat} (h1 : wlen x.num.natAbs ≤ 4000) (h2 : wlen x.den ≤ 4000) (h3 : wlen y.num.natAbs ≤ 4000) (h4 : wlen y.den ≤ 4000) : wlen (x + y).num.natAbs ≤ 100000000 ∧ wlen (x + y).den ≤ 100000000 := by
  have hm := wlen_mul x.den y.den
  have ha := wlen_mul x.num.natAbs y.den
  have hb := wlen_mul y.num.natAbs x.den
  have hs := wlen_add (x.num.natAbs * y.den) (y.num.natAbs * x.den)
  rw [Rat.add_def, Rat.normalize_eq]
  constructor
  · refine Nat.le_trans (wlen_mono (n := x.num.natAbs * y.den + y.num.natAbs * x.den) ?_) (by omega)
    refine Nat.le_trans (Int.natAbs_ediv_le_natAbs _ _) ?_
    refine Nat.le_trans (Int.natAbs_add_le _ _) ?_
    rw [Int.natAbs_mul, Int.natAbs_mul]
    exact Nat.le_refl _
  · exact Nat.le_trans (wlen_div _ _) (by omega)
theorem mul_small {x y : Rat} (h1 : wlen x.num.natAbs ≤ 4000) (h2 : wlen x.den ≤ 4000) (h3 : wlen y.num.natAbs ≤ 4000) (h4 : wlen y.den ≤ 4000) : wlen (x * y).num.natAbs ≤ 100000000 ∧ wlen (x * y).den ≤ 100000000 := by
  have hm := wlen_mul x.den y.den
  have ha := wlen_mul x.num.natAbs y.num.natAbs
  rw [Rat.mul_def, Rat.normalize_eq]
  constructor
  · refine Nat.le_trans (wlen_mono (n := x.num.natAbs * y.num.natAbs) ?_) (by omega)
    refine Nat.le_trans (Int.natAbs_ediv_le_natAbs _ _) ?_
    rw [Int.natAbs_mul]
    exact Nat.le_refl _
  · exact Nat.le_trans (wlen_div _ _) (by omega)
set_option maxHeartbeats 1000000 in
theorem sum_at (n1 d1 n2 d2 : ByteArray) (h1 : n1.size ≤ maxLen) (h2 : d1.size ≤ maxLen) (h3 : n2.size ≤ maxLen) (h4 : d2.size ≤ maxLen) (w : World) : Calls Tryz.prog 17 #[.agg #[.string n1, .string d1], .agg #[.string n2, .string d2]] w (AnsPost w (opN (· + ·) n1 d1 n2 d2) (opD (· + ·) n1 d1 n2 d2) (opF (· + ·) n1 d1 n2 d2)) := by
  have HN : Hid (opN (· + ·) n1 d1 n2 d2 = if bF n1 d1 n2 d2 = 0 then outN (rQ n1 d1 + rQ n2 d2) else ⟨#[]⟩) := Lib.hid rfl
  have HDn : Hid (opD (· + ·) n1 d1 n2 d2 = if bF n1 d1 n2 d2 = 0 then outD (rQ n1 d1 + rQ n2 d2) else ⟨#[]⟩) := Lib.hid rfl
  have HFn : Hid (opF (· + ·) n1 d1 n2 d2 = if bF n1 d1 n2 d2 = 0 then outF (rQ n1 d1 + rQ n2 d2) else bF n1 d1 n2 d2) := Lib.hid rfl
  generalize opN (· + ·) n1 d1 n2 d2 = on at *
  generalize opD (· + ·) n1 d1 n2 d2 = od at *
  generalize opF (· + ·) n1 d1 n2 d2 = of at *
  go_enter Tryz.func17, Tryz.ntmps17
  go_upto_region 1 with (fail)
  refine wp_box3r fun W hsz hbW hA hB hC hF => ?_
  clear hsz
  obtain ⟨_, oA⟩ := id hA
  obtain ⟨_, oB⟩ := id hB
  go_wp2_with fail
  refine (both_at n1 d1 n2 d2 h1 h2 h3 h4 W).mono ?_
  rintro e w1 ⟨b, p1, m1, c1, p2, m2, c2, b', p3, m3, c3, p4, m4, c4, rfl, hX, hb1⟩
  have hC1 := hC.ext hb1
  have hF1 := hF.ext hC hb1
  have hbw1 := ext_trans hbW hb1
  clear hA hB hC hF hbW hb1 oA oB
  by_cases hz : bF n1 d1 n2 d2 = 0
  · obtain ⟨z1, z2, hx, hy⟩ := hX hz
    have HX := Lib.hid hx
    have HY := Lib.hid hy
    have q1 := rQ_small z1
    have q2 := rQ_small z2
    have HSM := Lib.hid (add_small q1.1 q1.2 q2.1 q2.2)
    obtain ⟨s1, s2⟩ := q1
    obtain ⟨s3, s4⟩ := q2
    have HN2 : Hid (on = outN (rQ n1 d1 + rQ n2 d2)) := by have := HN.out; rw [if_pos hz] at this; exact this
    have HD2 : Hid (od = outD (rQ n1 d1 + rQ n2 d2)) := by have := HDn.out; rw [if_pos hz] at this; exact this
    have HF2 : Hid (of = outF (rQ n1 d1 + rQ n2 d2)) := by have := HFn.out; rw [if_pos hz] at this; exact this
    rw [hz]
    clear hz hX hx hy z1 z2 HN HDn HFn
    go_wp2_with fail
    refine (xplus_at (rQ n1 d1) (rQ n2 d2) _ _ _ (HX.out.ext ?_) (HY.out.ext ?_) (by omega) (by omega) (by omega) (by omega)).mono ?_
    · go_grown
    · go_grown
    rintro e w2 ⟨vz, rfl, hz2, hb2⟩
    have hg2 : Below w1.heap.size w1 w2 := Below.trans (by go_grown) (hb2.mono (by simp; try omega))
    have hC2 := hC1.ext hg2
    have hF2 := hF1.ext hC1 hg2
    have hbw2 := ext_trans hbw1 hg2
    clear hC1 hF1 hbw1 hb2 hg2 HX HY
    have HZ2 := Lib.hid hz2
    obtain ⟨e1, e2, e3, e4, rfl, _, _⟩ := hz2.open_
    clear hz2
    go_wp2_with fail
    refine (ratio_at _ _ _ HZ2.out HSM.out.1 HSM.out.2).mono ?_
    rintro e w3 ⟨rfl, hb3⟩
    rw [← HN2.out, ← HD2.out, ← HF2.out]
    have hC3 := hC2.ext hb3
    have hF3 := hF2.ext hC2 hb3
    have hbw3 := ext_trans hbw2 hb3
    clear hC2 hF2 hbw2 hb3 HZ2 HN2 HD2 HF2
    have r0 : w3.cell? ⟨w.heap.size + 2, 0, none⟩ = some (.string ⟨#[]⟩) := hC3.2 0
    have r1 : w3.cell? ⟨w.heap.size + 2, 1, none⟩ = some (.string ⟨#[]⟩) := hC3.2 1
    have g0 := hF3 0
    have g1 := hF3 1
    have hq := two_set (.string on) (.string od) r0 r1
    have hbF : Below w.heap.size w ((w3.setCell ⟨w.heap.size + 2, 0, none⟩ (.string on)).setCell ⟨w.heap.size + 2, 1, none⟩ (.string od)) := (hbw3.setCell (by simp) _).setCell (by simp) _
    go_wp2
    exact bodyPost_ret (v := .tuple #[.agg #[.string on, .string od], .int .i64 of]) (by simp [results, Tryz.results17, go_sem, hq.1, hq.2]) rfl ⟨rfl, hbF⟩
  · have hne : (bF n1 d1 n2 d2 != 0) = true := by simp [hz]
    have HN2 : Hid (on = ⟨#[]⟩) := by have := HN.out; rw [if_neg hz] at this; exact this
    have HD2 : Hid (od = ⟨#[]⟩) := by have := HDn.out; rw [if_neg hz] at this; exact this
    have HF2 : Hid (of = bF n1 d1 n2 d2) := by have := HFn.out; rw [if_neg hz] at this; exact this
    clear hz hX HN HDn HFn
    have HC1 := Lib.hid hC1
    have HF1 := Lib.hid hF1
    have HBW := Lib.hid hbw1
    clear hC1 hF1 hbw1
    go_upto_region 3 with (fail)
    have hC2 := HC1.out.ext (W' := (w1.alloc (Obj.cells #[Value.bool b, Value.slice p1 m1 c1, Value.slice p2 m2 c2] 88)).alloc (Obj.cells #[Value.bool b', Value.slice p3 m3 c3, Value.slice p4 m4 c4] 88)) (by go_grown)
    have hF2 := HF1.out.ext HC1.out (W' := (w1.alloc (Obj.cells #[Value.bool b, Value.slice p1 m1 c1, Value.slice p2 m2 c2] 88)).alloc (Obj.cells #[Value.bool b', Value.slice p3 m3 c3, Value.slice p4 m4 c4] 88)) (by go_grown)
    have hbw2 : Below w.heap.size w ((w1.alloc (Obj.cells #[Value.bool b, Value.slice p1 m1 c1, Value.slice p2 m2 c2] 88)).alloc (Obj.cells #[Value.bool b', Value.slice p3 m3 c3, Value.slice p4 m4 c4] 88)) := ext_trans HBW.out (by go_grown)
    generalize ((w1.alloc (Obj.cells #[Value.bool b, Value.slice p1 m1 c1, Value.slice p2 m2 c2] 88)).alloc (Obj.cells #[Value.bool b', Value.slice p3 m3 c3, Value.slice p4 m4 c4] 88)) = w3 at *
    have r0 : w3.cell? ⟨w.heap.size + 2, 0, none⟩ = some (.string ⟨#[]⟩) := hC2.2 0
    have r1 : w3.cell? ⟨w.heap.size + 2, 1, none⟩ = some (.string ⟨#[]⟩) := hC2.2 1
    have g0 := hF2 0
    have g1 := hF2 1
    have hq := two_set (.string ⟨#[]⟩) (.string ⟨#[]⟩) r0 r1
    have hbF : Below w.heap.size w ((w3.setCell ⟨w.heap.size + 2, 0, none⟩ (.string ⟨#[]⟩)).setCell ⟨w.heap.size + 2, 1, none⟩ (.string ⟨#[]⟩)) := (hbw2.setCell (by simp) _).setCell (by simp) _
    go_wp2
    exact bodyPost_ret (v := .tuple #[.agg #[.string ⟨#[]⟩, .string ⟨#[]⟩], .int .i64 (bF n1 d1 n2 d2)]) (by simp [results, Tryz.results17, go_sem, hq.1, hq.2]) rfl ⟨by rw [HN2.out, HD2.out, HF2.out], hbF⟩
set_option maxHeartbeats 1000000 in
theorem product_at (n1 d1 n2 d2 : ByteArray) (h1 : n1.size ≤ maxLen) (h2 : d1.size ≤ maxLen) (h3 : n2.size ≤ maxLen) (h4 : d2.size ≤ maxLen) (w : World) : Calls Tryz.prog 19 #[.agg #[.string n1, .string d1], .agg #[.string n2, .string d2]] w (AnsPost w (opN (· * ·) n1 d1 n2 d2) (opD (· * ·) n1 d1 n2 d2) (opF (· * ·) n1 d1 n2 d2)) := by
  have HN : Hid (opN (· * ·) n1 d1 n2 d2 = if bF n1 d1 n2 d2 = 0 then outN (rQ n1 d1 * rQ n2 d2) else ⟨#[]⟩) := Lib.hid rfl
  have HDn : Hid (opD (· * ·) n1 d1 n2 d2 = if bF n1 d1 n2 d2 = 0 then outD (rQ n1 d1 * rQ n2 d2) else ⟨#[]⟩) := Lib.hid rfl
  have HFn : Hid (opF (· * ·) n1 d1 n2 d2 = if bF n1 d1 n2 d2 = 0 then outF (rQ n1 d1 * rQ n2 d2) else bF n1 d1 n2 d2) := Lib.hid rfl
  generalize opN (· * ·) n1 d1 n2 d2 = on at *
  generalize opD (· * ·) n1 d1 n2 d2 = od at *
  generalize opF (· * ·) n1 d1 n2 d2 = of at *
  go_enter Tryz.func19, Tryz.ntmps19
  go_upto_region 1 with (fail)
  refine wp_box3r fun W hsz hbW hA hB hC hF => ?_
  clear hsz
  obtain ⟨_, oA⟩ := id hA
  obtain ⟨_, oB⟩ := id hB
  go_wp2_with fail
  refine (both_at n1 d1 n2 d2 h1 h2 h3 h4 W).mono ?_
  rintro e w1 ⟨b, p1, m1, c1, p2, m2, c2, b', p3, m3, c3, p4, m4, c4, rfl, hX, hb1⟩
  have hC1 := hC.ext hb1
  have hF1 := hF.ext hC hb1
  have hbw1 := ext_trans hbW hb1
  clear hA hB hC hF hbW hb1 oA oB
  by_cases hz : bF n1 d1 n2 d2 = 0
  · obtain ⟨z1, z2, hx, hy⟩ := hX hz
    have HX := Lib.hid hx
    have HY := Lib.hid hy
    have q1 := rQ_small z1
    have q2 := rQ_small z2
    have HSM := Lib.hid (mul_small q1.1 q1.2 q2.1 q2.2)
    obtain ⟨s1, s2⟩ := q1
    obtain ⟨s3, s4⟩ := q2
    have HN2 : Hid (on = outN (rQ n1 d1 * rQ n2 d2)) := by have := HN.out; rw [if_pos hz] at this; exact this
    have HD2 : Hid (od = outD (rQ n1 d1 * rQ n2 d2)) := by have := HDn.out; rw [if_pos hz] at this; exact this
    have HF2 : Hid (of = outF (rQ n1 d1 * rQ n2 d2)) := by have := HFn.out; rw [if_pos hz] at this; exact this
    rw [hz]
    clear hz hX hx hy z1 z2 HN HDn HFn
    go_wp2_with fail
    refine (xtimes_at (rQ n1 d1) (rQ n2 d2) _ _ _ (HX.out.ext ?_) (HY.out.ext ?_) (by omega) (by omega) (by omega) (by omega)).mono ?_
    · go_grown
    · go_grown
    rintro e w2 ⟨vz, rfl, hz2, hb2⟩
    have hg2 : Below w1.heap.size w1 w2 := Below.trans (by go_grown) (hb2.mono (by simp; try omega))
    have hC2 := hC1.ext hg2
    have hF2 := hF1.ext hC1 hg2
    have hbw2 := ext_trans hbw1 hg2
    clear hC1 hF1 hbw1 hb2 hg2 HX HY
    have HZ2 := Lib.hid hz2
    obtain ⟨e1, e2, e3, e4, rfl, _, _⟩ := hz2.open_
    clear hz2
    go_wp2_with fail
    refine (ratio_at _ _ _ HZ2.out HSM.out.1 HSM.out.2).mono ?_
    rintro e w3 ⟨rfl, hb3⟩
    rw [← HN2.out, ← HD2.out, ← HF2.out]
    have hC3 := hC2.ext hb3
    have hF3 := hF2.ext hC2 hb3
    have hbw3 := ext_trans hbw2 hb3
    clear hC2 hF2 hbw2 hb3 HZ2 HN2 HD2 HF2
    have r0 : w3.cell? ⟨w.heap.size + 2, 0, none⟩ = some (.string ⟨#[]⟩) := hC3.2 0
    have r1 : w3.cell? ⟨w.heap.size + 2, 1, none⟩ = some (.string ⟨#[]⟩) := hC3.2 1
    have g0 := hF3 0
    have g1 := hF3 1
    have hq := two_set (.string on) (.string od) r0 r1
    have hbF : Below w.heap.size w ((w3.setCell ⟨w.heap.size + 2, 0, none⟩ (.string on)).setCell ⟨w.heap.size + 2, 1, none⟩ (.string od)) := (hbw3.setCell (by simp) _).setCell (by simp) _
    go_wp2
    exact bodyPost_ret (v := .tuple #[.agg #[.string on, .string od], .int .i64 of]) (by simp [results, Tryz.results19, go_sem, hq.1, hq.2]) rfl ⟨rfl, hbF⟩
  · have hne : (bF n1 d1 n2 d2 != 0) = true := by simp [hz]
    have HN2 : Hid (on = ⟨#[]⟩) := by have := HN.out; rw [if_neg hz] at this; exact this
    have HD2 : Hid (od = ⟨#[]⟩) := by have := HDn.out; rw [if_neg hz] at this; exact this
    have HF2 : Hid (of = bF n1 d1 n2 d2) := by have := HFn.out; rw [if_neg hz] at this; exact this
    clear hz hX HN HDn HFn
    have HC1 := Lib.hid hC1
    have HF1 := Lib.hid hF1
    have HBW := Lib.hid hbw1
    clear hC1 hF1 hbw1
    go_upto_region 3 with (fail)
    have hC2 := HC1.out.ext (W' := (w1.alloc (Obj.cells #[Value.bool b, Value.slice p1 m1 c1, Value.slice p2 m2 c2] 88)).alloc (Obj.cells #[Value.bool b', Value.slice p3 m3 c3, Value.slice p4 m4 c4] 88)) (by go_grown)
    have hF2 := HF1.out.ext HC1.out (W' := (w1.alloc (Obj.cells #[Value.bool b, Value.slice p1 m1 c1, Value.slice p2 m2 c2] 88)).alloc (Obj.cells #[Value.bool b', Value.slice p3 m3 c3, Value.slice p4 m4 c4] 88)) (by go_grown)
    have hbw2 : Below w.heap.size w ((w1.alloc (Obj.cells #[Value.bool b, Value.slice p1 m1 c1, Value.slice p2 m2 c2] 88)).alloc (Obj.cells #[Value.bool b', Value.slice p3 m3 c3, Value.slice p4 m4 c4] 88)) := ext_trans HBW.out (by go_grown)
    generalize ((w1.alloc (Obj.cells #[Value.bool b, Value.slice p1 m1 c1, Value.slice p2 m2 c2] 88)).alloc (Obj.cells #[Value.bool b', Value.slice p3 m3 c3, Value.slice p4 m4 c4] 88)) = w3 at *
    have r0 : w3.cell? ⟨w.heap.size + 2, 0, none⟩ = some (.string ⟨#[]⟩) := hC2.2 0
    have r1 : w3.cell? ⟨w.heap.size + 2, 1, none⟩ = some (.string ⟨#[]⟩) := hC2.2 1
    have g0 := hF2 0
    have g1 := hF2 1
    have hq := two_set (.string ⟨#[]⟩) (.string ⟨#[]⟩) r0 r1
    have hbF : Below w.heap.size w ((w3.setCell ⟨w.heap.size + 2, 0, none⟩ (.string ⟨#[]⟩)).setCell ⟨w.heap.size + 2, 1, none⟩ (.string ⟨#[]⟩)) := (hbw2.setCell (by simp) _).setCell (by simp) _
    go_wp2
    exact bodyPost_ret (v := .tuple #[.agg #[.string ⟨#[]⟩, .string ⟨#[]⟩], .int .i64 (bF n1 d1 n2 d2)]) (by simp [results, Tryz.results19, go_sem, hq.1, hq.2]) rfl ⟨by rw [HN2.out, HD2.out, HF2.out], hbF⟩
end Nm
end Go.Proofs.YtmnmepbljegjeaaGreatDoor
namespace Go.Proofs.YtmnmepbljegjeaaGreatDoor
open Go.RowKit
namespace Nt
open _root_.Go.Proofs.YtmnmepbljegjeaaGreatDoor.Nm (decS decv Digs decv_decS rF rQ sgn outN outD outF Fits showN showD numL AnsPost norm_abs norm_den norm_neg)
theorem res2s {w0 w : World} {b : Nat} {x0 x1 : Value} (u0 u1 : Value) (hC : Box w b #[x0, x1]) (hb : Below w0.heap.size w0 w) (hle : w0.heap.size ≤ b) :
    Below w0.heap.size w0 ((w.setCell ⟨b, 0, none⟩ u0).setCell ⟨b, 1, none⟩ u1) ∧ ((w.setCell ⟨b, 0, none⟩ u0).setCell ⟨b, 1, none⟩ u1).cell? ⟨b, 0, none⟩ = some u0 ∧ ((w.setCell ⟨b, 0, none⟩ u0).setCell ⟨b, 1, none⟩ u1).cell? ⟨b, 1, none⟩ = some u1 := by
  have e0 : (w.setCell ⟨b, 0, none⟩ u0).cell? ⟨b, 0, none⟩ = some u0 := World.cell?_setCell_same _ _ _ (hC.2 0)
  have e1 : (w.setCell ⟨b, 0, none⟩ u0).cell? ⟨b, 1, none⟩ = some x1 := by rw [World.cell?_setCell_other _ _ _ _ (by simp)]; exact hC.2 1
  refine ⟨(hb.setCell hle _).setCell hle _, ?_, World.cell?_setCell_same _ _ _ e1⟩
  rw [World.cell?_setCell_other _ _ _ _ (by simp)]; exact e0
theorem boxn_cell {w : World} {b : Nat} {A : Array Value} (h : Box w b A) {j : Nat} (hj : j < A.size) (u : Value) : Box (w.setCell ⟨b, j, none⟩ u) b (A.setIfInBounds j u) := by
  refine ⟨by simpa [World.setCell] using h.1, fun i => ?_⟩
  by_cases e : i = j
  · subst e
    rw [World.cell?_setCell_same _ _ _ ((h.2 i).trans (Array.getElem?_eq_getElem hj))]
    simp [hj]
  · rw [World.cell?_setCell_other _ _ _ _ (by intro e'; cases e'; exact e rfl), h.2 i, Array.getElem?_setIfInBounds_ne (fun e' => e e'.symm)]
theorem boxn_other {w : World} {b b' : Nat} {A : Array Value} (h : Box w b A) (hne : b ≠ b') (j : Nat) (u : Value) : Box (w.setCell ⟨b', j, none⟩ u) b A :=
  ⟨by simpa [World.setCell] using h.1, fun i => by rw [World.cell?_setCell_other _ _ _ _ (by intro e; cases e; exact hne rfl)]; exact h.2 i⟩
theorem out_lowest (b : Bool) (n d : Nat) (hd : d ≠ 0) :
    (4000 < (decS (n / n.gcd d)).length ∨ 4000 < (decS (d / n.gcd d)).length → outN (Rat.normalize (sgn b n) d hd) = ⟨#[]⟩ ∧ outD (Rat.normalize (sgn b n) d hd) = ⟨#[]⟩ ∧ outF (Rat.normalize (sgn b n) d hd) = 2) ∧
    (¬ (4000 < (decS (n / n.gcd d)).length ∨ 4000 < (decS (d / n.gcd d)).length) → outN (Rat.normalize (sgn b n) d hd) = strOf (if b && decide (0 < n / n.gcd d) then 45 :: decS (n / n.gcd d) else decS (n / n.gcd d)) ∧ outD (Rat.normalize (sgn b n) d hd) = strOf (decS (d / n.gcd d)) ∧ outF (Rat.normalize (sgn b n) d hd) = 0) := by
  have e1 := norm_abs b n d hd
  have e2 := norm_den b n d hd
  have e3 := norm_neg b n d hd
  have hf : Fits (Rat.normalize (sgn b n) d hd) ↔ ¬ (4000 < (decS (n / n.gcd d)).length ∨ 4000 < (decS (d / n.gcd d)).length) := by
    unfold Fits; rw [e1, e2]; omega
  constructor
  · intro h
    have hn : ¬ Fits (Rat.normalize (sgn b n) d hd) := fun h' => hf.1 h' h
    unfold outN outD outF
    rw [if_neg hn, if_neg hn, if_neg hn]; exact ⟨rfl, rfl, rfl⟩
  · intro h
    have hy := hf.2 h
    unfold outN outD outF
    rw [if_pos hy, if_pos hy, if_pos hy]
    refine ⟨?_, ?_, rfl⟩
    · unfold showN numL
      rw [e1]
      by_cases hb : (Rat.normalize (sgn b n) d hd).num < 0
      · rw [if_pos hb]
        rw [decide_eq_true hb] at e3
        rw [← e3]; rfl
      · rw [if_neg hb]
        rw [decide_eq_false hb] at e3
        rw [← e3]; rfl
    · unfold showD; rw [e2]; rfl
theorem cat45' (l : List UInt8) : (⟨#[45]⟩ : ByteArray) ++ strOf l = strOf (45 :: l) := Nm.cat45 l
set_option maxRecDepth 100000 in
set_option maxHeartbeats 16000000 in
theorem shut_at (b : Bool) (n d : Nat) (hd : d ≠ 0) (v1 v2 : Value) (w : World) (hN1 : N w v1 n) (hN2 : N w v2 d) (hnl : wlen n ≤ 100000000) (hdl : wlen d ≤ 100000000) (ht : Tab w) :
    Calls Tryz.prog 73 #[.agg #[.bool b, v1, v2]] w (AnsPost w (outN (Rat.normalize (sgn b n) d hd)) (outD (Rat.normalize (sgn b n) d hd)) (outF (Rat.normalize (sgn b n) d hd))) := by
  have HO := Lib.hid (out_lowest b n d hd)
  generalize Rat.normalize (sgn b n) d hd = q at *
  have hg0 : 0 < n.gcd d := Nat.gcd_pos_of_pos_right _ (Nat.pos_of_ne_zero hd)
  have hgl : wlen (n.gcd d) ≤ 100000000 := gcd_wlen hnl hdl
  have hq1 : wlen (n / n.gcd d) ≤ 100000000 := Nat.le_trans (wlen_mono (Nat.div_le_self _ _)) hnl
  have hq2 : wlen (d / n.gcd d) ≤ 100000000 := Nat.le_trans (wlen_mono (Nat.div_le_self _ _)) hdl
  obtain ⟨g, hg⟩ : ∃ g, n.gcd d = g := ⟨_, rfl⟩
  have HG := Lib.hid hg
  rw [hg] at hg0 hgl hq1 hq2 HO
  clear hg hd
  obtain ⟨a1, c1, rfl, s1⟩ := hN1.open_
  obtain ⟨a2, c2, rfl, s2⟩ := hN2.open_
  have H1 := Lib.hid hN1
  have H2 := Lib.hid hN2
  clear hN1 hN2 s1 s2
  go_enter Tryz.func73, Tryz.ntmps73
  go_upto_region 1 with (fail)
  refine wp_box2r fun W hsz hbW hA hC hF => ?_
  have h1 := H1.out.ext hbW
  have h2 := H2.out.ext hbW
  have HT := Lib.hid (ht.ext hbW)
  clear hsz H1 H2 ht
  have a0 : W.cell? ⟨w.heap.size, 0, none⟩ = some (.bool b) := hA.2 0
  have a1' : W.cell? ⟨w.heap.size, 1, none⟩ = some (.slice a1 (digs n).length c1) := hA.2 1
  have a2' : W.cell? ⟨w.heap.size, 2, none⟩ = some (.slice a2 (digs d).length c2) := hA.2 2
  have HX := Lib.hid (And.intro hA (And.intro hC (And.intro hF (And.intro h1 (And.intro h2 hbW)))))
  clear hA hC hF h1 h2 hbW
  go_wp2_with fail
  refine (divisor_at n d _ _ W HX.out.2.2.2.1 HX.out.2.2.2.2.1 (by omega) (by omega)).mono ?_
  rw [HG.out]
  rintro e w1 ⟨vg, rfl, hvg, hb1⟩
  obtain ⟨ag, cg, rfl, _⟩ := hvg.open_
  have hX1 := HX.out
  have hA1 := hX1.1.ext hb1
  have hC1 := hX1.2.1.ext hb1
  have hF1 := hX1.2.2.1.ext hX1.2.1 hb1
  have n1 := hX1.2.2.2.1.ext hb1
  have n2 := hX1.2.2.2.2.1.ext hb1
  have hbw1 := ext_trans hX1.2.2.2.2.2 hb1
  have HT1 := Lib.hid (HT.out.ext hb1)
  clear a0 a1' a2' hX1 HX hb1 HT
  have a0 : w1.cell? ⟨w.heap.size, 0, none⟩ = some (.bool b) := hA1.2 0
  have a1' : w1.cell? ⟨w.heap.size, 1, none⟩ = some (.slice a1 (digs n).length c1) := hA1.2 1
  have a2' : w1.cell? ⟨w.heap.size, 2, none⟩ = some (.slice a2 (digs d).length c2) := hA1.2 2
  have HX := Lib.hid (And.intro hA1 (And.intro hC1 (And.intro hF1 (And.intro n2 hbw1))))
  have HN := Lib.hid n1
  have HV := Lib.hid hvg
  clear hA1 hC1 hF1 n1 n2 hbw1 hvg
  go_wp2_with fail
  refine (divide_at n g _ _ w1 HN.out HV.out (by omega) hg0).mono ?_
  rintro e w2 ⟨vn, vr, rfl, hvn, hvr, hb2⟩
  clear hvr
  obtain ⟨an, cn, rfl, _⟩ := hvn.open_
  have hX1 := HX.out
  have hA1 := hX1.1.ext hb2
  have hC1 := hX1.2.1.ext hb2
  have hF1 := hX1.2.2.1.ext hX1.2.1 hb2
  have n2 := hX1.2.2.2.1.ext hb2
  have hbw1 := ext_trans hX1.2.2.2.2 hb2
  have hg2 := HV.out.ext hb2
  have HT2 := Lib.hid (HT1.out.ext hb2)
  clear a0 a1' a2' hX1 HX hb2 HT1 HN HV
  have a0 : w2.cell? ⟨w.heap.size, 0, none⟩ = some (.bool b) := hA1.2 0
  have a2' : w2.cell? ⟨w.heap.size, 2, none⟩ = some (.slice a2 (digs d).length c2) := hA1.2 2
  have HX := Lib.hid (And.intro hA1 (And.intro hC1 (And.intro hF1 hbw1)))
  have HN := Lib.hid n2
  have HV := Lib.hid hg2
  have HVN := Lib.hid hvn
  clear hA1 hC1 hF1 n2 hbw1 hg2 hvn
  go_wp2_with fail
  refine (divide_at d g _ _ w2 HN.out HV.out (by omega) hg0).mono ?_
  rintro e w3 ⟨vd, vr2, rfl, hvd, hvr, hb3⟩
  clear hvr
  obtain ⟨ad, cd, rfl, _⟩ := hvd.open_
  have hX1 := HX.out
  have hA1 := hX1.1.ext hb3
  have hC1 := hX1.2.1.ext hb3
  have hF1 := hX1.2.2.1.ext hX1.2.1 hb3
  have hbw1 := ext_trans hX1.2.2.2 hb3
  have hn3 := HVN.out.ext hb3
  have HT3 := Lib.hid (HT2.out.ext hb3)
  clear a0 a2' hX1 HX hb3 HT2 HN HV HVN
  have HX := Lib.hid (And.intro hA1 (And.intro hC1 (And.intro hF1 (And.intro hvd hbw1))))
  have HN := Lib.hid hn3
  obtain ⟨n', hn'⟩ : ∃ x, n / g = x := ⟨_, rfl⟩
  obtain ⟨d', hd'⟩ : ∃ x, d / g = x := ⟨_, rfl⟩
  rw [hn'] at HO HN hq1 ⊢
  rw [hd'] at HO HX hq2 ⊢
  clear hA1 hC1 hF1 hvd hbw1 hn3 hn' hd'
  go_wp2_with fail
  refine (text_at n' _ w3 HN.out (by omega) HT3.out).mono ?_
  rintro e w4 ⟨rfl, hb4⟩
  have HT4 := Lib.hid (HT3.out.ext hb4)
  have HD4 := Lib.hid (HX.out.2.2.2.1.ext hb4)
  go_wp2_with fail
  refine (text_at d' _ w4 HD4.out (by omega) HT4.out).mono ?_
  rintro e w5 ⟨rfl, hb5⟩
  have hb45 := ext_trans hb4 hb5
  have hX1 := HX.out
  have hA1 := hX1.1.ext hb45
  have hC1 := hX1.2.1.ext hb45
  have hF1 := hX1.2.2.1.ext hX1.2.1 hb45
  have hbw1 := ext_trans hX1.2.2.2.2 hb45
  clear hX1 HX HN HT3 HT4 HD4 hb4 hb5 hb45
  go_upto_region 5 with (fail)
  refine wp_box1r fun w6 hsz6 hb6 hR6 hRF6 => ?_
  clear hsz6
  have hA6 := hA1.ext hb6
  have hC6 := hC1.ext hb6
  have hF6 := hF1.ext hC1 hb6
  have hbw6 := ext_trans hbw1 hb6
  have hlt6 : w.heap.size + 1 < w5.heap.size := hC1.1
  clear hA1 hC1 hF1 hbw1 hb6
  generalize w5.heap.size = br at *
  have hsn : (strOf (decS n')).size = (decS n').length := strOf_size _
  have hsd : (strOf (decS d')).size = (decS d').length := strOf_size _
  have HSN := Lib.hid (And.intro hsn hsd)
  have x0 : w6.cell? ⟨br, 0, none⟩ = some (.string (strOf (decS n'))) := hR6.2 0
  have x1 : w6.cell? ⟨br, 1, none⟩ = some (.string (strOf (decS d'))) := hR6.2 1
  have r0 : w6.cell? ⟨w.heap.size + 1, 0, none⟩ = some (.string ⟨#[]⟩) := hC6.2 0
  have r1 : w6.cell? ⟨w.heap.size + 1, 1, none⟩ = some (.string ⟨#[]⟩) := hC6.2 1
  have a0 : w6.cell? ⟨w.heap.size, 0, none⟩ = some (.bool b) := hA6.2 0
  have g0 := hF6 0
  have g1 := hF6 1
  have hdn : (digs n').length = wlen n' := rfl
  by_cases hbig : 4000 < (decS n').length ∨ 4000 < (decS d').length
  · have HP := Lib.hid (HO.out.1 hbig)
    have HR := Lib.hid (res2s (.string ⟨#[]⟩) (.string ⟨#[]⟩) hC6 hbw6 (Nat.le_succ _))
    obtain ⟨hbF, z0, z1⟩ := id HR.out
    clear hbF HO hdn
    by_cases hb1 : 4000 < (decS n').length
    · clear hbig
      go_wp2
      refine bodyPost_ret (v := .tuple #[.agg #[.string ⟨#[]⟩, .string ⟨#[]⟩], .int .i64 2]) (by simp [results, Tryz.results73, go_sem, z0, z1]) rfl ⟨?_, HR.out.1⟩
      rw [HP.out.1, HP.out.2.1, HP.out.2.2]
    · have hb2 : 4000 < (decS d').length := by omega
      clear hbig
      go_wp2
      refine bodyPost_ret (v := .tuple #[.agg #[.string ⟨#[]⟩, .string ⟨#[]⟩], .int .i64 2]) (by simp [results, Tryz.results73, go_sem, z0, z1]) rfl ⟨?_, HR.out.1⟩
      rw [HP.out.1, HP.out.2.1, HP.out.2.2]
  · have HP := Lib.hid (HO.out.2 hbig)
    have hb1 : (decS n').length ≤ 4000 := by omega
    have hb2 : (decS d').length ≤ 4000 := by omega
    clear hbig HO
    cases b with
    | false =>
      have HR := Lib.hid (res2s (.string (strOf (decS n'))) (.string (strOf (decS d'))) hC6 hbw6 (Nat.le_succ _))
      obtain ⟨hbF, z0, z1⟩ := id HR.out
      clear hbF hdn
      go_wp2
      refine bodyPost_ret (v := .tuple #[.agg #[.string (strOf (decS n')), .string (strOf (decS d'))], .int .i64 0]) (by simp [results, Tryz.results73, go_sem, z0, z1]) rfl ⟨?_, HR.out.1⟩
      rw [HP.out.1, HP.out.2.1, HP.out.2.2]; rfl
    | true =>
      by_cases hn0 : 0 < n'
      · have hl0 : 0 < (digs n').length := by have := @wlen_eq_zero n'; unfold wlen at this; omega
        have HC45 := Lib.hid (cat45' (decS n'))
        have HPN : Hid (outN q = strOf (45 :: decS n')) := by
          have h := HP.out.1
          rw [decide_eq_true hn0] at h
          exact h
        have f0 := hRF6 0
        have HN0 := Lib.hid hn0
        have HBX := Lib.hid (And.intro hC6 (And.intro hR6 (And.intro hF6 hbw6)))
        clear hn0 hdn
        go_upto_region 9 with (fail)
        rw [HC45.out]
        obtain ⟨w7, hw7⟩ : ∃ w7, w7 = w6.setCell ⟨br, 0, none⟩ (.string (strOf (45 :: decS n'))) := ⟨_, rfl⟩
        rw [← hw7]
        have hC7 : Box w7 (w.heap.size + 1) #[.string ⟨#[]⟩, .string ⟨#[]⟩] := by rw [hw7]; exact boxn_other HBX.out.1 (Nat.ne_of_lt hlt6) 0 _
        have hR7 : Box w7 br #[.string (strOf (45 :: decS n')), .string (strOf (decS d'))] := by rw [hw7]; exact boxn_cell HBX.out.2.1 (j := 0) (by simp) (.string (strOf (45 :: decS n')))
        have hbw7 : Below w.heap.size w w7 := by rw [hw7]; exact HBX.out.2.2.2.setCell (p := ⟨br, 0, none⟩) (show w.heap.size ≤ br by omega) _
        have hF7 : Fre w7 (w.heap.size + 1) := by rw [hw7]; intro j; rw [World.frozen?_setCell]; exact HBX.out.2.2.1 j
        clear hw7 x0 x1 r0 r1 a0 g0 g1 f0 HBX
        have HR := Lib.hid (res2s (.string (strOf (45 :: decS n'))) (.string (strOf (decS d'))) hC7 hbw7 (Nat.le_succ _))
        obtain ⟨hbF, z0, z1⟩ := id HR.out
        have x0 : w7.cell? ⟨br, 0, none⟩ = some (.string (strOf (45 :: decS n'))) := hR7.2 0
        have x1 : w7.cell? ⟨br, 1, none⟩ = some (.string (strOf (decS d'))) := hR7.2 1
        have r0 : w7.cell? ⟨w.heap.size + 1, 0, none⟩ = some (.string ⟨#[]⟩) := hC7.2 0
        have r1 : w7.cell? ⟨w.heap.size + 1, 1, none⟩ = some (.string ⟨#[]⟩) := hC7.2 1
        have g0 := hF7 0
        have g1 := hF7 1
        clear hbF
        go_wp2
        refine bodyPost_ret (v := .tuple #[.agg #[.string (strOf (45 :: decS n')), .string (strOf (decS d'))], .int .i64 0]) (by simp [results, Tryz.results73, go_sem, z0, z1]) rfl ⟨?_, HR.out.1⟩
        rw [HPN.out, HP.out.2.1, HP.out.2.2]
      · have hl0 : (digs n').length = 0 := by have := @wlen_eq_zero n'; unfold wlen at this; omega
        have HPN : Hid (outN q = strOf (decS n')) := by
          have h := HP.out.1
          rw [decide_eq_false hn0] at h
          exact h
        have HR := Lib.hid (res2s (.string (strOf (decS n'))) (.string (strOf (decS d'))) hC6 hbw6 (Nat.le_succ _))
        obtain ⟨hbF, z0, z1⟩ := id HR.out
        clear hbF hn0 hdn
        go_wp2
        refine bodyPost_ret (v := .tuple #[.agg #[.string (strOf (decS n')), .string (strOf (decS d'))], .int .i64 0]) (by simp [results, Tryz.results73, go_sem, z0, z1]) rfl ⟨?_, HR.out.1⟩
        rw [HPN.out, HP.out.2.1, HP.out.2.2]
end Nt
end Go.Proofs.YtmnmepbljegjeaaGreatDoor
namespace Go.Proofs.YtmnmepbljegjeaaGreatDoor
namespace Nm
/-- a quotient of two ints -/
def quoQ (a b : Int) : Rat := if h : b = 0 then 0 else Rat.normalize (sgn (decide (a < 0) != decide (b < 0)) a.natAbs) b.natAbs (by omega)
def quoN (a b : Int) : ByteArray := if b = 0 then ⟨#[]⟩ else outN (quoQ a b)
def quoD (a b : Int) : ByteArray := if b = 0 then ⟨#[]⟩ else outD (quoQ a b)
def quoF (a b : Int) : Int := if b = 0 then 14 else outF (quoQ a b)
theorem natAbs_small {n : Int} (h1 : -9223372036854775808 ≤ n) (h2 : n ≤ 9223372036854775807) : wlen n.natAbs ≤ 3 := wlen_le (Nat.lt_of_le_of_lt (show n.natAbs ≤ 9223372036854775808 by omega) (by decide))
end Nm
end Go.Proofs.YtmnmepbljegjeaaGreatDoor
