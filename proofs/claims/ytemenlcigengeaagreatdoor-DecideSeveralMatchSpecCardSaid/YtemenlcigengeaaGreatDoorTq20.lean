/- size, XratInt, CheckRatio, XratOf, Cmp of package value. XratInt, CheckRatio, XratOf of package value. TrimPrefix of package strings at "-"; long, whole and readMiss of package decide. -/
import Derived.Test.YtemenlcigengeaaGreatDoorTq19
namespace Go.Proofs.YtemenlcigengeaaGreatDoor
open Go.RowKit
namespace Nm
theorem size_at (n : Int) (h1 : -9223372036854775808 ≤ n) (h2 : n ≤ 9223372036854775807) (w : World) : Calls Tryz.prog 99 #[.int .i64 n] w fun e w' => e = .returned (.int .u64 (n.natAbs : Int)) ∧ w = w' := by
  by_cases h : n < 0
  · go_enter Tryz.func99, Tryz.ntmps99
    go_wp2
    go_ret
    exact ⟨ret_int (by simp [IntKind.wrap, IntKind.signed, IntKind.bits]; omega), rfl⟩
  · go_enter Tryz.func99, Tryz.ntmps99
    go_wp2
    go_ret
    exact ⟨ret_int (by omega), rfl⟩
/-- the order of exact numbers -/
def cmpZ (a b : Int) : Int := if a < b then -1 else if b < a then 1 else 0
def cmpQ (x y : Rat) : Int := cmpZ (x.num * y.den) (y.num * x.den)
theorem cmpQ_range (x y : Rat) : cmpQ x y = -1 ∨ cmpQ x y = 0 ∨ cmpQ x y = 1 := by unfold cmpQ cmpZ; split <;> (try split) <;> simp
theorem cmpN_cmpZ (a b : Nat) : cmpN a b = cmpZ a b := by unfold cmpN cmpZ; (repeat' split) <;> omega
theorem cmpZ_neg (a b : Int) : cmpZ (-a) (-b) = - cmpZ a b := by unfold cmpZ; (repeat' split) <;> omega
theorem cmpQ_same {x y : Rat} (h : decide (x.num < 0) = decide (y.num < 0)) : cmpQ x y = if x.num < 0 then - cmpN (x.num.natAbs * y.den) (y.num.natAbs * x.den) else cmpN (x.num.natAbs * y.den) (y.num.natAbs * x.den) := by
  unfold cmpQ
  have hx := sgn_self x.num
  have hy := sgn_self y.num
  rw [← h] at hy
  by_cases hn : x.num < 0
  · rw [if_pos hn]
    simp only [hn, decide_true, sgn, if_true] at hx hy
    conv => lhs; rw [← hx, ← hy]
    rw [cmpN_cmpZ, ← cmpZ_neg]
    simp [Int.neg_mul]
  · rw [if_neg hn]
    simp only [hn, decide_false, sgn] at hx hy
    simp only [Bool.false_eq_true, if_false] at hx hy
    conv => lhs; rw [← hx, ← hy]
    rw [cmpN_cmpZ]
    simp
theorem cmpQ_below {x y : Rat} (hx : x.num < 0) (hy : ¬ y.num < 0) : cmpQ x y = -1 := by
  unfold cmpQ cmpZ
  have h1 : x.num * (y.den : Int) < 0 := Int.mul_neg_of_neg_of_pos hx (by have := y.den_pos; omega)
  have h2 : 0 ≤ y.num * (x.den : Int) := Int.mul_nonneg (by omega) (by omega)
  rw [if_pos (by omega)]
theorem cmpQ_above {x y : Rat} (hx : ¬ x.num < 0) (hy : y.num < 0) : cmpQ x y = 1 := by
  unfold cmpQ cmpZ
  have h1 : y.num * (x.den : Int) < 0 := Int.mul_neg_of_neg_of_pos hy (by have := x.den_pos; omega)
  have h2 : 0 ≤ x.num * (y.den : Int) := Int.mul_nonneg (by omega) (by omega)
  rw [if_neg (by omega), if_pos (by omega)]
def CmpPost (w : World) (z : Int) (e : Ending) (w' : World) : Prop := e = .returned (.int .i64 z) ∧ Below w.heap.size w w'
theorem ncmp_at (x y : Nat) (v u : Value) (w : World) (hx : N w v x) (hy : N w u y) : Calls Tryz.prog 76 #[v, u] w (CmpPost w (cmpN x y)) := by
  refine (cmp_at x y v u w hx hy).mono ?_
  rintro e w' ⟨rfl, k, rfl⟩
  exact ⟨rfl, below_drewN (Below.refl _ _) k⟩
theorem cmpN_range (x y : Nat) : -1 ≤ cmpN x y ∧ cmpN x y ≤ 1 := by unfold cmpN; (repeat' split) <;> omega
set_option maxHeartbeats 4000000 in
theorem xcmp_at (x y : Rat) (v u : Value) (w : World) (hx : XR w v x) (hy : XR w u y) (l1 : wlen x.num.natAbs ≤ 100000000) (l2 : wlen x.den ≤ 100000000) (l3 : wlen y.num.natAbs ≤ 100000000) (l4 : wlen y.den ≤ 100000000) : Calls Tryz.prog 55 #[v, u] w (CmpPost w (cmpQ x y)) := by
  obtain ⟨a1, c1, a2, c2, rfl, h1, h2⟩ := hx.open_
  obtain ⟨a3, c3, a4, c4, rfl, h3, h4⟩ := hy.open_
  have H1 := Lib.hid h1
  have H2 := Lib.hid h2
  have H3 := Lib.hid h3
  have H4 := Lib.hid h4
  have hcr := cmpN_range (x.num.natAbs * y.den) (y.num.natAbs * x.den)
  clear h1 h2 hx h3 h4 hy
  by_cases hbx : x.num < 0
  · by_cases hby : y.num < 0
    · have HC := Lib.hid (cmpQ_same (x := x) (y := y) (by simp [hbx, hby]))
      have HC2 : Hid (cmpQ x y = - cmpN (x.num.natAbs * y.den) (y.num.natAbs * x.den)) := by have := HC.out; rw [if_pos hbx] at this; exact this
      have d1 : decide (x.num < 0) = true := by simp [hbx]
      have d2 : decide (y.num < 0) = true := by simp [hby]
      rw [d1, d2]
      clear HC d1 d2 hbx hby
      have HW1 := Lib.hid (Nat.le_trans (wlen_mul x.num.natAbs y.den) (by omega : _ ≤ 1000000000))
      have HW2 := Lib.hid (Nat.le_trans (wlen_mul y.num.natAbs x.den) (by omega : _ ≤ 1000000000))
      have hbb : (true != true) = false := rfl
      have hbc : (false != false) = false := rfl
      have tok1 : True := trivial
      go_enter Tryz.func55, Tryz.ntmps55
      go_upto_region 1 with (fail)
      refine wp_box2 fun W hsz hbW hA hB => ?_
      have x0 : W.cell? ⟨w.heap.size, 0, none⟩ = some (.bool true) := hA.2 0
      have y0 : W.cell? ⟨w.heap.size + 1, 0, none⟩ = some (.bool true) := hB.2 0
      go_wp2_with fail
      go_region_held3 (S2R W W.heap.size w.heap.size #[Value.bool true, Value.slice a1 (digs x.num.natAbs).length c1, Value.slice a2 (digs x.den).length c2] (w.heap.size + 1) #[Value.bool true, Value.slice a3 (digs y.num.natAbs).length c3, Value.slice a4 (digs y.den).length c4]) (first | exact S2R.start hA hB | exact S2R.ext (by with_reducible assumption) (by with_reducible assumption) (Nat.le_refl _) hA hB | assumption) (first | (have _t := tok1; go_at_call 73; refine (times_at x.num.natAbs y.den _ _ _ (H1.out.ext (ext_trans hbW (Below.refl W.heap.size W).drew)) (H4.out.ext (ext_trans hbW (Below.refl W.heap.size W).drew)) (by omega) (by omega)).mono ?_; rintro e w2 ⟨vn, rfl, hvn, hb2⟩; have hc2 := Lib.hid (ext_trans (Below.refl W.heap.size W).drew hb2); have HVN := Lib.hid hvn; clear tok1 hvn) | (go_at_call 73; refine (times_at y.num.natAbs x.den _ _ _ (H3.out.ext (ext_trans hbW hc2.out)) (H2.out.ext (ext_trans hbW hc2.out)) (by omega) (by omega)).mono ?_; rintro e w3 ⟨vd, rfl, hvd, hb3⟩; have hc3 := Lib.hid (ext_trans hc2.out hb3); have HVN3 := Lib.hid (HVN.out.ext hb3); have HVD := Lib.hid hvd; clear hvd) | (go_at_call 76; refine (ncmp_at _ _ _ _ _ HVN3.out HVD.out).mono ?_; rintro e w4 ⟨rfl, hb4⟩; have hc4 := Lib.hid (ext_trans hc3.out hb4)))
      generalize cmpN (x.num.natAbs * y.den) (y.num.natAbs * x.den) = z at *
      have hA5 := hA.ext hc4.out
      have x5 : w4.cell? ⟨w.heap.size, 0, none⟩ = some (.bool true) := hA5.2 0
      go_wp2
      go_ret
      exact ⟨ret_int HC2.out.symm, ext_trans hbW hc4.out⟩
    · have HC := Lib.hid (cmpQ_below hbx hby)
      have d1 : decide (x.num < 0) = true := by simp [hbx]
      have d2 : decide (y.num < 0) = false := by simp [hby]
      rw [d1, d2]
      clear d1 d2 hbx hby
      go_enter Tryz.func55, Tryz.ntmps55
      go_wp2
      go_ret
      exact ⟨ret_int HC.out.symm, by go_grown⟩
  · by_cases hby : y.num < 0
    · have HC := Lib.hid (cmpQ_above hbx hby)
      have d1 : decide (x.num < 0) = false := by simp [hbx]
      have d2 : decide (y.num < 0) = true := by simp [hby]
      rw [d1, d2]
      clear d1 d2 hbx hby
      go_enter Tryz.func55, Tryz.ntmps55
      go_wp2
      go_ret
      exact ⟨ret_int HC.out.symm, by go_grown⟩
    · have HC := Lib.hid (cmpQ_same (x := x) (y := y) (by simp [hbx, hby]))
      have HC2 : Hid (cmpQ x y = cmpN (x.num.natAbs * y.den) (y.num.natAbs * x.den)) := by have := HC.out; rw [if_neg hbx] at this; exact this
      have d1 : decide (x.num < 0) = false := by simp [hbx]
      have d2 : decide (y.num < 0) = false := by simp [hby]
      rw [d1, d2]
      clear HC d1 d2 hbx hby
      have HW1 := Lib.hid (Nat.le_trans (wlen_mul x.num.natAbs y.den) (by omega : _ ≤ 1000000000))
      have HW2 := Lib.hid (Nat.le_trans (wlen_mul y.num.natAbs x.den) (by omega : _ ≤ 1000000000))
      have hbb : (true != true) = false := rfl
      have hbc : (false != false) = false := rfl
      have tok1 : True := trivial
      go_enter Tryz.func55, Tryz.ntmps55
      go_upto_region 1 with (fail)
      refine wp_box2 fun W hsz hbW hA hB => ?_
      have x0 : W.cell? ⟨w.heap.size, 0, none⟩ = some (.bool false) := hA.2 0
      have y0 : W.cell? ⟨w.heap.size + 1, 0, none⟩ = some (.bool false) := hB.2 0
      go_wp2_with fail
      go_region_held3 (S2R W W.heap.size w.heap.size #[Value.bool false, Value.slice a1 (digs x.num.natAbs).length c1, Value.slice a2 (digs x.den).length c2] (w.heap.size + 1) #[Value.bool false, Value.slice a3 (digs y.num.natAbs).length c3, Value.slice a4 (digs y.den).length c4]) (first | exact S2R.start hA hB | exact S2R.ext (by with_reducible assumption) (by with_reducible assumption) (Nat.le_refl _) hA hB | assumption) (first | (have _t := tok1; go_at_call 73; refine (times_at x.num.natAbs y.den _ _ _ (H1.out.ext (ext_trans hbW (Below.refl W.heap.size W).drew)) (H4.out.ext (ext_trans hbW (Below.refl W.heap.size W).drew)) (by omega) (by omega)).mono ?_; rintro e w2 ⟨vn, rfl, hvn, hb2⟩; have hc2 := Lib.hid (ext_trans (Below.refl W.heap.size W).drew hb2); have HVN := Lib.hid hvn; clear tok1 hvn) | (go_at_call 73; refine (times_at y.num.natAbs x.den _ _ _ (H3.out.ext (ext_trans hbW hc2.out)) (H2.out.ext (ext_trans hbW hc2.out)) (by omega) (by omega)).mono ?_; rintro e w3 ⟨vd, rfl, hvd, hb3⟩; have hc3 := Lib.hid (ext_trans hc2.out hb3); have HVN3 := Lib.hid (HVN.out.ext hb3); have HVD := Lib.hid hvd; clear hvd) | (go_at_call 76; refine (ncmp_at _ _ _ _ _ HVN3.out HVD.out).mono ?_; rintro e w4 ⟨rfl, hb4⟩; have hc4 := Lib.hid (ext_trans hc3.out hb4)))
      generalize cmpN (x.num.natAbs * y.den) (y.num.natAbs * x.den) = z at *
      have hA5 := hA.ext hc4.out
      have x5 : w4.cell? ⟨w.heap.size, 0, none⟩ = some (.bool false) := hA5.2 0
      go_wp2
      go_ret
      exact ⟨ret_int HC2.out.symm, ext_trans hbW hc4.out⟩
end Nm
end Go.Proofs.YtemenlcigengeaaGreatDoor
namespace Go.Proofs.YtemenlcigengeaaGreatDoor
open Go.RowKit
namespace Nm
set_option maxHeartbeats 4000000 in
theorem xratInt_at (n : Int) (h1 : -9223372036854775808 ≤ n) (h2 : n ≤ 9223372036854775807) (w : World) : Calls Tryz.prog 69 #[.int .i64 n] w (XPost w (n : Rat)) := by
  have hx1 := fun w => xnatOf_at 1 (by decide) w
  rw [show ((1 : Nat) : Int) = 1 from rfl] at hx1
  have HX1 := Lib.hid hx1
  clear hx1
  go_enter Tryz.func69, Tryz.ntmps69
  go_upto_region 1 with (fail)
  refine wp_box1r fun W hsz hbW hC hF => ?_
  have hle : w.heap.size ≤ w.heap.size := Nat.le_refl _
  clear hsz
  go_wp2_with fail
  refine (size_at n h1 h2 _).mono ?_
  rintro e w' ⟨rfl, rfl⟩
  go_wp2_with fail
  refine (xnatOf_at n.natAbs (by omega) _).mono ?_
  rintro e w1 ⟨v1, rfl, hv1, hb1⟩
  go_wp2_with fail
  refine (HX1.out _).mono ?_
  rintro e w2 ⟨v2, rfl, hv2, hb2⟩
  have hb3 := ext_trans hb1 hb2
  have hC3 := hC.ext hb3
  have hF3 := hF.ext hC hb3
  have hbw := ext_trans hbW hb3
  have hv3 := hv1.ext hb2
  obtain ⟨p1, c5, rfl, _⟩ := hv3.open_
  obtain ⟨p2, c6, rfl, _⟩ := hv2.open_
  clear hb1 hb2 hb3 hC hF hbW hv1
  have g0 := hF3 0
  have g1 := hF3 1
  have g2 := hF3 2
  obtain ⟨r0, r1, r2⟩ := boxX hC3
  obtain ⟨k1, k2, k3, z0, z1, z2⟩ := res3 (decide (n < 0)) hC3 hv3 hv2 hbw hle
  have HK := Lib.hid (And.intro k1 (And.intro k2 k3))
  clear k1 k2 k3
  go_wp2
  exact bodyPost_ret (v := .agg #[.bool (decide (n < 0)), .slice p1 (digs n.natAbs).length c5, .slice p2 (digs 1).length c6]) (by simp [results, Tryz.results69, go_sem, z0, z1, z2]) rfl ⟨_, rfl, ⟨_, _, rfl, HK.out.1, HK.out.2.1⟩, HK.out.2.2⟩
def FPost (w : World) (z : Int) (e : Ending) (w' : World) : Prop := e = .returned (.int .i64 z) ∧ Below w.heap.size w w'
theorem xr_shape {w : World} {v : Value} {q : Rat} (h : XR w v q) : ∃ b a1 n1 c1 a2 n2 c2, v = .agg #[.bool b, .slice a1 n1 c1, .slice a2 n2 c2] := by
  obtain ⟨a1, c1, a2, c2, rfl, _⟩ := h.open_; exact ⟨_, _, _, _, _, _, _, rfl⟩
/-- the reading of a ratio, with the shape of what comes back -/
def OfS (w : World) (n d : ByteArray) (e : Ending) (w' : World) : Prop := ∃ b a1 n1 c1 a2 n2 c2, e = .returned (.tuple #[.agg #[.bool b, .slice a1 n1 c1, .slice a2 n2 c2], .int .i64 (rF n d)]) ∧ (rF n d = 0 → XR w' (.agg #[.bool b, .slice a1 n1 c1, .slice a2 n2 c2]) (rQ n d)) ∧ Below w.heap.size w w'
theorem xratOf_s (n d : ByteArray) (hn : n.size ≤ maxLen) (hd : d.size ≤ maxLen) (w : World) : Calls Tryz.prog 100 #[.agg #[.string n, .string d]] w (OfS w n d) := by
  refine (xratOf_at n d hn hd w).mono ?_
  rintro e w' ⟨v, rfl, h1, h2, hb⟩
  by_cases h : rF n d = 0
  · obtain ⟨b, a1, n1, c1, a2, n2, c2, rfl⟩ := xr_shape (h1 h)
    exact ⟨b, a1, n1, c1, a2, n2, c2, rfl, h1, hb⟩
  · obtain rfl := h2 h
    exact ⟨false, none, 0, 0, none, 0, 0, rfl, fun h' => absurd h' h, hb⟩
set_option maxHeartbeats 4000000 in
theorem checkRatio_at (n d : ByteArray) (hn : n.size ≤ maxLen) (hd : d.size ≤ maxLen) (w : World) : Calls Tryz.prog 70 #[.agg #[.string n, .string d]] w (FPost w (rF n d)) := by
  go_enter Tryz.func70, Tryz.ntmps70
  go_upto_region 1 with (fail)
  refine wp_box1 fun W hsz hbW hC => ?_
  obtain ⟨_, hC2⟩ := id hC
  clear hsz
  go_wp2_with fail
  refine (xratOf_s n d hn hd _).mono ?_
  rintro e w1 ⟨b, a1, n1, c1, a2, n2, c2, rfl, _, hb1⟩
  have hbw := ext_trans hbW hb1
  clear hC hC2 hbW hb1
  go_wp2
  go_ret
  exact ⟨rfl, ext_trans hbw (ext_alloc _ _)⟩
set_option maxHeartbeats 4000000 in
theorem xratOfP_at (n d : ByteArray) (hn : n.size ≤ maxLen) (hd : d.size ≤ maxLen) (h0 : rF n d = 0) (w : World) : Calls Tryz.prog 71 #[.agg #[.string n, .string d]] w (XPost w (rQ n d)) := by
  have H0 := Lib.hid h0
  clear h0
  go_enter Tryz.func71, Tryz.ntmps71
  go_upto_region 1 with (fail)
  refine wp_box2r fun W hsz hbW hA hC hF => ?_
  obtain ⟨_, hA2⟩ := id hA
  have hszw : w.heap.size + 1 ≤ W.heap.size := by omega
  clear hsz
  go_wp2_with fail
  refine (xratOf_s n d hn hd _).mono ?_
  rintro e w1 ⟨b, a1, n1, c1, a2, n2, c2, rfl, hx, hb1⟩
  have HX := Lib.hid (hx H0.out)
  have hbw := ext_trans hbW hb1
  have hC1 := hC.ext hb1
  have hF1 := hF.ext hC hb1
  have hlt := hC1.1
  clear hC hF hA hA2 hx hbW hb1 hszw
  go_upto_region 2 with (fail)
  refine wp_box1 fun X hsz2 hbX hB => ?_
  have b0 : X.cell? ⟨w1.heap.size, 0, none⟩ = some (.bool b) := hB.2 0
  have b1 : X.cell? ⟨w1.heap.size, 1, none⟩ = some (.slice a1 n1 c1) := hB.2 1
  have b2 : X.cell? ⟨w1.heap.size, 2, none⟩ = some (.slice a2 n2 c2) := hB.2 2
  have hC2 := hC1.ext hbX
  have hF2 := hF1.ext hC1 hbX
  have HX2 := Lib.hid (HX.out.ext hbX)
  have hbw2 := ext_trans hbw hbX
  obtain ⟨v1, v2, hv, hn1, hn2⟩ := id HX2.out
  have HV := Lib.hid hv
  simp only [Value.agg.injEq] at hv
  have g0 := hF2 0
  have g1 := hF2 1
  have g2 := hF2 2
  obtain ⟨r0, r1, r2⟩ := boxX hC2
  have HR := Lib.hid (res3 b hC2 hn1 hn2 hbw2 (Nat.le_succ _))
  have e1 : Value.slice a1 n1 c1 = v1 := by have := HV.out; simp at this; exact this.2.1
  have e2 : Value.slice a2 n2 c2 = v2 := by have := HV.out; simp at this; exact this.2.2
  have e3 : b = decide ((rQ n d).num < 0) := by have := HV.out; simp at this; exact this.1
  have HE := Lib.hid e3
  subst e1 e2
  obtain ⟨k1, k2, k3, z0, z1, z2⟩ := id HR.out
  have HK := Lib.hid (And.intro k1 (And.intro k2 k3))
  clear k1 k2 k3 hv hsz2 hC1 hF1 hbw hbX hn1 hn2 e3 hB hC2 hF2 hlt hbw2
  go_wp2
  exact bodyPost_ret (v := .agg #[.bool b, .slice a1 n1 c1, .slice a2 n2 c2]) (by simp [results, Tryz.results71, go_sem, z0, z1, z2]) rfl ⟨_, rfl, ⟨_, _, by rw [HE.out], HK.out.1, HK.out.2.1⟩, HK.out.2.2⟩
end Nm
end Go.Proofs.YtemenlcigengeaaGreatDoor
namespace Go.Proofs.YtemenlcigengeaaGreatDoor
open Go.RowKit
namespace Nm
theorem miss_small {n d : ByteArray} (h : rF n d = 0) : wlen (rQ n d).num.natAbs ≤ 4000 ∧ wlen (rQ n d).den ≤ 4000 := by
  obtain ⟨_, h2, h3, h4, h5, h6, h7, _⟩ := rQ_facts h
  have e1 : (cutS n).data.toList.length = (cutS n).size := Array.length_toList
  have e2 : d.data.toList.length = d.size := Array.length_toList
  refine ⟨?_, ?_⟩
  · rw [h2, sgn_natAbs]; have := wlen_dec (decv_lt (whole_whl h4).1); omega
  · rw [h3]; have := wlen_dec (decv_lt (whole_whl h5).1); omega
set_option maxHeartbeats 2000000 in
theorem liteTrim_at (s : ByteArray) (hs : s.size ≤ maxLen) (w : World) : Calls Tryz.prog 115 #[.string s, .string ⟨#[45]⟩] w fun e w' => e = .returned (.string (cutS s)) ∧ w = w' := by
  have hs' := hs
  unfold maxLen at hs'
  by_cases h : cutB s.data.toList = true
  · have h1 : 1 ≤ s.size := by
      rcases Nat.lt_or_ge s.size 1 with h2 | h2
      · have := cut_none s h2; rw [h] at this; cases this
      · exact h2
    have HE : Hid (s.extract 1 s.size = cutS s) := by
      have : s.extract 1 s.size = cutS s := by unfold cutS; rw [if_pos h]
      exact this
    go_enter Tryz.func115, Tryz.ntmps115
    go_wp2_with fail
    refine (hasPrefix_at s hs w).mono ?_
    rw [h]
    rintro e w' ⟨rfl, rfl⟩
    clear h
    go_wp2
    go_ret
    refine ⟨?_, rfl⟩
    rw [← HE.out]; rfl
  · have hf : cutB s.data.toList = false := by simpa using h
    have HE : Hid (s = cutS s) := by
      have : s = cutS s := by unfold cutS; rw [if_neg h]
      exact this
    go_enter Tryz.func115, Tryz.ntmps115
    go_wp2_with fail
    refine (hasPrefix_at s hs w).mono ?_
    rw [hf]
    rintro e w' ⟨rfl, rfl⟩
    clear h hf
    go_wp2
    go_ret
    refine ⟨?_, rfl⟩
    rw [← HE.out]; rfl
theorem trimPrefix_at (s : ByteArray) (hs : s.size ≤ maxLen) (w : World) : Calls Tryz.prog 93 #[.string s, .string ⟨#[45]⟩] w fun e w' => e = .returned (.string (cutS s)) ∧ w = w' := by
  go_enter Tryz.func93, Tryz.ntmps93
  go_wp2_with fail
  refine (liteTrim_at s hs w).mono ?_
  rintro e w' ⟨rfl, rfl⟩
  go_wp2
  go_ret
  exact ⟨rfl, rfl⟩
def longB (n d : ByteArray) : Bool := decide (100 < (cutS n).size) || decide (100 < d.size)
def BPost (w : World) (b : Bool) (e : Ending) (w' : World) : Prop := e = .returned (.bool b) ∧ Below w.heap.size w w'
set_option maxHeartbeats 2000000 in
theorem long_at (n d : ByteArray) (hn : n.size ≤ maxLen) (hd : d.size ≤ maxLen) (w : World) : Calls Tryz.prog 72 #[.agg #[.string n, .string d]] w (BPost w (longB n d)) := by
  have hc := cutS_size n
  have hn' := hn
  have hd' := hd
  unfold maxLen at hn' hd'
  by_cases h1 : 100 < (cutS n).size
  · have hb : longB n d = true := by simp [longB, h1]
    rw [hb]
    clear hb
    go_enter Tryz.func72, Tryz.ntmps72
    go_wp2_with fail
    refine (trimPrefix_at n hn _).mono ?_
    rintro e w' ⟨rfl, rfl⟩
    go_wp2
    go_ret
    exact ⟨rfl, by go_grown⟩
  · by_cases h2 : 100 < d.size
    · have hb : longB n d = true := by simp [longB, h2]
      have h3 : (decide ((100 : Int) < ((cutS n).size : Int))) = false := decide_eq_false (by omega)
      have h4 : (decide (100 < (cutS n).size)) = false := decide_eq_false (by omega)
      have h5 : (decide ((100 : Int) < (d.size : Int))) = true := decide_eq_true (by omega)
      rw [hb]
      clear hb h1
      go_enter Tryz.func72, Tryz.ntmps72
      go_wp2_with fail
      refine (trimPrefix_at n hn _).mono ?_
      rintro e w' ⟨rfl, rfl⟩
      go_wp2
      go_ret
      exact ⟨rfl, by go_grown⟩
    · have hb : longB n d = false := by simp [longB]; omega
      have h3 : (decide ((100 : Int) < ((cutS n).size : Int))) = false := decide_eq_false (by omega)
      have h4 : (decide (100 < (cutS n).size)) = false := decide_eq_false (by omega)
      have h5 : (decide ((100 : Int) < (d.size : Int))) = false := decide_eq_false (by omega)
      have h6 : (decide (100 < d.size)) = false := decide_eq_false (by omega)
      rw [hb]
      clear hb h1 h2
      go_enter Tryz.func72, Tryz.ntmps72
      go_wp2_with fail
      refine (trimPrefix_at n hn _).mono ?_
      rintro e w' ⟨rfl, rfl⟩
      go_wp2
      go_ret
      exact ⟨rfl, by go_grown⟩
theorem whole_at (n : Int) (h1 : -9223372036854775808 ≤ n) (h2 : n ≤ 9223372036854775807) (w : World) : Calls Tryz.prog 40 #[.int .i64 n] w (XPost w (n : Rat)) := by
  go_enter Tryz.func40, Tryz.ntmps40
  go_upto_region 1 with (fail)
  refine wp_box1r fun W hsz hbW hC hF => ?_
  clear hsz
  go_wp2_with fail
  refine (xratInt_at n h1 h2 _).mono ?_
  rintro e w2 ⟨v, rfl, hx, hb⟩
  obtain ⟨v1, v2, rfl, hn1', hn2'⟩ := hx
  have hn1 : N w2 v1 n.natAbs := hn1'
  have hn2 : N w2 v2 1 := hn2'
  obtain ⟨p1, c5, rfl, _⟩ := hn1.open_
  obtain ⟨p2, c6, rfl, _⟩ := hn2.open_
  clear hn1' hn2'
  rw [show decide ((n : Rat).num < 0) = decide (n < 0) from rfl]
  have hC3 := hC.ext hb
  have hF3 := hF.ext hC hb
  have hbw := ext_trans hbW hb
  have hle : w.heap.size ≤ w.heap.size := Nat.le_refl _
  have g0 := hF3 0
  have g1 := hF3 1
  have g2 := hF3 2
  obtain ⟨r0, r1, r2⟩ := boxX hC3
  obtain ⟨k1, k2, k3, z0, z1, z2⟩ := res3 (decide (n < 0)) hC3 hn1 hn2 hbw hle
  have HK := Lib.hid (And.intro k1 (And.intro k2 k3))
  clear k1 k2 k3
  go_wp2
  exact bodyPost_ret (v := .agg #[.bool (decide (n < 0)), .slice p1 (digs n.natAbs).length c5, .slice p2 (digs 1).length c6]) (by simp [results, Tryz.results40, go_sem, z0, z1, z2]) rfl ⟨_, rfl, ⟨_, _, rfl, HK.out.1, HK.out.2.1⟩, HK.out.2.2⟩
end Nm
end Go.Proofs.YtemenlcigengeaaGreatDoor
