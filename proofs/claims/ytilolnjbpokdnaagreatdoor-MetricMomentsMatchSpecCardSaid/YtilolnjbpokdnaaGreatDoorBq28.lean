/- size, XratInt, CheckRatio, XratOf, Cmp of package value. XratInt, CheckRatio, XratOf of package value. TrimPrefix of package strings at "-"; long, whole and readMiss of package decide. Inverse of package value. Inverse of the reference. Order of package value. -/
import Derived.Test.YtilolnjbpokdnaaGreatDoorBq19
import Derived.Test.YtilolnjbpokdnaaGreatDoorBq12
import Derived.Test.YtilolnjbpokdnaaGreatDoorBq27
import Derived.Test.YtilolnjbpokdnaaGreatDoorBq21
import Derived.Test.YtilolnjbpokdnaaGreatDoorBq22
import Derived.Test.YtilolnjbpokdnaaGreatDoorProg
import Derived.Test.YtilolnjbpokdnaaGreatDoorBq00
import Derived.Test.YtilolnjbpokdnaaGreatDoorBq01
import Derived.Test.YtilolnjbpokdnaaGreatDoorBq13
import Derived.Test.YtilolnjbpokdnaaGreatDoorBq14
import Derived.Test.YtilolnjbpokdnaaGreatDoorBq15
import Derived.Test.YtilolnjbpokdnaaGreatDoorBq16
import Derived.Test.YtilolnjbpokdnaaGreatDoorBq17
import Derived.Test.YtilolnjbpokdnaaGreatDoorBq18
import Derived.Test.YtilolnjbpokdnaaGreatDoorShelf
import Derived.Test.YtilolnjbpokdnaaGreatDoorBq10
import Derived.Test.YtilolnjbpokdnaaGreatDoorBq20
import Derived.Test.YtilolnjbpokdnaaGreatDoorBq09
import Derived.Test.YtilolnjbpokdnaaGreatDoorBq03
import Derived.Test.YtilolnjbpokdnaaGreatDoorBq04
import Derived.Test.YtilolnjbpokdnaaGreatDoorBq05
import Derived.Test.YtilolnjbpokdnaaGreatDoorBq06
import Derived.Test.YtilolnjbpokdnaaGreatDoorBq07
import Derived.Test.YtilolnjbpokdnaaGreatDoorBq08
import Derived.Test.YtilolnjbpokdnaaGreatDoorBq11
namespace Go.Proofs.YtilolnjbpokdnaaGreatDoor
open Go.RowKit
namespace Nm
/-- the order of exact numbers -/
def cmpZ (a b : Int) : Int := if a < b then -1 else if b < a then 1 else 0
def cmpQ (x y : Rat) : Int := cmpZ (x.num * y.den) (y.num * x.den)
theorem cmpN_cmpZ (a b : Nat) : cmpN a b = cmpZ a b := by unfold cmpN cmpZ; (repeat' split) <;> omega
theorem cmpZ_neg (a b : Int) : cmpZ (-a) (-b) = - cmpZ a b := by unfold cmpZ; (repeat' split) <;> omega
theorem cmpQ_same {x y : Rat} (h : decide (x.num < 0) = decide (y.num < 0)) : cmpQ x y = if x.num < 0 then - cmpN (x.num.natAbs * y.den) (y.num.natAbs * x.den) else cmpN (x.num.natAbs * y.den) (y.num.natAbs * x.den) := by
  unfold cmpQ
  have hx := sgn_self x.num
  have hy := sgn_self y.num
  rw [← h] at hy
  by_cases hn : x.num < 0
  · rw [if_pos hn]
    simp only [hn, decide_true, sgn, if_true] at hx hy
    conv => lhs; rw [← hx, ← hy]
    rw [cmpN_cmpZ, ← cmpZ_neg]
    simp [Int.neg_mul]
  · rw [if_neg hn]
    simp only [hn, decide_false, sgn] at hx hy
    simp only [Bool.false_eq_true, if_false] at hx hy
    conv => lhs; rw [← hx, ← hy]
    rw [cmpN_cmpZ]
    simp
theorem cmpQ_below {x y : Rat} (hx : x.num < 0) (hy : ¬ y.num < 0) : cmpQ x y = -1 := by
  unfold cmpQ cmpZ
  have h1 : x.num * (y.den : Int) < 0 := Int.mul_neg_of_neg_of_pos hx (by have := y.den_pos; omega)
  have h2 : 0 ≤ y.num * (x.den : Int) := Int.mul_nonneg (by omega) (by omega)
  rw [if_pos (by omega)]
theorem cmpQ_above {x y : Rat} (hx : ¬ x.num < 0) (hy : y.num < 0) : cmpQ x y = 1 := by
  unfold cmpQ cmpZ
  have h1 : y.num * (x.den : Int) < 0 := Int.mul_neg_of_neg_of_pos hy (by have := x.den_pos; omega)
  have h2 : 0 ≤ x.num * (y.den : Int) := Int.mul_nonneg (by omega) (by omega)
  rw [if_neg (by omega), if_pos (by omega)]
def CmpPost (w : World) (z : Int) (e : Ending) (w' : World) : Prop := e = .returned (.int .i64 z) ∧ Below w.heap.size w w'
theorem ncmp_at (x y : Nat) (v u : Value) (w : World) (hx : N w v x) (hy : N w u y) : Calls Tryz.prog 123 #[v, u] w (CmpPost w (cmpN x y)) := by
  refine (cmp_at x y v u w hx hy).mono ?_
  rintro e w' ⟨rfl, k, rfl⟩
  exact ⟨rfl, below_drewN (Below.refl _ _) k⟩
theorem cmpN_range (x y : Nat) : -1 ≤ cmpN x y ∧ cmpN x y ≤ 1 := by unfold cmpN; (repeat' split) <;> omega
set_option maxHeartbeats 4000000 in
theorem xcmp_at (x y : Rat) (v u : Value) (w : World) (hx : XR w v x) (hy : XR w u y) (l1 : wlen x.num.natAbs ≤ 100000000) (l2 : wlen x.den ≤ 100000000) (l3 : wlen y.num.natAbs ≤ 100000000) (l4 : wlen y.den ≤ 100000000) : Calls Tryz.prog 68 #[v, u] w (CmpPost w (cmpQ x y)) := by
  obtain ⟨a1, c1, a2, c2, rfl, h1, h2⟩ := hx.open_
  obtain ⟨a3, c3, a4, c4, rfl, h3, h4⟩ := hy.open_
  have H1 := Lib.hid h1
  have H2 := Lib.hid h2
  have H3 := Lib.hid h3
  have H4 := Lib.hid h4
  have hcr := cmpN_range (x.num.natAbs * y.den) (y.num.natAbs * x.den)
  clear h1 h2 hx h3 h4 hy
  by_cases hbx : x.num < 0
  · by_cases hby : y.num < 0
    · have HC := Lib.hid (cmpQ_same (x := x) (y := y) (by simp [hbx, hby]))
      have HC2 : Hid (cmpQ x y = - cmpN (x.num.natAbs * y.den) (y.num.natAbs * x.den)) := by have := HC.out; rw [if_pos hbx] at this; exact this
      have d1 : decide (x.num < 0) = true := by simp [hbx]
      have d2 : decide (y.num < 0) = true := by simp [hby]
      rw [d1, d2]
      clear HC d1 d2 hbx hby
      have HW1 := Lib.hid (Nat.le_trans (wlen_mul x.num.natAbs y.den) (by omega : _ ≤ 1000000000))
      have HW2 := Lib.hid (Nat.le_trans (wlen_mul y.num.natAbs x.den) (by omega : _ ≤ 1000000000))
      have hbb : (true != true) = false := rfl
      have hbc : (false != false) = false := rfl
      have tok1 : True := trivial
      go_enter Tryz.func68, Tryz.ntmps68
      go_upto_region 1 with (fail)
      refine wp_box2 fun W hsz hbW hA hB => ?_
      have x0 : W.cell? ⟨w.heap.size, 0, none⟩ = some (.bool true) := hA.2 0
      have y0 : W.cell? ⟨w.heap.size + 1, 0, none⟩ = some (.bool true) := hB.2 0
      go_wp2_with fail
      go_region_held3 (S2R W W.heap.size w.heap.size #[Value.bool true, Value.slice a1 (digs x.num.natAbs).length c1, Value.slice a2 (digs x.den).length c2] (w.heap.size + 1) #[Value.bool true, Value.slice a3 (digs y.num.natAbs).length c3, Value.slice a4 (digs y.den).length c4]) (first | exact S2R.start hA hB | exact S2R.ext (by with_reducible assumption) (by with_reducible assumption) (Nat.le_refl _) hA hB | assumption) (first | (have _t := tok1; go_at_call 122; refine (times_at x.num.natAbs y.den _ _ _ (H1.out.ext (ext_trans hbW (Below.refl W.heap.size W).drew)) (H4.out.ext (ext_trans hbW (Below.refl W.heap.size W).drew)) (by omega) (by omega)).mono ?_; rintro e w2 ⟨vn, rfl, hvn, hb2⟩; have hc2 := Lib.hid (ext_trans (Below.refl W.heap.size W).drew hb2); have HVN := Lib.hid hvn; clear tok1 hvn) | (go_at_call 122; refine (times_at y.num.natAbs x.den _ _ _ (H3.out.ext (ext_trans hbW hc2.out)) (H2.out.ext (ext_trans hbW hc2.out)) (by omega) (by omega)).mono ?_; rintro e w3 ⟨vd, rfl, hvd, hb3⟩; have hc3 := Lib.hid (ext_trans hc2.out hb3); have HVN3 := Lib.hid (HVN.out.ext hb3); have HVD := Lib.hid hvd; clear hvd) | (go_at_call 123; refine (ncmp_at _ _ _ _ _ HVN3.out HVD.out).mono ?_; rintro e w4 ⟨rfl, hb4⟩; have hc4 := Lib.hid (ext_trans hc3.out hb4)))
      generalize cmpN (x.num.natAbs * y.den) (y.num.natAbs * x.den) = z at *
      have hA5 := hA.ext hc4.out
      have x5 : w4.cell? ⟨w.heap.size, 0, none⟩ = some (.bool true) := hA5.2 0
      go_wp2
      go_ret
      exact ⟨ret_int HC2.out.symm, ext_trans hbW hc4.out⟩
    · have HC := Lib.hid (cmpQ_below hbx hby)
      have d1 : decide (x.num < 0) = true := by simp [hbx]
      have d2 : decide (y.num < 0) = false := by simp [hby]
      rw [d1, d2]
      clear d1 d2 hbx hby
      go_enter Tryz.func68, Tryz.ntmps68
      go_wp2
      go_ret
      exact ⟨ret_int HC.out.symm, by go_grown⟩
  · by_cases hby : y.num < 0
    · have HC := Lib.hid (cmpQ_above hbx hby)
      have d1 : decide (x.num < 0) = false := by simp [hbx]
      have d2 : decide (y.num < 0) = true := by simp [hby]
      rw [d1, d2]
      clear d1 d2 hbx hby
      go_enter Tryz.func68, Tryz.ntmps68
      go_wp2
      go_ret
      exact ⟨ret_int HC.out.symm, by go_grown⟩
    · have HC := Lib.hid (cmpQ_same (x := x) (y := y) (by simp [hbx, hby]))
      have HC2 : Hid (cmpQ x y = cmpN (x.num.natAbs * y.den) (y.num.natAbs * x.den)) := by have := HC.out; rw [if_neg hbx] at this; exact this
      have d1 : decide (x.num < 0) = false := by simp [hbx]
      have d2 : decide (y.num < 0) = false := by simp [hby]
      rw [d1, d2]
      clear HC d1 d2 hbx hby
      have HW1 := Lib.hid (Nat.le_trans (wlen_mul x.num.natAbs y.den) (by omega : _ ≤ 1000000000))
      have HW2 := Lib.hid (Nat.le_trans (wlen_mul y.num.natAbs x.den) (by omega : _ ≤ 1000000000))
      have hbb : (true != true) = false := rfl
      have hbc : (false != false) = false := rfl
      have tok1 : True := trivial
      go_enter Tryz.func68, Tryz.ntmps68
      go_upto_region 1 with (fail)
      refine wp_box2 fun W hsz hbW hA hB => ?_
      have x0 : W.cell? ⟨w.heap.size, 0, none⟩ = some (.bool false) := hA.2 0
      have y0 : W.cell? ⟨w.heap.size + 1, 0, none⟩ = some (.bool false) := hB.2 0
      go_wp2_with fail
      go_region_held3 (S2R W W.heap.size w.heap.size #[Value.bool false, Value.slice a1 (digs x.num.natAbs).length c1, Value.slice a2 (digs x.den).length c2] (w.heap.size + 1) #[Value.bool false, Value.slice a3 (digs y.num.natAbs).length c3, Value.slice a4 (digs y.den).length c4]) (first | exact S2R.start hA hB | exact S2R.ext (by with_reducible assumption) (by with_reducible assumption) (Nat.le_refl _) hA hB | assumption) (first | (have _t := tok1; go_at_call 122; refine (times_at x.num.natAbs y.den _ _ _ (H1.out.ext (ext_trans hbW (Below.refl W.heap.size W).drew)) (H4.out.ext (ext_trans hbW (Below.refl W.heap.size W).drew)) (by omega) (by omega)).mono ?_; rintro e w2 ⟨vn, rfl, hvn, hb2⟩; have hc2 := Lib.hid (ext_trans (Below.refl W.heap.size W).drew hb2); have HVN := Lib.hid hvn; clear tok1 hvn) | (go_at_call 122; refine (times_at y.num.natAbs x.den _ _ _ (H3.out.ext (ext_trans hbW hc2.out)) (H2.out.ext (ext_trans hbW hc2.out)) (by omega) (by omega)).mono ?_; rintro e w3 ⟨vd, rfl, hvd, hb3⟩; have hc3 := Lib.hid (ext_trans hc2.out hb3); have HVN3 := Lib.hid (HVN.out.ext hb3); have HVD := Lib.hid hvd; clear hvd) | (go_at_call 123; refine (ncmp_at _ _ _ _ _ HVN3.out HVD.out).mono ?_; rintro e w4 ⟨rfl, hb4⟩; have hc4 := Lib.hid (ext_trans hc3.out hb4)))
      generalize cmpN (x.num.natAbs * y.den) (y.num.natAbs * x.den) = z at *
      have hA5 := hA.ext hc4.out
      have x5 : w4.cell? ⟨w.heap.size, 0, none⟩ = some (.bool false) := hA5.2 0
      go_wp2
      go_ret
      exact ⟨ret_int HC2.out.symm, ext_trans hbW hc4.out⟩
end Nm
end Go.Proofs.YtilolnjbpokdnaaGreatDoor
namespace Go.Proofs.YtilolnjbpokdnaaGreatDoor
open Go.RowKit
namespace Nm
def FPost (w : World) (z : Int) (e : Ending) (w' : World) : Prop := e = .returned (.int .i64 z) ∧ Below w.heap.size w w'
theorem xr_shape {w : World} {v : Value} {q : Rat} (h : XR w v q) : ∃ b a1 n1 c1 a2 n2 c2, v = .agg #[.bool b, .slice a1 n1 c1, .slice a2 n2 c2] := by
  obtain ⟨a1, c1, a2, c2, rfl, _⟩ := h.open_; exact ⟨_, _, _, _, _, _, _, rfl⟩
/-- the reading of a ratio, with the shape of what comes back -/
def OfS (w : World) (n d : ByteArray) (e : Ending) (w' : World) : Prop := ∃ b a1 n1 c1 a2 n2 c2, e = .returned (.tuple #[.agg #[.bool b, .slice a1 n1 c1, .slice a2 n2 c2], .int .i64 (rF n d)]) ∧ (rF n d = 0 → XR w' (.agg #[.bool b, .slice a1 n1 c1, .slice a2 n2 c2]) (rQ n d)) ∧ Below w.heap.size w w'
theorem xratOf_s (n d : ByteArray) (hn : n.size ≤ maxLen) (hd : d.size ≤ maxLen) (w : World) : Calls Tryz.prog 157 #[.agg #[.string n, .string d]] w (OfS w n d) := by
  refine (xratOf_at n d hn hd w).mono ?_
  rintro e w' ⟨v, rfl, h1, h2, hb⟩
  by_cases h : rF n d = 0
  · obtain ⟨b, a1, n1, c1, a2, n2, c2, rfl⟩ := xr_shape (h1 h)
    exact ⟨b, a1, n1, c1, a2, n2, c2, rfl, h1, hb⟩
  · obtain rfl := h2 h
    exact ⟨false, none, 0, 0, none, 0, 0, rfl, fun h' => absurd h' h, hb⟩
set_option maxHeartbeats 4000000 in
theorem checkRatio_at (n d : ByteArray) (hn : n.size ≤ maxLen) (hd : d.size ≤ maxLen) (w : World) : Calls Tryz.prog 119 #[.agg #[.string n, .string d]] w (FPost w (rF n d)) := by
  go_enter Tryz.func119, Tryz.ntmps119
  go_upto_region 1 with (fail)
  refine wp_box1 fun W hsz hbW hC => ?_
  obtain ⟨_, hC2⟩ := id hC
  clear hsz
  go_wp2_with fail
  refine (xratOf_s n d hn hd _).mono ?_
  rintro e w1 ⟨b, a1, n1, c1, a2, n2, c2, rfl, _, hb1⟩
  have hbw := ext_trans hbW hb1
  clear hC hC2 hbW hb1
  go_wp2
  go_ret
  exact ⟨rfl, ext_trans hbw (ext_alloc _ _)⟩
set_option maxHeartbeats 4000000 in
theorem xratOfP_at (n d : ByteArray) (hn : n.size ≤ maxLen) (hd : d.size ≤ maxLen) (h0 : rF n d = 0) (w : World) : Calls Tryz.prog 120 #[.agg #[.string n, .string d]] w (XPost w (rQ n d)) := by
  have H0 := Lib.hid h0
  clear h0
  go_enter Tryz.func120, Tryz.ntmps120
  go_upto_region 1 with (fail)
  refine wp_box2r fun W hsz hbW hA hC hF => ?_
  obtain ⟨_, hA2⟩ := id hA
  have hszw : w.heap.size + 1 ≤ W.heap.size := by omega
  clear hsz
  go_wp2_with fail
  refine (xratOf_s n d hn hd _).mono ?_
  rintro e w1 ⟨b, a1, n1, c1, a2, n2, c2, rfl, hx, hb1⟩
  have HX := Lib.hid (hx H0.out)
  have hbw := ext_trans hbW hb1
  have hC1 := hC.ext hb1
  have hF1 := hF.ext hC hb1
  have hlt := hC1.1
  clear hC hF hA hA2 hx hbW hb1 hszw
  go_upto_region 2 with (fail)
  refine wp_box1 fun X hsz2 hbX hB => ?_
  have b0 : X.cell? ⟨w1.heap.size, 0, none⟩ = some (.bool b) := hB.2 0
  have b1 : X.cell? ⟨w1.heap.size, 1, none⟩ = some (.slice a1 n1 c1) := hB.2 1
  have b2 : X.cell? ⟨w1.heap.size, 2, none⟩ = some (.slice a2 n2 c2) := hB.2 2
  have hC2 := hC1.ext hbX
  have hF2 := hF1.ext hC1 hbX
  have HX2 := Lib.hid (HX.out.ext hbX)
  have hbw2 := ext_trans hbw hbX
  obtain ⟨v1, v2, hv, hn1, hn2⟩ := id HX2.out
  have HV := Lib.hid hv
  simp only [Value.agg.injEq] at hv
  have g0 := hF2 0
  have g1 := hF2 1
  have g2 := hF2 2
  obtain ⟨r0, r1, r2⟩ := boxX hC2
  have HR := Lib.hid (res3 b hC2 hn1 hn2 hbw2 (Nat.le_succ _))
  have e1 : Value.slice a1 n1 c1 = v1 := by have := HV.out; simp at this; exact this.2.1
  have e2 : Value.slice a2 n2 c2 = v2 := by have := HV.out; simp at this; exact this.2.2
  have e3 : b = decide ((rQ n d).num < 0) := by have := HV.out; simp at this; exact this.1
  have HE := Lib.hid e3
  subst e1 e2
  obtain ⟨k1, k2, k3, z0, z1, z2⟩ := id HR.out
  have HK := Lib.hid (And.intro k1 (And.intro k2 k3))
  clear k1 k2 k3 hv hsz2 hC1 hF1 hbw hbX hn1 hn2 e3 hB hC2 hF2 hlt hbw2
  go_wp2
  exact bodyPost_ret (v := .agg #[.bool b, .slice a1 n1 c1, .slice a2 n2 c2]) (by simp [results, Tryz.results120, go_sem, z0, z1, z2]) rfl ⟨_, rfl, ⟨_, _, by rw [HE.out], HK.out.1, HK.out.2.1⟩, HK.out.2.2⟩
end Nm
end Go.Proofs.YtilolnjbpokdnaaGreatDoor
namespace Go.Proofs.YtilolnjbpokdnaaGreatDoor
open Go.RowKit
namespace Nm
def BPost (w : World) (b : Bool) (e : Ending) (w' : World) : Prop := e = .returned (.bool b) ∧ Below w.heap.size w w'
end Nm
end Go.Proofs.YtilolnjbpokdnaaGreatDoor
namespace Go.Proofs.YtilolnjbpokdnaaGreatDoor
open Go.RowKit
namespace Nm
/-- the inverse of a ratio -/
def iF (n d : ByteArray) : Int := if rF n d ≠ 0 then rF n d else if (rQ n d).num = 0 then 14 else outF (rQ n d)⁻¹
def iN (n d : ByteArray) : ByteArray := if rF n d ≠ 0 then ⟨#[]⟩ else if (rQ n d).num = 0 then ⟨#[]⟩ else outN (rQ n d)⁻¹
def iD (n d : ByteArray) : ByteArray := if rF n d ≠ 0 then ⟨#[]⟩ else if (rQ n d).num = 0 then ⟨#[]⟩ else outD (rQ n d)⁻¹
end Nm
end Go.Proofs.YtilolnjbpokdnaaGreatDoor
namespace Go.Proofs.YtilolnjbpokdnaaGreatDoor
open Go.RowKit
namespace Nt
open _root_.Go.Proofs.YtilolnjbpokdnaaGreatDoor.Nm (rF rQ sgn outN outD outF AnsPost bF iN iD iF rQ_facts inv_facts sgn_self cutS cutB)
theorem inv_norm {q : Rat} (h : q.num.natAbs ≠ 0) : Rat.normalize (sgn (decide (q.num < 0)) q.den) q.num.natAbs h = q⁻¹ := by
  have h0 : q.num ≠ 0 := by omega
  obtain ⟨f1, f2, f3, f4⟩ := inv_facts h0
  have e : sgn (decide (q.num < 0)) q.den = q⁻¹.num := by
    have := sgn_self q⁻¹.num
    rw [f1, f3] at this
    exact this
  have hr := Rat.normalize_self q⁻¹
  have hd : q⁻¹.den ≠ 0 := q⁻¹.den_nz
  rw [← hr]
  simp only [e, f2]
set_option maxRecDepth 100000 in
set_option maxHeartbeats 8000000 in
theorem refInverse_at (n d : ByteArray) (h1 : n.size ≤ maxLen) (h2 : d.size ≤ maxLen) (w : World) (ht : Tab w) : Calls Tryz.prog 104 #[.agg #[.string n, .string d]] w (AnsPost w (iN n d) (iD n d) (iF n d)) := by
  have HN : Hid (iN n d = if rF n d ≠ 0 then ⟨#[]⟩ else if (rQ n d).num = 0 then ⟨#[]⟩ else outN (rQ n d)⁻¹) := Lib.hid rfl
  have HDn : Hid (iD n d = if rF n d ≠ 0 then ⟨#[]⟩ else if (rQ n d).num = 0 then ⟨#[]⟩ else outD (rQ n d)⁻¹) := Lib.hid rfl
  have HFn : Hid (iF n d = if rF n d ≠ 0 then rF n d else if (rQ n d).num = 0 then 14 else outF (rQ n d)⁻¹) := Lib.hid rfl
  generalize iN n d = on at *
  generalize iD n d = od at *
  generalize iF n d = of at *
  go_enter Tryz.func104, Tryz.ntmps104
  go_upto_region 1 with (fail)
  refine wp_box2r fun W hsz hbW hA hC hF => ?_
  have HT := Lib.hid (ht.ext hbW)
  clear hsz ht
  have a0 : W.cell? ⟨w.heap.size, 0, none⟩ = some (.string n) := hA.2 0
  have a1 : W.cell? ⟨w.heap.size, 1, none⟩ = some (.string d) := hA.2 1
  go_wp2_with fail
  refine (refCheck_at n d h1 h2 W HT.out).mono ?_
  rintro e w1 ⟨rfl, hb1⟩
  have hA1 := hA.ext hb1
  have hC1 := hC.ext hb1
  have hF1 := hF.ext hC hb1
  have hbw1 := ext_trans hbW hb1
  have HT1 := Lib.hid (HT.out.ext hb1)
  clear hA hC hF hbW hb1 a0 a1 HT
  have a0 : w1.cell? ⟨w.heap.size, 0, none⟩ = some (.string n) := hA1.2 0
  have a1 : w1.cell? ⟨w.heap.size, 1, none⟩ = some (.string d) := hA1.2 1
  by_cases hz : rF n d = 0
  · have hne : (rF n d != 0) = false := by simp [hz]
    have hsm := small_digs9 hz
    have HO := Lib.hid (open_is n d h1 hz w1)
    have HB := Lib.hid (And.intro hC1 (And.intro hF1 hbw1))
    clear hA1 hC1 hF1 hbw1
    go_wp2_with fail
    refine HO.out.mono ?_
    rintro e w2 ⟨v1, v2, rfl, hv1, hv2, hb2⟩
    obtain ⟨p1, c1, rfl, _⟩ := hv1.open_
    obtain ⟨p2, c2, rfl, _⟩ := hv2.open_
    have hC2 := HB.out.1.ext hb2
    have hF2 := HB.out.2.1.ext HB.out.1 hb2
    have hbw2 := ext_trans HB.out.2.2 hb2
    have HT2 := Lib.hid (HT1.out.ext hb2)
    have HV := Lib.hid (And.intro hv1 hv2)
    have HB2 := Lib.hid (And.intro hC2 (And.intro hF2 hbw2))
    clear a0 a1 HO HB hv1 hv2 hb2 hC2 hF2 hbw2 HT1
    go_upto_region 5 with (fail)
    refine wp_box1 fun w3 hsz3 hb3 hX3 => ?_
    clear hsz3
    have hC3 := HB2.out.1.ext hb3
    have hF3 := HB2.out.2.1.ext HB2.out.1 hb3
    have hbw3 := ext_trans HB2.out.2.2 hb3
    have HT3 := Lib.hid (HT2.out.ext hb3)
    have HV3 := Lib.hid (And.intro (HV.out.1.ext hb3) (HV.out.2.ext hb3))
    have HB3 := Lib.hid (And.intro hC3 (And.intro hF3 hbw3))
    have x0 : w3.cell? ⟨w2.heap.size, 0, none⟩ = some (.bool (decide ((rQ n d).num < 0))) := hX3.2 0
    have x1 : w3.cell? ⟨w2.heap.size, 1, none⟩ = some (.slice p1 (digs (rQ n d).num.natAbs).length c1) := hX3.2 1
    have x2 : w3.cell? ⟨w2.heap.size, 2, none⟩ = some (.slice p2 (digs (rQ n d).den).length c2) := hX3.2 2
    have HZ : Hid (((((digs (rQ n d).num.natAbs).length : Nat) : Int) == 0) = decide ((rQ n d).num = 0)) := by
      have : ((((digs (rQ n d).num.natAbs).length : Nat) : Int) == 0) = decide ((rQ n d).num = 0) := by
        rw [Bool.eq_iff_iff, beq_iff_eq, decide_eq_true_eq]
        have h := @wlen_eq_zero (rQ n d).num.natAbs
        unfold wlen at h
        omega
      exact this
    clear HB2 HV HT2 hb3 hC3 hF3 hbw3 hX3
    by_cases h0 : (rQ n d).num = 0
    · have HN2 : Hid (on = ⟨#[]⟩) := by have := HN.out; rw [if_neg (by simpa using hz), if_pos h0] at this; exact this
      have HD2 : Hid (od = ⟨#[]⟩) := by have := HDn.out; rw [if_neg (by simpa using hz), if_pos h0] at this; exact this
      have HF2 : Hid (of = 14) := by have := HFn.out; rw [if_neg (by simpa using hz), if_pos h0] at this; exact this
      have hz0 : ((((digs (rQ n d).num.natAbs).length : Nat) : Int) == 0) = true := HZ.out.trans (decide_eq_true h0)
      clear h0 HN HDn HFn hz hsm HZ
      have HR := Lib.hid (res2s (.string ⟨#[]⟩) (.string ⟨#[]⟩) HB3.out.1 HB3.out.2.2 (by omega))
      obtain ⟨hbF, z0, z1⟩ := id HR.out
      have r0 : w3.cell? ⟨w.heap.size + 1, 0, none⟩ = some (.string ⟨#[]⟩) := HB3.out.1.2 0
      have r1 : w3.cell? ⟨w.heap.size + 1, 1, none⟩ = some (.string ⟨#[]⟩) := HB3.out.1.2 1
      have g0 := HB3.out.2.1 0
      have g1 := HB3.out.2.1 1
      clear hbF
      go_wp2
      exact bodyPost_ret (v := .tuple #[.agg #[.string ⟨#[]⟩, .string ⟨#[]⟩], .int .i64 14]) (by simp [results, Tryz.results104, go_sem, z0, z1]) rfl ⟨by rw [HN2.out, HD2.out, HF2.out], HR.out.1⟩
    · have HN2 : Hid (on = outN (rQ n d)⁻¹) := by have := HN.out; rw [if_neg (by simpa using hz), if_neg h0] at this; exact this
      have HD2 : Hid (od = outD (rQ n d)⁻¹) := by have := HDn.out; rw [if_neg (by simpa using hz), if_neg h0] at this; exact this
      have HF2 : Hid (of = outF (rQ n d)⁻¹) := by have := HFn.out; rw [if_neg (by simpa using hz), if_neg h0] at this; exact this
      have hz0 : ((((digs (rQ n d).num.natAbs).length : Nat) : Int) == 0) = false := HZ.out.trans (decide_eq_false h0)
      have hnn : (rQ n d).num.natAbs ≠ 0 := by omega
      have HS := Lib.hid (shut_at (decide ((rQ n d).num < 0)) (rQ n d).den (rQ n d).num.natAbs hnn _ _ w3 HV3.out.2 HV3.out.1 (by omega) (by omega) HT3.out)
      rw [inv_norm hnn, ← HN2.out, ← HD2.out, ← HF2.out] at HS
      clear h0 hnn HN HDn HFn hz hsm HZ HN2 HD2 HF2 HT3 HV3
      go_wp2_with fail
      refine HS.out.mono ?_
      rintro e w4 ⟨rfl, hb4⟩
      have hC4 := HB3.out.1.ext hb4
      have hF4 := HB3.out.2.1.ext HB3.out.1 hb4
      have hbw4 := ext_trans HB3.out.2.2 hb4
      clear x0 x1 x2 HS HB3 hb4
      have HR := Lib.hid (res2s (.string on) (.string od) hC4 hbw4 (by omega))
      obtain ⟨hbF, z0, z1⟩ := id HR.out
      have r0 : w4.cell? ⟨w.heap.size + 1, 0, none⟩ = some (.string ⟨#[]⟩) := hC4.2 0
      have r1 : w4.cell? ⟨w.heap.size + 1, 1, none⟩ = some (.string ⟨#[]⟩) := hC4.2 1
      have g0 := hF4 0
      have g1 := hF4 1
      clear hbF
      go_wp2
      exact bodyPost_ret (v := .tuple #[.agg #[.string on, .string od], .int .i64 of]) (by simp [results, Tryz.results104, go_sem, z0, z1]) rfl ⟨rfl, HR.out.1⟩
  · have hne : (rF n d != 0) = true := by simp [hz]
    have HN2 : Hid (on = ⟨#[]⟩) := by have := HN.out; rw [if_pos hz] at this; exact this
    have HD2 : Hid (od = ⟨#[]⟩) := by have := HDn.out; rw [if_pos hz] at this; exact this
    have HF3 : Hid (of = rF n d) := by have := HFn.out; rw [if_pos hz] at this; exact this
    clear hz HN HDn HFn
    have HR := Lib.hid (res2s (.string ⟨#[]⟩) (.string ⟨#[]⟩) hC1 hbw1 (by omega))
    obtain ⟨hbF, z0, z1⟩ := id HR.out
    have r0 : w1.cell? ⟨w.heap.size + 1, 0, none⟩ = some (.string ⟨#[]⟩) := hC1.2 0
    have r1 : w1.cell? ⟨w.heap.size + 1, 1, none⟩ = some (.string ⟨#[]⟩) := hC1.2 1
    have g0 := hF1 0
    have g1 := hF1 1
    clear hbF hA1 hC1 hF1 hbw1
    go_wp2
    exact bodyPost_ret (v := .tuple #[.agg #[.string ⟨#[]⟩, .string ⟨#[]⟩], .int .i64 (rF n d)]) (by simp [results, Tryz.results104, go_sem, z0, z1]) rfl ⟨by rw [HN2.out, HD2.out, HF3.out], HR.out.1⟩
end Nt
end Go.Proofs.YtilolnjbpokdnaaGreatDoor
namespace Go.Proofs.YtilolnjbpokdnaaGreatDoor
open Go.RowKit
namespace Nm
def ordV (n1 d1 n2 d2 : ByteArray) : Int := if bF n1 d1 n2 d2 = 0 then cmpQ (rQ n1 d1) (rQ n2 d2) else 0
def OrdPost (w : World) (n1 d1 n2 d2 : ByteArray) (e : Ending) (w' : World) : Prop := e = .returned (.tuple #[.int .i64 (ordV n1 d1 n2 d2), .int .i64 (bF n1 d1 n2 d2)]) ∧ Below w.heap.size w w'
end Nm
end Go.Proofs.YtilolnjbpokdnaaGreatDoor
