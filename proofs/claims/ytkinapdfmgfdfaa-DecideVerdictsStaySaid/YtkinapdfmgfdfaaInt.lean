/- size, XratInt, CheckRatio, XratOf, Cmp of package value. -/
import Derived.Test.YtkinapdfmgfdfaaRat6
namespace Go.Proofs.Ytkinapdfmgfdfaa
open Go.RowKit
namespace Nm
theorem size_at (n : Int) (h1 : -9223372036854775808 ≤ n) (h2 : n ≤ 9223372036854775807) (w : World) : Calls Try.prog 55 #[.int .i64 n] w fun e w' => e = .returned (.int .u64 (n.natAbs : Int)) ∧ w = w' := by
  by_cases h : n < 0
  · go_enter Try.func55, Try.ntmps55
    go_wp2
    go_ret
    exact ⟨ret_int (by simp [IntKind.wrap, IntKind.signed, IntKind.bits]; omega), rfl⟩
  · go_enter Try.func55, Try.ntmps55
    go_wp2
    go_ret
    exact ⟨ret_int (by omega), rfl⟩
/-- the order of exact numbers -/
def cmpZ (a b : Int) : Int := if a < b then -1 else if b < a then 1 else 0
def cmpQ (x y : Rat) : Int := cmpZ (x.num * y.den) (y.num * x.den)
theorem cmpQ_range (x y : Rat) : cmpQ x y = -1 ∨ cmpQ x y = 0 ∨ cmpQ x y = 1 := by unfold cmpQ cmpZ; split <;> (try split) <;> simp
theorem cmpN_cmpZ (a b : Nat) : cmpN a b = cmpZ a b := by unfold cmpN cmpZ; (repeat' split) <;> omega
theorem cmpZ_neg (a b : Int) : cmpZ (-a) (-b) = - cmpZ a b := by unfold cmpZ; (repeat' split) <;> omega
theorem cmpQ_same {x y : Rat} (h : decide (x.num < 0) = decide (y.num < 0)) : cmpQ x y = if x.num < 0 then - cmpN (x.num.natAbs * y.den) (y.num.natAbs * x.den) else cmpN (x.num.natAbs * y.den) (y.num.natAbs * x.den) := by
  unfold cmpQ
  have hx := sgn_self x.num
  have hy := sgn_self y.num
  rw [← h] at hy
  by_cases hn : x.num < 0
  · rw [if_pos hn]
    simp only [hn, decide_true, sgn, if_true] at hx hy
    conv => lhs; rw [← hx, ← hy]
    rw [cmpN_cmpZ, ← cmpZ_neg]
    simp [Int.neg_mul]
  · rw [if_neg hn]
    simp only [hn, decide_false, sgn] at hx hy
    simp only [Bool.false_eq_true, if_false] at hx hy
    conv => lhs; rw [← hx, ← hy]
    rw [cmpN_cmpZ]
    simp
theorem cmpQ_below {x y : Rat} (hx : x.num < 0) (hy : ¬ y.num < 0) : cmpQ x y = -1 := by
  unfold cmpQ cmpZ
  have h1 : x.num * (y.den : Int) < 0 := Int.mul_neg_of_neg_of_pos hx (by have := y.den_pos; omega)
  have h2 : 0 ≤ y.num * (x.den : Int) := Int.mul_nonneg (by omega) (by omega)
  rw [if_pos (by omega)]
theorem cmpQ_above {x y : Rat} (hx : ¬ x.num < 0) (hy : y.num < 0) : cmpQ x y = 1 := by
  unfold cmpQ cmpZ
  have h1 : y.num * (x.den : Int) < 0 := Int.mul_neg_of_neg_of_pos hy (by have := x.den_pos; omega)
  have h2 : 0 ≤ x.num * (y.den : Int) := Int.mul_nonneg (by omega) (by omega)
  rw [if_neg (by omega), if_pos (by omega)]
def CmpPost (w : World) (z : Int) (e : Ending) (w' : World) : Prop := e = .returned (.int .i64 z) ∧ Below w.heap.size w w'
theorem ncmp_at (x y : Nat) (v u : Value) (w : World) (hx : N w v x) (hy : N w u y) : Calls Try.prog 46 #[v, u] w (CmpPost w (cmpN x y)) := by
  refine (cmp_at x y v u w hx hy).mono ?_
  rintro e w' ⟨rfl, k, rfl⟩
  exact ⟨rfl, below_drewN (Below.refl _ _) k⟩
theorem cmpN_range (x y : Nat) : -1 ≤ cmpN x y ∧ cmpN x y ≤ 1 := by unfold cmpN; (repeat' split) <;> omega
set_option maxHeartbeats 4000000 in
theorem xcmp_at (x y : Rat) (v u : Value) (w : World) (hx : XR w v x) (hy : XR w u y) (l1 : wlen x.num.natAbs ≤ 100000000) (l2 : wlen x.den ≤ 100000000) (l3 : wlen y.num.natAbs ≤ 100000000) (l4 : wlen y.den ≤ 100000000) : Calls Try.prog 43 #[v, u] w (CmpPost w (cmpQ x y)) := by
  obtain ⟨a1, c1, a2, c2, rfl, h1, h2⟩ := hx.open_
  obtain ⟨a3, c3, a4, c4, rfl, h3, h4⟩ := hy.open_
  have H1 := Lib.hid h1
  have H2 := Lib.hid h2
  have H3 := Lib.hid h3
  have H4 := Lib.hid h4
  have hcr := cmpN_range (x.num.natAbs * y.den) (y.num.natAbs * x.den)
  clear h1 h2 hx h3 h4 hy
  by_cases hbx : x.num < 0
  · by_cases hby : y.num < 0
    · have HC := Lib.hid (cmpQ_same (x := x) (y := y) (by simp [hbx, hby]))
      have HC2 : Hid (cmpQ x y = - cmpN (x.num.natAbs * y.den) (y.num.natAbs * x.den)) := by have := HC.out; rw [if_pos hbx] at this; exact this
      have d1 : decide (x.num < 0) = true := by simp [hbx]
      have d2 : decide (y.num < 0) = true := by simp [hby]
      rw [d1, d2]
      clear HC d1 d2 hbx hby
      have HW1 := Lib.hid (Nat.le_trans (wlen_mul x.num.natAbs y.den) (by omega : _ ≤ 1000000000))
      have HW2 := Lib.hid (Nat.le_trans (wlen_mul y.num.natAbs x.den) (by omega : _ ≤ 1000000000))
      have hbb : (true != true) = false := rfl
      have hbc : (false != false) = false := rfl
      have tok1 : True := trivial
      go_enter Try.func43, Try.ntmps43
      go_upto_region 1 with (fail)
      refine wp_box2 fun W hsz hbW hA hB => ?_
      have x0 : W.cell? ⟨w.heap.size, 0, none⟩ = some (.bool true) := hA.2 0
      have y0 : W.cell? ⟨w.heap.size + 1, 0, none⟩ = some (.bool true) := hB.2 0
      go_wp2_with fail
      go_region_held3 (S2R W W.heap.size w.heap.size #[Value.bool true, Value.slice a1 (digs x.num.natAbs).length c1, Value.slice a2 (digs x.den).length c2] (w.heap.size + 1) #[Value.bool true, Value.slice a3 (digs y.num.natAbs).length c3, Value.slice a4 (digs y.den).length c4]) (first | exact S2R.start hA hB | exact S2R.ext (by with_reducible assumption) (by with_reducible assumption) (Nat.le_refl _) hA hB | assumption) (first | (have _t := tok1; go_at_call 39; refine (times_at x.num.natAbs y.den _ _ _ (H1.out.ext (ext_trans hbW (Below.refl W.heap.size W).drew)) (H4.out.ext (ext_trans hbW (Below.refl W.heap.size W).drew)) (by omega) (by omega)).mono ?_; rintro e w2 ⟨vn, rfl, hvn, hb2⟩; have hc2 := Lib.hid (ext_trans (Below.refl W.heap.size W).drew hb2); have HVN := Lib.hid hvn; clear tok1 hvn) | (go_at_call 39; refine (times_at y.num.natAbs x.den _ _ _ (H3.out.ext (ext_trans hbW hc2.out)) (H2.out.ext (ext_trans hbW hc2.out)) (by omega) (by omega)).mono ?_; rintro e w3 ⟨vd, rfl, hvd, hb3⟩; have hc3 := Lib.hid (ext_trans hc2.out hb3); have HVN3 := Lib.hid (HVN.out.ext hb3); have HVD := Lib.hid hvd; clear hvd) | (go_at_call 46; refine (ncmp_at _ _ _ _ _ HVN3.out HVD.out).mono ?_; rintro e w4 ⟨rfl, hb4⟩; have hc4 := Lib.hid (ext_trans hc3.out hb4)))
      generalize cmpN (x.num.natAbs * y.den) (y.num.natAbs * x.den) = z at *
      have hA5 := hA.ext hc4.out
      have x5 : w4.cell? ⟨w.heap.size, 0, none⟩ = some (.bool true) := hA5.2 0
      go_wp2
      go_ret
      exact ⟨ret_int HC2.out.symm, ext_trans hbW hc4.out⟩
    · have HC := Lib.hid (cmpQ_below hbx hby)
      have d1 : decide (x.num < 0) = true := by simp [hbx]
      have d2 : decide (y.num < 0) = false := by simp [hby]
      rw [d1, d2]
      clear d1 d2 hbx hby
      go_enter Try.func43, Try.ntmps43
      go_wp2
      go_ret
      exact ⟨ret_int HC.out.symm, by go_grown⟩
  · by_cases hby : y.num < 0
    · have HC := Lib.hid (cmpQ_above hbx hby)
      have d1 : decide (x.num < 0) = false := by simp [hbx]
      have d2 : decide (y.num < 0) = true := by simp [hby]
      rw [d1, d2]
      clear d1 d2 hbx hby
      go_enter Try.func43, Try.ntmps43
      go_wp2
      go_ret
      exact ⟨ret_int HC.out.symm, by go_grown⟩
    · have HC := Lib.hid (cmpQ_same (x := x) (y := y) (by simp [hbx, hby]))
      have HC2 : Hid (cmpQ x y = cmpN (x.num.natAbs * y.den) (y.num.natAbs * x.den)) := by have := HC.out; rw [if_neg hbx] at this; exact this
      have d1 : decide (x.num < 0) = false := by simp [hbx]
      have d2 : decide (y.num < 0) = false := by simp [hby]
      rw [d1, d2]
      clear HC d1 d2 hbx hby
      have HW1 := Lib.hid (Nat.le_trans (wlen_mul x.num.natAbs y.den) (by omega : _ ≤ 1000000000))
      have HW2 := Lib.hid (Nat.le_trans (wlen_mul y.num.natAbs x.den) (by omega : _ ≤ 1000000000))
      have hbb : (true != true) = false := rfl
      have hbc : (false != false) = false := rfl
      have tok1 : True := trivial
      go_enter Try.func43, Try.ntmps43
      go_upto_region 1 with (fail)
      refine wp_box2 fun W hsz hbW hA hB => ?_
      have x0 : W.cell? ⟨w.heap.size, 0, none⟩ = some (.bool false) := hA.2 0
      have y0 : W.cell? ⟨w.heap.size + 1, 0, none⟩ = some (.bool false) := hB.2 0
      go_wp2_with fail
      go_region_held3 (S2R W W.heap.size w.heap.size #[Value.bool false, Value.slice a1 (digs x.num.natAbs).length c1, Value.slice a2 (digs x.den).length c2] (w.heap.size + 1) #[Value.bool false, Value.slice a3 (digs y.num.natAbs).length c3, Value.slice a4 (digs y.den).length c4]) (first | exact S2R.start hA hB | exact S2R.ext (by with_reducible assumption) (by with_reducible assumption) (Nat.le_refl _) hA hB | assumption) (first | (have _t := tok1; go_at_call 39; refine (times_at x.num.natAbs y.den _ _ _ (H1.out.ext (ext_trans hbW (Below.refl W.heap.size W).drew)) (H4.out.ext (ext_trans hbW (Below.refl W.heap.size W).drew)) (by omega) (by omega)).mono ?_; rintro e w2 ⟨vn, rfl, hvn, hb2⟩; have hc2 := Lib.hid (ext_trans (Below.refl W.heap.size W).drew hb2); have HVN := Lib.hid hvn; clear tok1 hvn) | (go_at_call 39; refine (times_at y.num.natAbs x.den _ _ _ (H3.out.ext (ext_trans hbW hc2.out)) (H2.out.ext (ext_trans hbW hc2.out)) (by omega) (by omega)).mono ?_; rintro e w3 ⟨vd, rfl, hvd, hb3⟩; have hc3 := Lib.hid (ext_trans hc2.out hb3); have HVN3 := Lib.hid (HVN.out.ext hb3); have HVD := Lib.hid hvd; clear hvd) | (go_at_call 46; refine (ncmp_at _ _ _ _ _ HVN3.out HVD.out).mono ?_; rintro e w4 ⟨rfl, hb4⟩; have hc4 := Lib.hid (ext_trans hc3.out hb4)))
      generalize cmpN (x.num.natAbs * y.den) (y.num.natAbs * x.den) = z at *
      have hA5 := hA.ext hc4.out
      have x5 : w4.cell? ⟨w.heap.size, 0, none⟩ = some (.bool false) := hA5.2 0
      go_wp2
      go_ret
      exact ⟨ret_int HC2.out.symm, ext_trans hbW hc4.out⟩
end Nm
end Go.Proofs.Ytkinapdfmgfdfaa
