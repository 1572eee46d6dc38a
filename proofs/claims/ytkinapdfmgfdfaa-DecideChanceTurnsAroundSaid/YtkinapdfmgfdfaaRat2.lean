/- Zero, Turned, Times of package value. -/
import Derived.Test.YtkinapdfmgfdfaaRat1
namespace Go.Proofs.Ytkinapdfmgfdfaa
open Go.RowKit
namespace Nm
theorem XR.open_ {w : World} {v : Value} {q : Rat} (h : XR w v q) : ∃ a1 c1 a2 c2, v = .agg #[.bool (decide (q.num < 0)), .slice a1 (digs q.num.natAbs).length c1, .slice a2 (digs q.den).length c2] ∧ N w (.slice a1 (digs q.num.natAbs).length c1) q.num.natAbs ∧ N w (.slice a2 (digs q.den).length c2) q.den := by
  obtain ⟨v1, v2, rfl, h1, h2⟩ := h
  obtain ⟨a1, c1, rfl, _⟩ := h1.open_
  obtain ⟨a2, c2, rfl, _⟩ := h2.open_
  exact ⟨a1, c1, a2, c2, rfl, h1, h2⟩
theorem from_is (q : Rat) (b : Bool) (n d : Nat) (hd : d ≠ 0) (hq : q = Rat.normalize (sgn b n) d hd) (v u : Value) (w : World) (hn : N w v n) (hu : N w u d) (hnl : wlen n ≤ 1000000000) (hdl : wlen d ≤ 1000000000) :
    Calls Try.prog 37 #[.bool b, v, u] w (XPost w q) := by subst hq; exact from_at b n d hd v u w hn hu hnl hdl
theorem S2R.low {w W w' : World} {B b1 : Nat} {A1 : Array Value} {b2 : Nat} {A2 : Array Value} (h : S2R W B b1 A1 b2 A2 w') (hb : Below w.heap.size w W) (hB : w.heap.size ≤ B) : Below w.heap.size w w' := hb.trans (h.1.mono hB)
set_option maxHeartbeats 2000000 in
theorem zero_at (q : Rat) (v : Value) (w : World) (hx : XR w v q) : Calls Try.prog 42 #[v] w fun e w' => e = .returned (.bool (decide (q.num = 0))) ∧ Below w.heap.size w w' := by
  obtain ⟨a1, c1, a2, c2, rfl, h1, h2⟩ := hx.open_
  have HZ : Hid (((((digs q.num.natAbs).length : Nat) : Int) == 0) = decide (q.num = 0)) := by
    have : ((((digs q.num.natAbs).length : Nat) : Int) == 0) = decide (q.num = 0) := by
      rw [Bool.eq_iff_iff, beq_iff_eq, decide_eq_true_eq]
      have h := @wlen_eq_zero q.num.natAbs
      unfold wlen at h
      omega
    exact this
  clear h1 h2 hx
  go_enter Try.func42, Try.ntmps42
  go_wp2
  go_ret
  exact ⟨congrArg (fun b => Ending.returned (.bool b)) HZ.out, by go_grown⟩
set_option maxHeartbeats 4000000 in
theorem turned_at (q : Rat) (v : Value) (w : World) (hx : XR w v q) (h0 : q.num ≠ 0) : Calls Try.prog 26 #[v] w (XPost w q⁻¹) := by
  obtain ⟨a1, c1, a2, c2, rfl, h1, h2⟩ := hx.open_
  have H1 := Lib.hid h1
  have H2 := Lib.hid h2
  have HI := Lib.hid (inv_facts h0)
  clear h1 h2 hx h0
  go_enter Try.func26, Try.ntmps26
  go_upto_region 1 with (fail)
  refine wp_box2r fun W hsz hbW hA hC hF => ?_
  obtain ⟨_, hA2⟩ := id hA
  obtain ⟨r0, r1, r2⟩ := boxX hC
  have g0 := hF 0
  have g1 := hF 1
  have g2 := hF 2
  obtain ⟨k1, k2, k3, z0, z1, z2⟩ := res3 (decide (q.num < 0)) hC (H2.out.ext hbW) (H1.out.ext hbW) hbW (by omega)
  have HK := Lib.hid (And.intro k1 (And.intro k2 k3))
  clear k1 k2 k3 hsz
  go_wp2
  refine bodyPost_ret (v := .agg #[.bool (decide (q.num < 0)), .slice a2 (digs q.den).length c2, .slice a1 (digs q.num.natAbs).length c1]) (by simp [results, Try.results26, go_sem, z0, z1, z2]) rfl ⟨_, rfl, ⟨.slice a2 (digs q.den).length c2, .slice a1 (digs q.num.natAbs).length c1, ?_, ?_, ?_⟩, HK.out.2.2⟩
  · rw [HI.out.2.2.1]
  · rw [HI.out.1]; exact HK.out.1
  · rw [HI.out.2.1]; exact HK.out.2.1
set_option maxHeartbeats 8000000 in
theorem xtimes_at (x y : Rat) (v u : Value) (w : World) (hx : XR w v x) (hy : XR w u y) (l1 : wlen x.num.natAbs ≤ 100000000) (l2 : wlen x.den ≤ 100000000) (l3 : wlen y.num.natAbs ≤ 100000000) (l4 : wlen y.den ≤ 100000000) : Calls Try.prog 31 #[v, u] w (XPost w (x * y)) := by
  obtain ⟨a1, c1, a2, c2, rfl, h1, h2⟩ := hx.open_
  obtain ⟨a3, c3, a4, c4, rfl, h3, h4⟩ := hy.open_
  have H1 := Lib.hid h1
  have H2 := Lib.hid h2
  have H3 := Lib.hid h3
  have H4 := Lib.hid h4
  have HQ : Hid (x * y = Rat.normalize (sgn (!(decide (x.num < 0) == decide (y.num < 0))) (x.num.natAbs * y.num.natAbs)) (x.den * y.den) (den_pos x y)) := by
    have : x * y = Rat.normalize (sgn (!(decide (x.num < 0) == decide (y.num < 0))) (x.num.natAbs * y.num.natAbs)) (x.den * y.den) (den_pos x y) := by rw [Rat.mul_def]; exact normalize_congr _ _ (mul_sgn x y)
    exact this
  have HW1 := Lib.hid (Nat.le_trans (wlen_mul x.num.natAbs y.num.natAbs) (by omega : _ ≤ 1000000000))
  have HW2 := Lib.hid (Nat.le_trans (wlen_mul x.den y.den) (by omega : _ ≤ 1000000000))
  clear h1 h2 hx h3 h4 hy
  generalize x * y = Z at *
  generalize decide (x.num < 0) = bx at *
  generalize decide (y.num < 0) = by' at *
  have tok1 : True := trivial
  go_enter Try.func31, Try.ntmps31
  go_upto_region 1 with (fail)
  refine wp_box3r fun W hsz hbW hA hB hC hF => ?_
  go_region_held3 (S2R W (w.heap.size + 2) w.heap.size #[Value.bool bx, Value.slice a1 (digs x.num.natAbs).length c1, Value.slice a2 (digs x.den).length c2] (w.heap.size + 1) #[Value.bool by', Value.slice a3 (digs y.num.natAbs).length c3, Value.slice a4 (digs y.den).length c4]) (first | exact S2R.start hA hB | exact S2R.ext (by with_reducible assumption) (by with_reducible assumption) (by omega) hA hB | exact S2R.set (S2R.set (S2R.set (by assumption) (by simp) (by omega) (by omega)) (by simp) (by omega) (by omega)) (by simp) (by omega) (by omega) | assumption) (first | (have _t := tok1; go_at_call 39; refine (times_at x.num.natAbs y.num.natAbs _ _ _ (H1.out.ext (S2R.low (by assumption) hbW (by omega))) (H3.out.ext (S2R.low (by assumption) hbW (by omega))) (by omega) (by omega)).mono ?_; rintro e w2 ⟨vn, rfl, hvn, hb2⟩; have hc2 := Lib.hid (ext_trans (Below.refl W.heap.size W).drew hb2); have HVN := Lib.hid hvn; clear tok1 hvn) | (go_at_call 39; refine (times_at x.den y.den _ _ _ (H2.out.ext (S2R.low (by assumption) hbW (by omega))) (H4.out.ext (S2R.low (by assumption) hbW (by omega))) (by omega) (by omega)).mono ?_; rintro e w3 ⟨vd, rfl, hvd, hb3⟩; have hc3 := Lib.hid (ext_trans hc2.out hb3); have HVN3 := Lib.hid (HVN.out.ext hb3); have HVD := Lib.hid hvd; clear hvd) | (go_at_call 37; refine (from_is Z _ _ _ (den_pos x y) HQ.out _ _ _ HVN3.out HVD.out HW1.out HW2.out).mono ?_; rintro e w4 ⟨vq, rfl, hq, hb4⟩; obtain ⟨p1, c5, p2, c6, rfl, k1, k2⟩ := hq.open_; have hc4 := Lib.hid (ext_trans hc3.out hb4); have HK1 := Lib.hid k1; have HK2 := Lib.hid k2; obtain ⟨r0, r1, r2⟩ := boxX (hC.ext hc4.out); have g0 := (hF.ext hC hc4.out) 0; have g1 := (hF.ext hC hc4.out) 1; have g2 := (hF.ext hC hc4.out) 2; clear k1 k2 hq))
  obtain ⟨k1, k2, k3, z0, z1, z2⟩ := res3 (decide (Z.num < 0)) (hC.ext hc4.out) HK1.out HK2.out (ext_trans hbW hc4.out) (by omega)
  have HK := Lib.hid (And.intro k1 (And.intro k2 k3))
  clear k1 k2 k3
  go_wp2
  exact bodyPost_ret (v := .agg #[.bool (decide (Z.num < 0)), .slice p1 (digs Z.num.natAbs).length c5, .slice p2 (digs Z.den).length c6]) (by simp [results, Try.results31, go_sem, z0, z1, z2]) rfl ⟨_, rfl, ⟨_, _, rfl, HK.out.1, HK.out.2.1⟩, HK.out.2.2⟩
end Nm
end Go.Proofs.Ytkinapdfmgfdfaa
