/- XratInt, CheckRatio, XratOf of package value. -/
import Derived.Test.YtkinapdfmgfdfaaInt
namespace Go.Proofs.Ytkinapdfmgfdfaa
open Go.RowKit
namespace Nm
theorem int_facts (n : Int) : ((n : Int) : Rat).num = n ∧ ((n : Int) : Rat).den = 1 := ⟨rfl, rfl⟩
set_option maxHeartbeats 4000000 in
theorem xratInt_at (n : Int) (h1 : -9223372036854775808 ≤ n) (h2 : n ≤ 9223372036854775807) (w : World) : Calls Try.prog 45 #[.int .i64 n] w (XPost w (n : Rat)) := by
  have hx1 := fun w => xnatOf_at 1 (by decide) w
  rw [show ((1 : Nat) : Int) = 1 from rfl] at hx1
  have HX1 := Lib.hid hx1
  clear hx1
  go_enter Try.func45, Try.ntmps45
  go_upto_region 1 with (fail)
  refine wp_box1r fun W hsz hbW hC hF => ?_
  have hle : w.heap.size ≤ w.heap.size := Nat.le_refl _
  clear hsz
  go_wp2_with fail
  refine (size_at n h1 h2 _).mono ?_
  rintro e w' ⟨rfl, rfl⟩
  go_wp2_with fail
  refine (xnatOf_at n.natAbs (by omega) _).mono ?_
  rintro e w1 ⟨v1, rfl, hv1, hb1⟩
  go_wp2_with fail
  refine (HX1.out _).mono ?_
  rintro e w2 ⟨v2, rfl, hv2, hb2⟩
  have hb3 := ext_trans hb1 hb2
  have hC3 := hC.ext hb3
  have hF3 := hF.ext hC hb3
  have hbw := ext_trans hbW hb3
  have hv3 := hv1.ext hb2
  obtain ⟨p1, c5, rfl, _⟩ := hv3.open_
  obtain ⟨p2, c6, rfl, _⟩ := hv2.open_
  clear hb1 hb2 hb3 hC hF hbW hv1
  have g0 := hF3 0
  have g1 := hF3 1
  have g2 := hF3 2
  obtain ⟨r0, r1, r2⟩ := boxX hC3
  obtain ⟨k1, k2, k3, z0, z1, z2⟩ := res3 (decide (n < 0)) hC3 hv3 hv2 hbw hle
  have HK := Lib.hid (And.intro k1 (And.intro k2 k3))
  clear k1 k2 k3
  go_wp2
  exact bodyPost_ret (v := .agg #[.bool (decide (n < 0)), .slice p1 (digs n.natAbs).length c5, .slice p2 (digs 1).length c6]) (by simp [results, Try.results45, go_sem, z0, z1, z2]) rfl ⟨_, rfl, ⟨_, _, rfl, HK.out.1, HK.out.2.1⟩, HK.out.2.2⟩
def FPost (w : World) (z : Int) (e : Ending) (w' : World) : Prop := e = .returned (.int .i64 z) ∧ Below w.heap.size w w'
theorem xr_shape {w : World} {v : Value} {q : Rat} (h : XR w v q) : ∃ b a1 n1 c1 a2 n2 c2, v = .agg #[.bool b, .slice a1 n1 c1, .slice a2 n2 c2] := by
  obtain ⟨a1, c1, a2, c2, rfl, _⟩ := h.open_; exact ⟨_, _, _, _, _, _, _, rfl⟩
/-- the reading of a ratio, with the shape of what comes back -/
def OfS (w : World) (n d : ByteArray) (e : Ending) (w' : World) : Prop := ∃ b a1 n1 c1 a2 n2 c2, e = .returned (.tuple #[.agg #[.bool b, .slice a1 n1 c1, .slice a2 n2 c2], .int .i64 (rF n d)]) ∧ (rF n d = 0 → XR w' (.agg #[.bool b, .slice a1 n1 c1, .slice a2 n2 c2]) (rQ n d)) ∧ Below w.heap.size w w'
theorem xratOf_s (n d : ByteArray) (hn : n.size ≤ maxLen) (hd : d.size ≤ maxLen) (w : World) : Calls Try.prog 53 #[.agg #[.string n, .string d]] w (OfS w n d) := by
  refine (xratOf_at n d hn hd w).mono ?_
  rintro e w' ⟨v, rfl, h1, h2, hb⟩
  by_cases h : rF n d = 0
  · obtain ⟨b, a1, n1, c1, a2, n2, c2, rfl⟩ := xr_shape (h1 h)
    exact ⟨b, a1, n1, c1, a2, n2, c2, rfl, h1, hb⟩
  · obtain rfl := h2 h
    exact ⟨false, none, 0, 0, none, 0, 0, rfl, fun h' => absurd h' h, hb⟩
set_option maxHeartbeats 4000000 in
theorem checkRatio_at (n d : ByteArray) (hn : n.size ≤ maxLen) (hd : d.size ≤ maxLen) (w : World) : Calls Try.prog 40 #[.agg #[.string n, .string d]] w (FPost w (rF n d)) := by
  go_enter Try.func40, Try.ntmps40
  go_upto_region 1 with (fail)
  refine wp_box1 fun W hsz hbW hC => ?_
  obtain ⟨_, hC2⟩ := id hC
  clear hsz
  go_wp2_with fail
  refine (xratOf_s n d hn hd _).mono ?_
  rintro e w1 ⟨b, a1, n1, c1, a2, n2, c2, rfl, _, hb1⟩
  have hbw := ext_trans hbW hb1
  clear hC hC2 hbW hb1
  go_wp2
  go_ret
  exact ⟨rfl, ext_trans hbw (ext_alloc _ _)⟩
set_option maxHeartbeats 4000000 in
theorem xratOfP_at (n d : ByteArray) (hn : n.size ≤ maxLen) (hd : d.size ≤ maxLen) (h0 : rF n d = 0) (w : World) : Calls Try.prog 41 #[.agg #[.string n, .string d]] w (XPost w (rQ n d)) := by
  have H0 := Lib.hid h0
  clear h0
  go_enter Try.func41, Try.ntmps41
  go_upto_region 1 with (fail)
  refine wp_box2r fun W hsz hbW hA hC hF => ?_
  obtain ⟨_, hA2⟩ := id hA
  have hszw : w.heap.size + 1 ≤ W.heap.size := by omega
  clear hsz
  go_wp2_with fail
  refine (xratOf_s n d hn hd _).mono ?_
  rintro e w1 ⟨b, a1, n1, c1, a2, n2, c2, rfl, hx, hb1⟩
  have HX := Lib.hid (hx H0.out)
  have hbw := ext_trans hbW hb1
  have hC1 := hC.ext hb1
  have hF1 := hF.ext hC hb1
  have hlt := hC1.1
  clear hC hF hA hA2 hx hbW hb1 hszw
  go_upto_region 2 with (fail)
  refine wp_box1 fun X hsz2 hbX hB => ?_
  have b0 : X.cell? ⟨w1.heap.size, 0, none⟩ = some (.bool b) := hB.2 0
  have b1 : X.cell? ⟨w1.heap.size, 1, none⟩ = some (.slice a1 n1 c1) := hB.2 1
  have b2 : X.cell? ⟨w1.heap.size, 2, none⟩ = some (.slice a2 n2 c2) := hB.2 2
  have hC2 := hC1.ext hbX
  have hF2 := hF1.ext hC1 hbX
  have HX2 := Lib.hid (HX.out.ext hbX)
  have hbw2 := ext_trans hbw hbX
  obtain ⟨v1, v2, hv, hn1, hn2⟩ := id HX2.out
  have HV := Lib.hid hv
  simp only [Value.agg.injEq] at hv
  have g0 := hF2 0
  have g1 := hF2 1
  have g2 := hF2 2
  obtain ⟨r0, r1, r2⟩ := boxX hC2
  have HR := Lib.hid (res3 b hC2 hn1 hn2 hbw2 (Nat.le_succ _))
  have e1 : Value.slice a1 n1 c1 = v1 := by have := HV.out; simp at this; exact this.2.1
  have e2 : Value.slice a2 n2 c2 = v2 := by have := HV.out; simp at this; exact this.2.2
  have e3 : b = decide ((rQ n d).num < 0) := by have := HV.out; simp at this; exact this.1
  have HE := Lib.hid e3
  subst e1 e2
  obtain ⟨k1, k2, k3, z0, z1, z2⟩ := id HR.out
  have HK := Lib.hid (And.intro k1 (And.intro k2 k3))
  clear k1 k2 k3 hv hsz2 hC1 hF1 hbw hbX hn1 hn2 e3 hB hC2 hF2 hlt hbw2
  go_wp2
  exact bodyPost_ret (v := .agg #[.bool b, .slice a1 n1 c1, .slice a2 n2 c2]) (by simp [results, Try.results41, go_sem, z0, z1, z2]) rfl ⟨_, rfl, ⟨_, _, by rw [HE.out], HK.out.1, HK.out.2.1⟩, HK.out.2.2⟩
end Nm
end Go.Proofs.Ytkinapdfmgfdfaa
