/- evidence and decides of package decide. -/
import Derived.Test.YtilolnjbpokdnaaGreatDoorBq26
import Derived.Test.YtilolnjbpokdnaaGreatDoorBq32
import Derived.Test.YtilolnjbpokdnaaGreatDoorBq19
import Derived.Test.YtilolnjbpokdnaaGreatDoorBq28
import Derived.Test.YtilolnjbpokdnaaGreatDoorBq02
namespace Go.Proofs.YtilolnjbpokdnaaGreatDoor
open Go.RowKit
namespace Nm
theorem xnat_is (z : Int) (n : Nat) (hz : z = (n : Int)) (hn : n < 18446744073709551616) (w : World) : Calls Tryz.prog 160 #[.int .u64 z] w (NPost w n) := by
  subst hz; exact xnatOf_at n hn w
/-- what bets have made of 1 -/
def evSum (d : Int) (bets up down : Nat) : Nat := (if d = 2 then 0 else capN bets up down) + (if d = 1 then 0 else capN bets down up)
def evParts (d : Int) : Nat := (if d = 2 then 0 else 1) + (if d = 1 then 0 else 1)
def evDen (d : Int) (bets up down : Nat) : Nat := (bets + 1) ^ (up + down) * (bets * evParts d)
def evQ (d : Int) (bets up down : Nat) : Rat := mkRat (evSum d bets up down : Int) (evDen d bets up down)
theorem evParts_pos (d : Int) (_h1 : 1 ≤ d) (_h3 : d ≤ 3) : 1 ≤ evParts d ∧ evParts d ≤ 2 := by unfold evParts; (repeat' split) <;> omega
theorem evDen_ne (d : Int) (bets up down : Nat) (hb : 1 ≤ bets) (h1 : 1 ≤ d) (h3 : d ≤ 3) : evDen d bets up down ≠ 0 := by
  have h := evParts_pos d h1 h3
  exact Nat.mul_ne_zero (Nat.ne_of_gt (Nat.pow_pos (by omega))) (Nat.mul_ne_zero (by omega) (by omega))
theorem evQ_norm (d : Int) (bets up down : Nat) (hb : 1 ≤ bets) (h1 : 1 ≤ d) (h3 : d ≤ 3) : ∃ h : (bets + 1) ^ (up + down) * (bets * evParts d) ≠ 0, evQ d bets up down = Rat.normalize (sgn false (evSum d bets up down)) ((bets + 1) ^ (up + down) * (bets * evParts d)) h := by
  refine ⟨evDen_ne d bets up down hb h1 h3, ?_⟩
  have h := evDen_ne d bets up down hb h1 h3
  unfold evQ mkRat
  rw [dif_neg h]; rfl
theorem ev_wlen (d : Int) (bets up down : Nat) (hb1 : 1 ≤ bets) (hb5 : bets ≤ 5) (h1 : 1 ≤ d) (h3 : d ≤ 3) (hud : up + down ≤ 60) :
    wlen ((bets + 1) ^ (up + down)) ≤ 1000000000 ∧ wlen (bets * evParts d) ≤ 1000000000 ∧ wlen (evSum d bets up down) ≤ 1000000000 ∧ wlen ((bets + 1) ^ (up + down) * (bets * evParts d)) ≤ 1000000000 := by
  have hp := evParts_pos d h1 h3
  have e1 := wlen_pow (show bets + 1 < B from by unfold B; omega) (up + down)
  have hm : bets * evParts d ≤ 5 * 2 := Nat.mul_le_mul hb5 hp.2
  have e2 := wlen_one (show bets * evParts d < B from by unfold B; omega)
  have e3 := wlen_mul ((bets + 1) ^ (up + down)) (bets * evParts d)
  have c1 := capS_wlen bets up down hb5 (by omega) (by omega) bets (Nat.le_refl _)
  have c2 := capS_wlen bets down up hb5 (by omega) (by omega) bets (Nat.le_refl _)
  have c3 := wlen_add (capN bets up down) (capN bets down up)
  have c4 : evSum d bets up down ≤ capN bets up down + capN bets down up := by unfold evSum; (repeat' split) <;> omega
  have c5 := wlen_mono c4
  unfold capN at *
  refine ⟨by omega, by omega, by omega, by omega⟩
set_option maxHeartbeats 8000000 in
theorem evidence_1 (bets up down : Nat) (hb1 : 1 ≤ bets) (hb5 : bets ≤ 5) (hud : up + down ≤ 60) (b : Bool) (a1 : Option Addr) (n1 c1 : Nat) (a2 : Option Addr) (n2 c2 : Nat) (w : World) :
    Calls Tryz.prog 152 #[.agg (betA 1 bets b a1 n1 c1 a2 n2 c2), .int .i64 (up : Int), .int .i64 (down : Int)] w (XPost w (evQ 1 bets up down)) := by
  have HX0 := Lib.hid (fun w => xnat_is 0 0 rfl (by decide) w)
  have HCP := Lib.hid (fun w => capitals_at 1 bets up down hb5 (by omega) (by omega) b a1 n1 c1 a2 n2 c2 w)
  have HCP2 := Lib.hid (fun w => capitals_at 1 bets down up hb5 (by omega) (by omega) b a1 n1 c1 a2 n2 c2 w)
  have HCW := Lib.hid (capS_wlen bets up down hb5 (by omega) (by omega) bets (Nat.le_refl _))
  have HCW2 := Lib.hid (capS_wlen bets down up hb5 (by omega) (by omega) bets (Nat.le_refl _))
  have HQ := Lib.hid (evQ_norm 1 bets up down hb1 (by decide) (by decide))
  have HEW := Lib.hid (ev_wlen 1 bets up down hb1 hb5 (by decide) (by decide) hud)
  go_enter Tryz.func152, Tryz.ntmps152
  go_upto_region 1 with (fail)
  refine wp_box2r fun W hsz hbW hA hC hF => ?_
  have hsz1 : w.heap.size + 1 ≤ W.heap.size := by omega
  clear hsz
  go_wp2_with fail
  refine (HX0.out _).mono ?_
  rintro e w1 ⟨v1, rfl, hv1, hb1'⟩
  have hA1 := hA.ext hb1'
  have hC1 := hC.ext hb1'
  have hF1 := hF.ext hC hb1'
  have hbw1 := ext_trans hbW hb1'
  clear hA hC hF hbW hb1' hsz1
  have HV1 := Lib.hid hv1
  clear hv1
  have y0 : w1.cell? ⟨w.heap.size, 0, none⟩ = some (.int .i64 1) := hA1.2 0
  have y1 : w1.cell? ⟨w.heap.size, 1, none⟩ = some (.int .i64 bets) := hA1.2 1
  have y2 : w1.cell? ⟨w.heap.size, 2, none⟩ = some (.bool b) := hA1.2 2
  have y3 : w1.cell? ⟨w.heap.size, 3, none⟩ = some (.slice a1 n1 c1) := hA1.2 3
  have y4 : w1.cell? ⟨w.heap.size, 4, none⟩ = some (.slice a2 n2 c2) := hA1.2 4
  go_wp2_with fail
  refine (HCP.out _).mono ?_
  rintro e w2 ⟨v2, rfl, hv2, hb2⟩
  have HV2 := Lib.hid hv2
  have HU2 := Lib.hid (HV1.out.ext hb2)
  have hA2 := hA1.ext hb2
  have hC2 := hC1.ext hb2
  have hF2 := hF1.ext hC1 hb2
  have hbw2 := ext_trans hbw1 hb2
  clear y0 y1 y2 y3 y4 hv2 hb2 hA1 hC1 hF1 hbw1
  go_wp2_with fail
  refine (add_at _ _ _ _ _ HU2.out HV2.out (by rw [wlen_zero]; omega) (by have := HCW.out; unfold capN; omega)).mono ?_
  rintro e w3 ⟨v3, rfl, hv3, hb3⟩
  have HV3 := Lib.hid hv3
  have hA3 := hA2.ext hb3
  have hC3 := hC2.ext hb3
  have hF3 := hF2.ext hC2 hb3
  have hbw3 := ext_trans hbw2 hb3
  clear hv3 hb3 hA2 hC2 hF2 hbw2
  have y0 : w3.cell? ⟨w.heap.size, 0, none⟩ = some (.int .i64 1) := hA3.2 0
  have y1 : w3.cell? ⟨w.heap.size, 1, none⟩ = some (.int .i64 bets) := hA3.2 1
  have y2 : w3.cell? ⟨w.heap.size, 2, none⟩ = some (.bool b) := hA3.2 2
  have y3 : w3.cell? ⟨w.heap.size, 3, none⟩ = some (.slice a1 n1 c1) := hA3.2 3
  have y4 : w3.cell? ⟨w.heap.size, 4, none⟩ = some (.slice a2 n2 c2) := hA3.2 4
  have HVS : Hid (N w3 v3 (evSum 1 bets up down)) := by
    have h := HV3.out
    rw [show (0 + capN bets up down) = evSum 1 bets up down by simp [evSum]] at h
    exact h
  obtain ⟨ps, cs, rfl, _⟩ := HVS.out.open_
  clear HV3
  have e1 : IntKind.i64.wrap ((bets : Int) + 1) = (bets : Int) + 1 := IntWalk.i64_in _ (by omega)
  have e2 : IntKind.i64.wrap ((up : Int) + (down : Int)) = (up : Int) + (down : Int) := IntWalk.i64_in _ (by omega)
  have e3 : IntKind.i64.wrap ((bets : Int) * 1) = (bets : Int) * 1 := IntWalk.i64_in _ (by omega)
  have e4 : IntKind.u64.wrap ((bets : Int) * 1) = (bets : Int) * 1 := by simp [IntKind.wrap, IntKind.signed, IntKind.bits]; omega
  have e5 : IntKind.u64.wrap (bets : Int) = (bets : Int) := by simp [IntKind.wrap, IntKind.signed, IntKind.bits]; omega
  have e6 : IntKind.i64.wrap (bets : Int) = (bets : Int) := IntWalk.i64_in _ (by omega)
  have hlow : w.heap.size + 1 ≤ w3.heap.size := Nat.le_of_lt hC3.1
  go_wp2_with fail
  clear y0 y1 y2 y3 y4
  go_region_held3 (S2R w3 (w.heap.size + 1) w.heap.size (betA 1 bets b a1 n1 c1 a2 n2 c2) w.heap.size (betA 1 bets b a1 n1 c1 a2 n2 c2)) (first | exact S2R.start hA3 hA3 | exact S2R.ext (by with_reducible assumption) (by with_reducible assumption) (by omega) hA3 hA3 | exact S2R.set (S2R.set (S2R.set (by assumption) (by simp) (by omega) (by omega)) (by simp) (by omega) (by omega)) (by simp) (by omega) (by omega) | assumption) (first | (go_at_call 177; refine (power_is _ _ (bets + 1) (up + down) (by omega) (by omega) (by omega) (by omega) _).mono ?_; rintro e x2 ⟨u2, rfl, k2, i2⟩; have hc2 := Lib.hid (ext_trans (Below.refl w3.heap.size w3).drew i2); have K2 := Lib.hid k2; clear k2) | (go_at_call 160; refine (xnat_is _ (bets * 1) (by omega) (by omega) _).mono ?_; rintro e x3 ⟨u3, rfl, k3, i3⟩; have hc3 := Lib.hid (ext_trans hc2.out i3); have K23 := Lib.hid (K2.out.ext i3); have K3 := Lib.hid k3; clear k3) | (go_at_call 122; refine (times_at _ _ _ _ _ K23.out K3.out HEW.out.1 HEW.out.2.1).mono ?_; rintro e x4 ⟨u4, rfl, k4, i4⟩; have hc4 := Lib.hid (ext_trans hc3.out i4); have K4 := Lib.hid k4; clear k4) | (go_at_call 124; refine (from_is (evQ 1 bets up down) false (evSum 1 bets up down) _ HQ.out.1 HQ.out.2 _ _ _ (HVS.out.ext hc4.out) K4.out HEW.out.2.2.1 HEW.out.2.2.2).mono ?_; rintro e x5 ⟨vq, rfl, hq, i5⟩; obtain ⟨p1, c5, p2, c6, rfl, j1, j2⟩ := hq.open_; have hc5 := Lib.hid (ext_trans hc4.out i5); have HK1 := Lib.hid j1; have HK2 := Lib.hid j2; obtain ⟨r0, r1, r2⟩ := boxX (hC3.ext hc5.out); have g0 := (hF3.ext hC3 hc5.out) 0; have g1 := (hF3.ext hC3 hc5.out) 1; have g2 := (hF3.ext hC3 hc5.out) 2; clear hq j1 j2))
  obtain ⟨k1, k2, k3, z0, z1, z2⟩ := res3 (decide ((evQ 1 bets up down).num < 0)) (hC3.ext hc5.out) HK1.out HK2.out (ext_trans hbw3 hc5.out) (Nat.le_succ _)
  have HK := Lib.hid (And.intro k1 (And.intro k2 k3))
  clear k1 k2 k3
  go_wp2
  exact bodyPost_ret (v := .agg #[.bool (decide ((evQ 1 bets up down).num < 0)), .slice p1 (digs (evQ 1 bets up down).num.natAbs).length c5, .slice p2 (digs (evQ 1 bets up down).den).length c6]) (by simp [results, Tryz.results152, go_sem, z0, z1, z2]) rfl ⟨_, rfl, ⟨_, _, rfl, HK.out.1, HK.out.2.1⟩, HK.out.2.2⟩
set_option maxHeartbeats 8000000 in
theorem evidence_2 (bets up down : Nat) (hb1 : 1 ≤ bets) (hb5 : bets ≤ 5) (hud : up + down ≤ 60) (b : Bool) (a1 : Option Addr) (n1 c1 : Nat) (a2 : Option Addr) (n2 c2 : Nat) (w : World) :
    Calls Tryz.prog 152 #[.agg (betA 2 bets b a1 n1 c1 a2 n2 c2), .int .i64 (up : Int), .int .i64 (down : Int)] w (XPost w (evQ 2 bets up down)) := by
  have HX0 := Lib.hid (fun w => xnat_is 0 0 rfl (by decide) w)
  have HCP := Lib.hid (fun w => capitals_at 2 bets up down hb5 (by omega) (by omega) b a1 n1 c1 a2 n2 c2 w)
  have HCP2 := Lib.hid (fun w => capitals_at 2 bets down up hb5 (by omega) (by omega) b a1 n1 c1 a2 n2 c2 w)
  have HCW := Lib.hid (capS_wlen bets up down hb5 (by omega) (by omega) bets (Nat.le_refl _))
  have HCW2 := Lib.hid (capS_wlen bets down up hb5 (by omega) (by omega) bets (Nat.le_refl _))
  have HQ := Lib.hid (evQ_norm 2 bets up down hb1 (by decide) (by decide))
  have HEW := Lib.hid (ev_wlen 2 bets up down hb1 hb5 (by decide) (by decide) hud)
  go_enter Tryz.func152, Tryz.ntmps152
  go_upto_region 1 with (fail)
  refine wp_box2r fun W hsz hbW hA hC hF => ?_
  have hsz1 : w.heap.size + 1 ≤ W.heap.size := by omega
  clear hsz
  go_wp2_with fail
  refine (HX0.out _).mono ?_
  rintro e w1 ⟨v1, rfl, hv1, hb1'⟩
  have hA1 := hA.ext hb1'
  have hC1 := hC.ext hb1'
  have hF1 := hF.ext hC hb1'
  have hbw1 := ext_trans hbW hb1'
  clear hA hC hF hbW hb1' hsz1
  have HV1 := Lib.hid hv1
  clear hv1
  have y0 : w1.cell? ⟨w.heap.size, 0, none⟩ = some (.int .i64 2) := hA1.2 0
  have y1 : w1.cell? ⟨w.heap.size, 1, none⟩ = some (.int .i64 bets) := hA1.2 1
  have y2 : w1.cell? ⟨w.heap.size, 2, none⟩ = some (.bool b) := hA1.2 2
  have y3 : w1.cell? ⟨w.heap.size, 3, none⟩ = some (.slice a1 n1 c1) := hA1.2 3
  have y4 : w1.cell? ⟨w.heap.size, 4, none⟩ = some (.slice a2 n2 c2) := hA1.2 4
  go_wp2_with fail
  refine (HCP2.out _).mono ?_
  rintro e w2 ⟨v2, rfl, hv2, hb2⟩
  have HV2 := Lib.hid hv2
  have HU2 := Lib.hid (HV1.out.ext hb2)
  have hA2 := hA1.ext hb2
  have hC2 := hC1.ext hb2
  have hF2 := hF1.ext hC1 hb2
  have hbw2 := ext_trans hbw1 hb2
  clear y0 y1 y2 y3 y4 hv2 hb2 hA1 hC1 hF1 hbw1
  go_wp2_with fail
  refine (add_at _ _ _ _ _ HU2.out HV2.out (by rw [wlen_zero]; omega) (by have := HCW2.out; unfold capN; omega)).mono ?_
  rintro e w3 ⟨v3, rfl, hv3, hb3⟩
  have HV3 := Lib.hid hv3
  have hA3 := hA2.ext hb3
  have hC3 := hC2.ext hb3
  have hF3 := hF2.ext hC2 hb3
  have hbw3 := ext_trans hbw2 hb3
  clear hv3 hb3 hA2 hC2 hF2 hbw2
  have y0 : w3.cell? ⟨w.heap.size, 0, none⟩ = some (.int .i64 2) := hA3.2 0
  have y1 : w3.cell? ⟨w.heap.size, 1, none⟩ = some (.int .i64 bets) := hA3.2 1
  have y2 : w3.cell? ⟨w.heap.size, 2, none⟩ = some (.bool b) := hA3.2 2
  have y3 : w3.cell? ⟨w.heap.size, 3, none⟩ = some (.slice a1 n1 c1) := hA3.2 3
  have y4 : w3.cell? ⟨w.heap.size, 4, none⟩ = some (.slice a2 n2 c2) := hA3.2 4
  have HVS : Hid (N w3 v3 (evSum 2 bets up down)) := by
    have h := HV3.out
    rw [show (0 + capN bets down up) = evSum 2 bets up down by simp [evSum]] at h
    exact h
  obtain ⟨ps, cs, rfl, _⟩ := HVS.out.open_
  clear HV3
  have e1 : IntKind.i64.wrap ((bets : Int) + 1) = (bets : Int) + 1 := IntWalk.i64_in _ (by omega)
  have e2 : IntKind.i64.wrap ((up : Int) + (down : Int)) = (up : Int) + (down : Int) := IntWalk.i64_in _ (by omega)
  have e3 : IntKind.i64.wrap ((bets : Int) * 1) = (bets : Int) * 1 := IntWalk.i64_in _ (by omega)
  have e4 : IntKind.u64.wrap ((bets : Int) * 1) = (bets : Int) * 1 := by simp [IntKind.wrap, IntKind.signed, IntKind.bits]; omega
  have e5 : IntKind.u64.wrap (bets : Int) = (bets : Int) := by simp [IntKind.wrap, IntKind.signed, IntKind.bits]; omega
  have e6 : IntKind.i64.wrap (bets : Int) = (bets : Int) := IntWalk.i64_in _ (by omega)
  have hlow : w.heap.size + 1 ≤ w3.heap.size := Nat.le_of_lt hC3.1
  go_wp2_with fail
  clear y0 y1 y2 y3 y4
  go_region_held3 (S2R w3 (w.heap.size + 1) w.heap.size (betA 2 bets b a1 n1 c1 a2 n2 c2) w.heap.size (betA 2 bets b a1 n1 c1 a2 n2 c2)) (first | exact S2R.start hA3 hA3 | exact S2R.ext (by with_reducible assumption) (by with_reducible assumption) (by omega) hA3 hA3 | exact S2R.set (S2R.set (S2R.set (by assumption) (by simp) (by omega) (by omega)) (by simp) (by omega) (by omega)) (by simp) (by omega) (by omega) | assumption) (first | (go_at_call 177; refine (power_is _ _ (bets + 1) (up + down) (by omega) (by omega) (by omega) (by omega) _).mono ?_; rintro e x2 ⟨u2, rfl, k2, i2⟩; have hc2 := Lib.hid (ext_trans (Below.refl w3.heap.size w3).drew i2); have K2 := Lib.hid k2; clear k2) | (go_at_call 160; refine (xnat_is _ (bets * 1) (by omega) (by omega) _).mono ?_; rintro e x3 ⟨u3, rfl, k3, i3⟩; have hc3 := Lib.hid (ext_trans hc2.out i3); have K23 := Lib.hid (K2.out.ext i3); have K3 := Lib.hid k3; clear k3) | (go_at_call 122; refine (times_at _ _ _ _ _ K23.out K3.out HEW.out.1 HEW.out.2.1).mono ?_; rintro e x4 ⟨u4, rfl, k4, i4⟩; have hc4 := Lib.hid (ext_trans hc3.out i4); have K4 := Lib.hid k4; clear k4) | (go_at_call 124; refine (from_is (evQ 2 bets up down) false (evSum 2 bets up down) _ HQ.out.1 HQ.out.2 _ _ _ (HVS.out.ext hc4.out) K4.out HEW.out.2.2.1 HEW.out.2.2.2).mono ?_; rintro e x5 ⟨vq, rfl, hq, i5⟩; obtain ⟨p1, c5, p2, c6, rfl, j1, j2⟩ := hq.open_; have hc5 := Lib.hid (ext_trans hc4.out i5); have HK1 := Lib.hid j1; have HK2 := Lib.hid j2; obtain ⟨r0, r1, r2⟩ := boxX (hC3.ext hc5.out); have g0 := (hF3.ext hC3 hc5.out) 0; have g1 := (hF3.ext hC3 hc5.out) 1; have g2 := (hF3.ext hC3 hc5.out) 2; clear hq j1 j2))
  obtain ⟨k1, k2, k3, z0, z1, z2⟩ := res3 (decide ((evQ 2 bets up down).num < 0)) (hC3.ext hc5.out) HK1.out HK2.out (ext_trans hbw3 hc5.out) (Nat.le_succ _)
  have HK := Lib.hid (And.intro k1 (And.intro k2 k3))
  clear k1 k2 k3
  go_wp2
  exact bodyPost_ret (v := .agg #[.bool (decide ((evQ 2 bets up down).num < 0)), .slice p1 (digs (evQ 2 bets up down).num.natAbs).length c5, .slice p2 (digs (evQ 2 bets up down).den).length c6]) (by simp [results, Tryz.results152, go_sem, z0, z1, z2]) rfl ⟨_, rfl, ⟨_, _, rfl, HK.out.1, HK.out.2.1⟩, HK.out.2.2⟩
set_option maxHeartbeats 8000000 in
theorem evidence_3 (bets up down : Nat) (hb1 : 1 ≤ bets) (hb5 : bets ≤ 5) (hud : up + down ≤ 60) (b : Bool) (a1 : Option Addr) (n1 c1 : Nat) (a2 : Option Addr) (n2 c2 : Nat) (w : World) :
    Calls Tryz.prog 152 #[.agg (betA 3 bets b a1 n1 c1 a2 n2 c2), .int .i64 (up : Int), .int .i64 (down : Int)] w (XPost w (evQ 3 bets up down)) := by
  have HX0 := Lib.hid (fun w => xnat_is 0 0 rfl (by decide) w)
  have HCP := Lib.hid (fun w => capitals_at 3 bets up down hb5 (by omega) (by omega) b a1 n1 c1 a2 n2 c2 w)
  have HCP2 := Lib.hid (fun w => capitals_at 3 bets down up hb5 (by omega) (by omega) b a1 n1 c1 a2 n2 c2 w)
  have HCW := Lib.hid (capS_wlen bets up down hb5 (by omega) (by omega) bets (Nat.le_refl _))
  have HCW2 := Lib.hid (capS_wlen bets down up hb5 (by omega) (by omega) bets (Nat.le_refl _))
  have HQ := Lib.hid (evQ_norm 3 bets up down hb1 (by decide) (by decide))
  have HEW := Lib.hid (ev_wlen 3 bets up down hb1 hb5 (by decide) (by decide) hud)
  go_enter Tryz.func152, Tryz.ntmps152
  go_upto_region 1 with (fail)
  refine wp_box2r fun W hsz hbW hA hC hF => ?_
  have hsz1 : w.heap.size + 1 ≤ W.heap.size := by omega
  clear hsz
  go_wp2_with fail
  refine (HX0.out _).mono ?_
  rintro e w1 ⟨v1, rfl, hv1, hb1'⟩
  have hA1 := hA.ext hb1'
  have hC1 := hC.ext hb1'
  have hF1 := hF.ext hC hb1'
  have hbw1 := ext_trans hbW hb1'
  clear hA hC hF hbW hb1' hsz1
  have HV1 := Lib.hid hv1
  clear hv1
  have y0 : w1.cell? ⟨w.heap.size, 0, none⟩ = some (.int .i64 3) := hA1.2 0
  have y1 : w1.cell? ⟨w.heap.size, 1, none⟩ = some (.int .i64 bets) := hA1.2 1
  have y2 : w1.cell? ⟨w.heap.size, 2, none⟩ = some (.bool b) := hA1.2 2
  have y3 : w1.cell? ⟨w.heap.size, 3, none⟩ = some (.slice a1 n1 c1) := hA1.2 3
  have y4 : w1.cell? ⟨w.heap.size, 4, none⟩ = some (.slice a2 n2 c2) := hA1.2 4
  go_wp2_with fail
  refine (HCP.out _).mono ?_
  rintro e w2 ⟨v2, rfl, hv2, hb2⟩
  have HV2 := Lib.hid hv2
  have HU2 := Lib.hid (HV1.out.ext hb2)
  have hA2 := hA1.ext hb2
  have hC2 := hC1.ext hb2
  have hF2 := hF1.ext hC1 hb2
  have hbw2 := ext_trans hbw1 hb2
  clear y0 y1 y2 y3 y4 hv2 hb2 hA1 hC1 hF1 hbw1
  go_wp2_with fail
  refine (add_at _ _ _ _ _ HU2.out HV2.out (by rw [wlen_zero]; omega) (by have := HCW.out; unfold capN; omega)).mono ?_
  rintro e w3 ⟨v3, rfl, hv3, hb3⟩
  have HV3 := Lib.hid hv3
  have hA3 := hA2.ext hb3
  have hC3 := hC2.ext hb3
  have hF3 := hF2.ext hC2 hb3
  have hbw3 := ext_trans hbw2 hb3
  clear hv3 hb3 hA2 hC2 hF2 hbw2
  have y0 : w3.cell? ⟨w.heap.size, 0, none⟩ = some (.int .i64 3) := hA3.2 0
  have y1 : w3.cell? ⟨w.heap.size, 1, none⟩ = some (.int .i64 bets) := hA3.2 1
  have y2 : w3.cell? ⟨w.heap.size, 2, none⟩ = some (.bool b) := hA3.2 2
  have y3 : w3.cell? ⟨w.heap.size, 3, none⟩ = some (.slice a1 n1 c1) := hA3.2 3
  have y4 : w3.cell? ⟨w.heap.size, 4, none⟩ = some (.slice a2 n2 c2) := hA3.2 4
  go_wp2_with fail
  refine (HCP2.out _).mono ?_
  rintro e w4 ⟨v4, rfl, hv4, hb4⟩
  have HV4 := Lib.hid hv4
  have HU4 := Lib.hid (HV3.out.ext hb4)
  have hA4 := hA3.ext hb4
  have hC4 := hC3.ext hb4
  have hF4 := hF3.ext hC3 hb4
  have hbw4 := ext_trans hbw3 hb4
  clear y0 y1 y2 y3 y4 hv4 hb4 hA3 hC3 hF3 hbw3
  go_wp2_with fail
  refine (add_at _ _ _ _ _ HU4.out HV4.out (by have := HCW.out; rw [Nat.zero_add]; unfold capN; omega) (by have := HCW2.out; unfold capN; omega)).mono ?_
  rintro e w5 ⟨v5, rfl, hv5, hb5⟩
  have HV5 := Lib.hid hv5
  have hA5 := hA4.ext hb5
  have hC5 := hC4.ext hb5
  have hF5 := hF4.ext hC4 hb5
  have hbw5 := ext_trans hbw4 hb5
  clear hv5 hb5 hA4 hC4 hF4 hbw4
  have y0 : w5.cell? ⟨w.heap.size, 0, none⟩ = some (.int .i64 3) := hA5.2 0
  have y1 : w5.cell? ⟨w.heap.size, 1, none⟩ = some (.int .i64 bets) := hA5.2 1
  have y2 : w5.cell? ⟨w.heap.size, 2, none⟩ = some (.bool b) := hA5.2 2
  have y3 : w5.cell? ⟨w.heap.size, 3, none⟩ = some (.slice a1 n1 c1) := hA5.2 3
  have y4 : w5.cell? ⟨w.heap.size, 4, none⟩ = some (.slice a2 n2 c2) := hA5.2 4
  have HVS : Hid (N w5 v5 (evSum 3 bets up down)) := by
    have h := HV5.out
    rw [show (0 + capN bets up down + capN bets down up) = evSum 3 bets up down by simp [evSum]] at h
    exact h
  obtain ⟨ps, cs, rfl, _⟩ := HVS.out.open_
  clear HV5
  have e1 : IntKind.i64.wrap ((bets : Int) + 1) = (bets : Int) + 1 := IntWalk.i64_in _ (by omega)
  have e2 : IntKind.i64.wrap ((up : Int) + (down : Int)) = (up : Int) + (down : Int) := IntWalk.i64_in _ (by omega)
  have e3 : IntKind.i64.wrap ((bets : Int) * 2) = (bets : Int) * 2 := IntWalk.i64_in _ (by omega)
  have e4 : IntKind.u64.wrap ((bets : Int) * 2) = (bets : Int) * 2 := by simp [IntKind.wrap, IntKind.signed, IntKind.bits]; omega
  have e5 : IntKind.u64.wrap (bets : Int) = (bets : Int) := by simp [IntKind.wrap, IntKind.signed, IntKind.bits]; omega
  have e6 : IntKind.i64.wrap (bets : Int) = (bets : Int) := IntWalk.i64_in _ (by omega)
  have hlow : w.heap.size + 1 ≤ w5.heap.size := Nat.le_of_lt hC5.1
  go_wp2_with fail
  clear y0 y1 y2 y3 y4
  go_region_held3 (S2R w5 (w.heap.size + 1) w.heap.size (betA 3 bets b a1 n1 c1 a2 n2 c2) w.heap.size (betA 3 bets b a1 n1 c1 a2 n2 c2)) (first | exact S2R.start hA5 hA5 | exact S2R.ext (by with_reducible assumption) (by with_reducible assumption) (by omega) hA5 hA5 | exact S2R.set (S2R.set (S2R.set (by assumption) (by simp) (by omega) (by omega)) (by simp) (by omega) (by omega)) (by simp) (by omega) (by omega) | assumption) (first | (go_at_call 177; refine (power_is _ _ (bets + 1) (up + down) (by omega) (by omega) (by omega) (by omega) _).mono ?_; rintro e x2 ⟨u2, rfl, k2, i2⟩; have hc2 := Lib.hid (ext_trans (Below.refl w5.heap.size w5).drew i2); have K2 := Lib.hid k2; clear k2) | (go_at_call 160; refine (xnat_is _ (bets * 2) (by omega) (by omega) _).mono ?_; rintro e x3 ⟨u3, rfl, k3, i3⟩; have hc3 := Lib.hid (ext_trans hc2.out i3); have K23 := Lib.hid (K2.out.ext i3); have K3 := Lib.hid k3; clear k3) | (go_at_call 122; refine (times_at _ _ _ _ _ K23.out K3.out HEW.out.1 HEW.out.2.1).mono ?_; rintro e x4 ⟨u4, rfl, k4, i4⟩; have hc4 := Lib.hid (ext_trans hc3.out i4); have K4 := Lib.hid k4; clear k4) | (go_at_call 124; refine (from_is (evQ 3 bets up down) false (evSum 3 bets up down) _ HQ.out.1 HQ.out.2 _ _ _ (HVS.out.ext hc4.out) K4.out HEW.out.2.2.1 HEW.out.2.2.2).mono ?_; rintro e x5 ⟨vq, rfl, hq, i5⟩; obtain ⟨p1, c5, p2, c6, rfl, j1, j2⟩ := hq.open_; have hc5 := Lib.hid (ext_trans hc4.out i5); have HK1 := Lib.hid j1; have HK2 := Lib.hid j2; obtain ⟨r0, r1, r2⟩ := boxX (hC5.ext hc5.out); have g0 := (hF5.ext hC5 hc5.out) 0; have g1 := (hF5.ext hC5 hc5.out) 1; have g2 := (hF5.ext hC5 hc5.out) 2; clear hq j1 j2))
  obtain ⟨k1, k2, k3, z0, z1, z2⟩ := res3 (decide ((evQ 3 bets up down).num < 0)) (hC5.ext hc5.out) HK1.out HK2.out (ext_trans hbw5 hc5.out) (Nat.le_succ _)
  have HK := Lib.hid (And.intro k1 (And.intro k2 k3))
  clear k1 k2 k3
  go_wp2
  exact bodyPost_ret (v := .agg #[.bool (decide ((evQ 3 bets up down).num < 0)), .slice p1 (digs (evQ 3 bets up down).num.natAbs).length c5, .slice p2 (digs (evQ 3 bets up down).den).length c6]) (by simp [results, Tryz.results152, go_sem, z0, z1, z2]) rfl ⟨_, rfl, ⟨_, _, rfl, HK.out.1, HK.out.2.1⟩, HK.out.2.2⟩
end Nm
end Go.Proofs.YtilolnjbpokdnaaGreatDoor
