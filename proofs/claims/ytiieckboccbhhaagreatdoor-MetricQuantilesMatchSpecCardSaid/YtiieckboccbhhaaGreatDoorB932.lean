/- checkMiss of package metric. Printed by gen_tailc.py. A quotient of two ints: plain. both, amountOf, RatioOf of the reference. Inverse of the reference. -/
import Derived.Test.YtiieckboccbhhaaGreatDoorB925
import Derived.Test.YtiieckboccbhhaaGreatDoorB909
import Derived.Test.YtiieckboccbhhaaGreatDoorB924
namespace Go.Proofs.YtiieckboccbhhaaGreatDoor
open Go.RowKit
namespace Nm
theorem twhole_at (n : Int) (h1 : -9223372036854775808 ≤ n) (h2 : n ≤ 9223372036854775807) (w : World) : Calls Tryz.prog 24 #[.int .i64 n] w (XPost w (n : Rat)) := by
 go_enter Tryz.func24, Tryz.ntmps24
 go_upto_region 1 with (fail)
 refine wp_box1r fun W hsz hbW hC hF => ?_
 clear hsz
 go_wp2_with fail
 refine (xratInt_at n h1 h2 _).mono ?_
 rintro e w2 ⟨v, rfl, hx, hb⟩
 obtain ⟨v1, v2, rfl, hn1', hn2'⟩ := hx
 have hn1 : N w2 v1 n.natAbs := hn1'
 have hn2 : N w2 v2 1 := hn2'
 obtain ⟨p1, c5, rfl, _⟩ := hn1.open_
 obtain ⟨p2, c6, rfl, _⟩ := hn2.open_
 clear hn1' hn2'
 rw [show decide ((n : Rat).num < 0) = decide (n < 0) from rfl]
 have hC3 := hC.ext hb
 have hF3 := hF.ext hC hb
 have hbw := ext_trans hbW hb
 have hle : w.heap.size ≤ w.heap.size := Nat.le_refl _
 have g0 := hF3 0
 have g1 := hF3 1
 have g2 := hF3 2
 obtain ⟨r0, r1, r2⟩ := boxX hC3
 obtain ⟨k1, k2, k3, z0, z1, z2⟩ := res3 (decide (n < 0)) hC3 hn1 hn2 hbw hle
 have HK := Lib.hid (And.intro k1 (And.intro k2 k3))
 clear k1 k2 k3
 go_wp2
 exact bodyPost_ret (v := .agg #[.bool (decide (n < 0)), .slice p1 (digs n.natAbs).length c5, .slice p2 (digs 1).length c6]) (by simp [results, Tryz.results24, go_sem, z0, z1, z2]) rfl ⟨_, rfl, ⟨_, _, rfl, HK.out.1, HK.out.2.1⟩, HK.out.2.2⟩
set_option maxHeartbeats 8000000 in
theorem checkMiss_at (n d : ByteArray) (hn : n.size ≤ maxLen) (hd : d.size ≤ maxLen) (w : World) : Calls Tryz.prog 22 #[.agg #[.string n, .string d]] w (MissPost w n d) := by
 have HW1 := Lib.hid (fun w => twhole_at 1 (by decide) (by decide) w)
 go_enter Tryz.func22, Tryz.ntmps22
 go_upto_region 1 with (fail)
 refine wp_box2r fun W hsz hbW hA hC hF => ?_
 have a0 : W.cell? ⟨w.heap.size, 0, none⟩ = some (.string n) := hA.2 0
 have a1 : W.cell? ⟨w.heap.size, 1, none⟩ = some (.string d) := hA.2 1
 clear hsz
 go_wp2_with fail
 refine (checkRatio_at n d hn hd _).mono ?_
 rintro e w1 ⟨rfl, hb1⟩
 have hA1 := hA.ext hb1
 have hC1 := hC.ext hb1
 have hF1 := hF.ext hC hb1
 have hbw1 := ext_trans hbW hb1
 clear hA hC hF hb1 hbW a0 a1
 by_cases hr : rF n d = 0
 ·have HR := Lib.hid hr
  have hne : (rF n d != 0) = false := by simp [hr]
  have HMF : Hid (missF n d = if okM (rQ n d) = false then 1 else if longB n d = true then 2 else 0) := by
   have : missF n d = if okM (rQ n d) = false then 1 else if longB n d = true then 2 else 0 := by unfold missF; rw [if_neg (by simp [hr])]
   exact this
  have HS := Lib.hid (miss_small hr)
  have HS1 : Hid (wlen ((1 : Int) : Rat).num.natAbs ≤ 100000000 ∧ wlen ((1 : Int) : Rat).den ≤ 100000000) := ⟨Nat.le_trans (wlen_one (show 1 < B by decide)) (by decide), Nat.le_trans (wlen_one (show 1 < B by decide)) (by decide)⟩
  have a0 : w1.cell? ⟨w.heap.size, 0, none⟩ = some (.string n) := hA1.2 0
  have a1 : w1.cell? ⟨w.heap.size, 1, none⟩ = some (.string d) := hA1.2 1
  clear hr
  go_wp2_with fail
  refine (xratOfP_at n d hn hd HR.out _).mono ?_
  rintro e w2 ⟨v, rfl, hx, hb2⟩
  obtain ⟨q1, k1, q2, k2, rfl, _, _⟩ := hx.open_
  have HB : Hid (XR w2 (.agg #[.bool (decide ((rQ n d).num < 0)), .slice q1 (digs (rQ n d).num.natAbs).length k1, .slice q2 (digs (rQ n d).den).length k2]) (rQ n d)) := hx
  clear hx
  generalize hbv : decide ((rQ n d).num < 0) = b at HB ⊢
  generalize (digs (rQ n d).num.natAbs).length = n1 at HB ⊢
  generalize (digs (rQ n d).den).length = n2 at HB ⊢
  have HBV := Lib.hid hbv
  have hA2 := hA1.ext hb2
  have hC2 := hC1.ext hb2
  have hF2 := hF1.ext hC1 hb2
  have hbw2 := ext_trans hbw1 hb2
  clear hA1 hC1 hF1 hb2 hbw1 a0 hbv
  go_upto_region 5 with (fail)
  refine wp_box1 fun X hszX hbX hX => ?_
  have x0 : X.cell? ⟨w2.heap.size, 0, none⟩ = some (.bool b) := hX.2 0
  have HX := Lib.hid (HB.out.ext hbX)
  have hAX := hA2.ext hbX
  have hCX := hC2.ext hbX
  have hFX := hF2.ext hC2 hbX
  have hbwX := ext_trans hbw2 hbX
  clear hszX hA2 hC2 hF2 hbw2 hbX HB
  by_cases h1 : (rQ n d).num < 0
  ·have HM1 : Hid (missF n d = 1) := by
    have h2 := HMF.out
    have h3 : okM (rQ n d) = false := by unfold okM; rw [Bool.and_eq_false_iff]; left; exact decide_eq_false (by omega)
    rw [if_pos h3] at h2; exact h2
   obtain rfl : b = true := by have := HBV.out; rw [← this]; exact decide_eq_true h1
   clear h1 HBV HMF
   go_quiet (fail)
   have hb3 := Lib.hid (below_drewN (Below.refl X.heap.size X) nq)
   have hC3 := hCX.ext hb3.out
   have hF3 := hFX.ext hCX hb3.out
   have hbw3 := ext_trans hbwX hb3.out
   obtain ⟨r0, r1, r2⟩ := boxX hC3
   have hq := three_set (.bool false) (.slice none 0 0) (.slice none 0 0) (hC3.2 0) (hC3.2 1) (hC3.2 2)
   have g0 := hF3 0
   have g1 := hF3 1
   have g2 := hF3 2
   have hbF := Lib.hid (((hbw3.setCell (p := ⟨w.heap.size + 1, 0, none⟩) (Nat.le_succ _) (.bool false)).setCell (p := ⟨w.heap.size + 1, 1, none⟩) (Nat.le_succ _) (.slice none 0 0)).setCell (p := ⟨w.heap.size + 1, 2, none⟩) (Nat.le_succ _) (.slice none 0 0))
   go_wp2
   exact bodyPost_ret (v := .tuple #[.agg #[.bool false, .slice none 0 0, .slice none 0 0], .int .i64 1]) (by simp [results, Tryz.results22, go_sem, hq.1, hq.2.1, hq.2.2]) rfl ⟨_, _, _, _, _, _, _, by rw [HM1.out], (fun h => by rw [HM1.out] at h; first | exact absurd h HNE.out | cases h), hbF.out⟩
  obtain rfl : b = false := by have := HBV.out; rw [← this]; exact decide_eq_false h1
  by_cases h0 : (rQ n d).num = 0
  ·have HM1 : Hid (missF n d = 1) := by
    have h2 := HMF.out
    have h3 : okM (rQ n d) = false := by unfold okM; rw [Bool.and_eq_false_iff]; left; exact decide_eq_false (by omega)
    rw [if_pos h3] at h2; exact h2
   have HZ := Lib.hid (show decide ((rQ n d).num = 0) = true from decide_eq_true h0)
   clear h1 h0 HBV HMF
   have x1 : X.cell? ⟨w2.heap.size, 1, none⟩ = some (.slice q1 n1 k1) := hX.2 1
   have x2 : X.cell? ⟨w2.heap.size, 2, none⟩ = some (.slice q2 n2 k2) := hX.2 2
   go_region_with (first | (go_at_call 54; refine (zero_is (rQ n d) true HZ.out _ _ (HX.out.ext (Below.refl X.heap.size X).drew)).mono ?_; rintro e w4 ⟨rfl, hb4⟩; have hc4 := Lib.hid (ext_trans (Below.refl X.heap.size X).drew hb4)))
   all_goals
    have hC4 := hCX.ext hc4.out
    have hF4 := hFX.ext hCX hc4.out
    have hbw4 := ext_trans hbwX hc4.out
    obtain ⟨r0, r1, r2⟩ := boxX hC4
    have hq := three_set (.bool false) (.slice none 0 0) (.slice none 0 0) (hC4.2 0) (hC4.2 1) (hC4.2 2)
    have g0 := hF4 0
    have g1 := hF4 1
    have g2 := hF4 2
    have hbF := Lib.hid (((hbw4.setCell (p := ⟨w.heap.size + 1, 0, none⟩) (Nat.le_succ _) (.bool false)).setCell (p := ⟨w.heap.size + 1, 1, none⟩) (Nat.le_succ _) (.slice none 0 0)).setCell (p := ⟨w.heap.size + 1, 2, none⟩) (Nat.le_succ _) (.slice none 0 0))
    go_wp2
    exact bodyPost_ret (v := .tuple #[.agg #[.bool false, .slice none 0 0, .slice none 0 0], .int .i64 1]) (by simp [results, Tryz.results22, go_sem, hq.1, hq.2.1, hq.2.2]) rfl ⟨_, _, _, _, _, _, _, by rw [HM1.out], (fun h => by rw [HM1.out] at h; first | exact absurd h HNE.out | cases h), hbF.out⟩
  have HZ := Lib.hid (show decide ((rQ n d).num = 0) = false from decide_eq_false h0)
  have HP := Lib.hid (show 0 < (rQ n d).num by omega)
  clear h1 h0 HBV
  rcases cmpQ_range (rQ n d) ((1 : Int) : Rat) with hz | hz | hz
  ·have HCQ := Lib.hid hz
   have HM2 : Hid (missF n d = if longB n d = true then 2 else 0) := by
    have h2 := HMF.out
    have h3 : okM (rQ n d) = true := by unfold okM; rw [Bool.and_eq_true]; exact ⟨decide_eq_true HP.out, decide_eq_true HCQ.out⟩
    rw [if_neg (by simp [h3])] at h2; exact h2
   clear hz HMF
   go_region_held3 (S2R X X.heap.size w2.heap.size #[Value.bool false, Value.slice q1 n1 k1, Value.slice q2 n2 k2] w2.heap.size #[Value.bool false, Value.slice q1 n1 k1, Value.slice q2 n2 k2]) (first | exact S2R.start hX hX | exact S2R.ext (by with_reducible assumption) (by with_reducible assumption) (Nat.le_refl _) hX hX | assumption) (first | (go_at_call 54; refine (zero_is (rQ n d) false HZ.out _ _ (HX.out.ext (Below.refl X.heap.size X).drew)).mono ?_; rintro e w4 ⟨rfl, hb4⟩; have hc4 := Lib.hid (ext_trans (Below.refl X.heap.size X).drew hb4)) | (go_at_call 24; refine (HW1.out _).mono ?_; rintro e w5 ⟨vw, rfl, hvw, hb5⟩; have hc5 := Lib.hid (ext_trans hc4.out hb5); obtain ⟨p5, k5, p6, k6, rfl, _, _⟩ := hvw.open_; have HVW := Lib.hid hvw; clear hvw) | (go_at_call 25; refine (xcmp_is (rQ n d) ((1 : Int) : Rat) (-1) HCQ.out _ _ _ (HX.out.ext hc5.out) HVW.out (by have := HS.out; omega) (by have := HS.out; omega) HS1.out.1 HS1.out.2).mono ?_; rintro e w6 ⟨rfl, hb6⟩; have hc6 := Lib.hid (ext_trans hc5.out hb6)))
   have hC6 := hCX.ext hc6.out
   have hF6 := hFX.ext hCX hc6.out
   have hbw6 := ext_trans hbwX hc6.out
   have hA6 := hAX.ext hc6.out
   have hX6 := hX.ext hc6.out
   have a0 : w6.cell? ⟨w.heap.size, 0, none⟩ = some (.string n) := hA6.2 0
   have a1' : w6.cell? ⟨w.heap.size, 1, none⟩ = some (.string d) := hA6.2 1
   have HX6 := Lib.hid (HX.out.ext hc6.out)
   clear hCX hFX hbwX hX hAX
   go_wp2_with fail
   refine (trimPrefix_at n hn _).mono ?_
   rintro e w7 ⟨rfl, hw7⟩
   have hb7 : Below w6.heap.size w6 w7 := by rw [← hw7]; exact Below.refl _ _
   clear hw7
   have hC7 := hC6.ext hb7
   have hF7 := hF6.ext hC6 hb7
   have hbw7 := ext_trans hbw6 hb7
   have hX7 := hX6.ext hb7
   have HX7 := Lib.hid (HX6.out.ext hb7)
   have a7 : w7.cell? ⟨w.heap.size, 1, none⟩ = some (.string d) := (hA6.ext hb7).2 1
   clear hC6 hF6 hbw6 hX6 hA6 hb7 a0 a1'
   have hcz := cutS_size n
   have hn9 := hn
   have hd9 := hd
   unfold maxLen at hn9 hd9
   by_cases c1 : 100 < (cutS n).size
   ·have hl : longB n d = true := by simp [longB, c1]
    have HM3 : Hid (missF n d = 2) := by have := HM2.out; rw [if_pos hl] at this; exact this
    clear hl HM2
    obtain ⟨r0, r1, r2⟩ := boxX hC7
    have hq := three_set (.bool false) (.slice none 0 0) (.slice none 0 0) (hC7.2 0) (hC7.2 1) (hC7.2 2)
    have g0 := hF7 0
    have g1 := hF7 1
    have g2 := hF7 2
    have hbF := Lib.hid (((hbw7.setCell (p := ⟨w.heap.size + 1, 0, none⟩) (Nat.le_succ _) (.bool false)).setCell (p := ⟨w.heap.size + 1, 1, none⟩) (Nat.le_succ _) (.slice none 0 0)).setCell (p := ⟨w.heap.size + 1, 2, none⟩) (Nat.le_succ _) (.slice none 0 0))
    go_wp2
    exact bodyPost_ret (v := .tuple #[.agg #[.bool false, .slice none 0 0, .slice none 0 0], .int .i64 2]) (by simp [results, Tryz.results22, go_sem, hq.1, hq.2.1, hq.2.2]) rfl ⟨_, _, _, _, _, _, _, by rw [HM3.out], (fun h => by rw [HM3.out] at h; first | exact absurd h HNE.out | cases h), hbF.out⟩
   ·by_cases c2 : 100 < d.size
    ·have hl : longB n d = true := by simp [longB, c2]
     have h3 : (decide ((100 : Int) < ((cutS n).size : Int))) = false := decide_eq_false (by omega)
     have h4 : (decide (100 < (cutS n).size)) = false := decide_eq_false (by omega)
     have h5 : (decide ((100 : Int) < (d.size : Int))) = true := decide_eq_true (by omega)
     have HM3 : Hid (missF n d = 2) := by have := HM2.out; rw [if_pos hl] at this; exact this
     clear hl HM2 c1
     obtain ⟨r0, r1, r2⟩ := boxX hC7
     have hq := three_set (.bool false) (.slice none 0 0) (.slice none 0 0) (hC7.2 0) (hC7.2 1) (hC7.2 2)
     have g0 := hF7 0
     have g1 := hF7 1
     have g2 := hF7 2
     have hbF := Lib.hid (((hbw7.setCell (p := ⟨w.heap.size + 1, 0, none⟩) (Nat.le_succ _) (.bool false)).setCell (p := ⟨w.heap.size + 1, 1, none⟩) (Nat.le_succ _) (.slice none 0 0)).setCell (p := ⟨w.heap.size + 1, 2, none⟩) (Nat.le_succ _) (.slice none 0 0))
     go_wp2
     exact bodyPost_ret (v := .tuple #[.agg #[.bool false, .slice none 0 0, .slice none 0 0], .int .i64 2]) (by simp [results, Tryz.results22, go_sem, hq.1, hq.2.1, hq.2.2]) rfl ⟨_, _, _, _, _, _, _, by rw [HM3.out], (fun h => by rw [HM3.out] at h; first | exact absurd h HNE.out | cases h), hbF.out⟩
    ·have hl : ¬ longB n d = true := by simp [longB]; omega
     have h3 : (decide ((100 : Int) < ((cutS n).size : Int))) = false := decide_eq_false (by omega)
     have h4 : (decide (100 < (cutS n).size)) = false := decide_eq_false (by omega)
     have h5 : (decide ((100 : Int) < (d.size : Int))) = false := decide_eq_false (by omega)
     have h6 : (decide (100 < d.size)) = false := decide_eq_false (by omega)
     have HM3 : Hid (missF n d = 0) := by have := HM2.out; rw [if_neg hl] at this; exact this
     have hl' : longB n d = false := by simpa using hl
     clear hl hl' HM2 c1 c2
     obtain ⟨v1, v2, hv, hn1, hn2⟩ := id HX7.out
     have HV := Lib.hid hv
     have e1 : Value.slice q1 n1 k1 = v1 := by have := HV.out; simp at this; exact this.2.1
     have e2 : Value.slice q2 n2 k2 = v2 := by have := HV.out; simp at this; exact this.2.2
     have HE := Lib.hid (show false = decide ((rQ n d).num < 0) by have := HV.out; simp at this ⊢; exact this.1)
     subst e1 e2
     have b0 : w7.cell? ⟨w2.heap.size, 0, none⟩ = some (.bool false) := hX7.2 0
     have b1 : w7.cell? ⟨w2.heap.size, 1, none⟩ = some (.slice q1 n1 k1) := hX7.2 1
     have b2 : w7.cell? ⟨w2.heap.size, 2, none⟩ = some (.slice q2 n2 k2) := hX7.2 2
     have g0 := hF7 0
     have g1 := hF7 1
     have g2 := hF7 2
     obtain ⟨r0, r1, r2⟩ := boxX hC7
     obtain ⟨y1, y2, y3, z0, z1, z2⟩ := res3 false hC7 hn1 hn2 hbw7 (Nat.le_succ _)
     have HK := Lib.hid (And.intro y1 (And.intro y2 y3))
     clear y1 y2 y3 hv hC7 hF7 hbw7 hn1 hn2 hX7
     go_wp2
     exact bodyPost_ret (v := .tuple #[.agg #[.bool false, .slice q1 n1 k1, .slice q2 n2 k2], .int .i64 0]) (by simp [results, Tryz.results22, go_sem, z0, z1, z2]) rfl ⟨_, _, _, _, _, _, _, by rw [HM3.out], (fun _ => ⟨_, _, by rw [HE.out], HK.out.1, HK.out.2.1⟩), HK.out.2.2⟩
  ·have HCQ := Lib.hid hz
   have HM1 : Hid (missF n d = 1) := by
    have h2 := HMF.out
    have h3 : okM (rQ n d) = false := by unfold okM; rw [Bool.and_eq_false_iff]; right; rw [HCQ.out]; rfl
    rw [if_pos h3] at h2; exact h2
   clear hz HMF
   go_region_held3 (S2R X X.heap.size w2.heap.size #[Value.bool false, Value.slice q1 n1 k1, Value.slice q2 n2 k2] w2.heap.size #[Value.bool false, Value.slice q1 n1 k1, Value.slice q2 n2 k2]) (first | exact S2R.start hX hX | exact S2R.ext (by with_reducible assumption) (by with_reducible assumption) (Nat.le_refl _) hX hX | assumption) (first | (go_at_call 54; refine (zero_is (rQ n d) false HZ.out _ _ (HX.out.ext (Below.refl X.heap.size X).drew)).mono ?_; rintro e w4 ⟨rfl, hb4⟩; have hc4 := Lib.hid (ext_trans (Below.refl X.heap.size X).drew hb4)) | (go_at_call 24; refine (HW1.out _).mono ?_; rintro e w5 ⟨vw, rfl, hvw, hb5⟩; have hc5 := Lib.hid (ext_trans hc4.out hb5); obtain ⟨p5, k5, p6, k6, rfl, _, _⟩ := hvw.open_; have HVW := Lib.hid hvw; clear hvw) | (go_at_call 25; refine (xcmp_is (rQ n d) ((1 : Int) : Rat) 0 HCQ.out _ _ _ (HX.out.ext hc5.out) HVW.out (by have := HS.out; omega) (by have := HS.out; omega) HS1.out.1 HS1.out.2).mono ?_; rintro e w6 ⟨rfl, hb6⟩; have hc6 := Lib.hid (ext_trans hc5.out hb6)))
   have hC6 := hCX.ext hc6.out
   have hF6 := hFX.ext hCX hc6.out
   have hbw6 := ext_trans hbwX hc6.out
   obtain ⟨r0, r1, r2⟩ := boxX hC6
   have hq := three_set (.bool false) (.slice none 0 0) (.slice none 0 0) (hC6.2 0) (hC6.2 1) (hC6.2 2)
   have g0 := hF6 0
   have g1 := hF6 1
   have g2 := hF6 2
   have hbF := Lib.hid (((hbw6.setCell (p := ⟨w.heap.size + 1, 0, none⟩) (Nat.le_succ _) (.bool false)).setCell (p := ⟨w.heap.size + 1, 1, none⟩) (Nat.le_succ _) (.slice none 0 0)).setCell (p := ⟨w.heap.size + 1, 2, none⟩) (Nat.le_succ _) (.slice none 0 0))
   go_wp2
   exact bodyPost_ret (v := .tuple #[.agg #[.bool false, .slice none 0 0, .slice none 0 0], .int .i64 1]) (by simp [results, Tryz.results22, go_sem, hq.1, hq.2.1, hq.2.2]) rfl ⟨_, _, _, _, _, _, _, by rw [HM1.out], (fun h => by rw [HM1.out] at h; first | exact absurd h HNE.out | cases h), hbF.out⟩
  ·have HCQ := Lib.hid hz
   have HM1 : Hid (missF n d = 1) := by
    have h2 := HMF.out
    have h3 : okM (rQ n d) = false := by unfold okM; rw [Bool.and_eq_false_iff]; right; rw [HCQ.out]; rfl
    rw [if_pos h3] at h2; exact h2
   clear hz HMF
   go_region_held3 (S2R X X.heap.size w2.heap.size #[Value.bool false, Value.slice q1 n1 k1, Value.slice q2 n2 k2] w2.heap.size #[Value.bool false, Value.slice q1 n1 k1, Value.slice q2 n2 k2]) (first | exact S2R.start hX hX | exact S2R.ext (by with_reducible assumption) (by with_reducible assumption) (Nat.le_refl _) hX hX | assumption) (first | (go_at_call 54; refine (zero_is (rQ n d) false HZ.out _ _ (HX.out.ext (Below.refl X.heap.size X).drew)).mono ?_; rintro e w4 ⟨rfl, hb4⟩; have hc4 := Lib.hid (ext_trans (Below.refl X.heap.size X).drew hb4)) | (go_at_call 24; refine (HW1.out _).mono ?_; rintro e w5 ⟨vw, rfl, hvw, hb5⟩; have hc5 := Lib.hid (ext_trans hc4.out hb5); obtain ⟨p5, k5, p6, k6, rfl, _, _⟩ := hvw.open_; have HVW := Lib.hid hvw; clear hvw) | (go_at_call 25; refine (xcmp_is (rQ n d) ((1 : Int) : Rat) 1 HCQ.out _ _ _ (HX.out.ext hc5.out) HVW.out (by have := HS.out; omega) (by have := HS.out; omega) HS1.out.1 HS1.out.2).mono ?_; rintro e w6 ⟨rfl, hb6⟩; have hc6 := Lib.hid (ext_trans hc5.out hb6)))
   have hC6 := hCX.ext hc6.out
   have hF6 := hFX.ext hCX hc6.out
   have hbw6 := ext_trans hbwX hc6.out
   obtain ⟨r0, r1, r2⟩ := boxX hC6
   have hq := three_set (.bool false) (.slice none 0 0) (.slice none 0 0) (hC6.2 0) (hC6.2 1) (hC6.2 2)
   have g0 := hF6 0
   have g1 := hF6 1
   have g2 := hF6 2
   have hbF := Lib.hid (((hbw6.setCell (p := ⟨w.heap.size + 1, 0, none⟩) (Nat.le_succ _) (.bool false)).setCell (p := ⟨w.heap.size + 1, 1, none⟩) (Nat.le_succ _) (.slice none 0 0)).setCell (p := ⟨w.heap.size + 1, 2, none⟩) (Nat.le_succ _) (.slice none 0 0))
   go_wp2
   exact bodyPost_ret (v := .tuple #[.agg #[.bool false, .slice none 0 0, .slice none 0 0], .int .i64 1]) (by simp [results, Tryz.results22, go_sem, hq.1, hq.2.1, hq.2.2]) rfl ⟨_, _, _, _, _, _, _, by rw [HM1.out], (fun h => by rw [HM1.out] at h; first | exact absurd h HNE.out | cases h), hbF.out⟩
 ·have HNE := Lib.hid hr
  have hne : (rF n d != 0) = true := by simp [hr]
  have HMF : Hid (missF n d = rF n d) := by
   have : missF n d = rF n d := by unfold missF; rw [if_pos hr]
   exact this
  clear hr
  obtain ⟨r0, r1, r2⟩ := boxX hC1
  have hq := three_set (.bool false) (.slice none 0 0) (.slice none 0 0) (hC1.2 0) (hC1.2 1) (hC1.2 2)
  have g0 := hF1 0
  have g1 := hF1 1
  have g2 := hF1 2
  have hbF := Lib.hid (((hbw1.setCell (p := ⟨w.heap.size + 1, 0, none⟩) (Nat.le_succ _) (.bool false)).setCell (p := ⟨w.heap.size + 1, 1, none⟩) (Nat.le_succ _) (.slice none 0 0)).setCell (p := ⟨w.heap.size + 1, 2, none⟩) (Nat.le_succ _) (.slice none 0 0))
  go_wp2
  exact bodyPost_ret (v := .tuple #[.agg #[.bool false, .slice none 0 0, .slice none 0 0], .int .i64 (rF n d)]) (by simp [results, Tryz.results22, go_sem, hq.1, hq.2.1, hq.2.2]) rfl ⟨_, _, _, _, _, _, _, by rw [HMF.out], (fun h => by rw [HMF.out] at h; first | exact absurd h HNE.out | cases h), hbF.out⟩
end Nm
end Go.Proofs.YtiieckboccbhhaaGreatDoor
namespace Go.Proofs.YtiieckboccbhhaaGreatDoor
namespace Nm
/-- a quotient of two ints -/
def quoQ (a b : Int) : Rat := if h : b = 0 then 0 else Rat.normalize (sgn (decide (a < 0) != decide (b < 0)) a.natAbs) b.natAbs (by omega)
def quoN (a b : Int) : ByteArray := if b = 0 then ⟨#[]⟩ else outN (quoQ a b)
def quoD (a b : Int) : ByteArray := if b = 0 then ⟨#[]⟩ else outD (quoQ a b)
def quoF (a b : Int) : Int := if b = 0 then 14 else outF (quoQ a b)
end Nm
end Go.Proofs.YtiieckboccbhhaaGreatDoor
namespace Go.Proofs.YtiieckboccbhhaaGreatDoor
open Go.RowKit
namespace Nt
open _root_.Go.Proofs.YtiieckboccbhhaaGreatDoor.Nm (rF rQ sgn outN outD outF AnsPost bF quoQ quoN quoD quoF)
set_option maxHeartbeats 4000000 in
theorem refBoth_at (n1 d1 n2 d2 : ByteArray) (h1 : n1.size ≤ maxLen) (h2 : d1.size ≤ maxLen) (h3 : n2.size ≤ maxLen) (h4 : d2.size ≤ maxLen) (w : World) (ht : Tab w) : Calls Tryz.prog 70 #[.agg #[.string n1, .string d1], .agg #[.string n2, .string d2]] w (CPost w (bF n1 d1 n2 d2)) := by
  have HBF : Hid (bF n1 d1 n2 d2 = if rF n1 d1 ≠ 0 then rF n1 d1 else rF n2 d2) := Lib.hid rfl
  go_enter Tryz.func70, Tryz.ntmps70
  go_upto_region 1 with (fail)
  refine wp_box2 fun W hsz hbW hA hC => ?_
  have HT := Lib.hid (ht.ext hbW)
  clear hsz ht
  have a0 : W.cell? ⟨w.heap.size, 0, none⟩ = some (.string n1) := hA.2 0
  have a1 : W.cell? ⟨w.heap.size, 1, none⟩ = some (.string d1) := hA.2 1
  clear hA
  go_wp2_with fail
  refine (refCheck_at n1 d1 h1 h2 W HT.out).mono ?_
  rintro e w1 ⟨rfl, hb1⟩
  have hC1 := hC.ext hb1
  have hbw1 := ext_trans hbW hb1
  have HT1 := Lib.hid (HT.out.ext hb1)
  clear a0 a1 hC hbW hb1 HT
  by_cases hf : rF n1 d1 = 0
  · have HR : Hid (bF n1 d1 n2 d2 = rF n2 d2) := by
      have := HBF.out; rw [if_neg (by simp [hf])] at this; exact this
    have hne : (rF n1 d1 != 0) = false := by simp [hf]
    clear HBF hf
    have a0 : w1.cell? ⟨w.heap.size + 1, 0, none⟩ = some (.string n2) := hC1.2 0
    have a1 : w1.cell? ⟨w.heap.size + 1, 1, none⟩ = some (.string d2) := hC1.2 1
    clear hC1
    go_wp2_with fail
    refine (refCheck_at n2 d2 h3 h4 w1 HT1.out).mono ?_
    rintro e w2 ⟨rfl, hb2⟩
    go_wp2
    go_ret
    exact ⟨ret_int HR.out.symm, ext_trans hbw1 hb2⟩
  · have HR : Hid (bF n1 d1 n2 d2 = rF n1 d1) := by
      have := HBF.out; rw [if_pos hf] at this; exact this
    have hne : (rF n1 d1 != 0) = true := by simp [hf]
    clear HBF hf hC1
    go_wp2
    go_ret
    exact ⟨ret_int HR.out.symm, hbw1⟩
set_option maxHeartbeats 4000000 in
theorem amountOf_at (n : Int) (h1 : -9223372036854775808 ≤ n) (h2 : n ≤ 9223372036854775807) (w : World) : Calls Tryz.prog 75 #[.int .i64 n] w (NPost w n.natAbs) := by
  by_cases hn : 0 ≤ n
  · obtain ⟨k, rfl⟩ : ∃ k : Nat, n = (k : Int) := ⟨n.toNat, by omega⟩
    rw [Int.natAbs_natCast]
    go_enter Tryz.func75, Tryz.ntmps75
    go_wp2_with fail
    refine (small_at k (by omega) w).mono ?_
    rintro e w1 ⟨v, rfl, hv, hb⟩
    go_wp2
    go_ret
    exact ⟨_, rfl, hv, hb⟩
  · obtain ⟨k, hk⟩ : ∃ k : Nat, -(n + 1) = (k : Int) := ⟨(-(n + 1)).toNat, by omega⟩
    have HA : Hid (n.natAbs = k + 1) := by
      have : n.natAbs = k + 1 := by omega
      exact this
    have hkk : k ≤ 9223372036854775807 := by omega
    have hn' : n < 0 := by omega
    go_enter Tryz.func75, Tryz.ntmps75
    go_wp2_with fail
    clear hk
    refine (small_at k (by omega) w).mono ?_
    rintro e w1 ⟨v, rfl, hv, hb⟩
    have HV := Lib.hid hv
    clear hv
    go_wp2_with fail
    refine (small_at 1 (by omega) w1).mono ?_
    rintro e w2 ⟨v2, rfl, hv2, hb2⟩
    have hl1 : wlen k ≤ 1000000000 := by
      have h1 : wlen k ≤ 3 := wlen_le (Nat.lt_of_le_of_lt hkk (by decide))
      omega
    have hl2 : wlen 1 ≤ 1000000000 := by
      have h1 : wlen 1 ≤ 1 := wlen_le (by decide)
      omega
    have hv1 := HV.out.ext hb2
    have hbw2 := ext_trans hb hb2
    go_wp2_with fail
    refine (plus_at k 1 _ _ w2 hv1 hv2 hl1 hl2).mono ?_
    rintro e w3 ⟨v3, rfl, hv3, hb3⟩
    rw [← HA.out] at hv3
    go_wp2
    go_ret
    exact ⟨_, rfl, hv3, ext_trans hbw2 hb3⟩
theorem natAbs_wlen {n : Int} (h1 : -9223372036854775808 ≤ n) (h2 : n ≤ 9223372036854775807) : wlen n.natAbs ≤ 3 := wlen_le (Nat.lt_of_le_of_lt (show n.natAbs ≤ 9223372036854775808 by omega) (by decide))
set_option maxRecDepth 100000 in
set_option maxHeartbeats 8000000 in
theorem refRatioOf_at (a b : Int) (h1 : -9223372036854775808 ≤ a) (h2 : a ≤ 9223372036854775807) (h3 : -9223372036854775808 ≤ b) (h4 : b ≤ 9223372036854775807) (w : World) (ht : Tab w) : Calls Tryz.prog 36 #[.int .i64 a, .int .i64 b] w (AnsPost w (quoN a b) (quoD a b) (quoF a b)) := by
  go_enter Tryz.func36, Tryz.ntmps36
  go_upto_region 1 with (fail)
  refine wp_box1r fun W hsz hbW hC hF => ?_
  have HT := Lib.hid (ht.ext hbW)
  clear hsz ht
  by_cases hb0 : b = 0
  · have HP : Hid (quoN a b = ⟨#[]⟩ ∧ quoD a b = ⟨#[]⟩ ∧ quoF a b = 14) := by
      have : quoN a b = ⟨#[]⟩ ∧ quoD a b = ⟨#[]⟩ ∧ quoF a b = 14 := by unfold quoN quoD quoF; rw [if_pos hb0, if_pos hb0, if_pos hb0]; exact ⟨rfl, rfl, rfl⟩
      exact this
    have hz : ((b : Int) == 0) = true := by simp [hb0]
    clear hb0
    have HR := Lib.hid (res2s (.string ⟨#[]⟩) (.string ⟨#[]⟩) hC hbW (Nat.le_refl _))
    obtain ⟨hbF, z0, z1⟩ := id HR.out
    have r0 : W.cell? ⟨w.heap.size, 0, none⟩ = some (.string ⟨#[]⟩) := hC.2 0
    have r1 : W.cell? ⟨w.heap.size, 1, none⟩ = some (.string ⟨#[]⟩) := hC.2 1
    have g0 := hF 0
    have g1 := hF 1
    clear hbF
    go_wp2
    refine bodyPost_ret (v := .tuple #[.agg #[.string ⟨#[]⟩, .string ⟨#[]⟩], .int .i64 14]) (by simp [results, Tryz.results36, go_sem, z0, z1]) rfl ⟨?_, HR.out.1⟩
    rw [HP.out.1, HP.out.2.1, HP.out.2.2]
  · have hz : ((b : Int) == 0) = false := by simpa using hb0
    have hbn : b.natAbs ≠ 0 := by omega
    obtain ⟨q, HQ⟩ : ∃ q, Hid (q = Rat.normalize (sgn (decide (a < 0) != decide (b < 0)) a.natAbs) b.natAbs hbn) := ⟨_, rfl⟩
    have HP : Hid (quoN a b = outN q ∧ quoD a b = outD q ∧ quoF a b = outF q) := by
      have e : quoQ a b = q := by rw [HQ.out]; unfold quoQ; rw [dif_neg hb0]
      have : quoN a b = outN q ∧ quoD a b = outD q ∧ quoF a b = outF q := by unfold quoN quoD quoF; rw [if_neg hb0, if_neg hb0, if_neg hb0, e]; exact ⟨rfl, rfl, rfl⟩
      exact this
    have hla := natAbs_wlen h1 h2
    have hlb := natAbs_wlen h3 h4
    have HL := Lib.hid (And.intro hbn (And.intro hla hlb))
    clear hb0 hla hlb
    obtain ⟨x, hx⟩ : ∃ x, decide (a < 0) = x := ⟨_, rfl⟩
    obtain ⟨y, hy⟩ : ∃ y, decide (b < 0) = y := ⟨_, rfl⟩
    have HXY := Lib.hid (And.intro hx hy)
    clear hx hy
    go_wp2_with fail
    refine (amountOf_at a h1 h2 W).mono ?_
    rintro e w1 ⟨v1, rfl, hv1, hb1⟩
    obtain ⟨p1, c1, rfl, _⟩ := hv1.open_
    have HV1 := Lib.hid hv1
    clear hv1
    go_wp2_with fail
    refine (amountOf_at b h3 h4 w1).mono ?_
    rintro e w2 ⟨v2, rfl, hv2, hb2⟩
    obtain ⟨p2, c2, rfl, _⟩ := hv2.open_
    have hb12 := ext_trans hb1 hb2
    have hC2 := hC.ext hb12
    have hF2 := hF.ext hC hb12
    have hbw2 := ext_trans hbW hb12
    have HT2 := Lib.hid (HT.out.ext hb12)
    have HV := Lib.hid (And.intro (HV1.out.ext hb2) hv2)
    have HB := Lib.hid (And.intro hC2 (And.intro hF2 hbw2))
    clear hC hF hbW hb1 hb2 hb12 hC2 hF2 hbw2 hv2 HV1 HT
    go_wp2_with fail
    have HSH := Lib.hid (shut_at (decide (a < 0) != decide (b < 0)) a.natAbs b.natAbs HL.out.1 _ _ w2 HV.out.1 HV.out.2 (by have := HL.out.2.1; omega) (by have := HL.out.2.2; omega) HT2.out)
    rw [← HQ.out] at HSH
    refine HSH.out.mono ?_
    rintro e w3 ⟨rfl, hb3⟩
    have hC3 := HB.out.1.ext hb3
    have hF3 := HB.out.2.1.ext HB.out.1 hb3
    have hbw3 := ext_trans HB.out.2.2 hb3
    clear HB hb3 HSH HV
    have HR := Lib.hid (res2s (.string (outN q)) (.string (outD q)) hC3 hbw3 (Nat.le_refl _))
    obtain ⟨hbF, z0, z1⟩ := id HR.out
    have r0 : w3.cell? ⟨w.heap.size, 0, none⟩ = some (.string ⟨#[]⟩) := hC3.2 0
    have r1 : w3.cell? ⟨w.heap.size, 1, none⟩ = some (.string ⟨#[]⟩) := hC3.2 1
    have g0 := hF3 0
    have g1 := hF3 1
    clear hbF
    go_wp2
    refine bodyPost_ret (v := .tuple #[.agg #[.string (outN q), .string (outD q)], .int .i64 (outF q)]) (by simp [results, Tryz.results36, go_sem, z0, z1]) rfl ⟨?_, HR.out.1⟩
    rw [HP.out.1, HP.out.2.1, HP.out.2.2]
end Nt
end Go.Proofs.YtiieckboccbhhaaGreatDoor
namespace Go.Proofs.YtiieckboccbhhaaGreatDoor
open Go.RowKit
namespace Nt
open _root_.Go.Proofs.YtiieckboccbhhaaGreatDoor.Nm (rF rQ sgn outN outD outF AnsPost bF rQ_facts inv_facts sgn_self cutS cutB)
theorem small_digs9 {n d : ByteArray} (h : rF n d = 0) : wlen (rQ n d).num.natAbs ≤ 4000 ∧ wlen (rQ n d).den ≤ 4000 := by
  obtain ⟨_, h2, h3, h4, h5, h6, h7, _⟩ := rQ_facts h
  have l1 : (cutS n).data.toList.length = (cutS n).size := Array.length_toList
  have l2 : d.data.toList.length = d.size := Array.length_toList
  refine ⟨?_, ?_⟩
  · rw [h2, Nm.sgn_natAbs]; exact wlen_dec9 (whole_digs h4) (by omega)
  · rw [h3]; exact wlen_dec9 (whole_digs h5) (by omega)
theorem open_is (n d : ByteArray) (hn : n.size ≤ maxLen) (h : rF n d = 0) (w : World) : Calls Tryz.prog 64 #[.agg #[.string n, .string d]] w (FrPost w (decide ((rQ n d).num < 0)) (rQ n d).num.natAbs (rQ n d).den) := by
  obtain ⟨_, h2, h3, h4, h5, h6, h7, h8⟩ := rQ_facts h
  have := open_at n d hn (whole_digs h4) (whole_digs h5) h6 h7 w
  rw [h8, h2, h3, Nm.sgn_natAbs]
  exact this
end Nt
end Go.Proofs.YtiieckboccbhhaaGreatDoor
