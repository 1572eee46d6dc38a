/- readMiss of package decide. decides of package decide, and the closure that decided hands to walk. The chances' numbers are short enough for the big numbers' contracts; what the loops hold. -/
import Derived.Test.YtilolnjbpokdnaaGreatDoorBq29
import Derived.Test.YtilolnjbpokdnaaGreatDoorBq19
import Derived.Test.YtilolnjbpokdnaaGreatDoorBq28
import Derived.Test.YtilolnjbpokdnaaGreatDoorBq02
import Derived.Test.YtilolnjbpokdnaaGreatDoorProg
import Derived.Test.YtilolnjbpokdnaaGreatDoorBq00
import Derived.Test.YtilolnjbpokdnaaGreatDoorBq01
import Derived.Test.YtilolnjbpokdnaaGreatDoorBq03
import Derived.Test.YtilolnjbpokdnaaGreatDoorBq04
import Derived.Test.YtilolnjbpokdnaaGreatDoorBq05
import Derived.Test.YtilolnjbpokdnaaGreatDoorBq26
import Derived.Test.YtilolnjbpokdnaaGreatDoorBq33
import Derived.Test.YtilolnjbpokdnaaGreatDoorBq32
import Derived.Test.YtilolnjbpokdnaaGreatDoorBq20
namespace Go.Proofs.YtilolnjbpokdnaaGreatDoor
open Go.RowKit
namespace Nm
/-- a miss: between 0 and 1 -/
def okM (q : Rat) : Bool := decide (0 < q.num) && decide (cmpQ q ((1 : Int) : Rat) = -1)
def missF (n d : ByteArray) : Int := if rF n d ≠ 0 then rF n d else if okM (rQ n d) = false then 1 else if longB n d = true then 2 else 0
def MissPost (w : World) (n d : ByteArray) (e : Ending) (w' : World) : Prop := ∃ b a1 n1 c1 a2 n2 c2, e = .returned (.tuple #[.agg #[.bool b, .slice a1 n1 c1, .slice a2 n2 c2], .int .i64 (missF n d)]) ∧ (missF n d = 0 → XR w' (.agg #[.bool b, .slice a1 n1 c1, .slice a2 n2 c2]) (rQ n d)) ∧ Below w.heap.size w w'
set_option maxHeartbeats 8000000 in
theorem readMiss_at (n d : ByteArray) (hn : n.size ≤ maxLen) (hd : d.size ≤ maxLen) (w : World) : Calls Tryz.prog 67 #[.agg #[.string n, .string d]] w (MissPost w n d) := by
  have HW1 := Lib.hid (fun w => whole_at 1 (by decide) (by decide) w)
  go_enter Tryz.func67, Tryz.ntmps67
  go_upto_region 1 with (fail)
  refine wp_box2r fun W hsz hbW hA hC hF => ?_
  have a0 : W.cell? ⟨w.heap.size, 0, none⟩ = some (.string n) := hA.2 0
  have a1 : W.cell? ⟨w.heap.size, 1, none⟩ = some (.string d) := hA.2 1
  clear hsz
  go_wp2_with fail
  refine (checkRatio_at n d hn hd _).mono ?_
  rintro e w1 ⟨rfl, hb1⟩
  have hA1 := hA.ext hb1
  have hC1 := hC.ext hb1
  have hF1 := hF.ext hC hb1
  have hbw1 := ext_trans hbW hb1
  clear hA hC hF hb1 hbW a0 a1
  by_cases hr : rF n d = 0
  · have HR := Lib.hid hr
    have hne : (rF n d != 0) = false := by simp [hr]
    have HMF : Hid (missF n d = if okM (rQ n d) = false then 1 else if longB n d = true then 2 else 0) := by
      have : missF n d = if okM (rQ n d) = false then 1 else if longB n d = true then 2 else 0 := by unfold missF; rw [if_neg (by simp [hr])]
      exact this
    have HS := Lib.hid (miss_small hr)
    have HS1 : Hid (wlen ((1 : Int) : Rat).num.natAbs ≤ 100000000 ∧ wlen ((1 : Int) : Rat).den ≤ 100000000) := ⟨Nat.le_trans (wlen_one (show 1 < B by decide)) (by decide), Nat.le_trans (wlen_one (show 1 < B by decide)) (by decide)⟩
    have a0 : w1.cell? ⟨w.heap.size, 0, none⟩ = some (.string n) := hA1.2 0
    have a1 : w1.cell? ⟨w.heap.size, 1, none⟩ = some (.string d) := hA1.2 1
    clear hr
    go_wp2_with fail
    refine (xratOfP_at n d hn hd HR.out _).mono ?_
    rintro e w2 ⟨v, rfl, hx, hb2⟩
    obtain ⟨q1, k1, q2, k2, rfl, _, _⟩ := hx.open_
    have HB : Hid (XR w2 (.agg #[.bool (decide ((rQ n d).num < 0)), .slice q1 (digs (rQ n d).num.natAbs).length k1, .slice q2 (digs (rQ n d).den).length k2]) (rQ n d)) := hx
    clear hx
    generalize hbv : decide ((rQ n d).num < 0) = b at HB ⊢
    generalize (digs (rQ n d).num.natAbs).length = n1 at HB ⊢
    generalize (digs (rQ n d).den).length = n2 at HB ⊢
    have HBV := Lib.hid hbv
    have hA2 := hA1.ext hb2
    have hC2 := hC1.ext hb2
    have hF2 := hF1.ext hC1 hb2
    have hbw2 := ext_trans hbw1 hb2
    clear hA1 hC1 hF1 hb2 hbw1 a0 hbv
    go_upto_region 5 with (fail)
    refine wp_box1 fun X hszX hbX hX => ?_
    have x0 : X.cell? ⟨w2.heap.size, 0, none⟩ = some (.bool b) := hX.2 0
    have HX := Lib.hid (HB.out.ext hbX)
    have hAX := hA2.ext hbX
    have hCX := hC2.ext hbX
    have hFX := hF2.ext hC2 hbX
    have hbwX := ext_trans hbw2 hbX
    clear hszX hA2 hC2 hF2 hbw2 hbX HB
    by_cases h1 : (rQ n d).num < 0
    · have HM1 : Hid (missF n d = 1) := by
        have h2 := HMF.out
        have h3 : okM (rQ n d) = false := by unfold okM; rw [Bool.and_eq_false_iff]; left; exact decide_eq_false (by omega)
        rw [if_pos h3] at h2; exact h2
      obtain rfl : b = true := by have := HBV.out; rw [← this]; exact decide_eq_true h1
      clear h1 HBV HMF
      go_quiet (fail)
      have hb3 := Lib.hid (below_drewN (Below.refl X.heap.size X) nq)
      have hC3 := hCX.ext hb3.out
      have hF3 := hFX.ext hCX hb3.out
      have hbw3 := ext_trans hbwX hb3.out
      obtain ⟨r0, r1, r2⟩ := boxX hC3
      have hq := three_set (.bool false) (.slice none 0 0) (.slice none 0 0) (hC3.2 0) (hC3.2 1) (hC3.2 2)
      have g0 := hF3 0
      have g1 := hF3 1
      have g2 := hF3 2
      have hbF := Lib.hid (((hbw3.setCell (p := ⟨w.heap.size + 1, 0, none⟩) (Nat.le_succ _) (.bool false)).setCell (p := ⟨w.heap.size + 1, 1, none⟩) (Nat.le_succ _) (.slice none 0 0)).setCell (p := ⟨w.heap.size + 1, 2, none⟩) (Nat.le_succ _) (.slice none 0 0))
      go_wp2
      exact bodyPost_ret (v := .tuple #[.agg #[.bool false, .slice none 0 0, .slice none 0 0], .int .i64 1]) (by simp [results, Tryz.results67, go_sem, hq.1, hq.2.1, hq.2.2]) rfl ⟨_, _, _, _, _, _, _, by rw [HM1.out], (fun h => by rw [HM1.out] at h; first | exact absurd h HNE.out | cases h), hbF.out⟩
    obtain rfl : b = false := by have := HBV.out; rw [← this]; exact decide_eq_false h1
    by_cases h0 : (rQ n d).num = 0
    · have HM1 : Hid (missF n d = 1) := by
        have h2 := HMF.out
        have h3 : okM (rQ n d) = false := by unfold okM; rw [Bool.and_eq_false_iff]; left; exact decide_eq_false (by omega)
        rw [if_pos h3] at h2; exact h2
      have HZ := Lib.hid (show decide ((rQ n d).num = 0) = true from decide_eq_true h0)
      clear h1 h0 HBV HMF
      have x1 : X.cell? ⟨w2.heap.size, 1, none⟩ = some (.slice q1 n1 k1) := hX.2 1
      have x2 : X.cell? ⟨w2.heap.size, 2, none⟩ = some (.slice q2 n2 k2) := hX.2 2
      go_region_with (first | (go_at_call 102; refine (zero_is (rQ n d) true HZ.out _ _ (HX.out.ext (Below.refl X.heap.size X).drew)).mono ?_; rintro e w4 ⟨rfl, hb4⟩; have hc4 := Lib.hid (ext_trans (Below.refl X.heap.size X).drew hb4)))
      all_goals
        have hC4 := hCX.ext hc4.out
        have hF4 := hFX.ext hCX hc4.out
        have hbw4 := ext_trans hbwX hc4.out
        obtain ⟨r0, r1, r2⟩ := boxX hC4
        have hq := three_set (.bool false) (.slice none 0 0) (.slice none 0 0) (hC4.2 0) (hC4.2 1) (hC4.2 2)
        have g0 := hF4 0
        have g1 := hF4 1
        have g2 := hF4 2
        have hbF := Lib.hid (((hbw4.setCell (p := ⟨w.heap.size + 1, 0, none⟩) (Nat.le_succ _) (.bool false)).setCell (p := ⟨w.heap.size + 1, 1, none⟩) (Nat.le_succ _) (.slice none 0 0)).setCell (p := ⟨w.heap.size + 1, 2, none⟩) (Nat.le_succ _) (.slice none 0 0))
        go_wp2
        exact bodyPost_ret (v := .tuple #[.agg #[.bool false, .slice none 0 0, .slice none 0 0], .int .i64 1]) (by simp [results, Tryz.results67, go_sem, hq.1, hq.2.1, hq.2.2]) rfl ⟨_, _, _, _, _, _, _, by rw [HM1.out], (fun h => by rw [HM1.out] at h; first | exact absurd h HNE.out | cases h), hbF.out⟩
    have HZ := Lib.hid (show decide ((rQ n d).num = 0) = false from decide_eq_false h0)
    have HP := Lib.hid (show 0 < (rQ n d).num by omega)
    clear h1 h0 HBV
    rcases cmpQ_range (rQ n d) ((1 : Int) : Rat) with hz | hz | hz
    · have HCQ := Lib.hid hz
      have HM2 : Hid (missF n d = if longB n d = true then 2 else 0) := by
        have h2 := HMF.out
        have h3 : okM (rQ n d) = true := by unfold okM; rw [Bool.and_eq_true]; exact ⟨decide_eq_true HP.out, decide_eq_true HCQ.out⟩
        rw [if_neg (by simp [h3])] at h2; exact h2
      clear hz HMF
      go_region_held3 (S2R X X.heap.size w2.heap.size #[Value.bool false, Value.slice q1 n1 k1, Value.slice q2 n2 k2] w2.heap.size #[Value.bool false, Value.slice q1 n1 k1, Value.slice q2 n2 k2]) (first | exact S2R.start hX hX | exact S2R.ext (by with_reducible assumption) (by with_reducible assumption) (Nat.le_refl _) hX hX | assumption) (first | (go_at_call 102; refine (zero_is (rQ n d) false HZ.out _ _ (HX.out.ext (Below.refl X.heap.size X).drew)).mono ?_; rintro e w4 ⟨rfl, hb4⟩; have hc4 := Lib.hid (ext_trans (Below.refl X.heap.size X).drew hb4)) | (go_at_call 115; refine (HW1.out _).mono ?_; rintro e w5 ⟨vw, rfl, hvw, hb5⟩; have hc5 := Lib.hid (ext_trans hc4.out hb5); obtain ⟨p5, k5, p6, k6, rfl, _, _⟩ := hvw.open_; have HVW := Lib.hid hvw; clear hvw) | (go_at_call 68; refine (xcmp_is (rQ n d) ((1 : Int) : Rat) (-1) HCQ.out _ _ _ (HX.out.ext hc5.out) HVW.out (by have := HS.out; omega) (by have := HS.out; omega) HS1.out.1 HS1.out.2).mono ?_; rintro e w6 ⟨rfl, hb6⟩; have hc6 := Lib.hid (ext_trans hc5.out hb6)))
      have hC6 := hCX.ext hc6.out
      have hF6 := hFX.ext hCX hc6.out
      have hbw6 := ext_trans hbwX hc6.out
      have hA6 := hAX.ext hc6.out
      have hX6 := hX.ext hc6.out
      have a0 : w6.cell? ⟨w.heap.size, 0, none⟩ = some (.string n) := hA6.2 0
      have a1' : w6.cell? ⟨w.heap.size, 1, none⟩ = some (.string d) := hA6.2 1
      have HX6 := Lib.hid (HX.out.ext hc6.out)
      clear hCX hFX hbwX hX hAX
      go_wp2_with fail
      refine (long_at n d hn hd _).mono ?_
      rintro e w7 ⟨rfl, hb7⟩
      have hC7 := hC6.ext hb7
      have hF7 := hF6.ext hC6 hb7
      have hbw7 := ext_trans hbw6 hb7
      have hX7 := hX6.ext hb7
      have HX7 := Lib.hid (HX6.out.ext hb7)
      clear hC6 hF6 hbw6 hX6 hA6 hb7 a0 a1'
      by_cases hl : longB n d = true
      · have HM3 : Hid (missF n d = 2) := by have := HM2.out; rw [if_pos hl] at this; exact this
        rw [hl]
        clear hl HM2
        obtain ⟨r0, r1, r2⟩ := boxX hC7
        have hq := three_set (.bool false) (.slice none 0 0) (.slice none 0 0) (hC7.2 0) (hC7.2 1) (hC7.2 2)
        have g0 := hF7 0
        have g1 := hF7 1
        have g2 := hF7 2
        have hbF := Lib.hid (((hbw7.setCell (p := ⟨w.heap.size + 1, 0, none⟩) (Nat.le_succ _) (.bool false)).setCell (p := ⟨w.heap.size + 1, 1, none⟩) (Nat.le_succ _) (.slice none 0 0)).setCell (p := ⟨w.heap.size + 1, 2, none⟩) (Nat.le_succ _) (.slice none 0 0))
        go_wp2
        exact bodyPost_ret (v := .tuple #[.agg #[.bool false, .slice none 0 0, .slice none 0 0], .int .i64 2]) (by simp [results, Tryz.results67, go_sem, hq.1, hq.2.1, hq.2.2]) rfl ⟨_, _, _, _, _, _, _, by rw [HM3.out], (fun h => by rw [HM3.out] at h; first | exact absurd h HNE.out | cases h), hbF.out⟩
      · have HM3 : Hid (missF n d = 0) := by have := HM2.out; rw [if_neg hl] at this; exact this
        have hl' : longB n d = false := by simpa using hl
        rw [hl']
        clear hl hl' HM2
        obtain ⟨v1, v2, hv, hn1, hn2⟩ := id HX7.out
        have HV := Lib.hid hv
        have e1 : Value.slice q1 n1 k1 = v1 := by have := HV.out; simp at this; exact this.2.1
        have e2 : Value.slice q2 n2 k2 = v2 := by have := HV.out; simp at this; exact this.2.2
        have HE := Lib.hid (show false = decide ((rQ n d).num < 0) by have := HV.out; simp at this ⊢; exact this.1)
        subst e1 e2
        have b0 : w7.cell? ⟨w2.heap.size, 0, none⟩ = some (.bool false) := hX7.2 0
        have b1 : w7.cell? ⟨w2.heap.size, 1, none⟩ = some (.slice q1 n1 k1) := hX7.2 1
        have b2 : w7.cell? ⟨w2.heap.size, 2, none⟩ = some (.slice q2 n2 k2) := hX7.2 2
        have g0 := hF7 0
        have g1 := hF7 1
        have g2 := hF7 2
        obtain ⟨r0, r1, r2⟩ := boxX hC7
        obtain ⟨y1, y2, y3, z0, z1, z2⟩ := res3 false hC7 hn1 hn2 hbw7 (Nat.le_succ _)
        have HK := Lib.hid (And.intro y1 (And.intro y2 y3))
        clear y1 y2 y3 hv hC7 hF7 hbw7 hn1 hn2 hX7
        go_wp2
        exact bodyPost_ret (v := .tuple #[.agg #[.bool false, .slice q1 n1 k1, .slice q2 n2 k2], .int .i64 0]) (by simp [results, Tryz.results67, go_sem, z0, z1, z2]) rfl ⟨_, _, _, _, _, _, _, by rw [HM3.out], (fun _ => ⟨_, _, by rw [HE.out], HK.out.1, HK.out.2.1⟩), HK.out.2.2⟩
    · have HCQ := Lib.hid hz
      have HM1 : Hid (missF n d = 1) := by
        have h2 := HMF.out
        have h3 : okM (rQ n d) = false := by unfold okM; rw [Bool.and_eq_false_iff]; right; rw [HCQ.out]; rfl
        rw [if_pos h3] at h2; exact h2
      clear hz HMF
      go_region_held3 (S2R X X.heap.size w2.heap.size #[Value.bool false, Value.slice q1 n1 k1, Value.slice q2 n2 k2] w2.heap.size #[Value.bool false, Value.slice q1 n1 k1, Value.slice q2 n2 k2]) (first | exact S2R.start hX hX | exact S2R.ext (by with_reducible assumption) (by with_reducible assumption) (Nat.le_refl _) hX hX | assumption) (first | (go_at_call 102; refine (zero_is (rQ n d) false HZ.out _ _ (HX.out.ext (Below.refl X.heap.size X).drew)).mono ?_; rintro e w4 ⟨rfl, hb4⟩; have hc4 := Lib.hid (ext_trans (Below.refl X.heap.size X).drew hb4)) | (go_at_call 115; refine (HW1.out _).mono ?_; rintro e w5 ⟨vw, rfl, hvw, hb5⟩; have hc5 := Lib.hid (ext_trans hc4.out hb5); obtain ⟨p5, k5, p6, k6, rfl, _, _⟩ := hvw.open_; have HVW := Lib.hid hvw; clear hvw) | (go_at_call 68; refine (xcmp_is (rQ n d) ((1 : Int) : Rat) 0 HCQ.out _ _ _ (HX.out.ext hc5.out) HVW.out (by have := HS.out; omega) (by have := HS.out; omega) HS1.out.1 HS1.out.2).mono ?_; rintro e w6 ⟨rfl, hb6⟩; have hc6 := Lib.hid (ext_trans hc5.out hb6)))
      have hC6 := hCX.ext hc6.out
      have hF6 := hFX.ext hCX hc6.out
      have hbw6 := ext_trans hbwX hc6.out
      obtain ⟨r0, r1, r2⟩ := boxX hC6
      have hq := three_set (.bool false) (.slice none 0 0) (.slice none 0 0) (hC6.2 0) (hC6.2 1) (hC6.2 2)
      have g0 := hF6 0
      have g1 := hF6 1
      have g2 := hF6 2
      have hbF := Lib.hid (((hbw6.setCell (p := ⟨w.heap.size + 1, 0, none⟩) (Nat.le_succ _) (.bool false)).setCell (p := ⟨w.heap.size + 1, 1, none⟩) (Nat.le_succ _) (.slice none 0 0)).setCell (p := ⟨w.heap.size + 1, 2, none⟩) (Nat.le_succ _) (.slice none 0 0))
      go_wp2
      exact bodyPost_ret (v := .tuple #[.agg #[.bool false, .slice none 0 0, .slice none 0 0], .int .i64 1]) (by simp [results, Tryz.results67, go_sem, hq.1, hq.2.1, hq.2.2]) rfl ⟨_, _, _, _, _, _, _, by rw [HM1.out], (fun h => by rw [HM1.out] at h; first | exact absurd h HNE.out | cases h), hbF.out⟩
    · have HCQ := Lib.hid hz
      have HM1 : Hid (missF n d = 1) := by
        have h2 := HMF.out
        have h3 : okM (rQ n d) = false := by unfold okM; rw [Bool.and_eq_false_iff]; right; rw [HCQ.out]; rfl
        rw [if_pos h3] at h2; exact h2
      clear hz HMF
      go_region_held3 (S2R X X.heap.size w2.heap.size #[Value.bool false, Value.slice q1 n1 k1, Value.slice q2 n2 k2] w2.heap.size #[Value.bool false, Value.slice q1 n1 k1, Value.slice q2 n2 k2]) (first | exact S2R.start hX hX | exact S2R.ext (by with_reducible assumption) (by with_reducible assumption) (Nat.le_refl _) hX hX | assumption) (first | (go_at_call 102; refine (zero_is (rQ n d) false HZ.out _ _ (HX.out.ext (Below.refl X.heap.size X).drew)).mono ?_; rintro e w4 ⟨rfl, hb4⟩; have hc4 := Lib.hid (ext_trans (Below.refl X.heap.size X).drew hb4)) | (go_at_call 115; refine (HW1.out _).mono ?_; rintro e w5 ⟨vw, rfl, hvw, hb5⟩; have hc5 := Lib.hid (ext_trans hc4.out hb5); obtain ⟨p5, k5, p6, k6, rfl, _, _⟩ := hvw.open_; have HVW := Lib.hid hvw; clear hvw) | (go_at_call 68; refine (xcmp_is (rQ n d) ((1 : Int) : Rat) 1 HCQ.out _ _ _ (HX.out.ext hc5.out) HVW.out (by have := HS.out; omega) (by have := HS.out; omega) HS1.out.1 HS1.out.2).mono ?_; rintro e w6 ⟨rfl, hb6⟩; have hc6 := Lib.hid (ext_trans hc5.out hb6)))
      have hC6 := hCX.ext hc6.out
      have hF6 := hFX.ext hCX hc6.out
      have hbw6 := ext_trans hbwX hc6.out
      obtain ⟨r0, r1, r2⟩ := boxX hC6
      have hq := three_set (.bool false) (.slice none 0 0) (.slice none 0 0) (hC6.2 0) (hC6.2 1) (hC6.2 2)
      have g0 := hF6 0
      have g1 := hF6 1
      have g2 := hF6 2
      have hbF := Lib.hid (((hbw6.setCell (p := ⟨w.heap.size + 1, 0, none⟩) (Nat.le_succ _) (.bool false)).setCell (p := ⟨w.heap.size + 1, 1, none⟩) (Nat.le_succ _) (.slice none 0 0)).setCell (p := ⟨w.heap.size + 1, 2, none⟩) (Nat.le_succ _) (.slice none 0 0))
      go_wp2
      exact bodyPost_ret (v := .tuple #[.agg #[.bool false, .slice none 0 0, .slice none 0 0], .int .i64 1]) (by simp [results, Tryz.results67, go_sem, hq.1, hq.2.1, hq.2.2]) rfl ⟨_, _, _, _, _, _, _, by rw [HM1.out], (fun h => by rw [HM1.out] at h; first | exact absurd h HNE.out | cases h), hbF.out⟩
  · have HNE := Lib.hid hr
    have hne : (rF n d != 0) = true := by simp [hr]
    have HMF : Hid (missF n d = rF n d) := by
      have : missF n d = rF n d := by unfold missF; rw [if_pos hr]
      exact this
    clear hr
    obtain ⟨r0, r1, r2⟩ := boxX hC1
    have hq := three_set (.bool false) (.slice none 0 0) (.slice none 0 0) (hC1.2 0) (hC1.2 1) (hC1.2 2)
    have g0 := hF1 0
    have g1 := hF1 1
    have g2 := hF1 2
    have hbF := Lib.hid (((hbw1.setCell (p := ⟨w.heap.size + 1, 0, none⟩) (Nat.le_succ _) (.bool false)).setCell (p := ⟨w.heap.size + 1, 1, none⟩) (Nat.le_succ _) (.slice none 0 0)).setCell (p := ⟨w.heap.size + 1, 2, none⟩) (Nat.le_succ _) (.slice none 0 0))
    go_wp2
    exact bodyPost_ret (v := .tuple #[.agg #[.bool false, .slice none 0 0, .slice none 0 0], .int .i64 (rF n d)]) (by simp [results, Tryz.results67, go_sem, hq.1, hq.2.1, hq.2.2]) rfl ⟨_, _, _, _, _, _, _, by rw [HMF.out], (fun h => by rw [HMF.out] at h; first | exact absurd h HNE.out | cases h), hbF.out⟩
end Nm
end Go.Proofs.YtilolnjbpokdnaaGreatDoor
namespace Go.Proofs.YtilolnjbpokdnaaGreatDoor
open Go.RowKit
namespace Nm
theorem evidence_at (d : Int) (h1 : 1 ≤ d) (h3 : d ≤ 3) (bets up down : Nat) (hb1 : 1 ≤ bets) (hb5 : bets ≤ 5) (hud : up + down ≤ 60) (b : Bool) (a1 : Option Addr) (n1 c1 : Nat) (a2 : Option Addr) (n2 c2 : Nat) (w : World) :
    Calls Tryz.prog 152 #[.agg (betA d bets b a1 n1 c1 a2 n2 c2), .int .i64 (up : Int), .int .i64 (down : Int)] w (XPost w (evQ d bets up down)) := by
  obtain rfl | rfl | rfl : d = 1 ∨ d = 2 ∨ d = 3 := by omega
  · exact evidence_1 bets up down hb1 hb5 hud b a1 n1 c1 a2 n2 c2 w
  · exact evidence_2 bets up down hb1 hb5 hud b a1 n1 c1 a2 n2 c2 w
  · exact evidence_3 bets up down hb1 hb5 hud b a1 n1 c1 a2 n2 c2 w
theorem ev_small (d : Int) (bets up down : Nat) (hb1 : 1 ≤ bets) (hb5 : bets ≤ 5) (h1 : 1 ≤ d) (h3 : d ≤ 3) (hud : up + down ≤ 60) : wlen (evQ d bets up down).num.natAbs ≤ 200 ∧ wlen (evQ d bets up down).den ≤ 200 := by
  obtain ⟨hne, he⟩ := evQ_norm d bets up down hb1 h1 h3
  have hp := evParts_pos d h1 h3
  have e1 := wlen_pow (show bets + 1 < B from by unfold B; omega) (up + down)
  have hm : bets * evParts d ≤ 5 * 2 := Nat.mul_le_mul hb5 hp.2
  have e2 := wlen_one (show bets * evParts d < B from by unfold B; omega)
  have e3 := wlen_mul ((bets + 1) ^ (up + down)) (bets * evParts d)
  have c1 := capS_wlen bets up down hb5 (by omega) (by omega) bets (Nat.le_refl _)
  have c2 := capS_wlen bets down up hb5 (by omega) (by omega) bets (Nat.le_refl _)
  have c3 := wlen_add (capN bets up down) (capN bets down up)
  have c4 : evSum d bets up down ≤ capN bets up down + capN bets down up := by unfold evSum; (repeat' split) <;> omega
  have c5 := wlen_mono c4
  rw [he]
  constructor
  · rw [norm_abs]
    refine Nat.le_trans (wlen_mono (Nat.div_le_self _ _)) ?_
    unfold capN at *
    omega
  · rw [norm_den]
    refine Nat.le_trans (wlen_mono (Nat.div_le_self _ _)) ?_
    omega
def decB (d : Int) (bets : Nat) (q : Rat) (up down : Nat) : Bool := decide (0 ≤ cmpQ (evQ d bets up down) q)
set_option maxHeartbeats 4000000 in
theorem decides_at (d : Int) (bets up down : Nat) (q : Rat) (hud : up + down ≤ 60) (b : Bool) (a1 : Option Addr) (n1 c1 : Nat) (a2 : Option Addr) (n2 c2 : Nat) (w : World) (hB : Bett w d bets q b a1 n1 c1 a2 n2 c2) :
    Calls Tryz.prog 116 #[.agg (betA d bets b a1 n1 c1 a2 n2 c2), .int .i64 (up : Int), .int .i64 (down : Int)] w (BPost w (decB d bets q up down)) := by
  have HBT := Lib.hid hB
  have HS := Lib.hid (ev_small d bets up down hB.b1 hB.b5 hB.d1 hB.d3 hud)
  obtain ⟨z, HZ⟩ : ∃ z, Hid (cmpQ (evQ d bets up down) q = z) := ⟨_, rfl⟩
  have HDB : Hid (decB d bets q up down = decide (0 ≤ z)) := by
    have : decB d bets q up down = decide (0 ≤ z) := by unfold decB; rw [HZ.out]
    exact this
  clear hB
  go_enter Tryz.func116, Tryz.ntmps116
  go_upto_region 1 with (fail)
  refine wp_box1 fun W hsz hbW hA => ?_
  clear hsz
  go_region_held3 (S2R W W.heap.size w.heap.size (betA d bets b a1 n1 c1 a2 n2 c2) w.heap.size (betA d bets b a1 n1 c1 a2 n2 c2)) (first | exact S2R.start hA hA | exact S2R.ext (by with_reducible assumption) (by with_reducible assumption) (Nat.le_refl _) hA hA | assumption) (first | (go_at_call 152; refine (evidence_at d HBT.out.d1 HBT.out.d3 bets up down HBT.out.b1 HBT.out.b5 hud b a1 n1 c1 a2 n2 c2 _).mono ?_; rintro e w2 ⟨vq, rfl, hq, hb2⟩; obtain ⟨p1, c5, p2, c6, rfl, _, _⟩ := hq.open_; have hc2 := Lib.hid (ext_trans (Below.refl W.heap.size W).drew hb2); have HQ := Lib.hid hq; clear hq) | (go_at_call 68; refine (xcmp_is _ q z HZ.out _ _ _ HQ.out (HBT.out.need.ext (ext_trans hbW hc2.out)) (by have := HS.out; omega) (by have := HS.out; omega) (by have := HBT.out.s1; omega) (by have := HBT.out.s2; omega)).mono ?_; rintro e w3 ⟨rfl, hb3⟩; have hc3 := Lib.hid (ext_trans hc2.out hb3)))
  go_wp2
  go_ret
  exact ⟨congrArg (fun b => Ending.returned (.bool b)) HDB.out.symm, ext_trans hbW hc3.out⟩
end Nm
end Go.Proofs.YtilolnjbpokdnaaGreatDoor
namespace Go.Proofs.YtilolnjbpokdnaaGreatDoor
open Go.RowKit
namespace Ch
open _root_.Go.Proofs.YtilolnjbpokdnaaGreatDoor.Nm
def Sz (q : Rat) : Prop := wlen q.num.natAbs ≤ 100000000 ∧ wlen q.den ≤ 100000000
abbrev BB : Nat := 20000000000
theorem Fit.sz {k : Nat} {q : Rat} (hk : k ≤ 9) (h : Fit (1000000 ^ k) (BB ^ k) q) : Sz q := by
  obtain ⟨h1, h2⟩ := h.bound
  have e1 : 1000000 ^ k ≤ 1000000 ^ 9 := Nat.pow_le_pow_right (by omega) hk
  have e2 : BB ^ k ≤ BB ^ 9 := Nat.pow_le_pow_right (by decide) hk
  constructor
  · have : wlen q.num.natAbs ≤ 20 := wlen_le (Nat.lt_of_le_of_lt (Nat.le_trans h1 e2) (by decide))
    omega
  · have : wlen q.den ≤ 20 := wlen_le (Nat.lt_of_le_of_lt (Nat.le_trans h2 e1) (by decide))
    omega
theorem pow_ne (k : Nat) : 1000000 ^ k ≠ 0 := Nat.pos_iff_ne_zero.1 (Nat.pow_pos (by omega))
variable {dec : Pt → Bool} {u d e : Rat} {n : Nat}
theorem grid_len : ∀ n, (grid n).length = (n + 1) * (n + 1) := by
  intro n
  unfold grid
  have key : ∀ l : List Nat, (l.flatMap fun x => (List.range (n + 1)).map fun y => ((x, y) : Pt)).length = l.length * (n + 1) := by
    intro l
    induction l with
    | nil => simp
    | cons x l ih => rw [List.flatMap_cons, List.length_append, ih, List.length_map, List.length_range, List.length_cons, Nat.add_mul]; omega
  rw [key, List.length_range]
theorem flat_len (f : Pt → Rat) (l : List Pt) : (l.flatMap (out u d e f)).length = 3 * l.length := by
  induction l with
  | nil => rfl
  | cons a l ih =>
    rw [List.flatMap_cons, List.length_append, ih, List.length_cons]
    have : (out u d e f a).length = 3 := rfl
    omega
section
variable (hu : Fit 1000000 1000000 u) (hd : Fit 1000000 1000000 d) (he : Fit 1000000 1000000 e)
include hu hd he
theorem flat_fit {f : Pt → Rat} {k : Nat} (hf : ∀ a, Fit (1000000 ^ k) (BB ^ k) (f a)) (l : List Pt) : ∀ c ∈ l.flatMap (out u d e f), Fit (1000000 ^ (k + 1)) (BB ^ k * 1000000) c.2 := by
  intro c hc
  obtain ⟨a, _, hc⟩ := List.mem_flatMap.1 hc
  rw [Nat.pow_succ]
  exact out_fit hf hu hd he a c hc
omit hu hd he in
theorem at_fit {C : List (Pt × Rat)} {k : Nat} (hC : ∀ c ∈ C, Fit (1000000 ^ (k + 1)) (BB ^ k * 1000000) c.2) (hl : C.length ≤ 19683) (t : Pt) : Fit (1000000 ^ (k + 1)) (BB ^ (k + 1)) (at_ C t) := by
  refine (Fit.at_ (pow_ne _) hC t).mono ?_
  rw [Nat.pow_succ]
  have h1 : C.length * (BB ^ k * 1000000) ≤ 19683 * (BB ^ k * 1000000) := Nat.mul_le_mul_right _ hl
  have h2 : BB ^ k * BB = 20000 * (BB ^ k * 1000000) := by
    rw [show BB = 20000 * 1000000 from rfl, ← Nat.mul_assoc, Nat.mul_comm ((20000 * 1000000) ^ k) 20000, Nat.mul_assoc]
  omega
omit hu hd he in
theorem dec_fit {C : List (Pt × Rat)} {k : Nat} {s : Rat} (hs : Fit (1000000 ^ k) (BB ^ k) s) (hC : ∀ c ∈ C, Fit (1000000 ^ (k + 1)) (BB ^ k * 1000000) c.2) (hl : C.length ≤ 19683) : Fit (1000000 ^ (k + 1)) (BB ^ (k + 1)) (s + dec_ dec C) := by
  have h0 := hs.scale (c := 1000000) (by omega)
  rw [← Nat.pow_succ] at h0
  refine (h0.add (Fit.dec_ (pow_ne _) hC dec)).mono ?_
  rw [Nat.pow_succ BB]
  have h1 : C.length * (BB ^ k * 1000000) ≤ 19683 * (BB ^ k * 1000000) := Nat.mul_le_mul_right _ hl
  have h2 : BB ^ k * BB = 20000 * (BB ^ k * 1000000) := by
    rw [show BB = 20000 * 1000000 from rfl, ← Nat.mul_assoc, Nat.mul_comm ((20000 * 1000000) ^ k) 20000, Nat.mul_assoc]
  omega
theorem ch_fit (hn : n ≤ 8) : ∀ k, (∀ a, Fit (1000000 ^ k) (BB ^ k) (chF dec u d e n k a)) ∧ Fit (1000000 ^ k) (BB ^ k) (chS dec u d e n k)
  | 0 => ⟨fun a => by
      unfold chF
      split
      · exact Fit.int (n := 1) (by decide)
      · exact Fit.zero (by decide) _, Fit.zero (by decide) _⟩
  | k + 1 => by
    obtain ⟨h1, h2⟩ := ch_fit hn k
    have hl : ((grid n).flatMap (out u d e (chF dec u d e n k))).length ≤ 19683 := by
      rw [flat_len, grid_len]
      have : (n + 1) * (n + 1) ≤ 9 * 9 := Nat.mul_le_mul (by omega) (by omega)
      omega
    have hC := flat_fit hu hd he h1 (grid n)
    refine ⟨fun a => ?_, ?_⟩
    · show Fit _ _ (nextF dec u d e n (chF dec u d e n k) a)
      unfold nextF
      split
      · exact Fit.zero (pow_ne _) _
      · exact at_fit hC hl a
    · exact dec_fit h2 hC hl
end
/-- the sum so far, in its block -/
def Sum (w : World) (b : Nat) (s : Rat) : Prop := (∃ t, Box w b (x3C t) ∧ XR w (x3V t) s) ∧ Fre w b
theorem Sum.fr {X : Nat → Prop} {w w' : World} {b : Nat} {s : Rat} (h : Sum w b s) (hf : Fr X w w') (hX : ¬ X b) : Sum w' b s := by
  obtain ⟨⟨t, h1, h2⟩, h3⟩ := h
  exact ⟨⟨t, hf.box h1 hX, hf.xr h2⟩, hf.fre h1 h3 hX⟩
theorem Sum.ext {w w' : World} {b : Nat} {s : Rat} (h : Sum w b s) (hb : Below w.heap.size w w') : Sum w' b s := by
  obtain ⟨⟨t, h1, h2⟩, h3⟩ := h
  exact ⟨⟨t, h1.ext hb, h2.ext hb⟩, h3.ext h1 hb⟩
theorem frozen_set3 {w : World} {b : Nat} (v0 v1 v2 : Value) (p : Addr) : (((w.setCell ⟨b, 0, none⟩ v0).setCell ⟨b, 1, none⟩ v1).setCell ⟨b, 2, none⟩ v2).frozen? p = w.frozen? p := by
  rw [World.frozen?_setCell, World.frozen?_setCell, World.frozen?_setCell]
theorem box_set3 {w : World} {b : Nat} {t : X3} (h : Box w b (x3C t)) (t' : X3) : Box (((w.setCell ⟨b, 0, none⟩ (.bool t'.b)).setCell ⟨b, 1, none⟩ (.slice t'.a1 t'.n1 t'.c1)).setCell ⟨b, 2, none⟩ (.slice t'.a2 t'.n2 t'.c2)) b (x3C t') := by
  refine ⟨by simp; exact h.1, fun j => ?_⟩
  obtain ⟨e0, e1, e2⟩ := three_set (.bool t'.b) (.slice t'.a1 t'.n1 t'.c1) (.slice t'.a2 t'.n2 t'.c2) (h.2 0) (h.2 1) (h.2 2)
  match j with
  | 0 => exact e0
  | 1 => exact e1
  | 2 => exact e2
  | j + 3 =>
    have h3 := h.2 (j + 3)
    rw [World.cell?_setCell_other _ _ _ _ (by simp), World.cell?_setCell_other _ _ _ _ (by simp), World.cell?_setCell_other _ _ _ _ (by simp), h3]
    simp
theorem sum_set {w : World} {b : Nat} {t t' : X3} {s : Rat} (h : Box w b (x3C t)) (hF : Fre w b) (hx : XR w (x3V t') s) : Sum (((w.setCell ⟨b, 0, none⟩ (.bool t'.b)).setCell ⟨b, 1, none⟩ (.slice t'.a1 t'.n1 t'.c1)).setCell ⟨b, 2, none⟩ (.slice t'.a2 t'.n2 t'.c2)) b s :=
  ⟨⟨t', box_set3 h t', hx.kp (Kp.set3 h (x3_nw t) _ _ _)⟩, fun j => by rw [frozen_set3]; exact hF j⟩
/-- what holds at the start of a round over the pairs -/
structure R1 (w wr : World) (dr : Int) (bets : Nat) (q : Rat) (b : Bool) (a1 : Option Addr) (n1 c1 : Nat) (a2 : Option Addr) (n2 c2 : Nat) (bu bs base : Nat) (tu : X3) (unit : Rat) (f : Pt → Rat) (S : Nat → Rat) (m : Nat) (l : List (Pt × Value)) (vo : Value) (ts : List X3) (k : Nat) : Prop where
  low : Below w.heap.size w wr
  bet : Box wr w.heap.size (betA dr bets b a1 n1 c1 a2 n2 c2)
  bok : Bett wr dr bets q b a1 n1 c1 a2 n2 c2
  un : Box wr bu (x3C tu)
  xu : XR wr (x3V tu) unit
  sum : Sum wr bs (S k)
  opn : Open f k wr m l
  own : wr.ownsRow base 93 3 vo (k + 1) (ts.flatMap x3L)
  rq : RowQ (fun u => isWord u = false) wr vo
  tl : ts.length = k + 1
  tv : ∀ (i : Nat) (t : X3), ts[i]? = some t → XR wr (x3V t) (S i)
  l1 : w.heap.size < bu
  l2 : bu < bs
  l3 : bs < base
  l4 : base ≤ wr.heap.size
  lm : w.heap.size ≤ m
theorem Bett.kp {w w' : World} {d : Int} {bets : Nat} {q : Rat} {b : Bool} {a1 : Option Addr} {n1 c1 : Nat} {a2 : Option Addr} {n2 c2 : Nat} (h : Bett w d bets q b a1 n1 c1 a2 n2 c2) (hk : Kp w w') : Bett w' d bets q b a1 n1 c1 a2 n2 c2 :=
  ⟨h.d1, h.d3, h.b1, h.b5, h.need.kp hk, h.s1, h.s2⟩
theorem Next.fr {X : Nat → Prop} {dec : Pt → Bool} {w w' : World} {m : Nat} {C : List (Pt × Rat)} {l : List (Pt × Value)} (h : Next dec w m C l) (hf : Fr X w w') (hX : ¬ X m) : Next dec w' m C l := h.keep (hf.map h.map hX) hf.word
theorem Open.fr {X : Nat → Prop} {f : Pt → Rat} {k : Nat} {w w' : World} {m : Nat} {l : List (Pt × Value)} (h : Open f k w m l) (hf : Fr X w w') (hX : ¬ X m) : Open f k w' m l := ⟨hf.map h.map hX, h.nd, fun p hp => ⟨hf.xr (h.val p hp).1, (h.val p hp).2⟩, h.all, h.len⟩
theorem ownsRow_new (w : World) (A : Array Value) (t : TypeId) (size : Nat) (hs : A.size = size) : (w.alloc (.cells A t)).ownsRow w.heap.size t size (.slice (some ⟨w.heap.size, 0, none⟩) 1 1) 1 A.toList :=
  ⟨by simp [hs], .inr ⟨w.heap.size, 1, A, rfl, Nat.le_refl _, by show (w.heap.push _)[w.heap.size]? = _; simp, Nat.le_refl _, by decide, by simp [hs], by rw [Nat.one_mul, ← hs, ← Array.length_toList, List.take_length]⟩⟩
def seenN (w : World) (it : Nat) : Nat := match w.heap[it]? with | some (.mapIter _ _ seen _) => seen.size | _ => 0
theorem RangeIs.seenN {α β : Type} {kv : α → Value} {vv : β → Value} {w : World} {m it : Nat} {l done : List (α × β)} (h : RangeIs kv vv w m it l done) : seenN w it = done.length := by
  obtain ⟨es, Z, D, R, clock, since, c0, seen, k1, k2, k3, k4, k5, k6, k7, k7', k8, k9, k10, k11⟩ := h
  unfold Ch.seenN
  rw [k2, k11]
  have := congrArg List.length k10
  simpa using this
end Ch
end Go.Proofs.YtilolnjbpokdnaaGreatDoor
