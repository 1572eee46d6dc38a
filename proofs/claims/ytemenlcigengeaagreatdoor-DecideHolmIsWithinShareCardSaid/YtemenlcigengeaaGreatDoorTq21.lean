/- readMiss of package decide. decides of package decide, and the closure that decided hands to walk. The closure that decided hands to walk; walk with it; decided. decided and readTest of package decide. readTest of package decide. The closure that Course hands to walk; walk with it. -/
import Derived.Test.YtemenlcigengeaaGreatDoorTq20
import Derived.Test.YtemenlcigengeaaGreatDoorTq16
import Derived.Test.YtemenlcigengeaaGreatDoorTq03
namespace Go.Proofs.YtemenlcigengeaaGreatDoor
open Go.RowKit
namespace Nm
theorem zero_is (q : Rat) (b : Bool) (hb : decide (q.num = 0) = b) (v : Value) (w : World) (hx : XR w v q) : Calls Tryz.prog 44 #[v] w (BPost w b) := by
  subst hb; exact zero_at q v w hx
theorem xcmp_is (x y : Rat) (z : Int) (hz : cmpQ x y = z) (v u : Value) (w : World) (hx : XR w v x) (hy : XR w u y) (l1 : wlen x.num.natAbs ≤ 100000000) (l2 : wlen x.den ≤ 100000000) (l3 : wlen y.num.natAbs ≤ 100000000) (l4 : wlen y.den ≤ 100000000) : Calls Tryz.prog 55 #[v, u] w (CmpPost w z) := by
  subst hz; exact xcmp_at x y v u w hx hy l1 l2 l3 l4
/-- a miss: between 0 and 1 -/
def okM (q : Rat) : Bool := decide (0 < q.num) && decide (cmpQ q ((1 : Int) : Rat) = -1)
def missF (n d : ByteArray) : Int := if rF n d ≠ 0 then rF n d else if okM (rQ n d) = false then 1 else if longB n d = true then 2 else 0
def MissPost (w : World) (n d : ByteArray) (e : Ending) (w' : World) : Prop := ∃ b a1 n1 c1 a2 n2 c2, e = .returned (.tuple #[.agg #[.bool b, .slice a1 n1 c1, .slice a2 n2 c2], .int .i64 (missF n d)]) ∧ (missF n d = 0 → XR w' (.agg #[.bool b, .slice a1 n1 c1, .slice a2 n2 c2]) (rQ n d)) ∧ Below w.heap.size w w'
set_option maxHeartbeats 8000000 in
theorem readMiss_at (n d : ByteArray) (hn : n.size ≤ maxLen) (hd : d.size ≤ maxLen) (w : World) : Calls Tryz.prog 66 #[.agg #[.string n, .string d]] w (MissPost w n d) := by
  have HW1 := Lib.hid (fun w => whole_at 1 (by decide) (by decide) w)
  go_enter Tryz.func66, Tryz.ntmps66
  go_upto_region 1 with (fail)
  refine wp_box2r fun W hsz hbW hA hC hF => ?_
  have a0 : W.cell? ⟨w.heap.size, 0, none⟩ = some (.string n) := hA.2 0
  have a1 : W.cell? ⟨w.heap.size, 1, none⟩ = some (.string d) := hA.2 1
  clear hsz
  go_wp2_with fail
  refine (checkRatio_at n d hn hd _).mono ?_
  rintro e w1 ⟨rfl, hb1⟩
  have hA1 := hA.ext hb1
  have hC1 := hC.ext hb1
  have hF1 := hF.ext hC hb1
  have hbw1 := ext_trans hbW hb1
  clear hA hC hF hb1 hbW a0 a1
  by_cases hr : rF n d = 0
  · have HR := Lib.hid hr
    have hne : (rF n d != 0) = false := by simp [hr]
    have HMF : Hid (missF n d = if okM (rQ n d) = false then 1 else if longB n d = true then 2 else 0) := by
      have : missF n d = if okM (rQ n d) = false then 1 else if longB n d = true then 2 else 0 := by unfold missF; rw [if_neg (by simp [hr])]
      exact this
    have HS := Lib.hid (miss_small hr)
    have HS1 : Hid (wlen ((1 : Int) : Rat).num.natAbs ≤ 100000000 ∧ wlen ((1 : Int) : Rat).den ≤ 100000000) := ⟨Nat.le_trans (wlen_one (show 1 < B by decide)) (by decide), Nat.le_trans (wlen_one (show 1 < B by decide)) (by decide)⟩
    have a0 : w1.cell? ⟨w.heap.size, 0, none⟩ = some (.string n) := hA1.2 0
    have a1 : w1.cell? ⟨w.heap.size, 1, none⟩ = some (.string d) := hA1.2 1
    clear hr
    go_wp2_with fail
    refine (xratOfP_at n d hn hd HR.out _).mono ?_
    rintro e w2 ⟨v, rfl, hx, hb2⟩
    obtain ⟨q1, k1, q2, k2, rfl, _, _⟩ := hx.open_
    have HB : Hid (XR w2 (.agg #[.bool (decide ((rQ n d).num < 0)), .slice q1 (digs (rQ n d).num.natAbs).length k1, .slice q2 (digs (rQ n d).den).length k2]) (rQ n d)) := hx
    clear hx
    generalize hbv : decide ((rQ n d).num < 0) = b at HB ⊢
    generalize (digs (rQ n d).num.natAbs).length = n1 at HB ⊢
    generalize (digs (rQ n d).den).length = n2 at HB ⊢
    have HBV := Lib.hid hbv
    have hA2 := hA1.ext hb2
    have hC2 := hC1.ext hb2
    have hF2 := hF1.ext hC1 hb2
    have hbw2 := ext_trans hbw1 hb2
    clear hA1 hC1 hF1 hb2 hbw1 a0 hbv
    go_upto_region 5 with (fail)
    refine wp_box1 fun X hszX hbX hX => ?_
    have x0 : X.cell? ⟨w2.heap.size, 0, none⟩ = some (.bool b) := hX.2 0
    have HX := Lib.hid (HB.out.ext hbX)
    have hAX := hA2.ext hbX
    have hCX := hC2.ext hbX
    have hFX := hF2.ext hC2 hbX
    have hbwX := ext_trans hbw2 hbX
    clear hszX hA2 hC2 hF2 hbw2 hbX HB
    by_cases h1 : (rQ n d).num < 0
    · have HM1 : Hid (missF n d = 1) := by
        have h2 := HMF.out
        have h3 : okM (rQ n d) = false := by unfold okM; rw [Bool.and_eq_false_iff]; left; exact decide_eq_false (by omega)
        rw [if_pos h3] at h2; exact h2
      obtain rfl : b = true := by have := HBV.out; rw [← this]; exact decide_eq_true h1
      clear h1 HBV HMF
      go_quiet (fail)
      have hb3 := Lib.hid (below_drewN (Below.refl X.heap.size X) nq)
      have hC3 := hCX.ext hb3.out
      have hF3 := hFX.ext hCX hb3.out
      have hbw3 := ext_trans hbwX hb3.out
      obtain ⟨r0, r1, r2⟩ := boxX hC3
      have hq := three_set (.bool false) (.slice none 0 0) (.slice none 0 0) (hC3.2 0) (hC3.2 1) (hC3.2 2)
      have g0 := hF3 0
      have g1 := hF3 1
      have g2 := hF3 2
      have hbF := Lib.hid (((hbw3.setCell (p := ⟨w.heap.size + 1, 0, none⟩) (Nat.le_succ _) (.bool false)).setCell (p := ⟨w.heap.size + 1, 1, none⟩) (Nat.le_succ _) (.slice none 0 0)).setCell (p := ⟨w.heap.size + 1, 2, none⟩) (Nat.le_succ _) (.slice none 0 0))
      go_wp2
      exact bodyPost_ret (v := .tuple #[.agg #[.bool false, .slice none 0 0, .slice none 0 0], .int .i64 1]) (by simp [results, Tryz.results66, go_sem, hq.1, hq.2.1, hq.2.2]) rfl ⟨_, _, _, _, _, _, _, by rw [HM1.out], (fun h => by rw [HM1.out] at h; first | exact absurd h HNE.out | cases h), hbF.out⟩
    obtain rfl : b = false := by have := HBV.out; rw [← this]; exact decide_eq_false h1
    by_cases h0 : (rQ n d).num = 0
    · have HM1 : Hid (missF n d = 1) := by
        have h2 := HMF.out
        have h3 : okM (rQ n d) = false := by unfold okM; rw [Bool.and_eq_false_iff]; left; exact decide_eq_false (by omega)
        rw [if_pos h3] at h2; exact h2
      have HZ := Lib.hid (show decide ((rQ n d).num = 0) = true from decide_eq_true h0)
      clear h1 h0 HBV HMF
      have x1 : X.cell? ⟨w2.heap.size, 1, none⟩ = some (.slice q1 n1 k1) := hX.2 1
      have x2 : X.cell? ⟨w2.heap.size, 2, none⟩ = some (.slice q2 n2 k2) := hX.2 2
      go_region_with (first | (go_at_call 44; refine (zero_is (rQ n d) true HZ.out _ _ (HX.out.ext (Below.refl X.heap.size X).drew)).mono ?_; rintro e w4 ⟨rfl, hb4⟩; have hc4 := Lib.hid (ext_trans (Below.refl X.heap.size X).drew hb4)))
      all_goals
        have hC4 := hCX.ext hc4.out
        have hF4 := hFX.ext hCX hc4.out
        have hbw4 := ext_trans hbwX hc4.out
        obtain ⟨r0, r1, r2⟩ := boxX hC4
        have hq := three_set (.bool false) (.slice none 0 0) (.slice none 0 0) (hC4.2 0) (hC4.2 1) (hC4.2 2)
        have g0 := hF4 0
        have g1 := hF4 1
        have g2 := hF4 2
        have hbF := Lib.hid (((hbw4.setCell (p := ⟨w.heap.size + 1, 0, none⟩) (Nat.le_succ _) (.bool false)).setCell (p := ⟨w.heap.size + 1, 1, none⟩) (Nat.le_succ _) (.slice none 0 0)).setCell (p := ⟨w.heap.size + 1, 2, none⟩) (Nat.le_succ _) (.slice none 0 0))
        go_wp2
        exact bodyPost_ret (v := .tuple #[.agg #[.bool false, .slice none 0 0, .slice none 0 0], .int .i64 1]) (by simp [results, Tryz.results66, go_sem, hq.1, hq.2.1, hq.2.2]) rfl ⟨_, _, _, _, _, _, _, by rw [HM1.out], (fun h => by rw [HM1.out] at h; first | exact absurd h HNE.out | cases h), hbF.out⟩
    have HZ := Lib.hid (show decide ((rQ n d).num = 0) = false from decide_eq_false h0)
    have HP := Lib.hid (show 0 < (rQ n d).num by omega)
    clear h1 h0 HBV
    rcases cmpQ_range (rQ n d) ((1 : Int) : Rat) with hz | hz | hz
    · have HCQ := Lib.hid hz
      have HM2 : Hid (missF n d = if longB n d = true then 2 else 0) := by
        have h2 := HMF.out
        have h3 : okM (rQ n d) = true := by unfold okM; rw [Bool.and_eq_true]; exact ⟨decide_eq_true HP.out, decide_eq_true HCQ.out⟩
        rw [if_neg (by simp [h3])] at h2; exact h2
      clear hz HMF
      go_region_held3 (S2R X X.heap.size w2.heap.size #[Value.bool false, Value.slice q1 n1 k1, Value.slice q2 n2 k2] w2.heap.size #[Value.bool false, Value.slice q1 n1 k1, Value.slice q2 n2 k2]) (first | exact S2R.start hX hX | exact S2R.ext (by with_reducible assumption) (by with_reducible assumption) (Nat.le_refl _) hX hX | assumption) (first | (go_at_call 44; refine (zero_is (rQ n d) false HZ.out _ _ (HX.out.ext (Below.refl X.heap.size X).drew)).mono ?_; rintro e w4 ⟨rfl, hb4⟩; have hc4 := Lib.hid (ext_trans (Below.refl X.heap.size X).drew hb4)) | (go_at_call 40; refine (HW1.out _).mono ?_; rintro e w5 ⟨vw, rfl, hvw, hb5⟩; have hc5 := Lib.hid (ext_trans hc4.out hb5); obtain ⟨p5, k5, p6, k6, rfl, _, _⟩ := hvw.open_; have HVW := Lib.hid hvw; clear hvw) | (go_at_call 55; refine (xcmp_is (rQ n d) ((1 : Int) : Rat) (-1) HCQ.out _ _ _ (HX.out.ext hc5.out) HVW.out (by have := HS.out; omega) (by have := HS.out; omega) HS1.out.1 HS1.out.2).mono ?_; rintro e w6 ⟨rfl, hb6⟩; have hc6 := Lib.hid (ext_trans hc5.out hb6)))
      have hC6 := hCX.ext hc6.out
      have hF6 := hFX.ext hCX hc6.out
      have hbw6 := ext_trans hbwX hc6.out
      have hA6 := hAX.ext hc6.out
      have hX6 := hX.ext hc6.out
      have a0 : w6.cell? ⟨w.heap.size, 0, none⟩ = some (.string n) := hA6.2 0
      have a1' : w6.cell? ⟨w.heap.size, 1, none⟩ = some (.string d) := hA6.2 1
      have HX6 := Lib.hid (HX.out.ext hc6.out)
      clear hCX hFX hbwX hX hAX
      go_wp2_with fail
      refine (long_at n d hn hd _).mono ?_
      rintro e w7 ⟨rfl, hb7⟩
      have hC7 := hC6.ext hb7
      have hF7 := hF6.ext hC6 hb7
      have hbw7 := ext_trans hbw6 hb7
      have hX7 := hX6.ext hb7
      have HX7 := Lib.hid (HX6.out.ext hb7)
      clear hC6 hF6 hbw6 hX6 hA6 hb7 a0 a1'
      by_cases hl : longB n d = true
      · have HM3 : Hid (missF n d = 2) := by have := HM2.out; rw [if_pos hl] at this; exact this
        rw [hl]
        clear hl HM2
        obtain ⟨r0, r1, r2⟩ := boxX hC7
        have hq := three_set (.bool false) (.slice none 0 0) (.slice none 0 0) (hC7.2 0) (hC7.2 1) (hC7.2 2)
        have g0 := hF7 0
        have g1 := hF7 1
        have g2 := hF7 2
        have hbF := Lib.hid (((hbw7.setCell (p := ⟨w.heap.size + 1, 0, none⟩) (Nat.le_succ _) (.bool false)).setCell (p := ⟨w.heap.size + 1, 1, none⟩) (Nat.le_succ _) (.slice none 0 0)).setCell (p := ⟨w.heap.size + 1, 2, none⟩) (Nat.le_succ _) (.slice none 0 0))
        go_wp2
        exact bodyPost_ret (v := .tuple #[.agg #[.bool false, .slice none 0 0, .slice none 0 0], .int .i64 2]) (by simp [results, Tryz.results66, go_sem, hq.1, hq.2.1, hq.2.2]) rfl ⟨_, _, _, _, _, _, _, by rw [HM3.out], (fun h => by rw [HM3.out] at h; first | exact absurd h HNE.out | cases h), hbF.out⟩
      · have HM3 : Hid (missF n d = 0) := by have := HM2.out; rw [if_neg hl] at this; exact this
        have hl' : longB n d = false := by simpa using hl
        rw [hl']
        clear hl hl' HM2
        obtain ⟨v1, v2, hv, hn1, hn2⟩ := id HX7.out
        have HV := Lib.hid hv
        have e1 : Value.slice q1 n1 k1 = v1 := by have := HV.out; simp at this; exact this.2.1
        have e2 : Value.slice q2 n2 k2 = v2 := by have := HV.out; simp at this; exact this.2.2
        have HE := Lib.hid (show false = decide ((rQ n d).num < 0) by have := HV.out; simp at this ⊢; exact this.1)
        subst e1 e2
        have b0 : w7.cell? ⟨w2.heap.size, 0, none⟩ = some (.bool false) := hX7.2 0
        have b1 : w7.cell? ⟨w2.heap.size, 1, none⟩ = some (.slice q1 n1 k1) := hX7.2 1
        have b2 : w7.cell? ⟨w2.heap.size, 2, none⟩ = some (.slice q2 n2 k2) := hX7.2 2
        have g0 := hF7 0
        have g1 := hF7 1
        have g2 := hF7 2
        obtain ⟨r0, r1, r2⟩ := boxX hC7
        obtain ⟨y1, y2, y3, z0, z1, z2⟩ := res3 false hC7 hn1 hn2 hbw7 (Nat.le_succ _)
        have HK := Lib.hid (And.intro y1 (And.intro y2 y3))
        clear y1 y2 y3 hv hC7 hF7 hbw7 hn1 hn2 hX7
        go_wp2
        exact bodyPost_ret (v := .tuple #[.agg #[.bool false, .slice q1 n1 k1, .slice q2 n2 k2], .int .i64 0]) (by simp [results, Tryz.results66, go_sem, z0, z1, z2]) rfl ⟨_, _, _, _, _, _, _, by rw [HM3.out], (fun _ => ⟨_, _, by rw [HE.out], HK.out.1, HK.out.2.1⟩), HK.out.2.2⟩
    · have HCQ := Lib.hid hz
      have HM1 : Hid (missF n d = 1) := by
        have h2 := HMF.out
        have h3 : okM (rQ n d) = false := by unfold okM; rw [Bool.and_eq_false_iff]; right; rw [HCQ.out]; rfl
        rw [if_pos h3] at h2; exact h2
      clear hz HMF
      go_region_held3 (S2R X X.heap.size w2.heap.size #[Value.bool false, Value.slice q1 n1 k1, Value.slice q2 n2 k2] w2.heap.size #[Value.bool false, Value.slice q1 n1 k1, Value.slice q2 n2 k2]) (first | exact S2R.start hX hX | exact S2R.ext (by with_reducible assumption) (by with_reducible assumption) (Nat.le_refl _) hX hX | assumption) (first | (go_at_call 44; refine (zero_is (rQ n d) false HZ.out _ _ (HX.out.ext (Below.refl X.heap.size X).drew)).mono ?_; rintro e w4 ⟨rfl, hb4⟩; have hc4 := Lib.hid (ext_trans (Below.refl X.heap.size X).drew hb4)) | (go_at_call 40; refine (HW1.out _).mono ?_; rintro e w5 ⟨vw, rfl, hvw, hb5⟩; have hc5 := Lib.hid (ext_trans hc4.out hb5); obtain ⟨p5, k5, p6, k6, rfl, _, _⟩ := hvw.open_; have HVW := Lib.hid hvw; clear hvw) | (go_at_call 55; refine (xcmp_is (rQ n d) ((1 : Int) : Rat) 0 HCQ.out _ _ _ (HX.out.ext hc5.out) HVW.out (by have := HS.out; omega) (by have := HS.out; omega) HS1.out.1 HS1.out.2).mono ?_; rintro e w6 ⟨rfl, hb6⟩; have hc6 := Lib.hid (ext_trans hc5.out hb6)))
      have hC6 := hCX.ext hc6.out
      have hF6 := hFX.ext hCX hc6.out
      have hbw6 := ext_trans hbwX hc6.out
      obtain ⟨r0, r1, r2⟩ := boxX hC6
      have hq := three_set (.bool false) (.slice none 0 0) (.slice none 0 0) (hC6.2 0) (hC6.2 1) (hC6.2 2)
      have g0 := hF6 0
      have g1 := hF6 1
      have g2 := hF6 2
      have hbF := Lib.hid (((hbw6.setCell (p := ⟨w.heap.size + 1, 0, none⟩) (Nat.le_succ _) (.bool false)).setCell (p := ⟨w.heap.size + 1, 1, none⟩) (Nat.le_succ _) (.slice none 0 0)).setCell (p := ⟨w.heap.size + 1, 2, none⟩) (Nat.le_succ _) (.slice none 0 0))
      go_wp2
      exact bodyPost_ret (v := .tuple #[.agg #[.bool false, .slice none 0 0, .slice none 0 0], .int .i64 1]) (by simp [results, Tryz.results66, go_sem, hq.1, hq.2.1, hq.2.2]) rfl ⟨_, _, _, _, _, _, _, by rw [HM1.out], (fun h => by rw [HM1.out] at h; first | exact absurd h HNE.out | cases h), hbF.out⟩
    · have HCQ := Lib.hid hz
      have HM1 : Hid (missF n d = 1) := by
        have h2 := HMF.out
        have h3 : okM (rQ n d) = false := by unfold okM; rw [Bool.and_eq_false_iff]; right; rw [HCQ.out]; rfl
        rw [if_pos h3] at h2; exact h2
      clear hz HMF
      go_region_held3 (S2R X X.heap.size w2.heap.size #[Value.bool false, Value.slice q1 n1 k1, Value.slice q2 n2 k2] w2.heap.size #[Value.bool false, Value.slice q1 n1 k1, Value.slice q2 n2 k2]) (first | exact S2R.start hX hX | exact S2R.ext (by with_reducible assumption) (by with_reducible assumption) (Nat.le_refl _) hX hX | assumption) (first | (go_at_call 44; refine (zero_is (rQ n d) false HZ.out _ _ (HX.out.ext (Below.refl X.heap.size X).drew)).mono ?_; rintro e w4 ⟨rfl, hb4⟩; have hc4 := Lib.hid (ext_trans (Below.refl X.heap.size X).drew hb4)) | (go_at_call 40; refine (HW1.out _).mono ?_; rintro e w5 ⟨vw, rfl, hvw, hb5⟩; have hc5 := Lib.hid (ext_trans hc4.out hb5); obtain ⟨p5, k5, p6, k6, rfl, _, _⟩ := hvw.open_; have HVW := Lib.hid hvw; clear hvw) | (go_at_call 55; refine (xcmp_is (rQ n d) ((1 : Int) : Rat) 1 HCQ.out _ _ _ (HX.out.ext hc5.out) HVW.out (by have := HS.out; omega) (by have := HS.out; omega) HS1.out.1 HS1.out.2).mono ?_; rintro e w6 ⟨rfl, hb6⟩; have hc6 := Lib.hid (ext_trans hc5.out hb6)))
      have hC6 := hCX.ext hc6.out
      have hF6 := hFX.ext hCX hc6.out
      have hbw6 := ext_trans hbwX hc6.out
      obtain ⟨r0, r1, r2⟩ := boxX hC6
      have hq := three_set (.bool false) (.slice none 0 0) (.slice none 0 0) (hC6.2 0) (hC6.2 1) (hC6.2 2)
      have g0 := hF6 0
      have g1 := hF6 1
      have g2 := hF6 2
      have hbF := Lib.hid (((hbw6.setCell (p := ⟨w.heap.size + 1, 0, none⟩) (Nat.le_succ _) (.bool false)).setCell (p := ⟨w.heap.size + 1, 1, none⟩) (Nat.le_succ _) (.slice none 0 0)).setCell (p := ⟨w.heap.size + 1, 2, none⟩) (Nat.le_succ _) (.slice none 0 0))
      go_wp2
      exact bodyPost_ret (v := .tuple #[.agg #[.bool false, .slice none 0 0, .slice none 0 0], .int .i64 1]) (by simp [results, Tryz.results66, go_sem, hq.1, hq.2.1, hq.2.2]) rfl ⟨_, _, _, _, _, _, _, by rw [HM1.out], (fun h => by rw [HM1.out] at h; first | exact absurd h HNE.out | cases h), hbF.out⟩
  · have HNE := Lib.hid hr
    have hne : (rF n d != 0) = true := by simp [hr]
    have HMF : Hid (missF n d = rF n d) := by
      have : missF n d = rF n d := by unfold missF; rw [if_pos hr]
      exact this
    clear hr
    obtain ⟨r0, r1, r2⟩ := boxX hC1
    have hq := three_set (.bool false) (.slice none 0 0) (.slice none 0 0) (hC1.2 0) (hC1.2 1) (hC1.2 2)
    have g0 := hF1 0
    have g1 := hF1 1
    have g2 := hF1 2
    have hbF := Lib.hid (((hbw1.setCell (p := ⟨w.heap.size + 1, 0, none⟩) (Nat.le_succ _) (.bool false)).setCell (p := ⟨w.heap.size + 1, 1, none⟩) (Nat.le_succ _) (.slice none 0 0)).setCell (p := ⟨w.heap.size + 1, 2, none⟩) (Nat.le_succ _) (.slice none 0 0))
    go_wp2
    exact bodyPost_ret (v := .tuple #[.agg #[.bool false, .slice none 0 0, .slice none 0 0], .int .i64 (rF n d)]) (by simp [results, Tryz.results66, go_sem, hq.1, hq.2.1, hq.2.2]) rfl ⟨_, _, _, _, _, _, _, by rw [HMF.out], (fun h => by rw [HMF.out] at h; first | exact absurd h HNE.out | cases h), hbF.out⟩
end Nm
end Go.Proofs.YtemenlcigengeaaGreatDoor
namespace Go.Proofs.YtemenlcigengeaaGreatDoor
open Go.RowKit
namespace Nm
/-- a bettor that lies in memory -/
structure Bett (w : World) (d : Int) (bets : Nat) (q : Rat) (b : Bool) (a1 : Option Addr) (n1 c1 : Nat) (a2 : Option Addr) (n2 c2 : Nat) : Prop where
  d1 : 1 ≤ d
  d3 : d ≤ 3
  b1 : 1 ≤ bets
  b5 : bets ≤ 5
  need : XR w (.agg #[.bool b, .slice a1 n1 c1, .slice a2 n2 c2]) q
  s1 : wlen q.num.natAbs ≤ 4000
  s2 : wlen q.den ≤ 4000
theorem Bett.ext {w w' : World} {d : Int} {bets : Nat} {q : Rat} {b : Bool} {a1 : Option Addr} {n1 c1 : Nat} {a2 : Option Addr} {n2 c2 : Nat} (h : Bett w d bets q b a1 n1 c1 a2 n2 c2) (hb : Below w.heap.size w w') : Bett w' d bets q b a1 n1 c1 a2 n2 c2 :=
  ⟨h.d1, h.d3, h.b1, h.b5, h.need.ext hb, h.s1, h.s2⟩
end Nm
end Go.Proofs.YtemenlcigengeaaGreatDoor
namespace Go.Proofs.YtemenlcigengeaaGreatDoor
open Go.RowKit
namespace Nm
/-- what the closure finds: the bettor's box, and the variable's -/
structure CE (w0 w : World) (bB bAt : Nat) (A : Array Value) (z : Int) : Prop where
  base : Below w0.heap.size w0 w
  box : Box w bB A
  at_ : Box w bAt #[.int .i64 z]
  fre : Fre w bAt
  le : w0.heap.size ≤ bAt
  ne : bB ≠ bAt
theorem CE.ext {w0 w w' : World} {bB bAt : Nat} {A : Array Value} {z : Int} (h : CE w0 w bB bAt A z) (hb : Below w.heap.size w w') : CE w0 w' bB bAt A z :=
  ⟨ext_trans h.base hb, h.box.ext hb, h.at_.ext hb, h.fre.ext h.at_ hb, h.le, h.ne⟩
theorem one_box {w : World} {b : Nat} {z y : Value} (h : Box w b #[z]) : Box (w.setCell ⟨b, 0, none⟩ y) b #[y] := by
  refine ⟨by simpa [World.setCell] using h.1, fun j => ?_⟩
  by_cases e : j = 0
  · subst e
    rw [World.cell?_setCell_same _ _ _ (h.2 0)]; rfl
  · rw [World.cell?_setCell_other _ _ _ _ (by intro e'; cases e'; exact e rfl), h.2 j]
    obtain ⟨k, rfl⟩ : ∃ k, j = k + 1 := ⟨j - 1, by omega⟩
    simp
theorem CE.set {w0 w : World} {bB bAt : Nat} {A : Array Value} {z : Int} (h : CE w0 w bB bAt A z) (y : Int) : CE w0 (w.setCell ⟨bAt, 0, none⟩ (.int .i64 y)) bB bAt A y := by
  refine ⟨h.base.setCell h.le _, ?_, one_box h.at_, fun j => by simp; exact h.fre j, h.le, h.ne⟩
  exact ⟨by simpa [World.setCell] using h.box.1, fun j => by rw [World.cell?_setCell_other _ _ _ _ (by intro e; cases e; exact h.ne rfl)]; exact h.box.2 j⟩
end Nm
end Go.Proofs.YtemenlcigengeaaGreatDoor
namespace Go.Proofs.YtemenlcigengeaaGreatDoor
open Go.RowKit
theorem box_cell {w : World} {b : Nat} {A : Array Value} (h : Box w b A) {j : Nat} (hj : j < A.size) (u : Value) : Box (w.setCell ⟨b, j, none⟩ u) b (A.setIfInBounds j u) := by
  refine ⟨by simpa [World.setCell] using h.1, fun i => ?_⟩
  by_cases e : i = j
  · subst e
    rw [World.cell?_setCell_same _ _ _ ((h.2 i).trans (Array.getElem?_eq_getElem hj))]
    simp [hj]
  · rw [World.cell?_setCell_other _ _ _ _ (by intro e'; cases e'; exact e rfl), h.2 i, Array.getElem?_setIfInBounds_ne (fun e' => e e'.symm)]
theorem box_other {w : World} {b b' : Nat} {A : Array Value} (h : Box w b A) (hne : b ≠ b') (j : Nat) (u : Value) : Box (w.setCell ⟨b', j, none⟩ u) b A :=
  ⟨by simpa [World.setCell] using h.1, fun i => by rw [World.cell?_setCell_other _ _ _ _ (by intro e; cases e; exact hne rfl)]; exact h.2 i⟩
namespace Nm
end Nm
end Go.Proofs.YtemenlcigengeaaGreatDoor
namespace Go.Proofs.YtemenlcigengeaaGreatDoor
open Go.RowKit
namespace Nm
theorem five {w : World} {b : Nat} {x0 x1 x2 x3 x4 : Value} (u0 u1 u2 u3 u4 : Value) (h : Box w b #[x0, x1, x2, x3, x4]) : Box (((((w.setCell ⟨b, 0, none⟩ u0).setCell ⟨b, 1, none⟩ u1).setCell ⟨b, 2, none⟩ u2).setCell ⟨b, 3, none⟩ u3).setCell ⟨b, 4, none⟩ u4) b #[u0, u1, u2, u3, u4] :=
  box_cell (box_cell (box_cell (box_cell (box_cell h (j := 0) (by simp) u0) (j := 1) (by simp) u1) (j := 2) (by simp) u2) (j := 3) (by simp) u3) (j := 4) (by simp) u4
theorem missF_ok {n m : ByteArray} (h : missF n m = 0) : rF n m = 0 ∧ 0 < (rQ n m).num := by
  unfold missF at h
  by_cases h1 : rF n m = 0
  · rw [if_neg (by simp [h1])] at h
    refine ⟨h1, ?_⟩
    by_cases h2 : okM (rQ n m) = false
    · rw [if_pos h2] at h; cases h
    · have h3 : okM (rQ n m) = true := by simpa using h2
      unfold okM at h3
      rw [Bool.and_eq_true] at h3
      simpa using h3.1
  · rw [if_pos h1] at h; exact absurd h h1
end Nm
end Go.Proofs.YtemenlcigengeaaGreatDoor
namespace Go.Proofs.YtemenlcigengeaaGreatDoor
open Go.RowKit
namespace Nm
def Keeps (w w' : World) : Prop := ∀ a v, w.cell? a = some v → w'.cell? a = some v
theorem Keeps.refl (w : World) : Keeps w w := fun _ _ h => h
theorem Keeps.of_below {w w' : World} (h : Below w.heap.size w w') : Keeps w w' := fun a _ hc => (h.cell (p := a) (World.block_lt_of_cell? w a hc)).trans hc
theorem Keeps.trans {a b c : World} (h : Keeps a b) (k : Keeps b c) : Keeps a c := fun x v hx => k x v (h x v hx)
theorem Sl.keep {w w' : World} {v : Value} {n : Nat} {cs : List Value} (h : Sl w v n cs) (hk : Keeps w w') : Sl w' v n cs := by
  obtain ⟨a, cap, hv, h1, h2, h0, h3⟩ := h
  refine ⟨a, cap, hv, h1, h2, h0, fun i x hx => ?_⟩
  obtain ⟨b, o, ha, hc⟩ := h3 i x hx
  exact ⟨b, o, ha, hk _ _ hc⟩
structure CO (w0 wp w : World) (bB bE bO base : Nat) (A : Array Value) (v : Value) (n : Nat) (cs : List Value) : Prop where
  low : Below w0.heap.size w0 w
  box : Box w bB A
  e : Box w bE #[.int .i64 0]
  fe : Fre w bE
  o : Box w bO #[v]
  fo : Fre w bO
  own : w.ownsRow base 23 2 v n cs
  l1 : w0.heap.size ≤ bE
  l2 : w0.heap.size ≤ bO
  l3 : w0.heap.size ≤ base
  t1 : bB < base
  t2 : bE < base
  t3 : bO < base
  n1 : bB ≠ bE
  n2 : bB ≠ bO
  n3 : bE ≠ bO
  bs : base ≤ w.heap.size
  kp : Keeps wp w
  p1 : wp.heap.size ≤ bO
  p2 : wp.heap.size ≤ base
theorem CO.ext {w0 wp w w' : World} {bB bE bO base : Nat} {A : Array Value} {v : Value} {n : Nat} {cs : List Value} (h : CO w0 wp w bB bE bO base A v n cs) (hb : Below w.heap.size w w') : CO w0 wp w' bB bE bO base A v n cs :=
  ⟨ext_trans h.low hb, h.box.ext hb, h.e.ext hb, h.fe.ext h.e hb, h.o.ext hb, h.fo.ext h.o hb, ownsRow_ext h.own hb, h.l1, h.l2, h.l3, h.t1, h.t2, h.t3, h.n1, h.n2, h.n3, Nat.le_trans h.bs hb.size, h.kp.trans (.of_below hb), h.p1, h.p2⟩
theorem CO.push {w0 wp w w' : World} {bB bE bO base : Nat} {A : Array Value} {v v' : Value} {n n' : Nat} {cs cs' : List Value} (h : CO w0 wp w bB bE bO base A v n cs) (hown : w'.ownsRow base 23 2 v' n' cs') (hg : w.grownBy w' v.ownBlock) : CO w0 wp (w'.setCell ⟨bO, 0, none⟩ v') bB bE bO base A v' n' cs' := by
  have hr : ∀ (x : Nat), x < base → ∀ q, v.ownBlock = some q → q ≠ x := fun x hx q e => by have := (h.own.lt q e).1; omega
  have hlow := h.low.grown hg h.low.size (fun q e => by have := (h.own.lt q e).1; have := h.l3; omega)
  exact ⟨hlow.setCell h.l2 _, box_other (box_grown hg h.box (hr _ h.t1)) h.n2 _ _, box_other (box_grown hg h.e (hr _ h.t2)) h.n3 _ _, fre_set (fre_grown h.fe h.e.1 hg (hr _ h.t2)) _ _, one_box (box_grown hg h.o (hr _ h.t3)), fre_set (fre_grown h.fo h.o.1 hg (hr _ h.t3)) _ _, ownsRow_far hown h.t3 _, h.l1, h.l2, h.l3, h.t1, h.t2, h.t3, h.n1, h.n2, h.n3, Nat.le_trans h.bs (by have := hg.size; simpa [World.setCell] using this), (fun a u hc => by
    have hlt := World.block_lt_of_cell? wp a hc
    have hb : a.block ≠ bO := by have := h.p1; omega
    rw [World.cell?_setCell_other _ _ _ _ (by intro e; exact hb (by rw [← e]))]
    exact hg.cell (h.kp a u hc) (fun e => by have := (h.own.lt _ e.symm).1; have := h.p2; omega)), h.p1, h.p2⟩
theorem ownsRow_ne {w : World} {base e size n : Nat} {v : Value} {xs : List Value} (h : w.ownsRow base e size v n xs) {p : Addr} (hp : ∀ q, v.ownBlock = some q → q ≠ p.block) (u : Value) : (w.setCell p u).ownsRow base e size v n xs := by
  refine h.kept (row := some p.block) ⟨rfl, rfl, rfl, by simp [World.setCell], fun k hk hne => Below.heap_setCell w p u k (fun e => hne (by rw [e]))⟩ ?_
  cases e : v.ownBlock with
  | none => exact .inl rfl
  | some k => exact .inr (fun e' => by cases e'; exact hp _ e rfl)
theorem CO.far {w0 wp w : World} {bB bE bO base : Nat} {A : Array Value} {v : Value} {n : Nat} {cs : List Value} (h : CO w0 wp w bB bE bO base A v n cs) {r : Nat} (j : Nat) (hr : base ≤ r) (hv : ∀ q, v.ownBlock = some q → q ≠ r) (u : Value) : CO w0 wp (w.setCell ⟨r, j, none⟩ u) bB bE bO base A v n cs := by
  have h1 := h.t1
  have h2 := h.t2
  have h3 := h.t3
  have h4 := h.l3
  exact ⟨h.low.setCell (Nat.le_trans h4 hr) _, box_other h.box (by omega) _ _, box_other h.e (by omega) _ _, fre_set h.fe _ _, box_other h.o (by omega) _ _, fre_set h.fo _ _, ownsRow_ne h.own hv _, h.l1, h.l2, h.l3, h.t1, h.t2, h.t3, h.n1, h.n2, h.n3, by simpa [World.setCell] using h.bs, (fun a v' hc => by
    have hlt := World.block_lt_of_cell? wp a hc
    have hb : a.block ≠ r := by have := h.p2; omega
    rw [World.cell?_setCell_other _ _ _ _ (by intro e; exact hb (by rw [← e]))]
    exact h.kp a v' hc), h.p1, h.p2⟩
end Nm
end Go.Proofs.YtemenlcigengeaaGreatDoor
