/- The reference's Value. -/
import Derived.Test.YtbbfdkjamjmbmaaSample
namespace Go.Proofs.Ytbbfdkjamjmbmaa
open Go.RowKit
set_option maxHeartbeats 2000000 in
theorem ref8_Value (m : Met) (hm : m.ok) (s : Sub) (w : World) : Calls Try.prog 8 #[.agg (metC m), .agg (subC s)] w (ValuePost m s w) := by
  go_enter Try.func8, Try.ntmps8
  go_upto_region 1 with (fail)
  refine wp_box3r fun W hsz hbW hA hB hC hF => ?_
  obtain ⟨_, hA2⟩ := id hA
  go_wp2_with fail
  refine (ref8_Check m hm _).mono ?_
  rintro e w1 ⟨rfl, hb1⟩
  have hA1 := hA.ext hb1
  have hB1 := hB.ext hb1
  have hC1 := hC.ext hb1
  have hF1 := hF.ext hC hb1
  have hbw1 := ext_trans hbW hb1
  clear hA2 hA hB hC hF hb1 hbW
  by_cases h0 : checkM m = 0
  · have hne : (checkM m != 0) = false := by simp [h0]
    have H0 := Lib.hid h0
    clear h0
    obtain ⟨_, hB2⟩ := id hB1
    go_wp2_with fail
    refine (ref8_checkSubject s _).mono ?_
    rintro e w2 ⟨rfl, hb2⟩
    have hA2 := hA1.ext hb2
    have hB2' := hB1.ext hb2
    have hC2 := hC1.ext hb2
    have hF2 := hF1.ext hC1 hb2
    have hbw2 := ext_trans hbw1 hb2
    clear hB2 hA1 hB1 hC1 hF1 hb2 hbw1
    by_cases h1 : checkS s = 0
    · have hne1 : (checkS s != 0) = false := by simp [h1]
      have hvf : valF m s = 0 := by unfold valF; rw [if_pos H0.out, h1]
      have HV := Lib.hid hvf
      clear h1 hvf
      have tok1 : True := trivial
      have HX := Lib.hid (show countedM m s.count s.sum = pairX m s from rfl)
      have HY := Lib.hid (show countedM m s.early s.earlySum = pairY m s from rfl)
      have hsz2 : w.heap.size + 2 ≤ w2.heap.size := by have := hC2.1; omega
      go_wp2_with fail
      go_region_held3 (S2R w2 (w.heap.size + 2) w.heap.size (metC m) (w.heap.size + 1) (subC s)) (first | exact S2R.start hA2 hB2' | exact S2R.ext (by with_reducible assumption) (by with_reducible assumption) (by omega) hA2 hB2' | exact S2R.set (S2R.set (by assumption) (by simp) (by omega) (by omega)) (by simp) (by omega) (by omega) | assumption) (first | (have _t := tok1; go_at_call 28; refine (ref8_valued m H0.out s.count s.sum _).mono ?_; rw [HX.out]; rintro e w3 ⟨rfl, hb3⟩; have hc3 := Lib.hid (ext_trans (Below.refl w2.heap.size w2).drew hb3); clear tok1) | (go_at_call 28; refine (ref8_valued m H0.out s.early s.earlySum _).mono ?_; rw [HY.out]; rintro e w4 ⟨rfl, hb4⟩; have hc4 := Lib.hid (ext_trans hc3.out hb4); have r0 := (hC2.ext hc4.out).2 0; have r1 := (hC2.ext hc4.out).2 1; have g0 := (hF2.ext hC2 hc4.out) 0; have g1 := (hF2.ext hC2 hc4.out) 1))
      have hq := two_set (.int .i64 (pairX m s)) (.int .i64 (pairY m s)) r0 r1
      have hbF : Below w.heap.size w ((w4.setCell ⟨w.heap.size + 2, 0, none⟩ (.int .i64 (pairX m s))).setCell ⟨w.heap.size + 2, 1, none⟩ (.int .i64 (pairY m s))) := ((ext_trans hbw2 hc4.out).setCell (by simp) _).setCell (by simp) _
      go_wp2
      refine bodyPost_ret (v := .tuple #[.agg #[.int .i64 (pairX m s), .int .i64 (pairY m s)], .int .i64 (0)]) (by simp [results, Try.results8, go_sem, hq.1, hq.2]) rfl ⟨?_, hbF⟩
      simp [valX, valY, HV.out]
    · have hne1 : (checkS s != 0) = true := by simp [h1]
      have hvf : valF m s = checkS s := by unfold valF; rw [if_pos H0.out]
      have HV := Lib.hid hvf
      have H1 := Lib.hid h1
      clear h1 hvf
      have r0 := hC2.2 0
      have r1 := hC2.2 1
      have g0 := hF2 0
      have g1 := hF2 1
      have hq := two_set (.int .i64 (0)) (.int .i64 (0)) r0 r1
      have hbF : Below w.heap.size w ((w2.setCell ⟨w.heap.size + 2, 0, none⟩ (.int .i64 (0))).setCell ⟨w.heap.size + 2, 1, none⟩ (.int .i64 (0))) := ((hbw2).setCell (by simp) _).setCell (by simp) _
      go_wp2
      refine bodyPost_ret (v := .tuple #[.agg #[.int .i64 (0), .int .i64 (0)], .int .i64 (checkS s)]) (by simp [results, Try.results8, go_sem, hq.1, hq.2]) rfl ⟨?_, hbF⟩
      simp [valX, valY, HV.out, H1.out]
  · have hne : (checkM m != 0) = true := by simp [h0]
    have hvf : valF m s = checkM m := by unfold valF; rw [if_neg h0]
    have HV := Lib.hid hvf
    have H0 := Lib.hid h0
    clear h0 hvf
    have r0 := hC1.2 0
    have r1 := hC1.2 1
    have g0 := hF1 0
    have g1 := hF1 1
    have hq := two_set (.int .i64 (0)) (.int .i64 (0)) r0 r1
    have hbF : Below w.heap.size w ((w1.setCell ⟨w.heap.size + 2, 0, none⟩ (.int .i64 (0))).setCell ⟨w.heap.size + 2, 1, none⟩ (.int .i64 (0))) := ((hbw1).setCell (by simp) _).setCell (by simp) _
    go_wp2
    refine bodyPost_ret (v := .tuple #[.agg #[.int .i64 (0), .int .i64 (0)], .int .i64 (checkM m)]) (by simp [results, Try.results8, go_sem, hq.1, hq.2]) rfl ⟨?_, hbF⟩
    simp [valX, valY, HV.out, H0.out]
end Go.Proofs.Ytbbfdkjamjmbmaa
