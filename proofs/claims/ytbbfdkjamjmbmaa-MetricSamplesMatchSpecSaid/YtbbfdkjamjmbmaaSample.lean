/- metric.pairOf, Value, Sample, and the reference's. -/
import Derived.Test.YtbbfdkjamjmbmaaMetric
import Derived.Test.YtbbfdkjamjmbmaaReg
import Derived.Deep.Cut
namespace Go.Proofs.Ytbbfdkjamjmbmaa
open Go.RowKit
def pairX (m : Met) (s : Sub) : Int := countedM m s.count s.sum
def pairY (m : Met) (s : Sub) : Int := countedM m s.early s.earlySum
/-- a pair as it lies in memory -/
abbrev pairC (m : Met) (s : Sub) : Array Value := #[.int .i64 (pairX m s), .int .i64 (pairY m s)]

set_option maxHeartbeats 2000000 in
theorem metric_pairOf (m : Met) (hm : m.good) (s : Sub) (w : World) : Calls Try.prog 25 #[.agg (metC m), .agg (subC s)] w fun e w' => e = .returned (.agg (pairC m s)) ∧ Below w.heap.size w w' := by
  go_enter Try.func25, Try.ntmps25
  go_wp2
  refine wp_box3r fun W hsz hbW hA hB hC hF => ?_
  have tok1 : True := trivial
  have hx : countedM m s.count s.sum = pairX m s := rfl
  have hy : countedM m s.early s.earlySum = pairY m s := rfl
  have HX := Lib.hid hx
  have HY := Lib.hid hy
  clear hx hy
  go_region_held3 (S2R W (w.heap.size + 2) w.heap.size (metC m) (w.heap.size + 1) (subC s)) (first | exact S2R.start hA hB | exact S2R.ext (by with_reducible assumption) (by with_reducible assumption) (by omega) hA hB | exact S2R.set (S2R.set (by assumption) (by simp) (by omega) (by omega)) (by simp) (by omega) (by omega) | assumption) (first | (have _t := tok1; go_at_call 43; refine (metric_counted m hm s.count s.sum _).mono ?_; rw [HX.out]; rintro e w2 ⟨rfl, hb2⟩; have hc2 := Lib.hid (ext_trans (Below.refl W.heap.size W).drew hb2); clear tok1) | (go_at_call 43; refine (metric_counted m hm s.early s.earlySum _).mono ?_; rw [HY.out]; rintro e w3 ⟨rfl, hb3⟩; have hc3 := Lib.hid (ext_trans hc2.out hb3); have r0 := (hC.ext hc3.out).2 0; have r1 := (hC.ext hc3.out).2 1; have g0 := (hF.ext hC hc3.out) 0; have g1 := (hF.ext hC hc3.out) 1))
  have hq := two_set (.int .i64 (pairX m s)) (.int .i64 (pairY m s)) r0 r1
  have hbF : Below w.heap.size w ((w3.setCell ⟨w.heap.size + 2, 0, none⟩ (.int .i64 (pairX m s))).setCell ⟨w.heap.size + 2, 1, none⟩ (.int .i64 (pairY m s))) :=
    ((ext_trans hbW hc3.out).setCell (by simp) _).setCell (by simp) _
  go_wp2
  exact bodyPost_ret (v := .agg (pairC m s)) (by simp [results, Try.results25, go_sem, hq.1, hq.2]) rfl ⟨rfl, hbF⟩

/-- the fault of Value -/
def valF (m : Met) (s : Sub) : Int := if checkM m = 0 then checkS s else checkM m
def valX (m : Met) (s : Sub) : Int := if valF m s = 0 then pairX m s else 0
def valY (m : Met) (s : Sub) : Int := if valF m s = 0 then pairY m s else 0
def ValuePost (m : Met) (s : Sub) (w : World) (e : Ending) (w' : World) : Prop :=
  e = .returned (.tuple #[.agg #[.int .i64 (valX m s), .int .i64 (valY m s)], .int .i64 (valF m s)]) ∧ Below w.heap.size w w'
set_option maxHeartbeats 2000000 in
theorem metric_Value (m : Met) (hm : m.ok) (s : Sub) (w : World) : Calls Try.prog 7 #[.agg (metC m), .agg (subC s)] w (ValuePost m s w) := by
  go_enter Try.func7, Try.ntmps7
  go_upto_region 1 with (fail)
  refine wp_box3r fun W hsz hbW hA hB hC hF => ?_
  obtain ⟨_, hA2⟩ := id hA
  go_wp2_with fail
  refine (metric_Check m hm _).mono ?_
  rintro e w1 ⟨rfl, hb1⟩
  have hA1 := hA.ext hb1
  have hB1 := hB.ext hb1
  have hC1 := hC.ext hb1
  have hF1 := hF.ext hC hb1
  have hbw1 := ext_trans hbW hb1
  clear hA2 hA hB hC hF hb1 hbW
  by_cases h0 : checkM m = 0
  · have hne : (checkM m != 0) = false := by simp [h0]
    have H0 := Lib.hid h0
    clear h0
    obtain ⟨_, hB2⟩ := id hB1
    go_wp2_with fail
    refine (metric_checkSubject s _).mono ?_
    rintro e w2 ⟨rfl, hb2⟩
    have hA2 := hA1.ext hb2
    have hB2' := hB1.ext hb2
    have hC2 := hC1.ext hb2
    have hF2 := hF1.ext hC1 hb2
    have hbw2 := ext_trans hbw1 hb2
    clear hB2 hA1 hB1 hC1 hF1 hb2 hbw1
    by_cases h1 : checkS s = 0
    · have hne1 : (checkS s != 0) = false := by simp [h1]
      have hvf : valF m s = 0 := by unfold valF; rw [if_pos H0.out, h1]
      have HV := Lib.hid hvf
      clear h1 hvf
      obtain ⟨_, hA3⟩ := id hA2
      obtain ⟨_, hB3⟩ := id hB2'
      go_wp2_with fail
      refine (metric_pairOf m H0.out s _).mono ?_
      rintro e w3 ⟨rfl, hb3⟩
      have hC3 := hC2.ext hb3
      have hF3 := hF2.ext hC2 hb3
      have hbw3 := ext_trans hbw2 hb3
      clear hA3 hB3 hA2 hB2' hb3
      have r0 := hC3.2 0
      have r1 := hC3.2 1
      have g0 := hF3 0
      have g1 := hF3 1
      have hq := two_set (.int .i64 (pairX m s)) (.int .i64 (pairY m s)) r0 r1
      have hbF : Below w.heap.size w ((w3.setCell ⟨w.heap.size + 2, 0, none⟩ (.int .i64 (pairX m s))).setCell ⟨w.heap.size + 2, 1, none⟩ (.int .i64 (pairY m s))) := ((hbw3).setCell (by simp) _).setCell (by simp) _
      go_wp2
      refine bodyPost_ret (v := .tuple #[.agg #[.int .i64 (pairX m s), .int .i64 (pairY m s)], .int .i64 (0)]) (by simp [results, Try.results7, go_sem, hq.1, hq.2]) rfl ⟨?_, hbF⟩
      simp [valX, valY, HV.out]
    · have hne1 : (checkS s != 0) = true := by simp [h1]
      have hvf : valF m s = checkS s := by unfold valF; rw [if_pos H0.out]
      have HV := Lib.hid hvf
      have H1 := Lib.hid h1
      clear h1 hvf
      have r0 := hC2.2 0
      have r1 := hC2.2 1
      have g0 := hF2 0
      have g1 := hF2 1
      have hq := two_set (.int .i64 (0)) (.int .i64 (0)) r0 r1
      have hbF : Below w.heap.size w ((w2.setCell ⟨w.heap.size + 2, 0, none⟩ (.int .i64 (0))).setCell ⟨w.heap.size + 2, 1, none⟩ (.int .i64 (0))) := ((hbw2).setCell (by simp) _).setCell (by simp) _
      go_wp2
      refine bodyPost_ret (v := .tuple #[.agg #[.int .i64 (0), .int .i64 (0)], .int .i64 (checkS s)]) (by simp [results, Try.results7, go_sem, hq.1, hq.2]) rfl ⟨?_, hbF⟩
      simp [valX, valY, HV.out, H1.out]
  · have hne : (checkM m != 0) = true := by simp [h0]
    have hvf : valF m s = checkM m := by unfold valF; rw [if_neg h0]
    have HV := Lib.hid hvf
    have H0 := Lib.hid h0
    clear h0 hvf
    have r0 := hC1.2 0
    have r1 := hC1.2 1
    have g0 := hF1 0
    have g1 := hF1 1
    have hq := two_set (.int .i64 (0)) (.int .i64 (0)) r0 r1
    have hbF : Below w.heap.size w ((w1.setCell ⟨w.heap.size + 2, 0, none⟩ (.int .i64 (0))).setCell ⟨w.heap.size + 2, 1, none⟩ (.int .i64 (0))) := ((hbw1).setCell (by simp) _).setCell (by simp) _
    go_wp2
    refine bodyPost_ret (v := .tuple #[.agg #[.int .i64 (0), .int .i64 (0)], .int .i64 (checkM m)]) (by simp [results, Try.results7, go_sem, hq.1, hq.2]) rfl ⟨?_, hbF⟩
    simp [valX, valY, HV.out, H0.out]
end Go.Proofs.Ytbbfdkjamjmbmaa
