/- sameVersion; the order of versions, in plain words. -/
import Derived.Test.YtepgibhgjhjjaaaDoorVer2
namespace Go.Proofs.YtepgibhgjhjjaaaDoor
open Go.RowKit
def sameVer (x y : Ver) : Bool := decide (x.ma = y.ma) && decide (x.mi = y.mi) && decide (x.pa = y.pa) && decide (x.pre = y.pre)
set_option maxHeartbeats 4000000 in
theorem sameVersion_at (x y : Ver) (cs cs' : List Value) (w : World) (h : RepVer w x cs) (h' : RepVer w y cs') : Calls Tryd.prog 6 #[.agg cs.toArray, .agg cs'.toArray] w fun e w' => e = .returned (.bool (sameVer x y)) ∧ Below w.heap.size w w' := by
  obtain ⟨a, c, rfl, s1, h1⟩ := h
  obtain ⟨a', c', rfl, s2, h2⟩ := h'
  obtain ⟨ma, mi, pa, pre⟩ := x
  obtain ⟨ma', mi', pa', pre'⟩ := y
  simp only at s1 h1 s2 h2
  have HV : Hid (sameVer ⟨ma, mi, pa, pre⟩ ⟨ma', mi', pa', pre'⟩ = (decide (ma = ma') && decide (mi = mi') && decide (pa = pa') && decide (pre = pre'))) := rfl
  generalize sameVer ⟨ma, mi, pa, pre⟩ ⟨ma', mi', pa', pre'⟩ = N at *
  have hl1 := s1.len63
  have hl2 := s2.len63
  clear h1 h2
  go_enter Tryd.func6, Tryd.ntmps6
  go_wp2_with fail
  · refine (slicesEqual_strings pre pre' a a' c c' _ (s1.ext ?_) (s2.ext ?_)).mono ?_
    · go_grown
    · go_grown
    rintro e w5 ⟨rfl, hb5⟩
    have hbw5 : Below w.heap.size w w5 := Below.trans (by go_grown) (hb5.mono (by simp; omega))
    have hN : N = decide (pre = pre') := by rw [HV.out]; simp_all
    have HN := Lib.hid hN
    clear hN hb5 s1 s2 HV
    go_wp2
    go_ret
    exact ⟨congrArg (fun b => Ending.returned (.bool b)) HN.out.symm, hbw5⟩
  all_goals
    have hN : N = false := by rw [HV.out]; simp_all
    go_ret
    exact ⟨congrArg (fun b => Ending.returned (.bool b)) hN.symm, by go_grown⟩
end Go.Proofs.YtepgibhgjhjjaaaDoor
