/- The reference's Check of events; the order of events. -/
import Derived.Test.YtbbfdkjamjmbmaaEvent
import Derived.Test.YtbbfdkjamjmbmaaCmp
namespace Go.Proofs.Ytbbfdkjamjmbmaa
open Go.RowKit
set_option maxHeartbeats 8000000 in
set_option maxRecDepth 100000 in
theorem ref7_Check (e : Ev) (he : e.ok) (w : World) : Calls Try.prog 48 #[.agg (evC e)] w fun r w' => r = .returned (.int .i64 (checkE e)) ∧ Below w.heap.size w w' := by
  obtain ⟨h1, h2, h3⟩ := he
  go_enter Try.func48, Try.ntmps48
  go_wp2_with (first | (go_at_call 44; refine (ref_IsName _ (by assumption) _).mono ?_; rintro e w' ⟨rfl, rfl⟩) | (go_at_call 67; refine (ref_IsKey _ (by assumption) _).mono ?_; rintro e w' ⟨rfl, rfl⟩) | (go_at_call 66; refine (ref_IsTime _ _).mono ?_; rintro e w' ⟨rfl, rfl⟩))
  all_goals go_ret
  all_goals refine ⟨ret_int ?_, by go_grown⟩
  all_goals first | (simp_all [checkE]; done) | (simp_all [checkE, withinB]; done) | (simp_all [checkE, withinB]; omega) | (unfold checkE withinB at *; (repeat' split) <;> simp_all <;> omega)
end Go.Proofs.Ytbbfdkjamjmbmaa
