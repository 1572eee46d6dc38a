/- The order of events. -/
import Derived.Test.YtbbfdkjamjmbmaaDoorEvent2
namespace Go.Proofs.YtbbfdkjamjmbmaaDoor
open Go.RowKit
def ordE (a b : Ev) : Int := orI (cmpS a.shard b.shard) (cmpI a.number b.number)
set_option maxHeartbeats 2000000 in
theorem event_order (a b : Ev) (w : World) : Calls Tryd.prog 23 #[.agg (evC a), .agg (evC b)] w fun e w' => e = .returned (.int .i64 (ordE a b)) ∧ Below w.heap.size w w' := by
  have HO := Lib.hid (show orI (cmpS a.shard b.shard) (cmpI a.number b.number) = ordE a b from rfl)
  go_enter Tryd.func23, Tryd.ntmps23
  go_wp2_with fail
  refine wp_box2 fun W hsz hbW hA hB => ?_
  clear hsz
  go_region_held3 (S2 W w.heap.size (evC a) (w.heap.size + 1) (evC b)) (first | exact S2.start hA hB | exact S2.ext (by assumption) (by assumption) hA hB | exact S2.ext (ext_alloc _ _) (by assumption) hA hB | assumption) (first | (go_at_call 33; refine (strings_Compare _ _ _).mono ?_; rintro e w1 ⟨rfl, rfl⟩) | (go_at_call 34; refine (cmp_int _ _ _).mono ?_; rintro e w2 ⟨rfl, rfl⟩) | (go_at_call 32; refine (or_two (cmpS a.shard b.shard) (cmpI a.number b.number) _ _ (by simp) (by simp)).mono ?_; rintro e w3 ⟨rfl, rfl⟩))
  go_wp2
  go_ret
  exact ⟨ret_int HO.out, ext_trans hbW (S2.base (by assumption))⟩

theorem ord_neg (a b : Ev) : (ordE a b < 0) ↔ (cmpS a.shard b.shard = -1 ∨ cmpS a.shard b.shard = 0 ∧ a.number < b.number) := by
  have h1 := cmpS_tri a.shard b.shard
  have h2 : cmpI a.number b.number < 0 ↔ a.number < b.number := by
    unfold cmpI
    by_cases k1 : a.number < b.number
    · simp [k1]
    · by_cases k2 : b.number < a.number <;> simp [k1, k2]
  unfold ordE orI
  split <;> omega

theorem less_of (a b : ByteArray) : Op.bytesLess a.toList b.toList = decide (cmpS a b = -1) := by
  rw [ByteArray.toList_eq, ByteArray.toList_eq, less_iff, decide_eq_decide]
  have := cmpS_tri a b
  unfold cmpS at *
  omega
theorem beq_of (a b : ByteArray) : (a.toList == b.toList) = decide (cmpS a b = 0) := by
  rw [ByteArray.toList_eq, ByteArray.toList_eq, Bool.eq_iff_iff]
  simp only [beq_iff_eq, decide_eq_true_eq]
  exact ⟨fun h => by unfold cmpS; rw [h]; exact compare_self _, fun h => compare_zero h⟩
end Go.Proofs.YtbbfdkjamjmbmaaDoor
