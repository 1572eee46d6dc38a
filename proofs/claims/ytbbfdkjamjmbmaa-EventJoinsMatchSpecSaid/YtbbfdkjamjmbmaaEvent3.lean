/- The order of events. -/
import Derived.Test.YtbbfdkjamjmbmaaEvent2
namespace Go.Proofs.Ytbbfdkjamjmbmaa
open Go.RowKit
def ordE (a b : Ev) : Int := orI (cmpS a.shard b.shard) (cmpI a.number b.number)
set_option maxHeartbeats 2000000 in
theorem event_order (a b : Ev) (w : World) : Calls Try.prog 47 #[.agg (evC a), .agg (evC b)] w fun e w' => e = .returned (.int .i64 (ordE a b)) ∧ Below w.heap.size w w' := by
  have HO := Lib.hid (show orI (cmpS a.shard b.shard) (cmpI a.number b.number) = ordE a b from rfl)
  go_enter Try.func47, Try.ntmps47
  go_wp2_with fail
  refine wp_box2 fun W hsz hbW hA hB => ?_
  clear hsz
  go_region_held3 (S2 W w.heap.size (evC a) (w.heap.size + 1) (evC b)) (first | exact S2.start hA hB | exact S2.ext (by assumption) (by assumption) hA hB | exact S2.ext (ext_alloc _ _) (by assumption) hA hB | assumption) (first | (go_at_call 64; refine (strings_Compare _ _ _).mono ?_; rintro e w1 ⟨rfl, rfl⟩) | (go_at_call 65; refine (cmp_int _ _ _).mono ?_; rintro e w2 ⟨rfl, rfl⟩) | (go_at_call 63; refine (or_two (cmpS a.shard b.shard) (cmpI a.number b.number) _ _ (by simp) (by simp)).mono ?_; rintro e w3 ⟨rfl, rfl⟩))
  go_wp2
  go_ret
  exact ⟨ret_int HO.out, ext_trans hbW (S2.base (by assumption))⟩

theorem ord_neg (a b : Ev) : (ordE a b < 0) ↔ (cmpS a.shard b.shard = -1 ∨ cmpS a.shard b.shard = 0 ∧ a.number < b.number) := by
  have h1 := cmpS_tri a.shard b.shard
  have h2 : cmpI a.number b.number < 0 ↔ a.number < b.number := by
    unfold cmpI
    by_cases k1 : a.number < b.number
    · simp [k1]
    · by_cases k2 : b.number < a.number <;> simp [k1, k2]
  unfold ordE orI
  split <;> omega

theorem less_of (a b : ByteArray) : Op.bytesLess a.toList b.toList = decide (cmpS a b = -1) := by
  rw [ByteArray.toList_eq, ByteArray.toList_eq, less_iff, decide_eq_decide]
  have := cmpS_tri a b
  unfold cmpS at *
  omega
theorem beq_of (a b : ByteArray) : (a.toList == b.toList) = decide (cmpS a b = 0) := by
  rw [ByteArray.toList_eq, ByteArray.toList_eq, Bool.eq_iff_iff]
  simp only [beq_iff_eq, decide_eq_true_eq]
  exact ⟨fun h => by unfold cmpS; rw [h]; exact compare_self _, fun h => compare_zero h⟩
set_option maxHeartbeats 2000000 in
theorem ref7_ahead (a b : Ev) (w : World) : Calls Try.prog 49 #[.agg (evC a), .agg (evC b)] w fun e w' => e = .returned (.bool (decide (ordE a b < 0))) ∧ Below w.heap.size w w' := by
  have hO := ord_neg a b
  have h3 := cmpS_tri a.shard b.shard
  have h1 := less_of a.shard b.shard
  have h2 := beq_of a.shard b.shard
  rcases h3 with h3 | h3 | h3
  · rw [h3] at h1 h2 hO
    rw [show decide (ordE a b < 0) = true by simp [hO]]
    simp only [decide_true] at h1
    clear hO h3 h2
    go_enter Try.func49, Try.ntmps49
    go_wp2
    go_ret
    exact ⟨rfl, by go_grown⟩
  · rw [h3] at h1 h2 hO
    rw [show decide (ordE a b < 0) = decide (a.number < b.number) by rw [decide_eq_decide, hO]; simp]
    have h1' : Op.bytesLess a.shard.toList b.shard.toList = false := by rw [h1]; rfl
    have h2' : (a.shard.toList == b.shard.toList) = true := by rw [h2]; rfl
    clear hO h3 h1 h2
    go_enter Try.func49, Try.ntmps49
    go_wp2
    go_ret
    exact ⟨rfl, by go_grown⟩
  · rw [h3] at h1 h2 hO
    rw [show decide (ordE a b < 0) = false by simp; have := hO; omega]
    have h1' : Op.bytesLess a.shard.toList b.shard.toList = false := by rw [h1]; rfl
    have h2' : (a.shard.toList == b.shard.toList) = false := by rw [h2]; rfl
    clear hO h3 h1 h2
    go_enter Try.func49, Try.ntmps49
    go_wp2
    go_ret
    exact ⟨rfl, by go_grown⟩
end Go.Proofs.Ytbbfdkjamjmbmaa
