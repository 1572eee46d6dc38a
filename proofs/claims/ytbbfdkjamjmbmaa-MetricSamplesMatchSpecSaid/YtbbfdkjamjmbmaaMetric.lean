/- Metrics and subjects: Check, checkSubject, counted and pairOf of package metric, and the reference's. -/
import Derived.Test.YtbbfdkjamjmbmaaName
import Derived.Deep.RegionHeld3
namespace Go.Proofs.Ytbbfdkjamjmbmaa
open Go.RowKit

structure Met where
  name : ByteArray
  kind : Int
  event : ByteArray
  len : Int
  bef : Int
  cap : Int
def Met.ok (m : Met) : Prop := m.name.size ≤ maxLen ∧ m.event.size ≤ maxLen
abbrev metC (m : Met) : Array Value := #[.string m.name, .int .i64 m.kind, .string m.event, .int .i64 m.len, .int .i64 m.bef, .int .i64 m.cap]
def rangeM (m : Met) : Bool := withinB m.len 1 100000000 && withinB m.bef 0 100000000 && withinB m.cap 0 1000000000000
/-- what Check says of a metric -/
def checkM (m : Met) : Int :=
  if nameB m.name.data.toList = false then 5 else if withinB m.kind 1 3 = false then 4 else if nameB m.event.data.toList = false then 5 else if rangeM m = false then 1 else if m.cap ≠ 0 ∧ m.kind = 1 then 3 else 0

set_option maxHeartbeats 1000000 in
theorem metric_within (n low high : Int) (w : World) : Calls Try.prog 29 #[.int .i64 n, .int .i64 low, .int .i64 high] w fun e w' => e = .returned (.bool (withinB n low high)) ∧ w = w' := by
  go_enter Try.func29, Try.ntmps29
  go_wp2
  all_goals go_ret
  all_goals exact ⟨ret_bool (by rw [Bool.eq_iff_iff]; first | (simp [withinB]; done) | (simp [withinB]; omega)), rfl⟩

set_option maxHeartbeats 2000000 in
theorem metric_Check (m : Met) (hm : m.ok) (w : World) : Calls Try.prog 23 #[.agg (metC m)] w fun e w' => e = .returned (.int .i64 (checkM m)) ∧ Below w.heap.size w w' := by
  obtain ⟨h1, h2⟩ := hm
  go_enter Try.func23, Try.ntmps23
  go_wp2_with (first | (go_at_call 42; refine (rule_XisName _ (by assumption) _).mono ?_; rintro e w' ⟨rfl, rfl⟩) | (go_at_call 29; refine (metric_within _ _ _ _).mono ?_; rintro e w' ⟨rfl, rfl⟩))
  all_goals go_ret
  all_goals refine ⟨ret_int ?_, by go_grown⟩
  all_goals simp_all [checkM, rangeM]

set_option maxHeartbeats 2000000 in
theorem ref8_Check (m : Met) (hm : m.ok) (w : World) : Calls Try.prog 26 #[.agg (metC m)] w fun e w' => e = .returned (.int .i64 (checkM m)) ∧ Below w.heap.size w w' := by
  obtain ⟨h1, h2⟩ := hm
  go_enter Try.func26, Try.ntmps26
  go_wp2_with (go_at_call 44; refine (ref_IsName _ (by assumption) _).mono ?_; rintro e w' ⟨rfl, rfl⟩)
  all_goals go_ret
  all_goals refine ⟨ret_int ?_, by go_grown⟩
  all_goals first | (simp_all [checkM, rangeM, withinB]; done) | (simp_all [checkM, rangeM, withinB]; omega)

structure Sub where
  key : ByteArray
  time : Int
  arm : Int
  count : Int
  sum : Int
  early : Int
  earlySum : Int
  closed : Bool
abbrev subC (s : Sub) : Array Value := #[.string s.key, .int .i64 s.time, .int .i64 s.arm, .int .i64 s.count, .int .i64 s.sum, .int .i64 s.early, .int .i64 s.earlySum, .bool s.closed]
def checkS (s : Sub) : Int := if withinB s.count 0 20000 && withinB s.early 0 20000 && withinB s.sum (-20000000000000000) 20000000000000000 && withinB s.earlySum (-20000000000000000) 20000000000000000 then 0 else 1
set_option maxHeartbeats 2000000 in
theorem metric_checkSubject (s : Sub) (w : World) : Calls Try.prog 24 #[.agg (subC s)] w fun e w' => e = .returned (.int .i64 (checkS s)) ∧ Below w.heap.size w w' := by
  go_enter Try.func24, Try.ntmps24
  go_wp2_with (go_at_call 29; refine (metric_within _ _ _ _).mono ?_; rintro e w' ⟨rfl, rfl⟩)
  all_goals go_ret
  all_goals refine ⟨ret_int ?_, by go_grown⟩
  all_goals simp_all [checkS]
theorem ref8_within (n : Int) (w : World) : Calls Try.prog 45 #[.int .i64 n] w fun e w' => e = .returned (.bool (withinB n (-20000000000000000) 20000000000000000)) ∧ w = w' := by
  go_enter Try.func45, Try.ntmps45
  go_wp2
  all_goals go_ret
  all_goals exact ⟨ret_bool (by rw [Bool.eq_iff_iff]; first | (simp [withinB]; done) | (simp [withinB]; omega)), rfl⟩
set_option maxHeartbeats 2000000 in
theorem ref8_checkSubject (s : Sub) (w : World) : Calls Try.prog 27 #[.agg (subC s)] w fun e w' => e = .returned (.int .i64 (checkS s)) ∧ Below w.heap.size w w' := by
  go_enter Try.func27, Try.ntmps27
  go_wp2_with (go_at_call 45; refine (ref8_within _ _).mono ?_; rintro e w' ⟨rfl, rfl⟩)
  all_goals go_ret
  all_goals refine ⟨ret_int ?_, by go_grown⟩
  all_goals first | (simp_all [checkS]; done) | (simp_all [checkS, withinB]; done) | (simp_all [checkS, withinB]; omega)

/-- what a count and a sum are for a metric -/
def countedM (m : Met) (count sum : Int) : Int :=
  let n := if m.kind = 1 then min count 1 else if m.kind = 2 then count else sum
  if m.kind = 1 ∨ m.cap = 0 then n else max (-m.cap) (min n m.cap)
/-- the metric is right -/
def Met.good (m : Met) : Prop := checkM m = 0
theorem Met.good.bounds {m : Met} (h : m.good) : (1 ≤ m.kind ∧ m.kind ≤ 3) ∧ (0 ≤ m.cap ∧ m.cap ≤ 1000000000000) ∧ (m.kind = 1 → m.cap = 0) := by
  unfold Met.good checkM at h
  split at h
  · cases h
  split at h
  · cases h
  split at h
  · cases h
  split at h
  · cases h
  split at h
  · cases h
  · simp_all [rangeM, withinB]
    omega
set_option maxHeartbeats 2000000 in
theorem metric_counted (m : Met) (hm : m.good) (c s : Int) (w : World) : Calls Try.prog 43 #[.agg (metC m), .int .i64 c, .int .i64 s] w fun e w' => e = .returned (.int .i64 (countedM m c s)) ∧ Below w.heap.size w w' := by
  obtain ⟨⟨b1, b2⟩, ⟨b3, b4⟩, b5⟩ := hm.bounds
  have HB := Lib.hid b5
  clear b5
  go_enter Try.func43, Try.ntmps43
  go_wp2
  all_goals go_ret
  all_goals refine ⟨ret_int ?_, by go_grown⟩
  all_goals have b5 := HB.out
  all_goals (simp only [countedM]; repeat' split) <;> first | omega | (simp_all; done) | (simp_all; omega)
set_option maxHeartbeats 2000000 in
theorem ref8_valued (m : Met) (hm : m.good) (c s : Int) (w : World) : Calls Try.prog 28 #[.agg (metC m), .int .i64 c, .int .i64 s] w fun e w' => e = .returned (.int .i64 (countedM m c s)) ∧ Below w.heap.size w w' := by
  obtain ⟨⟨b1, b2⟩, ⟨b3, b4⟩, b5⟩ := hm.bounds
  have HB := Lib.hid b5
  clear b5
  go_enter Try.func28, Try.ntmps28
  go_wp2
  all_goals go_ret
  all_goals refine ⟨ret_int ?_, by go_grown⟩
  all_goals have b5 := HB.out
  all_goals (simp only [countedM]; repeat' split) <;> first | omega | (simp_all; done) | (simp_all; omega)
end Go.Proofs.Ytbbfdkjamjmbmaa
