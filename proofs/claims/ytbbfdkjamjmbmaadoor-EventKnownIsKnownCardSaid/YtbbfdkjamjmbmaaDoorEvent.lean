/- Events: Check of package event and the reference's. -/
import Derived.Test.YtbbfdkjamjmbmaaDoorName
import Derived.Test.YtbbfdkjamjmbmaaDoorReg
import Derived.Deep.Cut
namespace Go.Proofs.YtbbfdkjamjmbmaaDoor
open Go.RowKit
def seenC (c : UInt8) : Bool := decide (33 ≤ (c.toNat : Int) ∧ (c.toNat : Int) ≤ 126)
def keyB (l : List UInt8) : Bool := l.all seenC && decide (1 ≤ l.length ∧ l.length ≤ 100)
def seenB (l : List UInt8) : Bool := l.all seenC && !l.isEmpty

theorem keyB_false {l : List UInt8} (h : l.all seenC = false) : keyB l = false := by unfold keyB; rw [h]; rfl
theorem seenB_false {l : List UInt8} (h : l.all seenC = false) : seenB l = false := by unfold seenB; rw [h]; rfl
theorem keyB_true {s : ByteArray} (h : s.data.toList.all seenC = true) : keyB s.data.toList = withinB (s.size : Int) 1 100 := by
  have hl : s.data.toList.length = s.size := Array.length_toList
  unfold keyB withinB; rw [h, hl, Bool.true_and, decide_eq_decide]; omega
theorem keyB_seen (s : ByteArray) : keyB s.data.toList = (seenB s.data.toList && decide ((s.size : Int) ≤ 100)) := by
  have hl : s.data.toList.length = s.size := Array.length_toList
  unfold keyB seenB
  cases hq : s.data.toList with
  | nil => simp
  | cons c r =>
    rw [hq] at hl
    rw [show decide (1 ≤ (c :: r).length ∧ (c :: r).length ≤ 100) = decide ((s.size : Int) ≤ 100) by rw [decide_eq_decide, hl]; simp at hl; omega]
    simp

set_option maxHeartbeats 2000000 in
theorem rule_XisKey (s : ByteArray) (hs : s.size ≤ maxLen) (w : World) : Calls Tryd.prog 30 #[.string s] w fun e w' => e = .returned (.bool (keyB s.data.toList)) ∧ w = w' := by
  unfold maxLen at hs
  go_enter Tryd.func30, Tryd.ntmps30
  go_wp2
  go_loop [6] (fun i => ∃ k : Nat, k ≤ s.size ∧ i = .int .i64 k ∧ Hid ((s.data.toList.take k).all seenC = true)) (fun i => s.size - (intOf i).toNat)
  case atStart => exact ⟨0, by omega, rfl, rfl⟩
  case round =>
    obtain ⟨k, hk, rfl, HA⟩ := hrel
    by_cases hlt : k < s.size
    · by_cases h1 : 33 ≤ (s[k].toNat : Int)
      · by_cases h2 : (s[k].toNat : Int) ≤ 126
        · have HW : Hid (seenC s[k] = true) := by exact (by unfold seenC; simp; omega : seenC s[k] = true)
          go_wp2
          go_round
          case rel => exact ⟨k + 1, by omega, by go_num, all_snoc _ _ _ hlt HA.out HW.out⟩
          case measure => simp [intOf]; omega
        · have HW : Hid (keyB s.data.toList = false) := keyB_false (all_not _ _ _ hlt (by unfold seenC; simp; omega))
          go_wp2
          go_ret
          exact ⟨ret_bool HW.out.symm, rfl⟩
      · have HW : Hid (keyB s.data.toList = false) := keyB_false (all_not _ _ _ hlt (by unfold seenC; simp; omega))
        go_wp2
        go_ret
        exact ⟨ret_bool HW.out.symm, rfl⟩
    · have HW := Lib.hid (all_end _ _ _ hlt HA.out)
      go_wp2_with (go_at_call 36; refine (rule_within _ _ _ _).mono ?_; rintro e w' ⟨rfl, rfl⟩)
      go_ret
      exact ⟨ret_bool (keyB_true HW.out).symm, rfl⟩
set_option maxHeartbeats 1000000 in
theorem event_within (n low high : Int) (w : World) : Calls Tryd.prog 29 #[.int .i64 n, .int .i64 low, .int .i64 high] w fun e w' => e = .returned (.bool (withinB n low high)) ∧ w = w' := by
  go_enter Tryd.func29, Tryd.ntmps29
  go_wp2
  all_goals go_ret
  all_goals exact ⟨ret_bool (by rw [Bool.eq_iff_iff]; first | (simp [withinB]; done) | (simp [withinB]; omega)), rfl⟩
structure Ev where
  shard : ByteArray
  number : Int
  kind : Int
  time : Int
  key : ByteArray
  name : ByteArray
  arm : Int
  n : Int
abbrev evC (e : Ev) : Array Value := #[.string e.shard, .int .i64 e.number, .int .i64 e.kind, .int .i64 e.time, .string e.key, .string e.name, .int .i64 e.arm, .int .i64 e.n]
def Ev.ok (e : Ev) : Prop := e.shard.size ≤ maxLen ∧ e.key.size ≤ maxLen ∧ e.name.size ≤ maxLen
def checkE (e : Ev) : Int :=
  if nameB e.shard.data.toList = false then 5 else if withinB e.number 1 1000000000000 = false then 1 else if withinB e.kind 1 3 = false then 4 else if withinB e.time 0 4000000000 = false then 1
  else if e.kind = 3 then (if e.key.toList.isEmpty = true ∧ e.name.toList.isEmpty = true ∧ e.arm = 0 ∧ e.n = 0 then 0 else 3)
  else if keyB e.key.data.toList = false then 3 else if nameB e.name.data.toList = false then 5
  else if e.kind = 1 then (if withinB e.arm 0 19 = false then 1 else if e.n ≠ 0 then 3 else 0)
  else (if e.arm ≠ 0 then 3 else if withinB e.n (-1000000000000) 1000000000000 = false then 1 else 0)

set_option maxHeartbeats 4000000 in
theorem event_Check (e : Ev) (he : e.ok) (w : World) : Calls Tryd.prog 21 #[.agg (evC e)] w fun r w' => r = .returned (.int .i64 (checkE e)) ∧ Below w.heap.size w w' := by
  obtain ⟨h1, h2, h3⟩ := he
  go_enter Tryd.func21, Tryd.ntmps21
  go_wp2_with (first | (go_at_call 27; refine (rule_XisName _ (by assumption) _).mono ?_; rintro e w' ⟨rfl, rfl⟩) | (go_at_call 30; refine (rule_XisKey _ (by assumption) _).mono ?_; rintro e w' ⟨rfl, rfl⟩) | (go_at_call 29; refine (event_within _ _ _ _).mono ?_; rintro e w' ⟨rfl, rfl⟩))
  all_goals go_ret
  all_goals refine ⟨ret_int ?_, by go_grown⟩
  all_goals first | (simp_all [checkE]; done) | (simp_all [checkE]; omega)
end Go.Proofs.YtbbfdkjamjmbmaaDoor
