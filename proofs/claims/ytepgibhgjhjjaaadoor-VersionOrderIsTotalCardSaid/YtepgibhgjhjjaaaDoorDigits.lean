/- allDigits, whole, isPre, within of package value. -/
import Derived.Test.YtepgibhgjhjjaaaDoorProg
import Derived.Test.YtepgibhgjhjjaaaDoorMem
namespace Go.Proofs.YtepgibhgjhjjaaaDoor
open Go.RowKit
namespace Dg
theorem ret_bool {a b : Bool} (h : a = b) : Ending.returned (.bool a) = .returned (.bool b) := by rw [h]
theorem all_snoc (p : UInt8 → Bool) (s : ByteArray) (k : Nat) (hk : k < s.size) (h : (s.data.toList.take k).all p = true) (hp : p s[k] = true) : (s.data.toList.take (k + 1)).all p = true := by
  rw [take_snoc s k hk, List.all_append, h]; simp [hp]
theorem all_not (p : UInt8 → Bool) (s : ByteArray) (k : Nat) (hk : k < s.size) (hp : p s[k] = false) : s.data.toList.all p = false := by
  rw [List.all_eq_false]
  exact ⟨s[k], by rw [show s[k] = s.data.toList[k]'(by simpa using hk) from rfl]; exact List.getElem_mem _, by simp [hp]⟩
theorem all_end (p : UInt8 → Bool) (s : ByteArray) (k : Nat) (hk : ¬ k < s.size) (h : (s.data.toList.take k).all p = true) : s.data.toList.all p = true := by
  rwa [List.take_of_length_le (by simp; omega)] at h
end Dg
def digN (c : Int) : Bool := decide (48 ≤ c ∧ c ≤ 57)
def digC (c : UInt8) : Bool := digN (c.toNat : Int)
def digsB (l : List UInt8) : Bool := l.all digC
set_option maxHeartbeats 2000000 in
theorem value_allDigits (s : ByteArray) (hs : s.size ≤ maxLen) (w : World) : Calls Tryd.prog 13 #[.string s] w fun e w' => e = .returned (.bool (digsB s.data.toList)) ∧ w = w' := by
  unfold maxLen at hs
  go_enter Tryd.func13, Tryd.ntmps13
  go_wp2
  go_loop [6] (fun i => ∃ k : Nat, k ≤ s.size ∧ i = .int .i64 k ∧ Hid ((s.data.toList.take k).all digC = true)) (fun i => s.size - (intOf i).toNat)
  case atStart => exact ⟨0, by omega, rfl, rfl⟩
  case round =>
    obtain ⟨k, hk, rfl, HA⟩ := hrel
    by_cases hlt : k < s.size
    · by_cases hw : digC s[k] = true
      · have HW := Lib.hid hw
        have hn : 48 ≤ (s[k].toNat : Int) ∧ (s[k].toNat : Int) ≤ 57 := of_decide_eq_true hw
        obtain ⟨hn1, hn2⟩ := hn
        clear hw
        go_wp2
        all_goals go_round
        case rel => exact ⟨k + 1, by omega, by go_num, Dg.all_snoc _ _ _ hlt HA.out HW.out⟩
        case measure => simp [intOf]; omega
      · have hw' : digC s[k] = false := by simpa using hw
        have HW : Hid (digsB s.data.toList = false) := Dg.all_not _ _ _ hlt hw'
        have hn : ¬ (48 ≤ (s[k].toNat : Int) ∧ (s[k].toNat : Int) ≤ 57) := of_decide_eq_false hw'
        clear hw hw'
        by_cases h1 : (s[k].toNat : Int) < 48
        · clear hn
          go_wp2
          go_ret
          exact ⟨Dg.ret_bool HW.out.symm, rfl⟩
        · have h2 : (57 : Int) < (s[k].toNat : Int) := by omega
          clear hn
          go_wp2
          go_ret
          exact ⟨Dg.ret_bool HW.out.symm, rfl⟩
    · have HW : Hid (digsB s.data.toList = true) := Dg.all_end _ _ _ hlt HA.out
      go_wp2
      go_ret
      exact ⟨Dg.ret_bool HW.out.symm, rfl⟩
def withinV (n low high : Int) : Bool := decide (low ≤ n ∧ n ≤ high)
set_option maxHeartbeats 1000000 in
theorem value_within (n low high : Int) (w : World) : Calls Tryd.prog 11 #[.int .i64 n, .int .i64 low, .int .i64 high] w fun e w' => e = .returned (.bool (withinV n low high)) ∧ w = w' := by
  go_enter Tryd.func11, Tryd.ntmps11
  go_wp2
  all_goals go_ret
  all_goals exact ⟨Dg.ret_bool (by rw [Bool.eq_iff_iff]; first | (simp [withinV]; done) | (simp [withinV]; omega)), rfl⟩
def preN (c : Int) : Bool := decide ((97 ≤ c ∧ c ≤ 122) ∨ (65 ≤ c ∧ c ≤ 90) ∨ (48 ≤ c ∧ c ≤ 57) ∨ c = 45)
def preC (c : UInt8) : Bool := preN (c.toNat : Int)
def preB (l : List UInt8) : Bool := l.all preC && !l.isEmpty
set_option maxHeartbeats 4000000 in
theorem value_isPre (s : ByteArray) (hs : s.size ≤ maxLen) (w : World) : Calls Tryd.prog 12 #[.string s] w fun e w' => e = .returned (.bool (preB s.data.toList)) ∧ w = w' := by
  unfold maxLen at hs
  go_enter Tryd.func12, Tryd.ntmps12
  go_wp2
  go_loop [7] (fun i => ∃ k : Nat, k ≤ s.size ∧ i = .int .i64 k ∧ Hid ((s.data.toList.take k).all preC = true)) (fun i => s.size - (intOf i).toNat)
  case atStart => exact ⟨0, by omega, rfl, rfl⟩
  case round =>
    obtain ⟨k, hk, rfl, HA⟩ := hrel
    by_cases hlt : k < s.size
    · by_cases hw : preC s[k] = true
      · have HW := Lib.hid hw
        have hn : ((97 ≤ (s[k].toNat : Int) ∧ (s[k].toNat : Int) ≤ 122) ∨ (65 ≤ (s[k].toNat : Int) ∧ (s[k].toNat : Int) ≤ 90) ∨ (48 ≤ (s[k].toNat : Int) ∧ (s[k].toNat : Int) ≤ 57) ∨ (s[k].toNat : Int) = 45) := of_decide_eq_true hw
        have HN := Lib.hid hn
        clear hw hn
        go_wp2
        all_goals first | (exfalso; have := HN.out; simp_all <;> omega) | go_round
        all_goals first | exact ⟨k + 1, by omega, by go_num, Dg.all_snoc _ _ _ hlt HA.out HW.out⟩ | (simp [intOf]; omega)
      · have hw' : preC s[k] = false := by simpa using hw
        have HW : Hid (preB s.data.toList = false) := by
          have : preB s.data.toList = false := by unfold preB; rw [Dg.all_not _ _ _ hlt hw']; rfl
          exact this
        have HN := Lib.hid (of_decide_eq_false hw' : ¬ ((97 ≤ (s[k].toNat : Int) ∧ (s[k].toNat : Int) ≤ 122) ∨ (65 ≤ (s[k].toNat : Int) ∧ (s[k].toNat : Int) ≤ 90) ∨ (48 ≤ (s[k].toNat : Int) ∧ (s[k].toNat : Int) ≤ 57) ∨ (s[k].toNat : Int) = 45))
        clear hw hw'
        go_wp2
        all_goals first | (exfalso; have := HN.out; simp_all <;> omega) | (exfalso; have := HN.out; omega) | (go_ret; exact ⟨Dg.ret_bool HW.out.symm, rfl⟩)
    · have HW := Lib.hid (Dg.all_end _ _ _ hlt HA.out)
      go_wp2
      go_ret
      exact ⟨Dg.ret_bool (by unfold preB; rw [HW.out, ByteArray.toList_eq]; simp), rfl⟩
end Go.Proofs.YtepgibhgjhjjaaaDoor
