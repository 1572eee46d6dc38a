/- allDigits, whole, isPre, within of package value. -/
import Derived.Test.YtkinapdfmgfdfaaProg
import Derived.Test.YtkinapdfmgfdfaaMem
namespace Go.Proofs.Ytkinapdfmgfdfaa
open Go.RowKit
namespace Dg
theorem ret_bool {a b : Bool} (h : a = b) : Ending.returned (.bool a) = .returned (.bool b) := by rw [h]
theorem all_snoc (p : UInt8 → Bool) (s : ByteArray) (k : Nat) (hk : k < s.size) (h : (s.data.toList.take k).all p = true) (hp : p s[k] = true) : (s.data.toList.take (k + 1)).all p = true := by
  rw [take_snoc s k hk, List.all_append, h]; simp [hp]
theorem all_not (p : UInt8 → Bool) (s : ByteArray) (k : Nat) (hk : k < s.size) (hp : p s[k] = false) : s.data.toList.all p = false := by
  rw [List.all_eq_false]
  exact ⟨s[k], by rw [show s[k] = s.data.toList[k]'(by simpa using hk) from rfl]; exact List.getElem_mem _, by simp [hp]⟩
theorem all_end (p : UInt8 → Bool) (s : ByteArray) (k : Nat) (hk : ¬ k < s.size) (h : (s.data.toList.take k).all p = true) : s.data.toList.all p = true := by
  rwa [List.take_of_length_le (by simp; omega)] at h
end Dg
def digN (c : Int) : Bool := decide (48 ≤ c ∧ c ≤ 57)
def digC (c : UInt8) : Bool := digN (c.toNat : Int)
def digsB (l : List UInt8) : Bool := l.all digC
set_option maxHeartbeats 2000000 in
theorem value_allDigits (s : ByteArray) (hs : s.size ≤ maxLen) (w : World) : Calls Try.prog 68 #[.string s] w fun e w' => e = .returned (.bool (digsB s.data.toList)) ∧ w = w' := by
  unfold maxLen at hs
  go_enter Try.func68, Try.ntmps68
  go_wp2
  go_loop [6] (fun i => ∃ k : Nat, k ≤ s.size ∧ i = .int .i64 k ∧ Hid ((s.data.toList.take k).all digC = true)) (fun i => s.size - (intOf i).toNat)
  case atStart => exact ⟨0, by omega, rfl, rfl⟩
  case round =>
    obtain ⟨k, hk, rfl, HA⟩ := hrel
    by_cases hlt : k < s.size
    · by_cases hw : digC s[k] = true
      · have HW := Lib.hid hw
        have hn : 48 ≤ (s[k].toNat : Int) ∧ (s[k].toNat : Int) ≤ 57 := of_decide_eq_true hw
        obtain ⟨hn1, hn2⟩ := hn
        clear hw
        go_wp2
        all_goals go_round
        case rel => exact ⟨k + 1, by omega, by go_num, Dg.all_snoc _ _ _ hlt HA.out HW.out⟩
        case measure => simp [intOf]; omega
      · have hw' : digC s[k] = false := by simpa using hw
        have HW : Hid (digsB s.data.toList = false) := Dg.all_not _ _ _ hlt hw'
        have hn : ¬ (48 ≤ (s[k].toNat : Int) ∧ (s[k].toNat : Int) ≤ 57) := of_decide_eq_false hw'
        clear hw hw'
        by_cases h1 : (s[k].toNat : Int) < 48
        · clear hn
          go_wp2
          go_ret
          exact ⟨Dg.ret_bool HW.out.symm, rfl⟩
        · have h2 : (57 : Int) < (s[k].toNat : Int) := by omega
          clear hn
          go_wp2
          go_ret
          exact ⟨Dg.ret_bool HW.out.symm, rfl⟩
    · have HW : Hid (digsB s.data.toList = true) := Dg.all_end _ _ _ hlt HA.out
      go_wp2
      go_ret
      exact ⟨Dg.ret_bool HW.out.symm, rfl⟩
end Go.Proofs.Ytkinapdfmgfdfaa
