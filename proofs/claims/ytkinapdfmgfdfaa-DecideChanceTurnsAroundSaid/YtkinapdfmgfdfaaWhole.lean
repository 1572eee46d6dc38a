/- whole of package value. -/
import Derived.Test.YtkinapdfmgfdfaaDigits
namespace Go.Proofs.Ytkinapdfmgfdfaa
open Go.RowKit
def zeroAt (l : List UInt8) : Bool := match l with | [] => false | c :: _ => decide ((c.toNat : Int) = 48)
def wholeB (l : List UInt8) : Bool := !l.isEmpty && !(decide (1 < l.length) && zeroAt l) && digsB l
theorem zeroAt_of (s : ByteArray) (h : 0 < s.size) : zeroAt s.data.toList = decide ((s[0].toNat : Int) = 48) := by
  have hl : 0 < s.data.toList.length := by simpa using h
  have e : s.data.toList = s[0] :: s.data.toList.drop 1 := by
    rw [show s[0] = s.data.toList[0]'hl from rfl, ← List.drop_eq_getElem_cons hl]; simp
  rw [e]; rfl
set_option maxHeartbeats 4000000 in
theorem value_whole (s : ByteArray) (hs : s.size ≤ maxLen) (w : World) : Calls Try.prog 63 #[.string s] w fun e w' => e = .returned (.bool (wholeB s.data.toList)) ∧ w = w' := by
  have hs' := hs
  unfold maxLen at hs'
  by_cases h0 : 0 < s.size
  · have hem : s.toList.isEmpty = false := by
      rw [ByteArray.toList_eq]
      cases hq : s.data.toList with
      | nil => have hl : s.data.toList.length = s.size := Array.length_toList
               rw [hq] at hl; simp at hl; omega
      | cons _ _ => rfl
    have hem' : s.data.toList.isEmpty = false := by rw [← ByteArray.toList_eq]; exact hem
    have HW : Hid (wholeB s.data.toList = (!(decide (1 < s.size) && decide ((s[0].toNat : Int) = 48)) && digsB s.data.toList)) := by
      have : wholeB s.data.toList = (!(decide (1 < s.size) && decide ((s[0].toNat : Int) = 48)) && digsB s.data.toList) := by
        unfold wholeB; rw [hem', zeroAt_of s h0, show s.data.toList.length = s.size from Array.length_toList]; simp
      exact this
    clear hem'
    generalize wholeB s.data.toList = N at *
    by_cases h1 : 1 < s.size
    · by_cases h2 : (s[0].toNat : Int) = 48
      · have HF : Hid (N = false) := by have := HW.out; rw [decide_eq_true h1, decide_eq_true h2] at this; exact this
        clear HW
        go_enter Try.func63, Try.ntmps63
        go_wp2
        go_ret
        exact ⟨Dg.ret_bool HF.out.symm, rfl⟩
      · have HF : Hid (N = digsB s.data.toList) := by have := HW.out; rw [decide_eq_false h2] at this; simp at this; exact this
        clear HW
        go_enter Try.func63, Try.ntmps63
        go_wp2_with (go_at_call 68; refine (value_allDigits s hs _).mono ?_; rintro e w' ⟨rfl, rfl⟩)
        go_ret
        exact ⟨Dg.ret_bool HF.out.symm, rfl⟩
    · have HF : Hid (N = digsB s.data.toList) := by have := HW.out; rw [decide_eq_false h1] at this; simp at this; exact this
      clear HW
      go_enter Try.func63, Try.ntmps63
      go_wp2_with (go_at_call 68; refine (value_allDigits s hs _).mono ?_; rintro e w' ⟨rfl, rfl⟩)
      go_ret
      exact ⟨Dg.ret_bool HF.out.symm, rfl⟩
  · have hnil : s.data.toList = [] := List.eq_nil_of_length_eq_zero (by have hl : s.data.toList.length = s.size := Array.length_toList
                                                                        omega)
    have hem : s.toList.isEmpty = true := by rw [ByteArray.toList_eq, hnil]; rfl
    have HF : Hid (wholeB s.data.toList = false) := by
      have : wholeB s.data.toList = false := by rw [hnil]; rfl
      exact this
    clear hnil
    go_enter Try.func63, Try.ntmps63
    go_wp2
    go_ret
    exact ⟨Dg.ret_bool HF.out.symm, rfl⟩
end Go.Proofs.Ytkinapdfmgfdfaa
