/- number of the reference's ratios: a whole number's numeral. -/
import Derived.Test.YtemenlcigengeaaGreatDoorTq19
import Derived.Test.YtemenlcigengeaaGreatDoorTq29
namespace Go.Proofs.YtemenlcigengeaaGreatDoor
open Go.RowKit
namespace Nt
theorem str_zero {s : ByteArray} (h : s.size = 1) (h0 : 0 < s.size) (h1 : (s[0].toNat : Int) = 48) : s.toList = [48] := by
  rw [ByteArray.toList_eq]
  have hl : s.data.toList.length = 1 := by rw [← h]; exact Array.length_toList
  obtain ⟨c, hc⟩ := List.length_eq_one_iff.1 hl
  have e : s[0] = c := by
    have : s.data.toList[0]'(by omega) = c := by simp [hc]
    rw [← this]; rfl
  rw [hc]
  have : c = 48 := by rw [← e]; apply UInt8.toNat_inj.1; have h48 : (48 : UInt8).toNat = 48 := rfl; omega
  rw [this]
theorem str_one {s : ByteArray} (h : s.toList = [48]) : s.size = 1 := by
  rw [ByteArray.toList_eq] at h
  have hl : s.data.toList.length = s.size := Array.length_toList
  rw [h] at hl; exact hl.symm
set_option maxHeartbeats 4000000 in
theorem number_at (s : ByteArray) (hs : s.size ≤ maxLen) (w : World) : Calls Tryz.prog 94 #[.string s] w fun e w' => e = .returned (.bool (wholeB s.data.toList)) ∧ w = w' := by
  unfold maxLen at hs
  by_cases h0 : 0 < s.size
  · have hem : s.toList.isEmpty = false := by
      rw [ByteArray.toList_eq]
      cases hq : s.data.toList with
      | nil => have hl : s.data.toList.length = s.size := Array.length_toList
               rw [hq] at hl; simp at hl; omega
      | cons _ _ => rfl
    have hem' : s.data.toList.isEmpty = false := by rw [← ByteArray.toList_eq]; exact hem
    have HW : Hid (wholeB s.data.toList = (!(decide (1 < s.size) && decide ((s[0].toNat : Int) = 48)) && digsB s.data.toList)) := by
      have : wholeB s.data.toList = (!(decide (1 < s.size) && decide ((s[0].toNat : Int) = 48)) && digsB s.data.toList) := by
        unfold wholeB; rw [hem', zeroAt_of s h0, show s.data.toList.length = s.size from Array.length_toList]; simp
      exact this
    have hem2 : (s.toList == []) = false := by
      rw [beq_eq_false_iff_ne]; intro h; rw [h] at hem; cases hem
    have hem3 : ¬ (s.toList = []) := fun h => by rw [h] at hem; cases hem
    clear hem'
    generalize wholeB s.data.toList = N at *
    by_cases h2 : (s[0].toNat : Int) = 48
    · by_cases h1 : 1 < s.size
      · have HF : Hid (N = false) := by have := HW.out; rw [decide_eq_true h1, decide_eq_true h2] at this; exact this
        have hne : ¬ (s.toList = [48]) := fun h => by have := str_one h; omega
        have hne2 : (s.toList == [48]) = false := by simpa using hne
        have hne3 : (s.toList != [48]) = true := by simpa using hne
        clear HW
        go_enter Tryz.func94, Tryz.ntmps94
        go_wp2
        go_ret
        exact ⟨Dg.ret_bool HF.out.symm, rfl⟩
      · have HF : Hid (N = digsB s.data.toList) := by have := HW.out; rw [decide_eq_false h1] at this; simp at this; exact this
        have hz := str_zero (by omega) h0 h2
        have hne2 : (s.toList == [48]) = true := by rw [hz]; rfl
        have hne3 : (s.toList != [48]) = false := by rw [hz]; rfl
        clear HW hz
        go_enter Tryz.func94, Tryz.ntmps94
        go_wp2
        go_loop [17] (fun i => ∃ k : Nat, k ≤ s.size ∧ i = .int .i64 k ∧ Hid ((s.data.toList.take k).all digC = true)) (fun i => s.size - (intOf i).toNat)
        case atStart => exact ⟨0, by omega, rfl, rfl⟩
        case round =>
          obtain ⟨k, hk, rfl, HA⟩ := hrel
          by_cases hlt : k < s.size
          · by_cases hw : digC s[k] = true
            · have HW := Lib.hid hw
              have hn : 48 ≤ (s[k].toNat : Int) ∧ (s[k].toNat : Int) ≤ 57 := of_decide_eq_true hw
              obtain ⟨hn1, hn2⟩ := hn
              clear hw
              go_wp2
              all_goals go_round
              case rel => exact ⟨k + 1, by omega, by go_num, Dg.all_snoc _ _ _ hlt HA.out HW.out⟩
              case measure => simp [intOf] <;> omega
            · have hw' : digC s[k] = false := by simpa using hw
              have HW : Hid (digsB s.data.toList = false) := Dg.all_not _ _ _ hlt hw'
              have hn : ¬ (48 ≤ (s[k].toNat : Int) ∧ (s[k].toNat : Int) ≤ 57) := of_decide_eq_false hw'
              clear hw hw'
              by_cases h1 : (s[k].toNat : Int) < 48
              · clear hn
                go_wp2
                go_ret
                exact ⟨Dg.ret_bool (by rw [HF.out, HW.out]), rfl⟩
              · have h2 : (57 : Int) < (s[k].toNat : Int) := by omega
                clear hn
                go_wp2
                go_ret
                exact ⟨Dg.ret_bool (by rw [HF.out, HW.out]), rfl⟩
          · have HW : Hid (digsB s.data.toList = true) := Dg.all_end _ _ _ hlt HA.out
            go_wp2
            go_ret
            exact ⟨Dg.ret_bool (by rw [HF.out, HW.out]), rfl⟩
    · have HF : Hid (N = digsB s.data.toList) := by have := HW.out; rw [decide_eq_false h2] at this; simp at this; exact this
      clear HW
      go_enter Tryz.func94, Tryz.ntmps94
      go_wp2
      go_loop [17] (fun i => ∃ k : Nat, k ≤ s.size ∧ i = .int .i64 k ∧ Hid ((s.data.toList.take k).all digC = true)) (fun i => s.size - (intOf i).toNat)
      case atStart => exact ⟨0, by omega, rfl, rfl⟩
      case round =>
        obtain ⟨k, hk, rfl, HA⟩ := hrel
        by_cases hlt : k < s.size
        · by_cases hw : digC s[k] = true
          · have HW := Lib.hid hw
            have hn : 48 ≤ (s[k].toNat : Int) ∧ (s[k].toNat : Int) ≤ 57 := of_decide_eq_true hw
            obtain ⟨hn1, hn2⟩ := hn
            clear hw
            go_wp2
            all_goals go_round
            case rel => exact ⟨k + 1, by omega, by go_num, Dg.all_snoc _ _ _ hlt HA.out HW.out⟩
            case measure => simp [intOf] <;> omega
          · have hw' : digC s[k] = false := by simpa using hw
            have HW : Hid (digsB s.data.toList = false) := Dg.all_not _ _ _ hlt hw'
            have hn : ¬ (48 ≤ (s[k].toNat : Int) ∧ (s[k].toNat : Int) ≤ 57) := of_decide_eq_false hw'
            clear hw hw'
            by_cases h1 : (s[k].toNat : Int) < 48
            · clear hn
              go_wp2
              go_ret
              exact ⟨Dg.ret_bool (by rw [HF.out, HW.out]), rfl⟩
            · have h2 : (57 : Int) < (s[k].toNat : Int) := by omega
              clear hn
              go_wp2
              go_ret
              exact ⟨Dg.ret_bool (by rw [HF.out, HW.out]), rfl⟩
        · have HW : Hid (digsB s.data.toList = true) := Dg.all_end _ _ _ hlt HA.out
          go_wp2
          go_ret
          exact ⟨Dg.ret_bool (by rw [HF.out, HW.out]), rfl⟩
  · have hnil : s.data.toList = [] := List.eq_nil_of_length_eq_zero (by have hl : s.data.toList.length = s.size := Array.length_toList
                                                                        omega)
    have hem : s.toList.isEmpty = true := by rw [ByteArray.toList_eq, hnil]; rfl
    have hem2 : (s.toList == []) = true := by rw [ByteArray.toList_eq, hnil]; rfl
    have hem3 : s.toList = [] := by rw [ByteArray.toList_eq, hnil]
    have HF : Hid (wholeB s.data.toList = false) := by
      have : wholeB s.data.toList = false := by rw [hnil]; rfl
      exact this
    clear hnil
    go_enter Tryz.func94, Tryz.ntmps94
    go_wp2
    go_ret
    exact ⟨Dg.ret_bool HF.out.symm, rfl⟩
end Nt
end Go.Proofs.YtemenlcigengeaaGreatDoor
