/- The reference's words on texts: isDigit, number, allDigits, isPre, Within, Number; versionNumber of package value. Rows and slices of texts, as the walks over versions carry them. -/
import Derived.Test.YtiogfdkdhfmamaaGreatDoorRb04
import Derived.Test.YtiogfdkdhfmamaaGreatDoorRb01
import Derived.Test.YtiogfdkdhfmamaaGreatDoorRb03
namespace Go.Proofs.YtiogfdkdhfmamaaGreatDoor
open Go.RowKit
namespace Tx
open _root_.Go.Proofs.YtiogfdkdhfmamaaGreatDoor.Nm
theorem str_zero {s : ByteArray} (h : s.size = 1) (h0 : 0 < s.size) (h1 : (s[0].toNat : Int) = 48) : s.toList = [48] := by
  rw [ByteArray.toList_eq]
  have hl : s.data.toList.length = 1 := by rw [← h]; exact Array.length_toList
  obtain ⟨c, hc⟩ := List.length_eq_one_iff.1 hl
  have e : s[0] = c := by
    have : s.data.toList[0]'(by omega) = c := by simp [hc]
    rw [← this]; rfl
  rw [hc]
  have : c = 48 := by rw [← e]; apply UInt8.toNat_inj.1; have h48 : (48 : UInt8).toNat = 48 := rfl; omega
  rw [this]
theorem str_one {s : ByteArray} (h : s.toList = [48]) : s.size = 1 := by
  rw [ByteArray.toList_eq] at h
  have hl : s.data.toList.length = s.size := Array.length_toList
  rw [h] at hl; exact hl.symm
set_option maxHeartbeats 4000000 in
theorem refNumber_at (s : ByteArray) (hs : s.size ≤ maxLen) (w : World) : Calls Tryz.prog 70 #[.string s] w fun e w' => e = .returned (.bool (wholeB s.data.toList)) ∧ w = w' := by
  unfold maxLen at hs
  by_cases h0 : 0 < s.size
  · have hem : s.toList.isEmpty = false := by
      rw [ByteArray.toList_eq]
      cases hq : s.data.toList with
      | nil => have hl : s.data.toList.length = s.size := Array.length_toList
               rw [hq] at hl; simp at hl; omega
      | cons _ _ => rfl
    have hem' : s.data.toList.isEmpty = false := by rw [← ByteArray.toList_eq]; exact hem
    have HW : Hid (wholeB s.data.toList = (!(decide (1 < s.size) && decide ((s[0].toNat : Int) = 48)) && digsB s.data.toList)) := by
      have : wholeB s.data.toList = (!(decide (1 < s.size) && decide ((s[0].toNat : Int) = 48)) && digsB s.data.toList) := by
        unfold wholeB; rw [hem', zeroAt_of s h0, show s.data.toList.length = s.size from Array.length_toList]; simp
      exact this
    have hem2 : (s.toList == []) = false := by
      rw [beq_eq_false_iff_ne]; intro h; rw [h] at hem; cases hem
    have hem3 : ¬ (s.toList = []) := fun h => by rw [h] at hem; cases hem
    clear hem'
    generalize wholeB s.data.toList = N at *
    by_cases h2 : (s[0].toNat : Int) = 48
    · by_cases h1 : 1 < s.size
      · have HF : Hid (N = false) := by have := HW.out; rw [decide_eq_true h1, decide_eq_true h2] at this; exact this
        have hne : ¬ (s.toList = [48]) := fun h => by have := str_one h; omega
        have hne2 : (s.toList == [48]) = false := by simpa using hne
        have hne3 : (s.toList != [48]) = true := by simpa using hne
        clear HW
        go_enter Tryz.func70, Tryz.ntmps70
        go_wp2
        go_ret
        exact ⟨Dg.ret_bool HF.out.symm, rfl⟩
      · have HF : Hid (N = digsB s.data.toList) := by have := HW.out; rw [decide_eq_false h1] at this; simp at this; exact this
        have hz := str_zero (by omega) h0 h2
        have hne2 : (s.toList == [48]) = true := by rw [hz]; rfl
        have hne3 : (s.toList != [48]) = false := by rw [hz]; rfl
        clear HW hz
        go_enter Tryz.func70, Tryz.ntmps70
        go_wp2
        go_loop [17] (fun i => ∃ k : Nat, k ≤ s.size ∧ i = .int .i64 k ∧ Hid ((s.data.toList.take k).all digC = true)) (fun i => s.size - (intOf i).toNat)
        case atStart => exact ⟨0, by omega, rfl, rfl⟩
        case round =>
          obtain ⟨k, hk, rfl, HA⟩ := hrel
          by_cases hlt : k < s.size
          · by_cases hw : digC s[k] = true
            · have HW := Lib.hid hw
              have hn : 48 ≤ (s[k].toNat : Int) ∧ (s[k].toNat : Int) ≤ 57 := of_decide_eq_true hw
              obtain ⟨hn1, hn2⟩ := hn
              clear hw
              go_wp2
              all_goals go_round
              case rel => exact ⟨k + 1, by omega, by go_num, Dg.all_snoc _ _ _ hlt HA.out HW.out⟩
              case measure => simp [intOf] <;> omega
            · have hw' : digC s[k] = false := by simpa using hw
              have HW : Hid (digsB s.data.toList = false) := Dg.all_not _ _ _ hlt hw'
              have hn : ¬ (48 ≤ (s[k].toNat : Int) ∧ (s[k].toNat : Int) ≤ 57) := of_decide_eq_false hw'
              clear hw hw'
              by_cases h1 : (s[k].toNat : Int) < 48
              · clear hn
                go_wp2
                go_ret
                exact ⟨Dg.ret_bool (by rw [HF.out, HW.out]), rfl⟩
              · have h2 : (57 : Int) < (s[k].toNat : Int) := by omega
                clear hn
                go_wp2
                go_ret
                exact ⟨Dg.ret_bool (by rw [HF.out, HW.out]), rfl⟩
          · have HW : Hid (digsB s.data.toList = true) := Dg.all_end _ _ _ hlt HA.out
            go_wp2
            go_ret
            exact ⟨Dg.ret_bool (by rw [HF.out, HW.out]), rfl⟩
    · have HF : Hid (N = digsB s.data.toList) := by have := HW.out; rw [decide_eq_false h2] at this; simp at this; exact this
      clear HW
      go_enter Tryz.func70, Tryz.ntmps70
      go_wp2
      go_loop [17] (fun i => ∃ k : Nat, k ≤ s.size ∧ i = .int .i64 k ∧ Hid ((s.data.toList.take k).all digC = true)) (fun i => s.size - (intOf i).toNat)
      case atStart => exact ⟨0, by omega, rfl, rfl⟩
      case round =>
        obtain ⟨k, hk, rfl, HA⟩ := hrel
        by_cases hlt : k < s.size
        · by_cases hw : digC s[k] = true
          · have HW := Lib.hid hw
            have hn : 48 ≤ (s[k].toNat : Int) ∧ (s[k].toNat : Int) ≤ 57 := of_decide_eq_true hw
            obtain ⟨hn1, hn2⟩ := hn
            clear hw
            go_wp2
            all_goals go_round
            case rel => exact ⟨k + 1, by omega, by go_num, Dg.all_snoc _ _ _ hlt HA.out HW.out⟩
            case measure => simp [intOf] <;> omega
          · have hw' : digC s[k] = false := by simpa using hw
            have HW : Hid (digsB s.data.toList = false) := Dg.all_not _ _ _ hlt hw'
            have hn : ¬ (48 ≤ (s[k].toNat : Int) ∧ (s[k].toNat : Int) ≤ 57) := of_decide_eq_false hw'
            clear hw hw'
            by_cases h1 : (s[k].toNat : Int) < 48
            · clear hn
              go_wp2
              go_ret
              exact ⟨Dg.ret_bool (by rw [HF.out, HW.out]), rfl⟩
            · have h2 : (57 : Int) < (s[k].toNat : Int) := by omega
              clear hn
              go_wp2
              go_ret
              exact ⟨Dg.ret_bool (by rw [HF.out, HW.out]), rfl⟩
        · have HW : Hid (digsB s.data.toList = true) := Dg.all_end _ _ _ hlt HA.out
          go_wp2
          go_ret
          exact ⟨Dg.ret_bool (by rw [HF.out, HW.out]), rfl⟩
  · have hnil : s.data.toList = [] := List.eq_nil_of_length_eq_zero (by have hl : s.data.toList.length = s.size := Array.length_toList
                                                                        omega)
    have hem : s.toList.isEmpty = true := by rw [ByteArray.toList_eq, hnil]; rfl
    have hem2 : (s.toList == []) = true := by rw [ByteArray.toList_eq, hnil]; rfl
    have hem3 : s.toList = [] := by rw [ByteArray.toList_eq, hnil]
    have HF : Hid (wholeB s.data.toList = false) := by
      have : wholeB s.data.toList = false := by rw [hnil]; rfl
      exact this
    clear hnil
    go_enter Tryz.func70, Tryz.ntmps70
    go_wp2
    go_ret
    exact ⟨Dg.ret_bool HF.out.symm, rfl⟩

theorem refNumber_is (s : ByteArray) (hs : s.size ≤ maxLen) (b : Bool) (h : wholeB s.data.toList = b) (w : World) : Calls Tryz.prog 70 #[.string s] w fun e w' => e = .returned (.bool b) ∧ w = w' := by subst h; exact refNumber_at s hs w
theorem refIsDigit_is (n : Int) (b : Bool) (h : digN n = b) (w : World) : Calls Tryz.prog 69 #[.int .u8 n] w fun e w' => e = .returned (.bool b) ∧ w = w' := by
  have HB := Lib.hid h
  by_cases h1 : 48 ≤ n
  · by_cases h2 : n ≤ 57
    · have HV : Hid (true = b) := Lib.hid (by rw [← HB.out]; exact (decide_eq_true ⟨h1, h2⟩).symm)
      clear h
      go_enter Tryz.func69, Tryz.ntmps69
      go_wp2
      go_ret
      exact ⟨Dg.ret_bool HV.out, rfl⟩
    · have HV : Hid (false = b) := Lib.hid (by rw [← HB.out]; exact (decide_eq_false (fun h => h2 h.2)).symm)
      have h3 : decide (n ≤ 57) = false := decide_eq_false h2
      clear h h2
      go_enter Tryz.func69, Tryz.ntmps69
      go_wp2
      go_ret
      exact ⟨Dg.ret_bool HV.out, rfl⟩
  · have HV : Hid (false = b) := Lib.hid (by rw [← HB.out]; exact (decide_eq_false (fun h => h1 h.1)).symm)
    have h3 : decide (48 ≤ n) = false := decide_eq_false h1
    clear h h1
    go_enter Tryz.func69, Tryz.ntmps69
    go_wp2
    go_ret
    exact ⟨Dg.ret_bool HV.out, rfl⟩
theorem refWithin_at (n low high : Int) (w : World) : Calls Tryz.prog 45 #[.int .i64 n, .int .i64 low, .int .i64 high] w fun e w' => e = .returned (.bool (withinV n low high)) ∧ w = w' := by
  go_enter Tryz.func45, Tryz.ntmps45
  go_wp2
  all_goals go_ret
  all_goals exact ⟨Dg.ret_bool (by rw [Bool.eq_iff_iff]; first | (simp [withinV]; done) | (simp [withinV]; omega)), rfl⟩
theorem refWithin_is (n low high : Int) (b : Bool) (h : withinV n low high = b) (w : World) : Calls Tryz.prog 45 #[.int .i64 n, .int .i64 low, .int .i64 high] w fun e w' => e = .returned (.bool b) ∧ w = w' := by subst h; exact refWithin_at n low high w
set_option maxHeartbeats 2000000 in
theorem refAllDigits_at (s : ByteArray) (hs : s.size ≤ maxLen) (w : World) : Calls Tryz.prog 82 #[.string s] w fun e w' => e = .returned (.bool (numB s.data.toList)) ∧ w = w' := by
  unfold maxLen at hs
  go_enter Tryz.func82, Tryz.ntmps82
  go_wp2
  go_loop [6] (fun i => ∃ k : Nat, k ≤ s.size ∧ i = .int .i64 k ∧ Hid ((s.data.toList.take k).all digC = true)) (fun i => s.size - (intOf i).toNat)
  case atStart => exact ⟨0, by omega, rfl, rfl⟩
  case round =>
    obtain ⟨k, hk, rfl, HA⟩ := hrel
    by_cases hlt : k < s.size
    · by_cases hw : digC s[k] = true
      · have HW := Lib.hid hw
        clear hw
        go_wp2_with (go_at_call 69; refine (refIsDigit_is _ true HW.out _).mono ?_; rintro e w' ⟨rfl, rfl⟩)
        all_goals go_round
        case rel => exact ⟨k + 1, by omega, by go_num, Dg.all_snoc _ _ _ hlt HA.out HW.out⟩
        case measure => simp [intOf]; omega
      · have hw' : digC s[k] = false := by simpa using hw
        have HD := Lib.hid hw'
        have HW : Hid (numB s.data.toList = false) := Lib.hid (by
          have h9 : digsB s.data.toList = false := Dg.all_not _ _ _ hlt hw'
          unfold numB; rw [h9, Bool.and_false])
        clear hw hw'
        go_wp2_with (go_at_call 69; refine (refIsDigit_is _ false HD.out _).mono ?_; rintro e w' ⟨rfl, rfl⟩)
        all_goals go_ret
        all_goals exact ⟨Dg.ret_bool HW.out.symm, rfl⟩
    · have HW : Hid (digsB s.data.toList = true) := Dg.all_end _ _ _ hlt HA.out
      go_wp2
      go_ret
      exact ⟨Dg.ret_bool (by unfold numB; rw [HW.out, ByteArray.toList_eq]; simp), rfl⟩
theorem preOk_is (s : ByteArray) (d : Bool) (hp : s.data.toList.all preC = true) (hd : d = s.data.toList.all digC) : preOk s = (withinV (s.size : Int) 1 20 && (!d || wholeB s.data.toList)) := by
  have hl : s.data.toList.length = s.size := Array.length_toList
  unfold preOk preB digsB withinV
  rw [hp, ← hd]
  cases d with
  | false =>
    by_cases h : s.size = 0
    · have hn : s.data.toList = [] := List.eq_nil_of_length_eq_zero (by omega)
      rw [hn]; simp [h]
    · have hn : s.data.toList.isEmpty = false := by
        cases hc : s.data.toList with
        | nil => rw [hc] at hl; simp at hl; omega
        | cons _ _ => rfl
      rw [hn, Bool.eq_iff_iff]; simp; omega
  | true =>
    by_cases h : s.size = 0
    · have hn : s.data.toList = [] := List.eq_nil_of_length_eq_zero (by omega)
      rw [hn]; simp [h]
    · have hn : s.data.toList.isEmpty = false := by
        cases hc : s.data.toList with
        | nil => rw [hc] at hl; simp at hl; omega
        | cons _ _ => rfl
      rw [hn, Bool.eq_iff_iff]; simp; omega
theorem preOk_bad {s : ByteArray} {k : Nat} (hk : k < s.size) (h : preC s[k] = false) : preOk s = false := by
  unfold preOk preB; rw [Dg.all_not _ _ _ hk h]; simp
theorem all_and {s : ByteArray} {k : Nat} (hk : k < s.size) (h : digC s[k] = true) : (s.data.toList.take (k + 1)).all digC = (s.data.toList.take k).all digC := by
  rw [take_snoc s k hk, List.all_append]; simp [h]
theorem all_no {s : ByteArray} {k : Nat} (hk : k < s.size) (h : digC s[k] = false) : (s.data.toList.take (k + 1)).all digC = false := by
  rw [take_snoc s k hk, List.all_append]; simp [h]
set_option maxRecDepth 100000 in
set_option maxHeartbeats 16000000 in
theorem refIsPre_at (s : ByteArray) (hs : s.size ≤ maxLen) (w : World) : Calls Tryz.prog 46 #[.string s] w fun e w' => e = .returned (.bool (preOk s)) ∧ w = w' := by
  have hs' := hs
  unfold maxLen at hs'
  go_enter Tryz.func46, Tryz.ntmps46
  go_wp2
  go_loop [3, 9] (fun d i => ∃ (k : Nat) (b : Bool), k ≤ s.size ∧ d = .bool b ∧ i = .int .i64 k ∧ Hid ((s.data.toList.take k).all preC = true) ∧ Hid (b = (s.data.toList.take k).all digC)) (fun _ i => s.size - (intOf i).toNat)
  case atStart => exact ⟨0, true, by omega, rfl, rfl, rfl, rfl⟩
  case round =>
    obtain ⟨k, b, hk, rfl, rfl, HA, HB⟩ := hrel
    by_cases hlt : k < s.size
    · have hb0 : (0 : Int) ≤ (s[k].toNat : Int) := Int.natCast_nonneg _
      by_cases h1 : 97 ≤ (s[k].toNat : Int)
      · by_cases h2 : (s[k].toNat : Int) ≤ 122
        · have HP : Hid (preC s[k] = true) := Lib.hid (decide_eq_true (by omega))
          have HDC : Hid (digC s[k] = false) := Lib.hid (decide_eq_false (by omega))
          cases b
          · go_wp2
            go_round
            case rel => exact ⟨k + 1, false, by omega, rfl, by go_num, Dg.all_snoc _ _ _ hlt HA.out HP.out, Lib.hid ((all_no hlt HDC.out).symm)⟩
            case measure => simp [intOf]; omega
          · go_wp2
            go_round
            case rel => exact ⟨k + 1, false, by omega, rfl, by go_num, Dg.all_snoc _ _ _ hlt HA.out HP.out, Lib.hid ((all_no hlt HDC.out).symm)⟩
            case measure => simp [intOf]; omega
        · have HP : Hid (preOk s = false) := Lib.hid (preOk_bad hlt (decide_eq_false (by omega)))
          have HD : Hid (digN (s[k].toNat : Int) = false) := Lib.hid (decide_eq_false (by omega))
          have g1 : decide ((s[k].toNat : Int) ≤ 122) = false := decide_eq_false (by omega)
          have g2 : (65 : Int) ≤ (s[k].toNat : Int) := by omega
          have g3 : decide ((s[k].toNat : Int) ≤ 90) = false := decide_eq_false (by omega)
          have g4 : ((s[k].toNat : Int) == 45) = false := beq_eq_false_iff_ne.2 (by omega)
          clear h2
          clear hb0
          cases b
          · go_wp2_with (go_at_call 69; refine (refIsDigit_is _ false HD.out _).mono ?_; rintro e w' ⟨rfl, rfl⟩)
            go_ret
            exact ⟨Dg.ret_bool HP.out.symm, rfl⟩
          · go_wp2_with (go_at_call 69; refine (refIsDigit_is _ false HD.out _).mono ?_; rintro e w' ⟨rfl, rfl⟩)
            go_ret
            exact ⟨Dg.ret_bool HP.out.symm, rfl⟩
      · have f1 : decide (97 ≤ (s[k].toNat : Int)) = false := decide_eq_false (by omega)
        by_cases h3 : 65 ≤ (s[k].toNat : Int)
        · by_cases h4 : (s[k].toNat : Int) ≤ 90
          · have HP : Hid (preC s[k] = true) := Lib.hid (decide_eq_true (by omega))
            have HDC : Hid (digC s[k] = false) := Lib.hid (decide_eq_false (by omega))
            clear h1
            cases b
            · go_wp2
              go_round
              case rel => exact ⟨k + 1, false, by omega, rfl, by go_num, Dg.all_snoc _ _ _ hlt HA.out HP.out, Lib.hid ((all_no hlt HDC.out).symm)⟩
              case measure => simp [intOf]; omega
            · go_wp2
              go_round
              case rel => exact ⟨k + 1, false, by omega, rfl, by go_num, Dg.all_snoc _ _ _ hlt HA.out HP.out, Lib.hid ((all_no hlt HDC.out).symm)⟩
              case measure => simp [intOf]; omega
          · have HP : Hid (preOk s = false) := Lib.hid (preOk_bad hlt (decide_eq_false (by omega)))
            have HD : Hid (digN (s[k].toNat : Int) = false) := Lib.hid (decide_eq_false (by omega))
            have g3 : decide ((s[k].toNat : Int) ≤ 90) = false := decide_eq_false (by omega)
            have g4 : ((s[k].toNat : Int) == 45) = false := beq_eq_false_iff_ne.2 (by omega)
            clear h1 h4
            clear hb0
            cases b
            · go_wp2_with (go_at_call 69; refine (refIsDigit_is _ false HD.out _).mono ?_; rintro e w' ⟨rfl, rfl⟩)
              go_ret
              exact ⟨Dg.ret_bool HP.out.symm, rfl⟩
            · go_wp2_with (go_at_call 69; refine (refIsDigit_is _ false HD.out _).mono ?_; rintro e w' ⟨rfl, rfl⟩)
              go_ret
              exact ⟨Dg.ret_bool HP.out.symm, rfl⟩
        · have f2 : decide (65 ≤ (s[k].toNat : Int)) = false := decide_eq_false (by omega)
          by_cases h5 : (s[k].toNat : Int) = 45
          · have HP : Hid (preC s[k] = true) := Lib.hid (decide_eq_true (by omega))
            have HDC : Hid (digC s[k] = false) := Lib.hid (decide_eq_false (by omega))
            have g4 : ((s[k].toNat : Int) == 45) = true := beq_iff_eq.2 h5
            clear h1 h3 h5
            cases b
            · go_wp2
              go_round
              case rel => exact ⟨k + 1, false, by omega, rfl, by go_num, Dg.all_snoc _ _ _ hlt HA.out HP.out, Lib.hid ((all_no hlt HDC.out).symm)⟩
              case measure => simp [intOf]; omega
            · go_wp2
              go_round
              case rel => exact ⟨k + 1, false, by omega, rfl, by go_num, Dg.all_snoc _ _ _ hlt HA.out HP.out, Lib.hid ((all_no hlt HDC.out).symm)⟩
              case measure => simp [intOf]; omega
          · have g4 : ((s[k].toNat : Int) == 45) = false := beq_eq_false_iff_ne.2 h5
            by_cases h6 : 48 ≤ (s[k].toNat : Int) ∧ (s[k].toNat : Int) ≤ 57
            · have HP : Hid (preC s[k] = true) := Lib.hid (decide_eq_true (by omega))
              have HDC : Hid (digC s[k] = true) := Lib.hid (decide_eq_true (by omega))
              clear h1 h3 h5 h6
              cases b
              · go_wp2_with (go_at_call 69; refine (refIsDigit_is _ true HDC.out _).mono ?_; rintro e w' ⟨rfl, rfl⟩)
                go_round
                case rel => exact ⟨k + 1, false, by omega, rfl, by go_num, Dg.all_snoc _ _ _ hlt HA.out HP.out, Lib.hid (by have h8 := HB.out; rw [all_and hlt HDC.out]; exact h8)⟩
                case measure => simp [intOf]; omega
              · go_wp2_with (go_at_call 69; refine (refIsDigit_is _ true HDC.out _).mono ?_; rintro e w' ⟨rfl, rfl⟩)
                go_round
                case rel => exact ⟨k + 1, true, by omega, rfl, by go_num, Dg.all_snoc _ _ _ hlt HA.out HP.out, Lib.hid (by have h8 := HB.out; rw [all_and hlt HDC.out]; exact h8)⟩
                case measure => simp [intOf]; omega
            · have HP : Hid (preOk s = false) := Lib.hid (preOk_bad hlt (decide_eq_false (by omega)))
              have HD : Hid (digN (s[k].toNat : Int) = false) := Lib.hid (decide_eq_false (by omega))
              clear h1 h3 h5 h6
              clear hb0
              cases b
              · go_wp2_with (go_at_call 69; refine (refIsDigit_is _ false HD.out _).mono ?_; rintro e w' ⟨rfl, rfl⟩)
                go_ret
                exact ⟨Dg.ret_bool HP.out.symm, rfl⟩
              · go_wp2_with (go_at_call 69; refine (refIsDigit_is _ false HD.out _).mono ?_; rintro e w' ⟨rfl, rfl⟩)
                go_ret
                exact ⟨Dg.ret_bool HP.out.symm, rfl⟩

    · have HP : Hid (preOk s = (withinV (s.size : Int) 1 20 && (!b || wholeB s.data.toList))) := Lib.hid (by
        have e : s.data.toList.take k = s.data.toList := List.take_of_length_le (by simp; omega)
        have h1 := HA.out
        have h2 := HB.out
        rw [e] at h1 h2
        exact preOk_is s b h1 h2)
      clear HA HB
      generalize hW : withinV (s.size : Int) 1 20 = d at *
      generalize hV : wholeB s.data.toList = z at *
      have HWI := Lib.hid hW
      have HWH := Lib.hid hV
      clear hW hV
      cases d
      · go_wp2_with (go_at_call 45; refine (refWithin_is _ _ _ false HWI.out _).mono ?_; rintro e w' ⟨rfl, rfl⟩)
        go_ret
        exact ⟨Dg.ret_bool HP.out.symm, rfl⟩
      · cases b
        · go_wp2_with (go_at_call 45; refine (refWithin_is _ _ _ true HWI.out _).mono ?_; rintro e w' ⟨rfl, rfl⟩)
          go_ret
          exact ⟨Dg.ret_bool HP.out.symm, rfl⟩
        · go_wp2_with (first | (go_at_call 45; refine (refWithin_is _ _ _ true HWI.out _).mono ?_; rintro e w' ⟨rfl, rfl⟩) | (go_at_call 70; refine (refNumber_is s hs z HWH.out _).mono ?_; rintro e w' ⟨rfl, rfl⟩))
          all_goals go_ret
          all_goals exact ⟨Dg.ret_bool (by rw [HP.out]; simp), rfl⟩
theorem refIsPre_is (s : ByteArray) (hs : s.size ≤ maxLen) (b : Bool) (h : preOk s = b) (w : World) : Calls Tryz.prog 46 #[.string s] w fun e w' => e = .returned (.bool b) ∧ w = w' := by subst h; exact refIsPre_at s hs w
end Tx
end Go.Proofs.YtiogfdkdhfmamaaGreatDoor
namespace Go.Proofs.YtiogfdkdhfmamaaGreatDoor
open Go.RowKit
namespace Tx
open _root_.Go.Proofs.YtiogfdkdhfmamaaGreatDoor.Nt (RH RH.cell RH.box RH.lt RH.new RH.ext RH.fre RH.set RH.other)
theorem wp_vr1 {P : Program} {c : Code} {Q : Exit → Act → World → Prop} {a : Act} {w : World} {A : Array Value} {t : TypeId}
    (h : ∀ W, Below w.heap.size w W → RH W w.heap.size A t → c.wp P Q a W) : c.wp P Q a (w.alloc (.cells A t)) := h _ (ext_alloc _ _) (RH.new _ _ _)
theorem wp_vr2 {P : Program} {c : Code} {Q : Exit → Act → World → Prop} {a : Act} {w : World} {A B : Array Value} {t u : TypeId}
    (h : ∀ W, Below w.heap.size w W → RH W w.heap.size A t → RH W (w.heap.size + 1) B u → c.wp P Q a W) : c.wp P Q a ((w.alloc (.cells A t)).alloc (.cells B u)) := by
  refine h _ (by go_grown) ((RH.new w A t).ext (ext_alloc _ _)) ?_
  have := RH.new (w.alloc (.cells A t)) B u
  simpa using this
/-- a slice that reads as the texts l -/
def SlS (w : World) (a : Option Addr) (l : List ByteArray) (c : Nat) : Prop := Sl w (.slice a l.length c) l.length (strs l)
theorem SlS.ext {w w' : World} {a : Option Addr} {l : List ByteArray} {c : Nat} (h : SlS w a l c) (hb : Below w.heap.size w w') : SlS w' a l c := Sl.ext h hb
theorem SlS.at {w : World} {a : Option Addr} {l : List ByteArray} {c k : Nat} (h : SlS w a l c) (hk : k < l.length) : ∃ b o, a = some ⟨b, o, none⟩ ∧ w.cell? ⟨b, o + k, none⟩ = some (.string l[k]) := Sl.addr h (strs_get hk)
end Tx
end Go.Proofs.YtiogfdkdhfmamaaGreatDoor
