/- The reference's words on texts: isDigit, number, allDigits, isPre, Within, Number; versionNumber of package value. Rows: blocks of which all cells are known; a whole row read, and written. No program stands in it. -/
import Derived.Test.YtfdaakghkhecgaaGreatDoorVm03
import Derived.Test.YtfdaakghkhecgaaGreatDoorVm02
import Derived.Deep.WholeRow
import Derived.Laws.CopyOwn
namespace Go.Proofs.YtfdaakghkhecgaaGreatDoor
open Go.RowKit
namespace Tx
open _root_.Go.Proofs.YtfdaakghkhecgaaGreatDoor.Nm
theorem str_zero {s : ByteArray} (h : s.size = 1) (h0 : 0 < s.size) (h1 : (s[0].toNat : Int) = 48) : s.toList = [48] := by
  rw [ByteArray.toList_eq]
  have hl : s.data.toList.length = 1 := by rw [← h]; exact Array.length_toList
  obtain ⟨c, hc⟩ := List.length_eq_one_iff.1 hl
  have e : s[0] = c := by
    have : s.data.toList[0]'(by omega) = c := by simp [hc]
    rw [← this]; rfl
  rw [hc]
  have : c = 48 := by rw [← e]; apply UInt8.toNat_inj.1; have h48 : (48 : UInt8).toNat = 48 := rfl; omega
  rw [this]
theorem str_one {s : ByteArray} (h : s.toList = [48]) : s.size = 1 := by
  rw [ByteArray.toList_eq] at h
  have hl : s.data.toList.length = s.size := Array.length_toList
  rw [h] at hl; exact hl.symm
set_option maxHeartbeats 4000000 in
theorem refNumber_at (s : ByteArray) (hs : s.size ≤ maxLen) (w : World) : Calls Tryz.prog 38 #[.string s] w fun e w' => e = .returned (.bool (wholeB s.data.toList)) ∧ w = w' := by
  unfold maxLen at hs
  by_cases h0 : 0 < s.size
  · have hem : s.toList.isEmpty = false := by
      rw [ByteArray.toList_eq]
      cases hq : s.data.toList with
      | nil => have hl : s.data.toList.length = s.size := Array.length_toList
               rw [hq] at hl; simp at hl; omega
      | cons _ _ => rfl
    have hem' : s.data.toList.isEmpty = false := by rw [← ByteArray.toList_eq]; exact hem
    have HW : Hid (wholeB s.data.toList = (!(decide (1 < s.size) && decide ((s[0].toNat : Int) = 48)) && digsB s.data.toList)) := by
      have : wholeB s.data.toList = (!(decide (1 < s.size) && decide ((s[0].toNat : Int) = 48)) && digsB s.data.toList) := by
        unfold wholeB; rw [hem', zeroAt_of s h0, show s.data.toList.length = s.size from Array.length_toList]; simp
      exact this
    have hem2 : (s.toList == []) = false := by
      rw [beq_eq_false_iff_ne]; intro h; rw [h] at hem; cases hem
    have hem3 : ¬ (s.toList = []) := fun h => by rw [h] at hem; cases hem
    clear hem'
    generalize wholeB s.data.toList = N at *
    by_cases h2 : (s[0].toNat : Int) = 48
    · by_cases h1 : 1 < s.size
      · have HF : Hid (N = false) := by have := HW.out; rw [decide_eq_true h1, decide_eq_true h2] at this; exact this
        have hne : ¬ (s.toList = [48]) := fun h => by have := str_one h; omega
        have hne2 : (s.toList == [48]) = false := by simpa using hne
        have hne3 : (s.toList != [48]) = true := by simpa using hne
        clear HW
        go_enter Tryz.func38, Tryz.ntmps38
        go_wp2
        go_ret
        exact ⟨Dg.ret_bool HF.out.symm, rfl⟩
      · have HF : Hid (N = digsB s.data.toList) := by have := HW.out; rw [decide_eq_false h1] at this; simp at this; exact this
        have hz := str_zero (by omega) h0 h2
        have hne2 : (s.toList == [48]) = true := by rw [hz]; rfl
        have hne3 : (s.toList != [48]) = false := by rw [hz]; rfl
        clear HW hz
        go_enter Tryz.func38, Tryz.ntmps38
        go_wp2
        go_loop [17] (fun i => ∃ k : Nat, k ≤ s.size ∧ i = .int .i64 k ∧ Hid ((s.data.toList.take k).all digC = true)) (fun i => s.size - (intOf i).toNat)
        case atStart => exact ⟨0, by omega, rfl, rfl⟩
        case round =>
          obtain ⟨k, hk, rfl, HA⟩ := hrel
          by_cases hlt : k < s.size
          · by_cases hw : digC s[k] = true
            · have HW := Lib.hid hw
              have hn : 48 ≤ (s[k].toNat : Int) ∧ (s[k].toNat : Int) ≤ 57 := of_decide_eq_true hw
              obtain ⟨hn1, hn2⟩ := hn
              clear hw
              go_wp2
              all_goals go_round
              case rel => exact ⟨k + 1, by omega, by go_num, Dg.all_snoc _ _ _ hlt HA.out HW.out⟩
              case measure => simp [intOf] <;> omega
            · have hw' : digC s[k] = false := by simpa using hw
              have HW : Hid (digsB s.data.toList = false) := Dg.all_not _ _ _ hlt hw'
              have hn : ¬ (48 ≤ (s[k].toNat : Int) ∧ (s[k].toNat : Int) ≤ 57) := of_decide_eq_false hw'
              clear hw hw'
              by_cases h1 : (s[k].toNat : Int) < 48
              · clear hn
                go_wp2
                go_ret
                exact ⟨Dg.ret_bool (by rw [HF.out, HW.out]), rfl⟩
              · have h2 : (57 : Int) < (s[k].toNat : Int) := by omega
                clear hn
                go_wp2
                go_ret
                exact ⟨Dg.ret_bool (by rw [HF.out, HW.out]), rfl⟩
          · have HW : Hid (digsB s.data.toList = true) := Dg.all_end _ _ _ hlt HA.out
            go_wp2
            go_ret
            exact ⟨Dg.ret_bool (by rw [HF.out, HW.out]), rfl⟩
    · have HF : Hid (N = digsB s.data.toList) := by have := HW.out; rw [decide_eq_false h2] at this; simp at this; exact this
      clear HW
      go_enter Tryz.func38, Tryz.ntmps38
      go_wp2
      go_loop [17] (fun i => ∃ k : Nat, k ≤ s.size ∧ i = .int .i64 k ∧ Hid ((s.data.toList.take k).all digC = true)) (fun i => s.size - (intOf i).toNat)
      case atStart => exact ⟨0, by omega, rfl, rfl⟩
      case round =>
        obtain ⟨k, hk, rfl, HA⟩ := hrel
        by_cases hlt : k < s.size
        · by_cases hw : digC s[k] = true
          · have HW := Lib.hid hw
            have hn : 48 ≤ (s[k].toNat : Int) ∧ (s[k].toNat : Int) ≤ 57 := of_decide_eq_true hw
            obtain ⟨hn1, hn2⟩ := hn
            clear hw
            go_wp2
            all_goals go_round
            case rel => exact ⟨k + 1, by omega, by go_num, Dg.all_snoc _ _ _ hlt HA.out HW.out⟩
            case measure => simp [intOf] <;> omega
          · have hw' : digC s[k] = false := by simpa using hw
            have HW : Hid (digsB s.data.toList = false) := Dg.all_not _ _ _ hlt hw'
            have hn : ¬ (48 ≤ (s[k].toNat : Int) ∧ (s[k].toNat : Int) ≤ 57) := of_decide_eq_false hw'
            clear hw hw'
            by_cases h1 : (s[k].toNat : Int) < 48
            · clear hn
              go_wp2
              go_ret
              exact ⟨Dg.ret_bool (by rw [HF.out, HW.out]), rfl⟩
            · have h2 : (57 : Int) < (s[k].toNat : Int) := by omega
              clear hn
              go_wp2
              go_ret
              exact ⟨Dg.ret_bool (by rw [HF.out, HW.out]), rfl⟩
        · have HW : Hid (digsB s.data.toList = true) := Dg.all_end _ _ _ hlt HA.out
          go_wp2
          go_ret
          exact ⟨Dg.ret_bool (by rw [HF.out, HW.out]), rfl⟩
  · have hnil : s.data.toList = [] := List.eq_nil_of_length_eq_zero (by have hl : s.data.toList.length = s.size := Array.length_toList
                                                                        omega)
    have hem : s.toList.isEmpty = true := by rw [ByteArray.toList_eq, hnil]; rfl
    have hem2 : (s.toList == []) = true := by rw [ByteArray.toList_eq, hnil]; rfl
    have hem3 : s.toList = [] := by rw [ByteArray.toList_eq, hnil]
    have HF : Hid (wholeB s.data.toList = false) := by
      have : wholeB s.data.toList = false := by rw [hnil]; rfl
      exact this
    clear hnil
    go_enter Tryz.func38, Tryz.ntmps38
    go_wp2
    go_ret
    exact ⟨Dg.ret_bool HF.out.symm, rfl⟩

theorem refNumber_is (s : ByteArray) (hs : s.size ≤ maxLen) (b : Bool) (h : wholeB s.data.toList = b) (w : World) : Calls Tryz.prog 38 #[.string s] w fun e w' => e = .returned (.bool b) ∧ w = w' := by subst h; exact refNumber_at s hs w
theorem refIsDigit_is (n : Int) (b : Bool) (h : digN n = b) (w : World) : Calls Tryz.prog 37 #[.int .u8 n] w fun e w' => e = .returned (.bool b) ∧ w = w' := by
  have HB := Lib.hid h
  by_cases h1 : 48 ≤ n
  · by_cases h2 : n ≤ 57
    · have HV : Hid (true = b) := Lib.hid (by rw [← HB.out]; exact (decide_eq_true ⟨h1, h2⟩).symm)
      clear h
      go_enter Tryz.func37, Tryz.ntmps37
      go_wp2
      go_ret
      exact ⟨Dg.ret_bool HV.out, rfl⟩
    · have HV : Hid (false = b) := Lib.hid (by rw [← HB.out]; exact (decide_eq_false (fun h => h2 h.2)).symm)
      have h3 : decide (n ≤ 57) = false := decide_eq_false h2
      clear h h2
      go_enter Tryz.func37, Tryz.ntmps37
      go_wp2
      go_ret
      exact ⟨Dg.ret_bool HV.out, rfl⟩
  · have HV : Hid (false = b) := Lib.hid (by rw [← HB.out]; exact (decide_eq_false (fun h => h1 h.1)).symm)
    have h3 : decide (48 ≤ n) = false := decide_eq_false h1
    clear h h1
    go_enter Tryz.func37, Tryz.ntmps37
    go_wp2
    go_ret
    exact ⟨Dg.ret_bool HV.out, rfl⟩
theorem refWithin_at (n low high : Int) (w : World) : Calls Tryz.prog 23 #[.int .i64 n, .int .i64 low, .int .i64 high] w fun e w' => e = .returned (.bool (withinV n low high)) ∧ w = w' := by
  go_enter Tryz.func23, Tryz.ntmps23
  go_wp2
  all_goals go_ret
  all_goals exact ⟨Dg.ret_bool (by rw [Bool.eq_iff_iff]; first | (simp [withinV]; done) | (simp [withinV]; omega)), rfl⟩
theorem refWithin_is (n low high : Int) (b : Bool) (h : withinV n low high = b) (w : World) : Calls Tryz.prog 23 #[.int .i64 n, .int .i64 low, .int .i64 high] w fun e w' => e = .returned (.bool b) ∧ w = w' := by subst h; exact refWithin_at n low high w
set_option maxHeartbeats 2000000 in
theorem refAllDigits_at (s : ByteArray) (hs : s.size ≤ maxLen) (w : World) : Calls Tryz.prog 42 #[.string s] w fun e w' => e = .returned (.bool (numB s.data.toList)) ∧ w = w' := by
  unfold maxLen at hs
  go_enter Tryz.func42, Tryz.ntmps42
  go_wp2
  go_loop [6] (fun i => ∃ k : Nat, k ≤ s.size ∧ i = .int .i64 k ∧ Hid ((s.data.toList.take k).all digC = true)) (fun i => s.size - (intOf i).toNat)
  case atStart => exact ⟨0, by omega, rfl, rfl⟩
  case round =>
    obtain ⟨k, hk, rfl, HA⟩ := hrel
    by_cases hlt : k < s.size
    · by_cases hw : digC s[k] = true
      · have HW := Lib.hid hw
        clear hw
        go_wp2_with (go_at_call 37; refine (refIsDigit_is _ true HW.out _).mono ?_; rintro e w' ⟨rfl, rfl⟩)
        all_goals go_round
        case rel => exact ⟨k + 1, by omega, by go_num, Dg.all_snoc _ _ _ hlt HA.out HW.out⟩
        case measure => simp [intOf]; omega
      · have hw' : digC s[k] = false := by simpa using hw
        have HD := Lib.hid hw'
        have HW : Hid (numB s.data.toList = false) := Lib.hid (by
          have h9 : digsB s.data.toList = false := Dg.all_not _ _ _ hlt hw'
          unfold numB; rw [h9, Bool.and_false])
        clear hw hw'
        go_wp2_with (go_at_call 37; refine (refIsDigit_is _ false HD.out _).mono ?_; rintro e w' ⟨rfl, rfl⟩)
        all_goals go_ret
        all_goals exact ⟨Dg.ret_bool HW.out.symm, rfl⟩
    · have HW : Hid (digsB s.data.toList = true) := Dg.all_end _ _ _ hlt HA.out
      go_wp2
      go_ret
      exact ⟨Dg.ret_bool (by unfold numB; rw [HW.out, ByteArray.toList_eq]; simp), rfl⟩
theorem preOk_is (s : ByteArray) (d : Bool) (hp : s.data.toList.all preC = true) (hd : d = s.data.toList.all digC) : preOk s = (withinV (s.size : Int) 1 20 && (!d || wholeB s.data.toList)) := by
  have hl : s.data.toList.length = s.size := Array.length_toList
  unfold preOk preB digsB withinV
  rw [hp, ← hd]
  cases d with
  | false =>
    by_cases h : s.size = 0
    · have hn : s.data.toList = [] := List.eq_nil_of_length_eq_zero (by omega)
      rw [hn]; simp [h]
    · have hn : s.data.toList.isEmpty = false := by
        cases hc : s.data.toList with
        | nil => rw [hc] at hl; simp at hl; omega
        | cons _ _ => rfl
      rw [hn, Bool.eq_iff_iff]; simp; omega
  | true =>
    by_cases h : s.size = 0
    · have hn : s.data.toList = [] := List.eq_nil_of_length_eq_zero (by omega)
      rw [hn]; simp [h]
    · have hn : s.data.toList.isEmpty = false := by
        cases hc : s.data.toList with
        | nil => rw [hc] at hl; simp at hl; omega
        | cons _ _ => rfl
      rw [hn, Bool.eq_iff_iff]; simp; omega
theorem preOk_bad {s : ByteArray} {k : Nat} (hk : k < s.size) (h : preC s[k] = false) : preOk s = false := by
  unfold preOk preB; rw [Dg.all_not _ _ _ hk h]; simp
theorem all_and {s : ByteArray} {k : Nat} (hk : k < s.size) (h : digC s[k] = true) : (s.data.toList.take (k + 1)).all digC = (s.data.toList.take k).all digC := by
  rw [take_snoc s k hk, List.all_append]; simp [h]
theorem all_no {s : ByteArray} {k : Nat} (hk : k < s.size) (h : digC s[k] = false) : (s.data.toList.take (k + 1)).all digC = false := by
  rw [take_snoc s k hk, List.all_append]; simp [h]
set_option maxRecDepth 100000 in
set_option maxHeartbeats 16000000 in
theorem refIsPre_at (s : ByteArray) (hs : s.size ≤ maxLen) (w : World) : Calls Tryz.prog 24 #[.string s] w fun e w' => e = .returned (.bool (preOk s)) ∧ w = w' := by
  have hs' := hs
  unfold maxLen at hs'
  go_enter Tryz.func24, Tryz.ntmps24
  go_wp2
  go_loop [3, 9] (fun d i => ∃ (k : Nat) (b : Bool), k ≤ s.size ∧ d = .bool b ∧ i = .int .i64 k ∧ Hid ((s.data.toList.take k).all preC = true) ∧ Hid (b = (s.data.toList.take k).all digC)) (fun _ i => s.size - (intOf i).toNat)
  case atStart => exact ⟨0, true, by omega, rfl, rfl, rfl, rfl⟩
  case round =>
    obtain ⟨k, b, hk, rfl, rfl, HA, HB⟩ := hrel
    by_cases hlt : k < s.size
    · have hb0 : (0 : Int) ≤ (s[k].toNat : Int) := Int.natCast_nonneg _
      by_cases h1 : 97 ≤ (s[k].toNat : Int)
      · by_cases h2 : (s[k].toNat : Int) ≤ 122
        · have HP : Hid (preC s[k] = true) := Lib.hid (decide_eq_true (by omega))
          have HDC : Hid (digC s[k] = false) := Lib.hid (decide_eq_false (by omega))
          cases b
          · go_wp2
            go_round
            case rel => exact ⟨k + 1, false, by omega, rfl, by go_num, Dg.all_snoc _ _ _ hlt HA.out HP.out, Lib.hid ((all_no hlt HDC.out).symm)⟩
            case measure => simp [intOf]; omega
          · go_wp2
            go_round
            case rel => exact ⟨k + 1, false, by omega, rfl, by go_num, Dg.all_snoc _ _ _ hlt HA.out HP.out, Lib.hid ((all_no hlt HDC.out).symm)⟩
            case measure => simp [intOf]; omega
        · have HP : Hid (preOk s = false) := Lib.hid (preOk_bad hlt (decide_eq_false (by omega)))
          have HD : Hid (digN (s[k].toNat : Int) = false) := Lib.hid (decide_eq_false (by omega))
          have g1 : decide ((s[k].toNat : Int) ≤ 122) = false := decide_eq_false (by omega)
          have g2 : (65 : Int) ≤ (s[k].toNat : Int) := by omega
          have g3 : decide ((s[k].toNat : Int) ≤ 90) = false := decide_eq_false (by omega)
          have g4 : ((s[k].toNat : Int) == 45) = false := beq_eq_false_iff_ne.2 (by omega)
          clear h2
          clear hb0
          cases b
          · go_wp2_with (go_at_call 37; refine (refIsDigit_is _ false HD.out _).mono ?_; rintro e w' ⟨rfl, rfl⟩)
            go_ret
            exact ⟨Dg.ret_bool HP.out.symm, rfl⟩
          · go_wp2_with (go_at_call 37; refine (refIsDigit_is _ false HD.out _).mono ?_; rintro e w' ⟨rfl, rfl⟩)
            go_ret
            exact ⟨Dg.ret_bool HP.out.symm, rfl⟩
      · have f1 : decide (97 ≤ (s[k].toNat : Int)) = false := decide_eq_false (by omega)
        by_cases h3 : 65 ≤ (s[k].toNat : Int)
        · by_cases h4 : (s[k].toNat : Int) ≤ 90
          · have HP : Hid (preC s[k] = true) := Lib.hid (decide_eq_true (by omega))
            have HDC : Hid (digC s[k] = false) := Lib.hid (decide_eq_false (by omega))
            clear h1
            cases b
            · go_wp2
              go_round
              case rel => exact ⟨k + 1, false, by omega, rfl, by go_num, Dg.all_snoc _ _ _ hlt HA.out HP.out, Lib.hid ((all_no hlt HDC.out).symm)⟩
              case measure => simp [intOf]; omega
            · go_wp2
              go_round
              case rel => exact ⟨k + 1, false, by omega, rfl, by go_num, Dg.all_snoc _ _ _ hlt HA.out HP.out, Lib.hid ((all_no hlt HDC.out).symm)⟩
              case measure => simp [intOf]; omega
          · have HP : Hid (preOk s = false) := Lib.hid (preOk_bad hlt (decide_eq_false (by omega)))
            have HD : Hid (digN (s[k].toNat : Int) = false) := Lib.hid (decide_eq_false (by omega))
            have g3 : decide ((s[k].toNat : Int) ≤ 90) = false := decide_eq_false (by omega)
            have g4 : ((s[k].toNat : Int) == 45) = false := beq_eq_false_iff_ne.2 (by omega)
            clear h1 h4
            clear hb0
            cases b
            · go_wp2_with (go_at_call 37; refine (refIsDigit_is _ false HD.out _).mono ?_; rintro e w' ⟨rfl, rfl⟩)
              go_ret
              exact ⟨Dg.ret_bool HP.out.symm, rfl⟩
            · go_wp2_with (go_at_call 37; refine (refIsDigit_is _ false HD.out _).mono ?_; rintro e w' ⟨rfl, rfl⟩)
              go_ret
              exact ⟨Dg.ret_bool HP.out.symm, rfl⟩
        · have f2 : decide (65 ≤ (s[k].toNat : Int)) = false := decide_eq_false (by omega)
          by_cases h5 : (s[k].toNat : Int) = 45
          · have HP : Hid (preC s[k] = true) := Lib.hid (decide_eq_true (by omega))
            have HDC : Hid (digC s[k] = false) := Lib.hid (decide_eq_false (by omega))
            have g4 : ((s[k].toNat : Int) == 45) = true := beq_iff_eq.2 h5
            clear h1 h3 h5
            cases b
            · go_wp2
              go_round
              case rel => exact ⟨k + 1, false, by omega, rfl, by go_num, Dg.all_snoc _ _ _ hlt HA.out HP.out, Lib.hid ((all_no hlt HDC.out).symm)⟩
              case measure => simp [intOf]; omega
            · go_wp2
              go_round
              case rel => exact ⟨k + 1, false, by omega, rfl, by go_num, Dg.all_snoc _ _ _ hlt HA.out HP.out, Lib.hid ((all_no hlt HDC.out).symm)⟩
              case measure => simp [intOf]; omega
          · have g4 : ((s[k].toNat : Int) == 45) = false := beq_eq_false_iff_ne.2 h5
            by_cases h6 : 48 ≤ (s[k].toNat : Int) ∧ (s[k].toNat : Int) ≤ 57
            · have HP : Hid (preC s[k] = true) := Lib.hid (decide_eq_true (by omega))
              have HDC : Hid (digC s[k] = true) := Lib.hid (decide_eq_true (by omega))
              clear h1 h3 h5 h6
              cases b
              · go_wp2_with (go_at_call 37; refine (refIsDigit_is _ true HDC.out _).mono ?_; rintro e w' ⟨rfl, rfl⟩)
                go_round
                case rel => exact ⟨k + 1, false, by omega, rfl, by go_num, Dg.all_snoc _ _ _ hlt HA.out HP.out, Lib.hid (by have h8 := HB.out; rw [all_and hlt HDC.out]; exact h8)⟩
                case measure => simp [intOf]; omega
              · go_wp2_with (go_at_call 37; refine (refIsDigit_is _ true HDC.out _).mono ?_; rintro e w' ⟨rfl, rfl⟩)
                go_round
                case rel => exact ⟨k + 1, true, by omega, rfl, by go_num, Dg.all_snoc _ _ _ hlt HA.out HP.out, Lib.hid (by have h8 := HB.out; rw [all_and hlt HDC.out]; exact h8)⟩
                case measure => simp [intOf]; omega
            · have HP : Hid (preOk s = false) := Lib.hid (preOk_bad hlt (decide_eq_false (by omega)))
              have HD : Hid (digN (s[k].toNat : Int) = false) := Lib.hid (decide_eq_false (by omega))
              clear h1 h3 h5 h6
              clear hb0
              cases b
              · go_wp2_with (go_at_call 37; refine (refIsDigit_is _ false HD.out _).mono ?_; rintro e w' ⟨rfl, rfl⟩)
                go_ret
                exact ⟨Dg.ret_bool HP.out.symm, rfl⟩
              · go_wp2_with (go_at_call 37; refine (refIsDigit_is _ false HD.out _).mono ?_; rintro e w' ⟨rfl, rfl⟩)
                go_ret
                exact ⟨Dg.ret_bool HP.out.symm, rfl⟩

    · have HP : Hid (preOk s = (withinV (s.size : Int) 1 20 && (!b || wholeB s.data.toList))) := Lib.hid (by
        have e : s.data.toList.take k = s.data.toList := List.take_of_length_le (by simp; omega)
        have h1 := HA.out
        have h2 := HB.out
        rw [e] at h1 h2
        exact preOk_is s b h1 h2)
      clear HA HB
      generalize hW : withinV (s.size : Int) 1 20 = d at *
      generalize hV : wholeB s.data.toList = z at *
      have HWI := Lib.hid hW
      have HWH := Lib.hid hV
      clear hW hV
      cases d
      · go_wp2_with (go_at_call 23; refine (refWithin_is _ _ _ false HWI.out _).mono ?_; rintro e w' ⟨rfl, rfl⟩)
        go_ret
        exact ⟨Dg.ret_bool HP.out.symm, rfl⟩
      · cases b
        · go_wp2_with (go_at_call 23; refine (refWithin_is _ _ _ true HWI.out _).mono ?_; rintro e w' ⟨rfl, rfl⟩)
          go_ret
          exact ⟨Dg.ret_bool HP.out.symm, rfl⟩
        · go_wp2_with (first | (go_at_call 23; refine (refWithin_is _ _ _ true HWI.out _).mono ?_; rintro e w' ⟨rfl, rfl⟩) | (go_at_call 38; refine (refNumber_is s hs z HWH.out _).mono ?_; rintro e w' ⟨rfl, rfl⟩))
          all_goals go_ret
          all_goals exact ⟨Dg.ret_bool (by rw [HP.out]; simp), rfl⟩
theorem refIsPre_is (s : ByteArray) (hs : s.size ≤ maxLen) (b : Bool) (h : preOk s = b) (w : World) : Calls Tryz.prog 24 #[.string s] w fun e w' => e = .returned (.bool b) ∧ w = w' := by subst h; exact refIsPre_at s hs w
/-- a number of a version, and whether it is one -/
def VnPost (l : List UInt8) (w : World) (e : Ending) (w' : World) : Prop := e = .returned (.tuple #[.int .i64 (((vnO l).getD 0 : Nat) : Int), .bool (vnO l).isSome]) ∧ Below w.heap.size w w'
theorem vn_no {l : List UInt8} (h : wholeB l = false ∨ 6 < l.length) : vnO l = none := by
  unfold vnO; rw [if_neg]; rintro ⟨h1, h2⟩; rcases h with h | h
  · rw [h1] at h; cases h
  · omega
theorem vn_yes {l : List UInt8} (h : wholeB l = true) (h6 : l.length ≤ 6) : vnO l = some (decv l) := if_pos ⟨h, h6⟩
set_option maxHeartbeats 2000000 in
theorem versionNumber_at (s : ByteArray) (hs : s.size ≤ maxLen) (w : World) : Calls Tryz.prog 17 #[.string s] w (VnPost s.data.toList w) := by
  have hs' := hs
  unfold maxLen at hs'
  have hl : s.data.toList.length = s.size := Array.length_toList
  by_cases hw : wholeB s.data.toList = true
  · have HW := Lib.hid hw
    by_cases h6 : s.size ≤ 6
    · have HV := Lib.hid (vn_yes hw (by omega))
      have hd := whole_iff.1 hw
      have h0 : 0 < s.size := by
        obtain ⟨_, c, r, e, _⟩ := hd
        rw [e] at hl; simp at hl; omega
      have HAT := Lib.hid (fun W9 => atoi_at s hd.1 h0 (by omega) W9)
      clear hw hd h0 hl
      go_enter Tryz.func17, Tryz.ntmps17
      go_wp2_with fail
      refine (value_whole_is s hs true HW.out _).mono ?_
      rintro e w' ⟨rfl, rfl⟩
      go_wp2_with fail
      refine (HAT.out _).mono ?_
      rintro e w2 ⟨rfl, hb2⟩
      have HB := Lib.hid hb2
      generalize decv s.data.toList = n at *
      clear hb2 HAT
      go_wp2_with fail
      go_quiet (fail)
      go_wp2
      exact bodyPost_ret (v := .tuple #[.int .i64 (n : Int), .bool true]) (by simp [results, Tryz.results17, go_sem]) rfl ⟨by rw [HV.out]; rfl, below_drewN HB.out nq⟩
    · have HV := Lib.hid (vn_no (l := s.data.toList) (.inr (by omega)))
      have h7 : (6 : Int) < (s.size : Int) := by omega
      clear hw hl h6
      go_enter Tryz.func17, Tryz.ntmps17
      go_wp2_with fail
      refine (value_whole_is s hs true HW.out _).mono ?_
      rintro e w' ⟨rfl, rfl⟩
      go_wp2
      exact bodyPost_ret (v := .tuple #[.int .i64 0, .bool false]) (by simp [results, Tryz.results17, go_sem]) rfl ⟨by rw [HV.out]; rfl, Below.refl _ _⟩
  · have hw' : wholeB s.data.toList = false := by simpa using hw
    have HV := Lib.hid (vn_no (l := s.data.toList) (.inl hw'))
    have HW := Lib.hid hw'
    clear hw hw' hl
    go_enter Tryz.func17, Tryz.ntmps17
    go_wp2_with fail
    refine (value_whole_is s hs false HW.out _).mono ?_
    rintro e w' ⟨rfl, rfl⟩
    go_wp2
    exact bodyPost_ret (v := .tuple #[.int .i64 0, .bool false]) (by simp [results, Tryz.results17, go_sem]) rfl ⟨by rw [HV.out]; rfl, Below.refl _ _⟩
set_option maxHeartbeats 2000000 in
theorem refNum_at (s : ByteArray) (hs : s.size ≤ maxLen) (w : World) : Calls Tryz.prog 36 #[.string s, .int .i64 6] w (VnPost s.data.toList w) := by
  have hs' := hs
  unfold maxLen at hs'
  have hl : s.data.toList.length = s.size := Array.length_toList
  by_cases hw : wholeB s.data.toList = true
  · have HW := Lib.hid hw
    by_cases h6 : s.size ≤ 6
    · have HV := Lib.hid (vn_yes hw (by omega))
      have hd := whole_iff.1 hw
      have h0 : 0 < s.size := by
        obtain ⟨_, c, r, e, _⟩ := hd
        rw [e] at hl; simp at hl; omega
      have HAT := Lib.hid (fun W9 => atoi_at s hd.1 h0 (by omega) W9)
      clear hw hd h0 hl
      go_enter Tryz.func36, Tryz.ntmps36
      go_wp2_with fail
      refine (refNumber_is s hs true HW.out _).mono ?_
      rintro e w' ⟨rfl, rfl⟩
      go_wp2_with fail
      refine (HAT.out _).mono ?_
      rintro e w2 ⟨rfl, hb2⟩
      have HB := Lib.hid hb2
      generalize decv s.data.toList = n at *
      clear hb2 HAT
      go_wp2
      exact bodyPost_ret (v := .tuple #[.int .i64 (n : Int), .bool true]) (by simp [results, Tryz.results36, go_sem]) rfl ⟨by rw [HV.out]; rfl, HB.out⟩
    · have HV := Lib.hid (vn_no (l := s.data.toList) (.inr (by omega)))
      have h7 : (6 : Int) < (s.size : Int) := by omega
      clear hw hl h6
      go_enter Tryz.func36, Tryz.ntmps36
      go_wp2_with fail
      refine (refNumber_is s hs true HW.out _).mono ?_
      rintro e w' ⟨rfl, rfl⟩
      go_wp2
      exact bodyPost_ret (v := .tuple #[.int .i64 0, .bool false]) (by simp [results, Tryz.results36, go_sem]) rfl ⟨by rw [HV.out]; rfl, Below.refl _ _⟩
  · have hw' : wholeB s.data.toList = false := by simpa using hw
    have HV := Lib.hid (vn_no (l := s.data.toList) (.inl hw'))
    have HW := Lib.hid hw'
    clear hw hw' hl
    go_enter Tryz.func36, Tryz.ntmps36
    go_wp2_with fail
    refine (refNumber_is s hs false HW.out _).mono ?_
    rintro e w' ⟨rfl, rfl⟩
    go_wp2
    exact bodyPost_ret (v := .tuple #[.int .i64 0, .bool false]) (by simp [results, Tryz.results36, go_sem]) rfl ⟨by rw [HV.out]; rfl, Below.refl _ _⟩
end Tx
end Go.Proofs.YtfdaakghkhecgaaGreatDoor
namespace Go.Proofs.YtfdaakghkhecgaaGreatDoor
open Go.RowKit
namespace Nt
/-- the block b is a row of cells A -/
def RH (w : World) (b : Nat) (A : Array Value) (t : TypeId) : Prop := w.heap[b]? = some (.cells A t (0, 0))
theorem RH.lt {w : World} {b : Nat} {A : Array Value} {t : TypeId} (h : RH w b A t) : b < w.heap.size := (Array.getElem?_eq_some_iff.1 h).1
theorem RH.ext {w w' : World} {b : Nat} {A : Array Value} {t : TypeId} (h : RH w b A t) (hb : Below w.heap.size w w') : RH w' b A t := by
  unfold RH; rw [hb.block b h.lt]; exact h
theorem RH.cell {w : World} {b : Nat} {A : Array Value} {t : TypeId} (h : RH w b A t) (j : Nat) : w.cell? ⟨b, j, none⟩ = A[j]? := cell_of_row w b j A t _ h
theorem RH.fre {w : World} {b : Nat} {A : Array Value} {t : TypeId} (h : RH w b A t) (j : Nat) : w.frozen? ⟨b, j, none⟩ = false := by
  unfold RH at h
  simp [World.frozen?, h]
theorem RH.new (w : World) (A : Array Value) (t : TypeId) : RH (w.alloc (.cells A t)) w.heap.size A t := heap_alloc_last w _
theorem RH.row {w : World} {b : Nat} {A : Array Value} {t : TypeId} (h : RH w b A t) (A' : Array Value) : RH (w.setRow b A') b A' t := setRow_heap w b A A' t _ h
theorem RH.set {w : World} {b : Nat} {A : Array Value} {t : TypeId} (h : RH w b A t) (j : Nat) (v : Value) : RH (w.setCell ⟨b, j, none⟩ v) b (A.setIfInBounds j v) t := by
  rw [setCell_eq_setRow w b j A t _ v h]; exact h.row _
theorem RH.set_other {w : World} {b : Nat} {A : Array Value} {t : TypeId} (h : RH w b A t) {p : Addr} (hne : b ≠ p.block) (v : Value) : RH (w.setCell p v) b A t := by
  unfold RH World.setCell
  simp only [Array.getElem?_modify]
  rw [if_neg (fun e => hne e.symm)]; exact h
theorem RH.other {w : World} {b : Nat} {A : Array Value} {t : TypeId} (h : RH w b A t) {p : Addr} (hne : b ≠ p.block) (v : Value) : RH (w.setCell p v) b A t := h.set_other hne v
theorem RH.box {w : World} {b : Nat} {A : Array Value} {t : TypeId} (h : RH w b A t) : Box w b A := ⟨h.lt, fun j => h.cell j⟩
end Nt
open Nt (RH RH.cell RH.other)
theorem zs3 {w : World} {b : Nat} {t : TypeId} {a0 a1 a2 : Value} (h : RH w b #[a0, a1, a2] t) : w.cell? ⟨b, 0, none⟩ = some a0 ∧ w.cell? ⟨b, 1, none⟩ = some a1 ∧ w.cell? ⟨b, 2, none⟩ = some a2 := ⟨(h.cell 0).trans rfl, (h.cell 1).trans rfl, (h.cell 2).trans rfl⟩
theorem zs4 {w : World} {b : Nat} {t : TypeId} {a0 a1 a2 a3 : Value} (h : RH w b #[a0, a1, a2, a3] t) : w.cell? ⟨b, 0, none⟩ = some a0 ∧ w.cell? ⟨b, 1, none⟩ = some a1 ∧ w.cell? ⟨b, 2, none⟩ = some a2 ∧ w.cell? ⟨b, 3, none⟩ = some a3 := ⟨(h.cell 0).trans rfl, (h.cell 1).trans rfl, (h.cell 2).trans rfl, (h.cell 3).trans rfl⟩
theorem zzo {w : World} {b d j : Nat} {A : Array Value} {t : TypeId} {v : Value} (h : RH w b A t) (hne : b ≠ d) : RH (w.setCell ⟨d, j, none⟩ v) b A t := h.other hne v
theorem zzw {w w' : World} {n b j : Nat} {v : Value} (h : Below n w w') (hn : n ≤ b) : Below n w (w'.setCell ⟨b, j, none⟩ v) := h.setCell hn v
end Go.Proofs.YtfdaakghkhecgaaGreatDoor
