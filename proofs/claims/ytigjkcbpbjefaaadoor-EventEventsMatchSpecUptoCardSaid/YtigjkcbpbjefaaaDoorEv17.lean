/- Rows of bytes: isBytes of package event, XisRow of package flag; IsRow, IsPlain of the reference. Printed by gen_evs.py. -/
import Derived.Test.YtigjkcbpbjefaaaDoorEv05
import Derived.Test.YtigjkcbpbjefaaaDoorEv01
import Derived.Test.YtigjkcbpbjefaaaDoorEv16
namespace Go.Proofs.YtigjkcbpbjefaaaDoor
open Go.RowKit
set_option maxRecDepth 100000 in
set_option maxHeartbeats 8000000 in
theorem ref4_IsRow (s : ByteArray) (hs : s.size ≤ maxLen) (w : World) : Calls Tryd.prog 26 #[.string s] w fun e w' => e = .returned (.bool (wordsB s.data.toList)) ∧ w = w' := by
 unfold maxLen at hs
 go_enter Tryd.func26, Tryd.ntmps26
 go_wp2
 go_loop [7] (fun i => ∃ k : Nat, k ≤ s.size ∧ i = .int .i64 k ∧ Hid ((s.data.toList.take k).all wordC = true)) (fun i => s.size - (intOf i).toNat)
 case atStart => exact ⟨0, by omega, rfl, rfl⟩
 case round =>
  obtain ⟨k, hk, rfl, HA⟩ := hrel
  by_cases hlt : k < s.size
  ·have hb0 : (0 : Int) ≤ (s[k].toNat : Int) := Int.natCast_nonneg _
   by_cases h1 : 97 ≤ (s[k].toNat : Int)
   ·by_cases h2 : (s[k].toNat : Int) ≤ 122
    ·have HW : Hid (wordC s[k] = true) := Lib.hid (decide_eq_true (by omega))
     go_wp2
     go_round
     case rel => exact ⟨k + 1, by omega, by go_num, all_snoc _ _ _ hlt HA.out HW.out⟩
     case measure => simp [intOf]; omega
    ·have HW : Hid (wordsB s.data.toList = false) := Lib.hid (by have h9 := all_not wordC s k hlt (decide_eq_false (by omega)); unfold wordsB; rw [h9]; rfl)
     have f1 : decide ((s[k].toNat : Int) ≤ 122) = false := decide_eq_false (by omega)
     have f2 : (48 : Int) ≤ (s[k].toNat : Int) := by omega
     have f3 : decide ((s[k].toNat : Int) ≤ 57) = false := decide_eq_false (by omega)
     have g45 : ((s[k].toNat : Int) == 45) = false := beq_eq_false_iff_ne.2 (by omega)
     have g95 : ((s[k].toNat : Int) == 95) = false := beq_eq_false_iff_ne.2 (by omega)
     clear h2
     clear hb0
     go_wp2
     go_ret
     exact ⟨ret_bool HW.out.symm, rfl⟩
   ·have f0 : decide (97 ≤ (s[k].toNat : Int)) = false := decide_eq_false (by omega)
    by_cases h3 : 48 ≤ (s[k].toNat : Int)
    ·by_cases h4 : (s[k].toNat : Int) ≤ 57
     ·have HW : Hid (wordC s[k] = true) := Lib.hid (decide_eq_true (by omega))
      clear h1
      go_wp2
      go_round
      case rel => exact ⟨k + 1, by omega, by go_num, all_snoc _ _ _ hlt HA.out HW.out⟩
      case measure => simp [intOf]; omega
     ·have f3 : decide ((s[k].toNat : Int) ≤ 57) = false := decide_eq_false (by omega)
      have g45 : ((s[k].toNat : Int) == 45) = false := beq_eq_false_iff_ne.2 (by omega)
      by_cases h5 : (s[k].toNat : Int) = 95
      ·have HW : Hid (wordC s[k] = true) := Lib.hid (decide_eq_true (by omega))
       have g95 : ((s[k].toNat : Int) == 95) = true := beq_iff_eq.2 h5
       clear h1 h4 h5
       go_wp2
       go_round
       case rel => exact ⟨k + 1, by omega, by go_num, all_snoc _ _ _ hlt HA.out HW.out⟩
       case measure => simp [intOf]; omega
      ·have HW : Hid (wordsB s.data.toList = false) := Lib.hid (by have h9 := all_not wordC s k hlt (decide_eq_false (by omega)); unfold wordsB; rw [h9]; rfl)
       have g95 : ((s[k].toNat : Int) == 95) = false := beq_eq_false_iff_ne.2 h5
       clear h1 h4 h5
       clear hb0
       go_wp2
       go_ret
       exact ⟨ret_bool HW.out.symm, rfl⟩
    ·have f4 : decide (48 ≤ (s[k].toNat : Int)) = false := decide_eq_false (by omega)
     by_cases h6 : (s[k].toNat : Int) = 45
     ·have HW : Hid (wordC s[k] = true) := Lib.hid (decide_eq_true (by omega))
      have g45 : ((s[k].toNat : Int) == 45) = true := beq_iff_eq.2 h6
      clear h1 h3 h6
      go_wp2
      go_round
      case rel => exact ⟨k + 1, by omega, by go_num, all_snoc _ _ _ hlt HA.out HW.out⟩
      case measure => simp [intOf]; omega
     ·have HW : Hid (wordsB s.data.toList = false) := Lib.hid (by have h9 := all_not wordC s k hlt (decide_eq_false (by omega)); unfold wordsB; rw [h9]; rfl)
      have g45 : ((s[k].toNat : Int) == 45) = false := beq_eq_false_iff_ne.2 h6
      have g95 : ((s[k].toNat : Int) == 95) = false := beq_eq_false_iff_ne.2 (by omega)
      clear h1 h3 h6
      clear hb0
      go_wp2
      go_ret
      exact ⟨ret_bool HW.out.symm, rfl⟩
  ·have HW := Lib.hid (all_end _ _ _ hlt HA.out)
   go_wp2
   go_ret
   exact ⟨ret_bool (by unfold wordsB; rw [HW.out, ByteArray.toList_eq]; simp), rfl⟩
set_option maxHeartbeats 2000000 in
theorem ref4_IsPlain (s : ByteArray) (hs : s.size ≤ maxLen) (w : World) : Calls Tryd.prog 28 #[.string s] w fun e w' => e = .returned (.bool (seenB s.data.toList)) ∧ w = w' := by
 unfold maxLen at hs
 go_enter Tryd.func28, Tryd.ntmps28
 go_wp2
 go_loop [6] (fun i => ∃ k : Nat, k ≤ s.size ∧ i = .int .i64 k ∧ Hid ((s.data.toList.take k).all seenC = true)) (fun i => s.size - (intOf i).toNat)
 case atStart => exact ⟨0, by omega, rfl, rfl⟩
 case round =>
  obtain ⟨k, hk, rfl, HA⟩ := hrel
  by_cases hlt : k < s.size
  ·by_cases h1 : 33 ≤ (s[k].toNat : Int)
   ·by_cases h2 : (s[k].toNat : Int) ≤ 126
    ·have HW : Hid (seenC s[k] = true) := by exact (by unfold seenC; simp; omega : seenC s[k] = true)
     go_wp2
     go_round
     case rel => exact ⟨k + 1, by omega, by go_num, all_snoc _ _ _ hlt HA.out HW.out⟩
     case measure => simp [intOf]; omega
    ·have HW : Hid (seenB s.data.toList = false) := seenB_false (all_not _ _ _ hlt (by unfold seenC; simp; omega))
     go_wp2
     go_ret
     exact ⟨ret_bool HW.out.symm, rfl⟩
   ·have HW : Hid (seenB s.data.toList = false) := seenB_false (all_not _ _ _ hlt (by unfold seenC; simp; omega))
    go_wp2
    go_ret
    exact ⟨ret_bool HW.out.symm, rfl⟩
  ·have HW := Lib.hid (all_end _ _ _ hlt HA.out)
   go_wp2
   go_ret
   exact ⟨ret_bool (by unfold seenB; rw [HW.out, ByteArray.toList_eq]; simp), rfl⟩

end Go.Proofs.YtigjkcbpbjefaaaDoor
