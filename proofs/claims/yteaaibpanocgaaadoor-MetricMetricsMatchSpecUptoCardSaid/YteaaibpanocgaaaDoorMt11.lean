/- Names: rule.XisName and the reference's IsName. Metrics and subjects: Check, checkSubject, counted and pairOf of package metric, and the reference's. (Spl without versions) Texts split and joined; numerals written and read: the library's contracts at the seat, in plain words. kinds of package metric, words of the reference; slices.Index at the words of kinds. Printed by gen_mtk.py. Numbers in an event's text: number of package event; Number and amount of the reference. Printed by gen_evn.py. Rows of bytes: isBytes of package event, XisRow of package flag; IsRow, IsPlain of the reference. Printed by gen_evs.py. -/
import Derived.Test.YteaaibpanocgaaaDoorMt00
import Derived.Test.YteaaibpanocgaaaDoorProg
import Derived.Deep.RegionHeld3
import Derived.Test.YteaaibpanocgaaaDoorMt03
import Derived.Test.YteaaibpanocgaaaDoorShelf
import Derived.Test.YteaaibpanocgaaaDoorMt01
import Derived.Lib.SmallJoins
import Derived.Lib.AppendIntMem
import Derived.Test.YteaaibpanocgaaaDoorMt04
import Derived.Deep.Cut
import Derived.Deep.QuietTactic
import Derived.BigQuiet
import Derived.Test.YteaaibpanocgaaaDoorMt05
namespace Go.Proofs.YteaaibpanocgaaaDoor
open Go.RowKit
set_option maxHeartbeats 1000000 in
theorem ref_wordByte (c : Int) (w : World) : Calls Tryd.prog 39 #[.int .u8 c] w fun e w' => e = .returned (.bool (wordN c)) ∧ w = w' := by
  go_enter Tryd.func39, Tryd.ntmps39
  go_wp2
  all_goals go_ret
  all_goals exact ⟨ret_bool (by rw [Bool.eq_iff_iff]; first | (simp [wordN]; done) | (simp [wordN]; omega)), rfl⟩

set_option maxHeartbeats 1000000 in
theorem ref_IsWord (s : ByteArray) (hs : s.size ≤ maxLen) (w : World) : Calls Tryd.prog 28 #[.string s] w fun e w' => e = .returned (.bool (wordsB s.data.toList)) ∧ w = w' := by
  unfold maxLen at hs
  go_enter Tryd.func28, Tryd.ntmps28
  go_wp2
  go_loop [6] (fun i => ∃ k : Nat, k ≤ s.size ∧ i = .int .i64 k ∧ Hid ((s.data.toList.take k).all wordC = true)) (fun i => s.size - (intOf i).toNat)
  case atStart => exact ⟨0, by omega, rfl, rfl⟩
  case round =>
    obtain ⟨k, hk, rfl, HA⟩ := hrel
    by_cases hlt : k < s.size
    · by_cases hw : wordC s[k] = true
      · have HW := Lib.hid hw
        have hn : wordN (s[k].toNat : Int) = true := hw
        clear hw
        go_wp2_with (go_at_call 39; refine (ref_wordByte _ _).mono ?_; rintro e w' ⟨rfl, rfl⟩)
        go_round
        case rel => exact ⟨k + 1, by omega, by go_num, all_snoc _ _ _ hlt HA.out HW.out⟩
        case measure => simp [intOf]; omega
      · have hw' : wordC s[k] = false := by simpa using hw
        have HW := Lib.hid (all_not _ _ _ hlt hw')
        have hn : wordN (s[k].toNat : Int) = false := hw'
        clear hw hw'
        go_wp2_with (go_at_call 39; refine (ref_wordByte _ _).mono ?_; rintro e w' ⟨rfl, rfl⟩)
        go_ret
        exact ⟨ret_bool (by unfold wordsB; rw [HW.out]; rfl), rfl⟩
    · have HW := Lib.hid (all_end _ _ _ hlt HA.out)
      go_wp2
      go_ret
      exact ⟨ret_bool (by unfold wordsB; rw [HW.out, ByteArray.toList_eq]; simp), rfl⟩

set_option maxHeartbeats 1000000 in
theorem ref_IsName (s : ByteArray) (hs : s.size ≤ maxLen) (w : World) : Calls Tryd.prog 14 #[.string s] w fun e w' => e = .returned (.bool (nameB s.data.toList)) ∧ w = w' := by
  have hs' := hs
  unfold maxLen at hs'
  by_cases h0 : 0 < s.size
  · have hlet := letterAt_of s h0
    have hw1 : wordsB s.data.toList = s.data.toList.all wordC := by
      unfold wordsB; rw [show s.data.toList.isEmpty = false by
        cases hq : s.data.toList with
        | nil => have hl : s.data.toList.length = s.size := Array.length_toList
                 rw [hq] at hl; simp at hl; omega
        | cons _ _ => rfl]; simp
    have hnb : nameB s.data.toList = (decide (s.size ≤ 40) && letterAt s.data.toList && s.data.toList.all wordC) := by
      unfold nameB
      rw [show decide (1 ≤ s.data.toList.length ∧ s.data.toList.length ≤ 40) = decide (s.size ≤ 40) by rw [decide_eq_decide]; simp; omega]
    generalize hW : s.data.toList.all wordC = W at *
    have HN := Lib.hid hnb
    have HL := Lib.hid hlet
    have HW := Lib.hid hw1
    clear hnb hlet hw1 hW
    generalize nameB s.data.toList = N at *
    generalize letterAt s.data.toList = L at *
    go_enter Tryd.func14, Tryd.ntmps14
    go_wp2_with fail
    refine (ref_IsWord s hs _).mono ?_
    rintro e w' ⟨rfl, rfl⟩
    rw [HW.out]
    go_wp2
    all_goals go_ret
    all_goals exact ⟨ret_bool (by rw [HN.out, HL.out, Bool.eq_iff_iff]; first | (simp [*]; done) | (simp [*]; omega)), rfl⟩
  · have hz : s.size = 0 := by omega
    have hnil : s.data.toList = [] := List.length_eq_zero_iff.1 (by simpa using hz)
    have hnb : nameB s.data.toList = false := by rw [hnil]; rfl
    have hw1 : wordsB s.data.toList = false := by rw [hnil]; rfl
    rw [hnb]
    have HW := Lib.hid hw1
    clear hnb hnil hz hw1
    go_enter Tryd.func14, Tryd.ntmps14
    go_wp2_with fail
    refine (ref_IsWord s hs _).mono ?_
    rintro e w' ⟨rfl, rfl⟩
    rw [HW.out]
    go_wp2
    go_ret
    exact ⟨rfl, rfl⟩

end Go.Proofs.YteaaibpanocgaaaDoor
namespace Go.Proofs.YteaaibpanocgaaaDoor
open Go.RowKit

set_option maxHeartbeats 2000000 in
theorem ref8_Check (m : Met) (hm : m.ok) (w : World) : Calls Tryd.prog 6 #[.agg (metC m)] w fun e w' => e = .returned (.int .i64 (checkM m)) ∧ Below w.heap.size w w' := by
  obtain ⟨h1, h2⟩ := hm
  go_enter Tryd.func6, Tryd.ntmps6
  go_wp2_with (go_at_call 14; refine (ref_IsName _ (by assumption) _).mono ?_; rintro e w' ⟨rfl, rfl⟩)
  all_goals go_ret
  all_goals refine ⟨ret_int ?_, by go_grown⟩
  all_goals first | (simp_all [checkM, rangeM, withinB]; done) | (simp_all [checkM, rangeM, withinB]; omega)

end Go.Proofs.YteaaibpanocgaaaDoor
namespace Go.Proofs.YteaaibpanocgaaaDoor
open Go.RowKit
namespace Tx
open _root_.Go.Proofs.YteaaibpanocgaaaDoor.Nm
theorem atoi_at (s : ByteArray) (h : Digs s.data.toList) (h0 : 0 < s.size) (hl : s.size ≤ 18) (w : World) : Calls Tryd.prog 45 #[.string s] w fun e w' => e = .returned (.tuple #[.int .i64 ((decv s.data.toList : Nat) : Int), .nilIface]) ∧ Below w.heap.size w w' := by
  have hne : s.data.toList ≠ [] := by
    intro e
    have : s.data.toList.length = s.size := Array.length_toList
    rw [e] at this; simp at this; omega
  refine (Tryd.strconv_Atoi s _ hl (atoi_digs h hne) w).mono ?_
  rintro e w' ⟨rfl, t, rfl⟩
  refine ⟨rfl, ?_, ?_, ?_, ?_, ?_⟩
  · simp [Lib.bytesWorld, World.freeze]; rfl
  · simp [Lib.bytesWorld, World.freeze]
  · simp [Lib.bytesWorld, World.freeze]; rfl
  · rw [Lib.bytesWorld_size]; omega
  · exact fun k hk => Lib.bytesWorld_at_old _ _ _ _ hk
end Tx
end Go.Proofs.YteaaibpanocgaaaDoor
namespace Go.Proofs.YteaaibpanocgaaaDoor
open Go.RowKit
namespace Tx
set_option maxHeartbeats 2000000 in
theorem words_at (w : World) : Calls Tryd.prog 22 #[] w fun e w' => ∃ v, e = .returned v ∧ KdV w' v ∧ Below w.heap.size w w' := by
 go_enter Tryd.func22, Tryd.ntmps22
 go_wp2
 go_ret
 exact ⟨_, rfl, ⟨_, rfl, kd_new _ _⟩, ext_alloc _ _⟩
end Tx
end Go.Proofs.YteaaibpanocgaaaDoor
namespace Go.Proofs.YteaaibpanocgaaaDoor
open Go.RowKit
namespace Tx
open _root_.Go.Proofs.YteaaibpanocgaaaDoor.Nm
open _root_.Go.Proofs.YteaaibpanocgaaaDoor.Nt (RH RH.cell RH.box RH.lt RH.new RH.ext RH.fre RH.set RH.other)
/-- Number of the reference -/
def N4Post (l : List UInt8) (w : World) (e : Ending) (w' : World) : Prop := e = .returned (.tuple #[.int .i64 ((natO 13 l).getD 0), .bool (natO 13 l).isSome]) ∧ Below w.heap.size w w'
theorem zeroF_of (s : ByteArray) (h : 0 < s.size) : zeroF s.data.toList = decide ((s[0].toNat : Int) = 48) := by
 have hl : s.data.toList.length = s.size := Array.length_toList
 cases hc : s.data.toList with
 | nil => rw [hc] at hl; simp at hl; omega
 | cons c r =>
  have e : s[0] = c := by
   have : s.data.toList[0]'(by omega) = c := by simp [hc]
   rw [← this]; rfl
  rw [e]; rfl
set_option maxRecDepth 100000 in
set_option maxHeartbeats 8000000 in
theorem number4_at (s : ByteArray) (hs : s.size ≤ 1048576) (w : World) : Calls Tryd.prog 38 #[.string s, .int .i64 13] w (N4Post s.data.toList w) := by
 have hl : s.data.toList.length = s.size := Array.length_toList
 by_cases h0 : 0 < s.size
 ·have hem : s.toList.isEmpty = false := by
   rw [ByteArray.toList_eq]
   cases hq : s.data.toList with
   | nil => rw [hq] at hl; simp at hl; omega
   | cons _ _ => rfl
  have hem2 : (s.toList == []) = false := by
   rw [beq_eq_false_iff_ne]; intro h; rw [h] at hem; cases hem
  have hem3 : ¬ (s.toList = []) := fun h => by rw [h] at hem; cases hem
  have HG : Hid (digO 13 s.data.toList = (decide (s.size ≤ 13) && !(decide (1 < s.size) && decide ((s[0].toNat : Int) = 48)) && s.data.toList.all digF)) := Lib.hid (by
   unfold digO; rw [zeroF_of s h0, hl, ← ByteArray.toList_eq, hem]; simp)
  have HNO : Hid (natO 13 s.data.toList = if digO 13 s.data.toList = true then some ((decv s.data.toList : Nat) : Int) else none) := Lib.hid rfl
  clear hl
  by_cases h13 : s.size ≤ 13
  ·have h13' : ¬ (13 : Int) < (s.size : Int) := by omega
   by_cases hz : 1 < s.size ∧ (s[0].toNat : Int) = 48
   ·obtain ⟨hz1, hz2⟩ := hz
    have HO : Hid (natO 13 s.data.toList = none) := Lib.hid (by rw [HNO.out, HG.out, decide_eq_true hz1, decide_eq_true hz2]; simp)
    have hz1' : (1 : Int) < (s.size : Int) := by omega
    clear HG HNO
    go_enter Tryd.func38, Tryd.ntmps38
    go_wp2
    exact bodyPost_ret (v := .tuple #[.int .i64 0, .bool false]) (by simp [results, Tryd.results38, go_sem]) rfl ⟨by rw [HO.out]; rfl, Below.refl _ _⟩
   ·have HG2 : Hid (digO 13 s.data.toList = s.data.toList.all digF) := Lib.hid (by
     rw [HG.out, decide_eq_true h13]
     have : (decide (1 < s.size) && decide ((s[0].toNat : Int) = 48)) = false := by
      rw [Bool.and_eq_false_iff]
      by_cases h1 : 1 < s.size
      ·right; exact decide_eq_false (fun h => hz ⟨h1, h⟩)
      ·left; exact decide_eq_false h1
     rw [this]; rfl)
    have HZ := Lib.hid hz
    have HS := Lib.hid hs
    clear HG hz hs
    have body : ∀ (g : (s.size = 1) ∨ (1 < s.size ∧ ¬ (s[0].toNat : Int) = 48)), Calls Tryd.prog 38 #[.string s, .int .i64 13] w (N4Post s.data.toList w) := by
     intro g
     rcases g with g | ⟨g1, g2⟩
     ·have g' : ¬ (1 : Int) < (s.size : Int) := by omega
      go_enter Tryd.func38, Tryd.ntmps38
      go_wp2
      go_loop [29] (fun i => ∃ k : Nat, k ≤ s.size ∧ i = .int .i64 k ∧ Hid ((s.data.toList.take k).all digF = true)) (fun i => s.size - (intOf i).toNat)
      case atStart => exact ⟨0, by omega, rfl, rfl⟩
      case round =>
       obtain ⟨k, hk, rfl, HA⟩ := hrel
       by_cases hlt : k < s.size
       ·by_cases hw : 48 ≤ (s[k].toNat : Int)
        ·by_cases hw2 : (s[k].toNat : Int) ≤ 57
         ·have HW : Hid (digF s[k] = true) := Lib.hid (decide_eq_true ⟨hw, hw2⟩)
          go_wp2
          all_goals go_round
          case rel => exact ⟨k + 1, by omega, by go_num, Dg.all_snoc _ _ _ hlt HA.out HW.out⟩
          case measure => simp [intOf] <;> omega
         ·have HO : Hid (natO 13 s.data.toList = none) := Lib.hid (by rw [HNO.out, HG2.out, Dg.all_not digF s k hlt (decide_eq_false (fun h => hw2 h.2))]; rfl)
          have hw2' : (57 : Int) < (s[k].toNat : Int) := by omega
          clear hw2
          go_wp2
          exact bodyPost_ret (v := .tuple #[.int .i64 0, .bool false]) (by simp [results, Tryd.results38, go_sem]) rfl ⟨by rw [HO.out]; rfl, Below.refl _ _⟩
        ·have HO : Hid (natO 13 s.data.toList = none) := Lib.hid (by rw [HNO.out, HG2.out, Dg.all_not digF s k hlt (decide_eq_false (fun h => hw h.1))]; rfl)
         have hw' : (s[k].toNat : Int) < 48 := by omega
         clear hw
         go_wp2
         exact bodyPost_ret (v := .tuple #[.int .i64 0, .bool false]) (by simp [results, Tryd.results38, go_sem]) rfl ⟨by rw [HO.out]; rfl, Below.refl _ _⟩
       ·have HD := Lib.hid (Dg.all_end _ _ _ hlt HA.out)
        have HO : Hid (natO 13 s.data.toList = some ((decv s.data.toList : Nat) : Int)) := Lib.hid (by rw [HNO.out, HG2.out, if_pos HD.out])
        have HAT := Lib.hid (fun W9 => atoi_at s (digF_iff.1 HD.out) h0 (by omega) W9)
        generalize decv s.data.toList = n at *
        clear HNO
        go_wp2_with fail
        refine (HAT.out _).mono ?_
        rintro e w2 ⟨rfl, hb2⟩
        have HB := Lib.hid hb2
        clear hb2 HAT
        go_wp2
        exact bodyPost_ret (v := .tuple #[.int .i64 (n : Int), .bool true]) (by simp [results, Tryd.results38, go_sem]) rfl ⟨by rw [HO.out]; rfl, HB.out⟩
     ·have g1' : (1 : Int) < (s.size : Int) := by omega
      go_enter Tryd.func38, Tryd.ntmps38
      go_wp2
      go_loop [29] (fun i => ∃ k : Nat, k ≤ s.size ∧ i = .int .i64 k ∧ Hid ((s.data.toList.take k).all digF = true)) (fun i => s.size - (intOf i).toNat)
      case atStart => exact ⟨0, by omega, rfl, rfl⟩
      case round =>
       obtain ⟨k, hk, rfl, HA⟩ := hrel
       by_cases hlt : k < s.size
       ·by_cases hw : 48 ≤ (s[k].toNat : Int)
        ·by_cases hw2 : (s[k].toNat : Int) ≤ 57
         ·have HW : Hid (digF s[k] = true) := Lib.hid (decide_eq_true ⟨hw, hw2⟩)
          go_wp2
          all_goals go_round
          case rel => exact ⟨k + 1, by omega, by go_num, Dg.all_snoc _ _ _ hlt HA.out HW.out⟩
          case measure => simp [intOf] <;> omega
         ·have HO : Hid (natO 13 s.data.toList = none) := Lib.hid (by rw [HNO.out, HG2.out, Dg.all_not digF s k hlt (decide_eq_false (fun h => hw2 h.2))]; rfl)
          have hw2' : (57 : Int) < (s[k].toNat : Int) := by omega
          clear hw2
          go_wp2
          exact bodyPost_ret (v := .tuple #[.int .i64 0, .bool false]) (by simp [results, Tryd.results38, go_sem]) rfl ⟨by rw [HO.out]; rfl, Below.refl _ _⟩
        ·have HO : Hid (natO 13 s.data.toList = none) := Lib.hid (by rw [HNO.out, HG2.out, Dg.all_not digF s k hlt (decide_eq_false (fun h => hw h.1))]; rfl)
         have hw' : (s[k].toNat : Int) < 48 := by omega
         clear hw
         go_wp2
         exact bodyPost_ret (v := .tuple #[.int .i64 0, .bool false]) (by simp [results, Tryd.results38, go_sem]) rfl ⟨by rw [HO.out]; rfl, Below.refl _ _⟩
       ·have HD := Lib.hid (Dg.all_end _ _ _ hlt HA.out)
        have HO : Hid (natO 13 s.data.toList = some ((decv s.data.toList : Nat) : Int)) := Lib.hid (by rw [HNO.out, HG2.out, if_pos HD.out])
        have HAT := Lib.hid (fun W9 => atoi_at s (digF_iff.1 HD.out) h0 (by omega) W9)
        generalize decv s.data.toList = n at *
        clear HNO
        go_wp2_with fail
        refine (HAT.out _).mono ?_
        rintro e w2 ⟨rfl, hb2⟩
        have HB := Lib.hid hb2
        clear hb2 HAT
        go_wp2
        exact bodyPost_ret (v := .tuple #[.int .i64 (n : Int), .bool true]) (by simp [results, Tryd.results38, go_sem]) rfl ⟨by rw [HO.out]; rfl, HB.out⟩
    exact body (by
     by_cases h1 : s.size = 1
     ·exact .inl h1
     ·exact .inr ⟨by omega, fun h => HZ.out ⟨by omega, h⟩⟩)
  ·have h13' : (13 : Int) < (s.size : Int) := by omega
   have HO : Hid (natO 13 s.data.toList = none) := Lib.hid (by rw [HNO.out, HG.out, decide_eq_false h13]; simp)
   clear HG HNO
   go_enter Tryd.func38, Tryd.ntmps38
   go_wp2
   exact bodyPost_ret (v := .tuple #[.int .i64 0, .bool false]) (by simp [results, Tryd.results38, go_sem]) rfl ⟨by rw [HO.out]; rfl, Below.refl _ _⟩
 ·have hnil : s.data.toList = [] := List.eq_nil_of_length_eq_zero (by omega)
  have hem : s.toList.isEmpty = true := by rw [ByteArray.toList_eq, hnil]; rfl
  have hem2 : (s.toList == []) = true := by rw [ByteArray.toList_eq, hnil]; rfl
  have hem3 : s.toList = [] := by rw [ByteArray.toList_eq, hnil]
  have HO : Hid (natO 13 s.data.toList = none) := Lib.hid (by rw [hnil]; rfl)
  clear hnil hl
  go_enter Tryd.func38, Tryd.ntmps38
  go_wp2
  exact bodyPost_ret (v := .tuple #[.int .i64 0, .bool false]) (by simp [results, Tryd.results38, go_sem]) rfl ⟨by rw [HO.out]; rfl, Below.refl _ _⟩
end Tx
end Go.Proofs.YteaaibpanocgaaaDoor
namespace Go.Proofs.YteaaibpanocgaaaDoor
open Go.RowKit
set_option maxRecDepth 100000 in
set_option maxHeartbeats 8000000 in
theorem ref4_IsRow (s : ByteArray) (hs : s.size ≤ maxLen) (w : World) : Calls Tryd.prog 37 #[.string s] w fun e w' => e = .returned (.bool (wordsB s.data.toList)) ∧ w = w' := by
 unfold maxLen at hs
 go_enter Tryd.func37, Tryd.ntmps37
 go_wp2
 go_loop [7] (fun i => ∃ k : Nat, k ≤ s.size ∧ i = .int .i64 k ∧ Hid ((s.data.toList.take k).all wordC = true)) (fun i => s.size - (intOf i).toNat)
 case atStart => exact ⟨0, by omega, rfl, rfl⟩
 case round =>
  obtain ⟨k, hk, rfl, HA⟩ := hrel
  by_cases hlt : k < s.size
  ·have hb0 : (0 : Int) ≤ (s[k].toNat : Int) := Int.natCast_nonneg _
   by_cases h1 : 97 ≤ (s[k].toNat : Int)
   ·by_cases h2 : (s[k].toNat : Int) ≤ 122
    ·have HW : Hid (wordC s[k] = true) := Lib.hid (decide_eq_true (by omega))
     go_wp2
     go_round
     case rel => exact ⟨k + 1, by omega, by go_num, all_snoc _ _ _ hlt HA.out HW.out⟩
     case measure => simp [intOf]; omega
    ·have HW : Hid (wordsB s.data.toList = false) := Lib.hid (by have h9 := all_not wordC s k hlt (decide_eq_false (by omega)); unfold wordsB; rw [h9]; rfl)
     have f1 : decide ((s[k].toNat : Int) ≤ 122) = false := decide_eq_false (by omega)
     have f2 : (48 : Int) ≤ (s[k].toNat : Int) := by omega
     have f3 : decide ((s[k].toNat : Int) ≤ 57) = false := decide_eq_false (by omega)
     have g45 : ((s[k].toNat : Int) == 45) = false := beq_eq_false_iff_ne.2 (by omega)
     have g95 : ((s[k].toNat : Int) == 95) = false := beq_eq_false_iff_ne.2 (by omega)
     clear h2
     clear hb0
     go_wp2
     go_ret
     exact ⟨ret_bool HW.out.symm, rfl⟩
   ·have f0 : decide (97 ≤ (s[k].toNat : Int)) = false := decide_eq_false (by omega)
    by_cases h3 : 48 ≤ (s[k].toNat : Int)
    ·by_cases h4 : (s[k].toNat : Int) ≤ 57
     ·have HW : Hid (wordC s[k] = true) := Lib.hid (decide_eq_true (by omega))
      clear h1
      go_wp2
      go_round
      case rel => exact ⟨k + 1, by omega, by go_num, all_snoc _ _ _ hlt HA.out HW.out⟩
      case measure => simp [intOf]; omega
     ·have f3 : decide ((s[k].toNat : Int) ≤ 57) = false := decide_eq_false (by omega)
      have g45 : ((s[k].toNat : Int) == 45) = false := beq_eq_false_iff_ne.2 (by omega)
      by_cases h5 : (s[k].toNat : Int) = 95
      ·have HW : Hid (wordC s[k] = true) := Lib.hid (decide_eq_true (by omega))
       have g95 : ((s[k].toNat : Int) == 95) = true := beq_iff_eq.2 h5
       clear h1 h4 h5
       go_wp2
       go_round
       case rel => exact ⟨k + 1, by omega, by go_num, all_snoc _ _ _ hlt HA.out HW.out⟩
       case measure => simp [intOf]; omega
      ·have HW : Hid (wordsB s.data.toList = false) := Lib.hid (by have h9 := all_not wordC s k hlt (decide_eq_false (by omega)); unfold wordsB; rw [h9]; rfl)
       have g95 : ((s[k].toNat : Int) == 95) = false := beq_eq_false_iff_ne.2 h5
       clear h1 h4 h5
       clear hb0
       go_wp2
       go_ret
       exact ⟨ret_bool HW.out.symm, rfl⟩
    ·have f4 : decide (48 ≤ (s[k].toNat : Int)) = false := decide_eq_false (by omega)
     by_cases h6 : (s[k].toNat : Int) = 45
     ·have HW : Hid (wordC s[k] = true) := Lib.hid (decide_eq_true (by omega))
      have g45 : ((s[k].toNat : Int) == 45) = true := beq_iff_eq.2 h6
      clear h1 h3 h6
      go_wp2
      go_round
      case rel => exact ⟨k + 1, by omega, by go_num, all_snoc _ _ _ hlt HA.out HW.out⟩
      case measure => simp [intOf]; omega
     ·have HW : Hid (wordsB s.data.toList = false) := Lib.hid (by have h9 := all_not wordC s k hlt (decide_eq_false (by omega)); unfold wordsB; rw [h9]; rfl)
      have g45 : ((s[k].toNat : Int) == 45) = false := beq_eq_false_iff_ne.2 h6
      have g95 : ((s[k].toNat : Int) == 95) = false := beq_eq_false_iff_ne.2 (by omega)
      clear h1 h3 h6
      clear hb0
      go_wp2
      go_ret
      exact ⟨ret_bool HW.out.symm, rfl⟩
  ·have HW := Lib.hid (all_end _ _ _ hlt HA.out)
   go_wp2
   go_ret
   exact ⟨ret_bool (by unfold wordsB; rw [HW.out, ByteArray.toList_eq]; simp), rfl⟩
end Go.Proofs.YteaaibpanocgaaaDoor
