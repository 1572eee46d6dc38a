/- number of the reference's ratios: a whole number's numeral. size, XratInt, CheckRatio, XratOf, Cmp of package value. XratInt, CheckRatio, XratOf of package value. TrimPrefix of package strings at "-"; long, whole and readMiss of package decide. -/
import Derived.Test.YtilolnjbpokdnaaGreatDoorBq12
import Derived.Test.YtilolnjbpokdnaaGreatDoorBq18
namespace Go.Proofs.YtilolnjbpokdnaaGreatDoor
open Go.RowKit
namespace Nt
theorem str_zero {s : ByteArray} (h : s.size = 1) (h0 : 0 < s.size) (h1 : (s[0].toNat : Int) = 48) : s.toList = [48] := by
  rw [ByteArray.toList_eq]
  have hl : s.data.toList.length = 1 := by rw [← h]; exact Array.length_toList
  obtain ⟨c, hc⟩ := List.length_eq_one_iff.1 hl
  have e : s[0] = c := by
    have : s.data.toList[0]'(by omega) = c := by simp [hc]
    rw [← this]; rfl
  rw [hc]
  have : c = 48 := by rw [← e]; apply UInt8.toNat_inj.1; have h48 : (48 : UInt8).toNat = 48 := rfl; omega
  rw [this]
theorem str_one {s : ByteArray} (h : s.toList = [48]) : s.size = 1 := by
  rw [ByteArray.toList_eq] at h
  have hl : s.data.toList.length = s.size := Array.length_toList
  rw [h] at hl; exact hl.symm
set_option maxHeartbeats 4000000 in
theorem number_at (s : ByteArray) (hs : s.size ≤ maxLen) (w : World) : Calls Tryz.prog 133 #[.string s] w fun e w' => e = .returned (.bool (wholeB s.data.toList)) ∧ w = w' := by
  unfold maxLen at hs
  by_cases h0 : 0 < s.size
  · have hem : s.toList.isEmpty = false := by
      rw [ByteArray.toList_eq]
      cases hq : s.data.toList with
      | nil => have hl : s.data.toList.length = s.size := Array.length_toList
               rw [hq] at hl; simp at hl; omega
      | cons _ _ => rfl
    have hem' : s.data.toList.isEmpty = false := by rw [← ByteArray.toList_eq]; exact hem
    have HW : Hid (wholeB s.data.toList = (!(decide (1 < s.size) && decide ((s[0].toNat : Int) = 48)) && digsB s.data.toList)) := by
      have : wholeB s.data.toList = (!(decide (1 < s.size) && decide ((s[0].toNat : Int) = 48)) && digsB s.data.toList) := by
        unfold wholeB; rw [hem', zeroAt_of s h0, show s.data.toList.length = s.size from Array.length_toList]; simp
      exact this
    have hem2 : (s.toList == []) = false := by
      rw [beq_eq_false_iff_ne]; intro h; rw [h] at hem; cases hem
    have hem3 : ¬ (s.toList = []) := fun h => by rw [h] at hem; cases hem
    clear hem'
    generalize wholeB s.data.toList = N at *
    by_cases h2 : (s[0].toNat : Int) = 48
    · by_cases h1 : 1 < s.size
      · have HF : Hid (N = false) := by have := HW.out; rw [decide_eq_true h1, decide_eq_true h2] at this; exact this
        have hne : ¬ (s.toList = [48]) := fun h => by have := str_one h; omega
        have hne2 : (s.toList == [48]) = false := by simpa using hne
        have hne3 : (s.toList != [48]) = true := by simpa using hne
        clear HW
        go_enter Tryz.func133, Tryz.ntmps133
        go_wp2
        go_ret
        exact ⟨Dg.ret_bool HF.out.symm, rfl⟩
      · have HF : Hid (N = digsB s.data.toList) := by have := HW.out; rw [decide_eq_false h1] at this; simp at this; exact this
        have hz := str_zero (by omega) h0 h2
        have hne2 : (s.toList == [48]) = true := by rw [hz]; rfl
        have hne3 : (s.toList != [48]) = false := by rw [hz]; rfl
        clear HW hz
        go_enter Tryz.func133, Tryz.ntmps133
        go_wp2
        go_loop [17] (fun i => ∃ k : Nat, k ≤ s.size ∧ i = .int .i64 k ∧ Hid ((s.data.toList.take k).all digC = true)) (fun i => s.size - (intOf i).toNat)
        case atStart => exact ⟨0, by omega, rfl, rfl⟩
        case round =>
          obtain ⟨k, hk, rfl, HA⟩ := hrel
          by_cases hlt : k < s.size
          · by_cases hw : digC s[k] = true
            · have HW := Lib.hid hw
              have hn : 48 ≤ (s[k].toNat : Int) ∧ (s[k].toNat : Int) ≤ 57 := of_decide_eq_true hw
              obtain ⟨hn1, hn2⟩ := hn
              clear hw
              go_wp2
              all_goals go_round
              case rel => exact ⟨k + 1, by omega, by go_num, Dg.all_snoc _ _ _ hlt HA.out HW.out⟩
              case measure => simp [intOf] <;> omega
            · have hw' : digC s[k] = false := by simpa using hw
              have HW : Hid (digsB s.data.toList = false) := Dg.all_not _ _ _ hlt hw'
              have hn : ¬ (48 ≤ (s[k].toNat : Int) ∧ (s[k].toNat : Int) ≤ 57) := of_decide_eq_false hw'
              clear hw hw'
              by_cases h1 : (s[k].toNat : Int) < 48
              · clear hn
                go_wp2
                go_ret
                exact ⟨Dg.ret_bool (by rw [HF.out, HW.out]), rfl⟩
              · have h2 : (57 : Int) < (s[k].toNat : Int) := by omega
                clear hn
                go_wp2
                go_ret
                exact ⟨Dg.ret_bool (by rw [HF.out, HW.out]), rfl⟩
          · have HW : Hid (digsB s.data.toList = true) := Dg.all_end _ _ _ hlt HA.out
            go_wp2
            go_ret
            exact ⟨Dg.ret_bool (by rw [HF.out, HW.out]), rfl⟩
    · have HF : Hid (N = digsB s.data.toList) := by have := HW.out; rw [decide_eq_false h2] at this; simp at this; exact this
      clear HW
      go_enter Tryz.func133, Tryz.ntmps133
      go_wp2
      go_loop [17] (fun i => ∃ k : Nat, k ≤ s.size ∧ i = .int .i64 k ∧ Hid ((s.data.toList.take k).all digC = true)) (fun i => s.size - (intOf i).toNat)
      case atStart => exact ⟨0, by omega, rfl, rfl⟩
      case round =>
        obtain ⟨k, hk, rfl, HA⟩ := hrel
        by_cases hlt : k < s.size
        · by_cases hw : digC s[k] = true
          · have HW := Lib.hid hw
            have hn : 48 ≤ (s[k].toNat : Int) ∧ (s[k].toNat : Int) ≤ 57 := of_decide_eq_true hw
            obtain ⟨hn1, hn2⟩ := hn
            clear hw
            go_wp2
            all_goals go_round
            case rel => exact ⟨k + 1, by omega, by go_num, Dg.all_snoc _ _ _ hlt HA.out HW.out⟩
            case measure => simp [intOf] <;> omega
          · have hw' : digC s[k] = false := by simpa using hw
            have HW : Hid (digsB s.data.toList = false) := Dg.all_not _ _ _ hlt hw'
            have hn : ¬ (48 ≤ (s[k].toNat : Int) ∧ (s[k].toNat : Int) ≤ 57) := of_decide_eq_false hw'
            clear hw hw'
            by_cases h1 : (s[k].toNat : Int) < 48
            · clear hn
              go_wp2
              go_ret
              exact ⟨Dg.ret_bool (by rw [HF.out, HW.out]), rfl⟩
            · have h2 : (57 : Int) < (s[k].toNat : Int) := by omega
              clear hn
              go_wp2
              go_ret
              exact ⟨Dg.ret_bool (by rw [HF.out, HW.out]), rfl⟩
        · have HW : Hid (digsB s.data.toList = true) := Dg.all_end _ _ _ hlt HA.out
          go_wp2
          go_ret
          exact ⟨Dg.ret_bool (by rw [HF.out, HW.out]), rfl⟩
  · have hnil : s.data.toList = [] := List.eq_nil_of_length_eq_zero (by have hl : s.data.toList.length = s.size := Array.length_toList
                                                                        omega)
    have hem : s.toList.isEmpty = true := by rw [ByteArray.toList_eq, hnil]; rfl
    have hem2 : (s.toList == []) = true := by rw [ByteArray.toList_eq, hnil]; rfl
    have hem3 : s.toList = [] := by rw [ByteArray.toList_eq, hnil]
    have HF : Hid (wholeB s.data.toList = false) := by
      have : wholeB s.data.toList = false := by rw [hnil]; rfl
      exact this
    clear hnil
    go_enter Tryz.func133, Tryz.ntmps133
    go_wp2
    go_ret
    exact ⟨Dg.ret_bool HF.out.symm, rfl⟩
end Nt
end Go.Proofs.YtilolnjbpokdnaaGreatDoor
namespace Go.Proofs.YtilolnjbpokdnaaGreatDoor
open Go.RowKit
namespace Nm
theorem size_at (n : Int) (h1 : -9223372036854775808 ≤ n) (h2 : n ≤ 9223372036854775807) (w : World) : Calls Tryz.prog 163 #[.int .i64 n] w fun e w' => e = .returned (.int .u64 (n.natAbs : Int)) ∧ w = w' := by
  by_cases h : n < 0
  · go_enter Tryz.func163, Tryz.ntmps163
    go_wp2
    go_ret
    exact ⟨ret_int (by simp [IntKind.wrap, IntKind.signed, IntKind.bits]; omega), rfl⟩
  · go_enter Tryz.func163, Tryz.ntmps163
    go_wp2
    go_ret
    exact ⟨ret_int (by omega), rfl⟩
end Nm
end Go.Proofs.YtilolnjbpokdnaaGreatDoor
namespace Go.Proofs.YtilolnjbpokdnaaGreatDoor
open Go.RowKit
namespace Nm
set_option maxHeartbeats 4000000 in
theorem xratInt_at (n : Int) (h1 : -9223372036854775808 ≤ n) (h2 : n ≤ 9223372036854775807) (w : World) : Calls Tryz.prog 127 #[.int .i64 n] w (XPost w (n : Rat)) := by
  have hx1 := fun w => xnatOf_at 1 (by decide) w
  rw [show ((1 : Nat) : Int) = 1 from rfl] at hx1
  have HX1 := Lib.hid hx1
  clear hx1
  go_enter Tryz.func127, Tryz.ntmps127
  go_upto_region 1 with (fail)
  refine wp_box1r fun W hsz hbW hC hF => ?_
  have hle : w.heap.size ≤ w.heap.size := Nat.le_refl _
  clear hsz
  go_wp2_with fail
  refine (size_at n h1 h2 _).mono ?_
  rintro e w' ⟨rfl, rfl⟩
  go_wp2_with fail
  refine (xnatOf_at n.natAbs (by omega) _).mono ?_
  rintro e w1 ⟨v1, rfl, hv1, hb1⟩
  go_wp2_with fail
  refine (HX1.out _).mono ?_
  rintro e w2 ⟨v2, rfl, hv2, hb2⟩
  have hb3 := ext_trans hb1 hb2
  have hC3 := hC.ext hb3
  have hF3 := hF.ext hC hb3
  have hbw := ext_trans hbW hb3
  have hv3 := hv1.ext hb2
  obtain ⟨p1, c5, rfl, _⟩ := hv3.open_
  obtain ⟨p2, c6, rfl, _⟩ := hv2.open_
  clear hb1 hb2 hb3 hC hF hbW hv1
  have g0 := hF3 0
  have g1 := hF3 1
  have g2 := hF3 2
  obtain ⟨r0, r1, r2⟩ := boxX hC3
  obtain ⟨k1, k2, k3, z0, z1, z2⟩ := res3 (decide (n < 0)) hC3 hv3 hv2 hbw hle
  have HK := Lib.hid (And.intro k1 (And.intro k2 k3))
  clear k1 k2 k3
  go_wp2
  exact bodyPost_ret (v := .agg #[.bool (decide (n < 0)), .slice p1 (digs n.natAbs).length c5, .slice p2 (digs 1).length c6]) (by simp [results, Tryz.results127, go_sem, z0, z1, z2]) rfl ⟨_, rfl, ⟨_, _, rfl, HK.out.1, HK.out.2.1⟩, HK.out.2.2⟩
end Nm
end Go.Proofs.YtilolnjbpokdnaaGreatDoor
namespace Go.Proofs.YtilolnjbpokdnaaGreatDoor
open Go.RowKit
namespace Nm
set_option maxHeartbeats 2000000 in
theorem liteTrim_at (s : ByteArray) (hs : s.size ≤ maxLen) (w : World) : Calls Tryz.prog 132 #[.string s, .string ⟨#[45]⟩] w fun e w' => e = .returned (.string (cutS s)) ∧ w = w' := by
  have hs' := hs
  unfold maxLen at hs'
  by_cases h : cutB s.data.toList = true
  · have h1 : 1 ≤ s.size := by
      rcases Nat.lt_or_ge s.size 1 with h2 | h2
      · have := cut_none s h2; rw [h] at this; cases this
      · exact h2
    have HE : Hid (s.extract 1 s.size = cutS s) := by
      have : s.extract 1 s.size = cutS s := by unfold cutS; rw [if_pos h]
      exact this
    go_enter Tryz.func132, Tryz.ntmps132
    go_wp2_with fail
    refine (hasPrefix_at s hs w).mono ?_
    rw [h]
    rintro e w' ⟨rfl, rfl⟩
    clear h
    go_wp2
    go_ret
    refine ⟨?_, rfl⟩
    rw [← HE.out]; rfl
  · have hf : cutB s.data.toList = false := by simpa using h
    have HE : Hid (s = cutS s) := by
      have : s = cutS s := by unfold cutS; rw [if_neg h]
      exact this
    go_enter Tryz.func132, Tryz.ntmps132
    go_wp2_with fail
    refine (hasPrefix_at s hs w).mono ?_
    rw [hf]
    rintro e w' ⟨rfl, rfl⟩
    clear h hf
    go_wp2
    go_ret
    refine ⟨?_, rfl⟩
    rw [← HE.out]; rfl
theorem trimPrefix_at (s : ByteArray) (hs : s.size ≤ maxLen) (w : World) : Calls Tryz.prog 85 #[.string s, .string ⟨#[45]⟩] w fun e w' => e = .returned (.string (cutS s)) ∧ w = w' := by
  go_enter Tryz.func85, Tryz.ntmps85
  go_wp2_with fail
  refine (liteTrim_at s hs w).mono ?_
  rintro e w' ⟨rfl, rfl⟩
  go_wp2
  go_ret
  exact ⟨rfl, rfl⟩
end Nm
end Go.Proofs.YtilolnjbpokdnaaGreatDoor
