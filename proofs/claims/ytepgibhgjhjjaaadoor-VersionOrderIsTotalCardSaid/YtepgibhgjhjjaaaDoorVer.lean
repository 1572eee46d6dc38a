/- Versions: CheckVersion, CompareVersions, slices.Equal at strings, sameVersion. -/
import Derived.Test.YtepgibhgjhjjaaaDoorPreCmp
import Derived.Deep.RegionHeld3
import Derived.Deep.QuietTactic
import Derived.BigQuiet
namespace Go.Proofs.YtepgibhgjhjjaaaDoor
open Go.RowKit
structure Ver where
  ma : Int
  mi : Int
  pa : Int
  pre : List ByteArray
/-- four cells read as a version -/
def RepVer (w : World) (x : Ver) (cs : List Value) : Prop :=
  ∃ a c, cs = [.int .i64 x.ma, .int .i64 x.mi, .int .i64 x.pa, .slice a x.pre.length c] ∧ Sl w (.slice a x.pre.length c) x.pre.length (strs x.pre) ∧ ∀ s ∈ x.pre, s.size ≤ maxLen
theorem RepVer.ext {w w' : World} {x : Ver} {cs : List Value} (h : RepVer w x cs) (hb : Below w.heap.size w w') : RepVer w' x cs := by
  obtain ⟨a, c, h0, h1, h2⟩ := h; exact ⟨a, c, h0, h1.ext hb, h2⟩
def preOk (s : ByteArray) : Bool := decide (s.size ≤ 20) && preB s.data.toList && !(digsB s.data.toList && !wholeB s.data.toList)
def rngOk (x : Ver) : Bool := withinV x.ma 0 999999 && withinV x.mi 0 999999 && withinV x.pa 0 999999
def chkVer (x : Ver) : Int := if rngOk x = false then 1 else if 10 < x.pre.length then 2 else if x.pre.all preOk = true then 0 else 3
def cmpVer (x y : Ver) : Int :=
  let c := orI (cmpI x.ma y.ma) (orI (cmpI x.mi y.mi) (cmpI x.pa y.pa))
  if c ≠ 0 then c else if x.pre = [] then (if y.pre = [] then 0 else 1) else if y.pre = [] then -1 else cmpPs x.pre y.pre
theorem value_isPre_is (s : ByteArray) (hs : s.size ≤ maxLen) (b : Bool) (h : preB s.data.toList = b) (w : World) : Calls Tryd.prog 12 #[.string s] w fun e w' => e = .returned (.bool b) ∧ w = w' := by
  subst h; exact value_isPre s hs w
theorem value_allDigits_is (s : ByteArray) (hs : s.size ≤ maxLen) (b : Bool) (h : digsB s.data.toList = b) (w : World) : Calls Tryd.prog 13 #[.string s] w fun e w' => e = .returned (.bool b) ∧ w = w' := by
  subst h; exact value_allDigits s hs w
theorem value_whole_is (s : ByteArray) (hs : s.size ≤ maxLen) (b : Bool) (h : wholeB s.data.toList = b) (w : World) : Calls Tryd.prog 14 #[.string s] w fun e w' => e = .returned (.bool b) ∧ w = w' := by
  subst h; exact value_whole s hs w
theorem value_within_is (n : Int) (b : Bool) (h : withinV n 0 999999 = b) (w : World) : Calls Tryd.prog 11 #[.int .i64 n, .int .i64 0, .int .i64 999999] w fun e w' => e = .returned (.bool b) ∧ w = w' := by
  subst h; exact value_within n 0 999999 w
theorem rng_bad {x : Ver} (h : rngOk x = false) : chkVer x = 1 := by unfold chkVer; rw [if_pos h]
theorem rng_good {x : Ver} (h : rngOk x = true) : chkVer x = if 10 < x.pre.length then 2 else if x.pre.all preOk = true then 0 else 3 := by unfold chkVer; rw [if_neg (by simp [h])]
set_option maxHeartbeats 4000000 in
theorem checkVersion_at (x : Ver) (cs : List Value) (w : World) (h : RepVer w x cs) : Calls Tryd.prog 5 #[.agg cs.toArray] w fun e w' => e = .returned (.int .i64 (chkVer x)) ∧ Below w.heap.size w w' := by
  obtain ⟨a, c, rfl, s1, h1⟩ := h
  obtain ⟨ma, mi, pa, pre⟩ := x
  simp only at s1 h1
  have H1 := Lib.hid h1
  have hl := s1.len63
  clear h1
  go_enter Tryd.func5, Tryd.ntmps5
  go_wp2
  go_loop [15] (fun i => ∃ k : Nat, k ≤ 3 ∧ i = .int .i64 k ∧ Hid (∀ j, j < k → withinV ([ma, mi, pa].getD j 0) 0 999999 = true)) (fun i => 3 - (intOf i).toNat)
  case atStart => exact ⟨0, by omega, rfl, fun j hj => by omega⟩
  case round =>
    obtain ⟨k, hk, rfl, HJ⟩ := hrel
    have hk4 : k = 0 ∨ k = 1 ∨ k = 2 ∨ k = 3 := by omega
    rcases hk4 with rfl | rfl | rfl | rfl
    · generalize hd : withinV ma 0 999999 = d
      have HD := Lib.hid hd
      go_wp2_with (go_at_call 11; refine (value_within_is _ d hd _).mono ?_; rintro e w' ⟨rfl, rfl⟩)
      all_goals first | (go_ret; exact ⟨ret_int (rng_bad (by unfold rngOk; have := HD.out; simp_all)).symm, by go_grown⟩) | skip
      go_round
      case rel => exact ⟨1, by omega, rfl, fun j hj => if h : j < 0 then HJ.out j h else by obtain rfl : j = 0 := (by omega); have := HD.out; simp_all⟩
      case measure => simp [intOf]
    · generalize hd : withinV mi 0 999999 = d
      have HD := Lib.hid hd
      go_wp2_with (go_at_call 11; refine (value_within_is _ d hd _).mono ?_; rintro e w' ⟨rfl, rfl⟩)
      all_goals first | (go_ret; exact ⟨ret_int (rng_bad (by unfold rngOk; have := HD.out; simp_all)).symm, by go_grown⟩) | skip
      go_round
      case rel => exact ⟨2, by omega, rfl, fun j hj => if h : j < 1 then HJ.out j h else by obtain rfl : j = 1 := (by omega); have := HD.out; simp_all⟩
      case measure => simp [intOf]
    · generalize hd : withinV pa 0 999999 = d
      have HD := Lib.hid hd
      go_wp2_with (go_at_call 11; refine (value_within_is _ d hd _).mono ?_; rintro e w' ⟨rfl, rfl⟩)
      all_goals first | (go_ret; exact ⟨ret_int (rng_bad (by unfold rngOk; have := HD.out; simp_all)).symm, by go_grown⟩) | skip
      go_round
      case rel => exact ⟨3, by omega, rfl, fun j hj => if h : j < 2 then HJ.out j h else by obtain rfl : j = 2 := (by omega); have := HD.out; simp_all⟩
      case measure => simp [intOf]
    · have hall : rngOk ⟨ma, mi, pa, pre⟩ = true := by
        have := HJ.out
        have a0 := this 0 (by omega)
        have a1 := this 1 (by omega)
        have a2 := this 2 (by omega)
        unfold rngOk
        simp only [List.getD_cons_zero, List.getD_cons_succ] at a0 a1 a2
        simp only [a0, a1, a2]; rfl
      have HC := Lib.hid (rng_good hall)
      clear hall HJ
      go_wp2
      · go_ret
        exact ⟨ret_int (by rw [HC.out, if_pos (by omega)]), by go_grown⟩
      · have hle : pre.length ≤ 10 := by omega
        have HC2 := Lib.hid (HC.out.trans (if_neg (show ¬ 10 < pre.length by omega)))
        clear HC
        go_loop [30] (fun i => ∃ k : Nat, k ≤ pre.length ∧ i = .int .i64 k ∧ Hid ((pre.take k).all preOk = true)) (fun i => pre.length - (intOf i).toNat)
        case atStart => exact ⟨0, by omega, rfl, rfl⟩
        case round =>
          obtain ⟨k, hk, rfl, HA⟩ := hrel
          by_cases hlt : k < pre.length
          · obtain ⟨b, o, rfl, e0⟩ := s1.addr (strs_get hlt)
            have l0 := World.block_lt_of_cell? _ _ e0
            have hsz := H1.out _ (List.getElem_mem hlt)
            have hsz' := hsz
            unfold maxLen at hsz'
            have HT : Hid ((pre.take (k + 1)).all preOk = preOk pre[k]) := by
              have : (pre.take (k + 1)).all preOk = preOk pre[k] := by rw [List.take_succ_eq_append_getElem hlt, List.all_append, HA.out]; simp
              exact this
            have HF : Hid (preOk pre[k] = false → pre.all preOk = false) := by
              have : preOk pre[k] = false → pre.all preOk = false := fun h => by
                rw [List.all_eq_false]; exact ⟨_, List.getElem_mem hlt, by simp [h]⟩
              exact this
            generalize pre[k] = s at *
            have HO : Hid (preOk s = (decide (s.size ≤ 20) && preB s.data.toList && !(digsB s.data.toList && !wholeB s.data.toList))) := rfl
            generalize h2 : preB s.data.toList = p2 at *
            generalize h3 : digsB s.data.toList = p3 at *
            generalize h4 : wholeB s.data.toList = p4 at *
            go_wp2_with (first | (go_at_call 12; refine (value_isPre_is _ hsz p2 h2 _).mono ?_; rintro e w' ⟨rfl, rfl⟩) | (go_at_call 13; refine (value_allDigits_is _ hsz p3 h3 _).mono ?_; rintro e w' ⟨rfl, rfl⟩) | (go_at_call 14; refine (value_whole_is _ hsz p4 h4 _).mono ?_; rintro e w' ⟨rfl, rfl⟩))
            all_goals clear h2 h3 h4 e0
            · have hf : preOk s = false := by rw [HO.out]; clear HO HF HT HA HC2 H1 s1; grind
              have HC3 := Lib.hid (HC2.out.trans (if_neg (by rw [HF.out hf]; simp)))
              go_ret
              exact ⟨ret_int HC3.out.symm, by go_grown⟩
            · have hf : preOk s = true := by rw [HO.out]; clear HO HF HT HA HC2 H1 s1; grind
              have HT2 := Lib.hid (HT.out.trans hf)
              go_round
              case rel => exact ⟨k + 1, by omega, by go_num, HT2⟩
              case measure => simp [intOf]; omega
            · have hf : preOk s = true := by rw [HO.out]; clear HO HF HT HA HC2 H1 s1; grind
              have HT2 := Lib.hid (HT.out.trans hf)
              go_round
              case rel => exact ⟨k + 1, by omega, by go_num, HT2⟩
              case measure => simp [intOf]; omega
            · have hf : preOk s = false := by rw [HO.out]; clear HO HF HT HA HC2 H1 s1; grind
              have HC3 := Lib.hid (HC2.out.trans (if_neg (by rw [HF.out hf]; simp)))
              go_ret
              exact ⟨ret_int HC3.out.symm, by go_grown⟩
            · have hf : preOk s = false := by rw [HO.out, decide_eq_false (show ¬ s.size ≤ 20 by omega)]; rfl
              have HC3 := Lib.hid (HC2.out.trans (if_neg (by rw [HF.out hf]; simp)))
              go_ret
              exact ⟨ret_int HC3.out.symm, by go_grown⟩
          · have HE : Hid (pre.all preOk = true) := by
              have := HA.out
              rw [List.take_of_length_le (by omega)] at this
              exact this
            go_wp2
            go_ret
            exact ⟨ret_int (by rw [HC2.out, if_pos HE.out]), by go_grown⟩
end Go.Proofs.YtepgibhgjhjjaaaDoor
