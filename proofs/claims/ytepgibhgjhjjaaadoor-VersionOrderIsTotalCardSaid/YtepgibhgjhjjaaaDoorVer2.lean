/- CompareVersions, slices.Equal at strings, sameVersion. -/
import Derived.Test.YtepgibhgjhjjaaaDoorVer
namespace Go.Proofs.YtepgibhgjhjjaaaDoor
open Go.RowKit
theorem ext_alloc' (w : World) (o : Obj) : Below w.heap.size w (w.alloc o) := (Below.refl _ _).alloc (Nat.le_refl _) _
set_option maxHeartbeats 4000000 in
theorem compareVersions_at (x y : Ver) (cs cs' : List Value) (w : World) (h : RepVer w x cs) (h' : RepVer w y cs') : Calls Tryd.prog 4 #[.agg cs.toArray, .agg cs'.toArray] w fun e w' => e = .returned (.int .i64 (cmpVer x y)) ∧ Below w.heap.size w w' := by
  obtain ⟨a, c, rfl, s1, h1⟩ := h
  obtain ⟨a', c', rfl, s2, h2⟩ := h'
  obtain ⟨ma, mi, pa, pre⟩ := x
  obtain ⟨ma', mi', pa', pre'⟩ := y
  simp only at s1 h1 s2 h2
  have HV : Hid (cmpVer ⟨ma, mi, pa, pre⟩ ⟨ma', mi', pa', pre'⟩ = if orI (cmpI ma ma') (orI (cmpI mi mi') (cmpI pa pa')) ≠ 0 then orI (cmpI ma ma') (orI (cmpI mi mi') (cmpI pa pa')) else if pre = [] then (if pre' = [] then 0 else 1) else if pre' = [] then -1 else cmpPs pre pre') := rfl
  generalize cmpVer ⟨ma, mi, pa, pre⟩ ⟨ma', mi', pa', pre'⟩ = N at *
  have H1 := Lib.hid h1
  have H2 := Lib.hid h2
  have hl1 := s1.len63
  have hl2 := s2.len63
  clear h1 h2
  go_enter Tryd.func4, Tryd.ntmps4
  go_wp2_with fail
  refine wp_box2 fun W hsz hbW hA hB => ?_
  clear hsz
  go_region_held3 (S2 W w.heap.size #[Value.int IntKind.i64 ma, Value.int IntKind.i64 mi, Value.int IntKind.i64 pa, Value.slice a pre.length c] (w.heap.size + 1) #[Value.int IntKind.i64 ma', Value.int IntKind.i64 mi', Value.int IntKind.i64 pa', Value.slice a' pre'.length c'])
    (first | exact S2.start hA hB | exact S2.ext (by assumption) (by assumption) hA hB | exact S2.ext (ext_alloc' _ _) (by assumption) hA hB | assumption)
    (first | (go_at_call 8; refine (cmp_int _ _ _).mono ?_; rintro e w1 ⟨rfl, rfl⟩) | (go_at_call 7; refine (or_three (cmpI ma ma') (cmpI mi mi') (cmpI pa pa') _ _ (by simp) (by simp) (by simp)).mono ?_; rintro e w3 ⟨rfl, rfl⟩))
  rename_i hS
  have hbW4 : Below W.heap.size W _ := S2.base hS
  have hA4 := hA.ext hbW4
  have hB4 := hB.ext hbW4
  have hbw4 := ext_trans hbW hbW4
  generalize orI (cmpI ma ma') (orI (cmpI mi mi') (cmpI pa pa')) = q at *
  clear hS hbW4 hA hB hbW
  obtain ⟨_, hA5⟩ := id hA4
  obtain ⟨_, hB5⟩ := id hB4
  go_wp2_with fail
  rotate_left 5
  · refine (compareFunc_pre pre pre' a a' c c' _ (s1.ext hbw4) (s2.ext hbw4) H1.out H2.out).mono ?_
    rintro e w5 ⟨rfl, hb5⟩
    have hn1 : pre ≠ [] := by assumption
    have hn2 : pre' ≠ [] := by rintro rfl; simp at *
    have hq : ¬ (q ≠ 0) := by simp_all
    have HN := Lib.hid (HV.out.trans ((if_neg hq).trans ((if_neg hn1).trans (if_neg hn2))))
    have hbw5 := ext_trans hbw4 hb5
    clear hq hn1 hn2 HV hA4 hB4 hA5 hB5 hb5 hbw4 s1 s2
    go_wp2
    go_ret
    exact ⟨ret_int HN.out.symm, hbw5⟩
  all_goals
    go_ret
    refine ⟨ret_int ?_, hbw4⟩
    have hV := HV.out
    clear HV hA4 hB4 hA5 hB5 hbw4 s1 s2 H1 H2
    first | grind | (simp_all; done) | (simp_all; omega)
set_option maxHeartbeats 2000000 in
theorem slicesEqual_strings (is is' : List ByteArray) (a a' : Option Addr) (c c' : Nat) (w : World)
    (s1 : Sl w (.slice a is.length c) is.length (strs is)) (s2 : Sl w (.slice a' is'.length c') is'.length (strs is')) :
    Calls Tryd.prog 15 #[.slice a is.length c, .slice a' is'.length c'] w fun e w' => e = .returned (.bool (decide (is = is'))) ∧ Below w.heap.size w w' := by
  have hl1 := s1.len63
  have hl2 := s2.len63
  by_cases hl : is.length = is'.length
  · have hne : ((is.length : Int) != (is'.length : Int)) = false := by simp [hl]
    have HL := Lib.hid hl
    have hl' : is.length ≤ is'.length := by omega
    clear hl
    go_enter Tryd.func15, Tryd.ntmps15
    go_wp2
    go_loopw [13] (fun i wr => ∃ k : Nat, k ≤ is.length ∧ i = .int .i64 k ∧ Hid (is.take k = is'.take k) ∧ Below w.heap.size w wr) (fun i _ => is.length - (intOf i).toNat)
    case atStart => exact ⟨0, by omega, rfl, rfl, Below.refl _ _⟩
    case round =>
      obtain ⟨k, hk, rfl, HC, hb⟩ := hrel
      by_cases hlt : k < is.length
      · obtain ⟨b, o, rfl, e0⟩ := (s1.ext hb).addr (strs_get hlt)
        have hlt' : k < is'.length := by omega
        obtain ⟨b', o', rfl, f0⟩ := (s2.ext hb).addr (strs_get hlt')
        have HE : Hid (is[k] = is'[k] → is.take (k + 1) = is'.take (k + 1)) := by
          have : is[k] = is'[k] → is.take (k + 1) = is'.take (k + 1) := fun h => by
            rw [List.take_succ_eq_append_getElem hlt, List.take_succ_eq_append_getElem hlt', HC.out, h]
          exact this
        have HN : Hid (is[k] ≠ is'[k] → is ≠ is') := by
          have : is[k] ≠ is'[k] → is ≠ is' := fun h e => h (by subst e; rfl)
          exact this
        generalize is[k] = s at *
        generalize is'[k] = t at *
        by_cases hst : s = t
        · have HT := Lib.hid (HE.out hst)
          have hx : (s.toList == t.toList) = true := by simp [hst]
          clear hst
          go_wp2
          go_quiet (fail)
          go_wp2
          go_roundw
          case rel => exact ⟨k + 1, by omega, by go_num, HT, below_drewN hb _⟩
          case measure => simp [intOf]; omega
        · have HT := Lib.hid (HN.out hst)
          have hx : (s.toList == t.toList) = false := by
            rw [ByteArray.toList_eq, ByteArray.toList_eq, beq_eq_false_iff_ne]
            exact fun h => hst (bytes_ext h)
          clear hst
          go_wp2
          go_quiet (fail)
          go_wp2
          go_ret
          exact ⟨congrArg (fun b => Ending.returned (.bool b)) (decide_eq_false HT.out).symm, below_drewN hb _⟩
      · have HE : Hid (is = is') := by
          have := HC.out
          rw [List.take_of_length_le (by omega), List.take_of_length_le (by have := HL.out; omega)] at this
          exact this
        go_wp2
        go_ret
        exact ⟨congrArg (fun b => Ending.returned (.bool b)) (decide_eq_true HE.out).symm, hb⟩
  · have hne : ((is.length : Int) != (is'.length : Int)) = true := by simp; omega
    have HN : Hid (is ≠ is') := by
      have : is ≠ is' := fun e => hl (by rw [e])
      exact this
    clear hl
    go_enter Tryd.func15, Tryd.ntmps15
    go_wp2
    go_ret
    exact ⟨congrArg (fun b => Ending.returned (.bool b)) (decide_eq_false HN.out).symm, Below.refl _ _⟩
end Go.Proofs.YtepgibhgjhjjaaaDoor
