/- CompareVersions, slices.Equal at strings, sameVersion. sameVersion; the order of versions, in plain words. The walk of VersionsMatchSpec. Printed by gen_vread.py. -/
import Derived.Test.YtfdaakghkhecgaaGreatDoorVm02
import Derived.Test.YtfdaakghkhecgaaGreatDoorVm06
import Derived.Test.YtfdaakghkhecgaaGreatDoorVm08
import Derived.Test.YtfdaakghkhecgaaGreatDoorVm10
namespace Go.Proofs.YtfdaakghkhecgaaGreatDoor
open Go.RowKit
theorem ext_alloc' (w : World) (o : Obj) : Below w.heap.size w (w.alloc o) := (Below.refl _ _).alloc (Nat.le_refl _) _
set_option maxHeartbeats 4000000 in
theorem compareVersions_at (x y : Ver) (cs cs' : List Value) (w : World) (h : RepVer w x cs) (h' : RepVer w y cs') : Calls Tryz.prog 11 #[.agg cs.toArray, .agg cs'.toArray] w fun e w' => e = .returned (.int .i64 (cmpVer x y)) ∧ Below w.heap.size w w' := by
  obtain ⟨a, c, rfl, s1, h1⟩ := h
  obtain ⟨a', c', rfl, s2, h2⟩ := h'
  obtain ⟨ma, mi, pa, pre⟩ := x
  obtain ⟨ma', mi', pa', pre'⟩ := y
  simp only at s1 h1 s2 h2
  have HV : Hid (cmpVer ⟨ma, mi, pa, pre⟩ ⟨ma', mi', pa', pre'⟩ = if orI (cmpI ma ma') (orI (cmpI mi mi') (cmpI pa pa')) ≠ 0 then orI (cmpI ma ma') (orI (cmpI mi mi') (cmpI pa pa')) else if pre = [] then (if pre' = [] then 0 else 1) else if pre' = [] then -1 else cmpPs pre pre') := rfl
  generalize cmpVer ⟨ma, mi, pa, pre⟩ ⟨ma', mi', pa', pre'⟩ = N at *
  have H1 := Lib.hid h1
  have H2 := Lib.hid h2
  have hl1 := s1.len63
  have hl2 := s2.len63
  clear h1 h2
  go_enter Tryz.func11, Tryz.ntmps11
  go_wp2_with fail
  refine wp_box2 fun W hsz hbW hA hB => ?_
  clear hsz
  go_region_held3 (S2 W w.heap.size #[Value.int IntKind.i64 ma, Value.int IntKind.i64 mi, Value.int IntKind.i64 pa, Value.slice a pre.length c] (w.heap.size + 1) #[Value.int IntKind.i64 ma', Value.int IntKind.i64 mi', Value.int IntKind.i64 pa', Value.slice a' pre'.length c'])
    (first | exact S2.start hA hB | exact S2.ext (by assumption) (by assumption) hA hB | exact S2.ext (ext_alloc' _ _) (by assumption) hA hB | assumption)
    (first | (go_at_call 27; refine (cmp_int _ _ _).mono ?_; rintro e w1 ⟨rfl, rfl⟩) | (go_at_call 26; refine (or_three (cmpI ma ma') (cmpI mi mi') (cmpI pa pa') _ _ (by simp) (by simp) (by simp)).mono ?_; rintro e w3 ⟨rfl, rfl⟩))
  rename_i hS
  have hbW4 : Below W.heap.size W _ := S2.base hS
  have hA4 := hA.ext hbW4
  have hB4 := hB.ext hbW4
  have hbw4 := ext_trans hbW hbW4
  generalize orI (cmpI ma ma') (orI (cmpI mi mi') (cmpI pa pa')) = q at *
  clear hS hbW4 hA hB hbW
  obtain ⟨_, hA5⟩ := id hA4
  obtain ⟨_, hB5⟩ := id hB4
  go_wp2_with fail
  rotate_left 5
  · refine (compareFunc_pre pre pre' a a' c c' _ (s1.ext hbw4) (s2.ext hbw4) H1.out H2.out).mono ?_
    rintro e w5 ⟨rfl, hb5⟩
    have hn1 : pre ≠ [] := by assumption
    have hn2 : pre' ≠ [] := by rintro rfl; simp at *
    have hq : ¬ (q ≠ 0) := by simp_all
    have HN := Lib.hid (HV.out.trans ((if_neg hq).trans ((if_neg hn1).trans (if_neg hn2))))
    have hbw5 := ext_trans hbw4 hb5
    clear hq hn1 hn2 HV hA4 hB4 hA5 hB5 hb5 hbw4 s1 s2
    go_wp2
    go_ret
    exact ⟨ret_int HN.out.symm, hbw5⟩
  all_goals
    go_ret
    refine ⟨ret_int ?_, hbw4⟩
    have hV := HV.out
    clear HV hA4 hB4 hA5 hB5 hbw4 s1 s2 H1 H2
    first | grind | (simp_all; done) | (simp_all; omega)
set_option maxHeartbeats 2000000 in
theorem slicesEqual_strings (is is' : List ByteArray) (a a' : Option Addr) (c c' : Nat) (w : World)
    (s1 : Sl w (.slice a is.length c) is.length (strs is)) (s2 : Sl w (.slice a' is'.length c') is'.length (strs is')) :
    Calls Tryz.prog 25 #[.slice a is.length c, .slice a' is'.length c'] w fun e w' => e = .returned (.bool (decide (is = is'))) ∧ Below w.heap.size w w' := by
  have hl1 := s1.len63
  have hl2 := s2.len63
  by_cases hl : is.length = is'.length
  · have hne : ((is.length : Int) != (is'.length : Int)) = false := by simp [hl]
    have HL := Lib.hid hl
    have hl' : is.length ≤ is'.length := by omega
    clear hl
    go_enter Tryz.func25, Tryz.ntmps25
    go_wp2
    go_loopw [13] (fun i wr => ∃ k : Nat, k ≤ is.length ∧ i = .int .i64 k ∧ Hid (is.take k = is'.take k) ∧ Below w.heap.size w wr) (fun i _ => is.length - (intOf i).toNat)
    case atStart => exact ⟨0, by omega, rfl, rfl, Below.refl _ _⟩
    case round =>
      obtain ⟨k, hk, rfl, HC, hb⟩ := hrel
      by_cases hlt : k < is.length
      · obtain ⟨b, o, rfl, e0⟩ := (s1.ext hb).addr (strs_get hlt)
        have hlt' : k < is'.length := by omega
        obtain ⟨b', o', rfl, f0⟩ := (s2.ext hb).addr (strs_get hlt')
        have HE : Hid (is[k] = is'[k] → is.take (k + 1) = is'.take (k + 1)) := by
          have : is[k] = is'[k] → is.take (k + 1) = is'.take (k + 1) := fun h => by
            rw [List.take_succ_eq_append_getElem hlt, List.take_succ_eq_append_getElem hlt', HC.out, h]
          exact this
        have HN : Hid (is[k] ≠ is'[k] → is ≠ is') := by
          have : is[k] ≠ is'[k] → is ≠ is' := fun h e => h (by subst e; rfl)
          exact this
        generalize is[k] = s at *
        generalize is'[k] = t at *
        by_cases hst : s = t
        · have HT := Lib.hid (HE.out hst)
          have hx : (s.toList == t.toList) = true := by simp [hst]
          clear hst
          go_wp2
          go_quiet (fail)
          go_wp2
          go_roundw
          case rel => exact ⟨k + 1, by omega, by go_num, HT, below_drewN hb _⟩
          case measure => simp [intOf]; omega
        · have HT := Lib.hid (HN.out hst)
          have hx : (s.toList == t.toList) = false := by
            rw [ByteArray.toList_eq, ByteArray.toList_eq, beq_eq_false_iff_ne]
            exact fun h => hst (bytes_ext h)
          clear hst
          go_wp2
          go_quiet (fail)
          go_wp2
          go_ret
          exact ⟨congrArg (fun b => Ending.returned (.bool b)) (decide_eq_false HT.out).symm, below_drewN hb _⟩
      · have HE : Hid (is = is') := by
          have := HC.out
          rw [List.take_of_length_le (by omega), List.take_of_length_le (by have := HL.out; omega)] at this
          exact this
        go_wp2
        go_ret
        exact ⟨congrArg (fun b => Ending.returned (.bool b)) (decide_eq_true HE.out).symm, hb⟩
  · have hne : ((is.length : Int) != (is'.length : Int)) = true := by simp; omega
    have HN : Hid (is ≠ is') := by
      have : is ≠ is' := fun e => hl (by rw [e])
      exact this
    clear hl
    go_enter Tryz.func25, Tryz.ntmps25
    go_wp2
    go_ret
    exact ⟨congrArg (fun b => Ending.returned (.bool b)) (decide_eq_false HN.out).symm, Below.refl _ _⟩
end Go.Proofs.YtfdaakghkhecgaaGreatDoor
namespace Go.Proofs.YtfdaakghkhecgaaGreatDoor
open Go.RowKit
def sameVer (x y : Ver) : Bool := decide (x.ma = y.ma) && decide (x.mi = y.mi) && decide (x.pa = y.pa) && decide (x.pre = y.pre)
set_option maxHeartbeats 4000000 in
theorem sameVersion_at (x y : Ver) (cs cs' : List Value) (w : World) (h : RepVer w x cs) (h' : RepVer w y cs') : Calls Tryz.prog 10 #[.agg cs.toArray, .agg cs'.toArray] w fun e w' => e = .returned (.bool (sameVer x y)) ∧ Below w.heap.size w w' := by
  obtain ⟨a, c, rfl, s1, h1⟩ := h
  obtain ⟨a', c', rfl, s2, h2⟩ := h'
  obtain ⟨ma, mi, pa, pre⟩ := x
  obtain ⟨ma', mi', pa', pre'⟩ := y
  simp only at s1 h1 s2 h2
  have HV : Hid (sameVer ⟨ma, mi, pa, pre⟩ ⟨ma', mi', pa', pre'⟩ = (decide (ma = ma') && decide (mi = mi') && decide (pa = pa') && decide (pre = pre'))) := rfl
  generalize sameVer ⟨ma, mi, pa, pre⟩ ⟨ma', mi', pa', pre'⟩ = N at *
  have hl1 := s1.len63
  have hl2 := s2.len63
  clear h1 h2
  go_enter Tryz.func10, Tryz.ntmps10
  go_wp2_with fail
  · refine (slicesEqual_strings pre pre' a a' c c' _ (s1.ext ?_) (s2.ext ?_)).mono ?_
    · go_grown
    · go_grown
    rintro e w5 ⟨rfl, hb5⟩
    have hbw5 : Below w.heap.size w w5 := Below.trans (by go_grown) (hb5.mono (by simp; omega))
    have hN : N = decide (pre = pre') := by rw [HV.out]; simp_all
    have HN := Lib.hid hN
    clear hN hb5 s1 s2 HV
    go_wp2
    go_ret
    exact ⟨congrArg (fun b => Ending.returned (.bool b)) HN.out.symm, hbw5⟩
  all_goals
    have hN : N = false := by rw [HV.out]; simp_all
    go_ret
    exact ⟨congrArg (fun b => Ending.returned (.bool b)) hN.symm, by go_grown⟩
end Go.Proofs.YtfdaakghkhecgaaGreatDoor
namespace Go.Proofs.YtfdaakghkhecgaaGreatDoor
open Go.RowKit
namespace Tx
open _root_.Go.Proofs.YtfdaakghkhecgaaGreatDoor.Nm
open _root_.Go.Proofs.YtfdaakghkhecgaaGreatDoor.Nt (RH RH.cell RH.box RH.lt RH.new RH.ext RH.fre RH.set RH.other)
theorem sameVer_self (x : Ver) : sameVer x x = true := by unfold sameVer; simp
theorem sameVersion_self (x : Ver) (cs cs' : List Value) (w : World) (h : RepVer w x cs) (h' : RepVer w x cs') : Calls Tryz.prog 10 #[.agg cs.toArray, .agg cs'.toArray] w fun e w' => e = .returned (.bool true) ∧ Below w.heap.size w w' := by
 have h9 := sameVersion_at x x cs cs' w h h'
 rw [sameVer_self] at h9
 exact h9
theorem chk_is1 (x : Ver) (f : Int) (hf : chkVer x = f) (cs : List Value) (w : World) (h : RepVer w x cs) : Calls Tryz.prog 8 #[.agg cs.toArray] w fun e w' => e = .returned (.int .i64 f) ∧ Below w.heap.size w w' := by subst hf; exact checkVersion_at x cs w h
theorem chk_is2 (x : Ver) (f : Int) (hf : chkVer x = f) (cs : List Value) (w : World) (h : RepVer w x cs) : Calls Tryz.prog 9 #[.agg cs.toArray] w fun e w' => e = .returned (.int .i64 f) ∧ Below w.heap.size w w' := by subst hf; exact refCheckVersion_at x cs w h
theorem cmp_is1 (x y : Ver) (z : Int) (hz : cmpVer x y = z) (cs cs' : List Value) (w : World) (h : RepVer w x cs) (h' : RepVer w y cs') : Calls Tryz.prog 11 #[.agg cs.toArray, .agg cs'.toArray] w fun e w' => e = .returned (.int .i64 z) ∧ Below w.heap.size w w' := by subst hz; exact compareVersions_at x y cs cs' w h h'
theorem cmp_is2 (x y : Ver) (z : Int) (hz : cmpVer x y = z) (cs cs' : List Value) (w : World) (h : RepVer w x cs) (h' : RepVer w y cs') : Calls Tryz.prog 12 #[.agg cs.toArray, .agg cs'.toArray] w fun e w' => e = .returned (.int .i64 z) ∧ Below w.heap.size w w' := by subst hz; exact refCompareVersions_at x y cs cs' w h h'
theorem rd_same {t : List UInt8} {x y : Ver} {f g : Int} (h1 : (verO t = some x ∧ f = 0) ∨ (verO t = none ∧ x = zeroVer ∧ f = 10)) (h2 : (verO t = some y ∧ g = 0) ∨ (verO t = none ∧ y = zeroVer ∧ g = 10)) : x = y ∧ f = g := by
 rcases h1 with ⟨a1, rfl⟩ | ⟨a1, rfl, rfl⟩ <;> rcases h2 with ⟨b1, rfl⟩ | ⟨b1, rfl, rfl⟩
 ·rw [a1] at b1; injection b1 with b1; exact ⟨b1, rfl⟩
 ·rw [a1] at b1; cases b1
 ·rw [a1] at b1; cases b1
 ·exact ⟨rfl, rfl⟩
set_option maxRecDepth 100000 in
set_option maxHeartbeats 16000000 in
theorem lawVmz_at (x y : Ver) (cx cy : List Value) (s : ByteArray) (hs : s.size ≤ 1048576) (w : World) (hx : RepVer w x cx) (hy : RepVer w y cy) (ht : Tb w) (hm : Ml w) : Calls Tryz.prog 3 #[.agg cx.toArray, .agg cy.toArray, .string s] w fun e w' => e = .returned (.bool true) ∧ Below w.heap.size w w' := by
 obtain ⟨ax, cx, rfl, sx, zx⟩ := hx
 obtain ⟨ay, cy, rfl, sy, zy⟩ := hy
 have HX0 : Hid (RepVer w x [.int .i64 (x.ma), .int .i64 (x.mi), .int .i64 (x.pa), .slice ax x.pre.length cx]) := Lib.hid ⟨ax, cx, rfl, sx, zx⟩
 have HY0 : Hid (RepVer w y [.int .i64 (y.ma), .int .i64 (y.mi), .int .i64 (y.pa), .slice ay y.pre.length cy]) := Lib.hid ⟨ay, cy, rfl, sy, zy⟩
 have HS0 := Lib.hid hs
 have HML := Lib.hid hm
 have HT0 := Lib.hid ht
 clear sx zx sy zy hs hm ht
 obtain ⟨fx, hf⟩ : ∃ z, chkVer x = z := ⟨_, rfl⟩
 obtain ⟨tx, htx⟩ : ∃ z, shS x = z := ⟨_, rfl⟩
 have HF := Lib.hid (And.intro hf htx)
 clear hf htx
 obtain ⟨z, hz⟩ : ∃ z, cmpVer x y = z := ⟨_, rfl⟩
 have HZ := Lib.hid hz
 clear hz
 go_enter Tryz.func3, Tryz.ntmps3
 go_upto_region 1 with (fail)
 refine wp_vr2 fun w1' hbz hR0 hR1 => ?_
 have HR_v : Hid (RH w1' w.heap.size #[.int .i64 (x.ma), .int .i64 (x.mi), .int .i64 (x.pa), .slice ax x.pre.length cx] 24) := Lib.hid hR0
 have HR_u : Hid (RH w1' (w.heap.size + 1) #[.int .i64 (y.ma), .int .i64 (y.mi), .int .i64 (y.pa), .slice ay y.pre.length cy] 24) := Lib.hid hR1
 have HW := Lib.hid hbz
 clear hbz hR0 hR1
 have HX : Hid (RepVer w1' x [.int .i64 (x.ma), .int .i64 (x.mi), .int .i64 (x.pa), .slice ax x.pre.length cx]) := Lib.hid (HX0.out.ext HW.out)
 have HY : Hid (RepVer w1' y [.int .i64 (y.ma), .int .i64 (y.mi), .int .i64 (y.pa), .slice ay y.pre.length cy]) := Lib.hid (HY0.out.ext HW.out)
 clear HX0 HY0
 obtain ⟨c_v_0, c_v_1, c_v_2, c_v_3⟩ := zs4 HR_v.out
 go_wp2_with fail
 refine (showVersion_at x _ w1' HX.out (HT0.out.ext HW.out)).mono ?_
 rintro e w2' ⟨rfl, hbz⟩
 rw [HF.out.1, HF.out.2]
 replace HR_v := Lib.hid (HR_v.out.ext hbz)
 replace HR_u := Lib.hid (HR_u.out.ext hbz)
 replace HX := Lib.hid (HX.out.ext hbz)
 replace HY := Lib.hid (HY.out.ext hbz)
 replace HW := Lib.hid (ext_trans HW.out hbz)
 clear c_v_0 c_v_1 c_v_2 c_v_3
 clear hbz
 obtain ⟨c_v_0, c_v_1, c_v_2, c_v_3⟩ := zs4 HR_v.out
 go_wp2_with fail
 refine (refShow_at x _ w2' HX.out (HT0.out.ext HW.out)).mono ?_
 rintro e w3' ⟨rfl, hbz⟩
 rw [HF.out.1, HF.out.2]
 replace HR_v := Lib.hid (HR_v.out.ext hbz)
 replace HR_u := Lib.hid (HR_u.out.ext hbz)
 replace HX := Lib.hid (HX.out.ext hbz)
 replace HY := Lib.hid (HY.out.ext hbz)
 replace HW := Lib.hid (ext_trans HW.out hbz)
 clear c_v_0 c_v_1 c_v_2 c_v_3
 clear hbz
 go_wp2_with fail
 refine (readVer_at s HS0.out w3' (HML.out.ext HW.out)).mono ?_
 rintro e w4' ⟨x1, cs1, f1, rfl, hrep, hcs, hbz⟩
 obtain ⟨a1, c1, rfl, s1, z1⟩ := hrep
 have HC_p := Lib.hid hcs
 have hrr : RepVer w4' x1 [.int .i64 (x1.ma), .int .i64 (x1.mi), .int .i64 (x1.pa), .slice a1 x1.pre.length c1] := ⟨a1, c1, rfl, s1, z1⟩
 clear hcs s1 z1
 replace HR_v := Lib.hid (HR_v.out.ext hbz)
 replace HR_u := Lib.hid (HR_u.out.ext hbz)
 replace HX := Lib.hid (HX.out.ext hbz)
 replace HY := Lib.hid (HY.out.ext hbz)
 replace HW := Lib.hid (ext_trans HW.out hbz)
 clear hbz
 have HRp : Hid (RepVer w4' x1 [.int .i64 (x1.ma), .int .i64 (x1.mi), .int .i64 (x1.pa), .slice a1 x1.pre.length c1]) := Lib.hid hrr
 clear hrr
 go_upto_region 4 with (fail)
 refine wp_vr1 fun w5' hbz hR0 => ?_
 have lt_v_p : w.heap.size < w4'.heap.size := HR_v.out.lt
 have lt_u_p : (w.heap.size + 1) < w4'.heap.size := HR_u.out.lt
 have le_p : w.heap.size ≤ w4'.heap.size := HW.out.size
 replace HR_v := Lib.hid (HR_v.out.ext hbz)
 replace HR_u := Lib.hid (HR_u.out.ext hbz)
 replace HX := Lib.hid (HX.out.ext hbz)
 replace HY := Lib.hid (HY.out.ext hbz)
 replace HRp := Lib.hid (HRp.out.ext hbz)
 replace HW := Lib.hid (ext_trans HW.out hbz)
 clear hbz
 have HR_p : Hid (RH w5' w4'.heap.size #[.int .i64 (x1.ma), .int .i64 (x1.mi), .int .i64 (x1.pa), .slice a1 x1.pre.length c1] 24) := Lib.hid hR0
 clear hR0
 generalize w4'.heap.size = b_p at *
 go_wp2_with fail
 refine (refReadVer_at s HS0.out w5' (HML.out.ext HW.out)).mono ?_
 rintro e w6' ⟨x2, cs1, f2, rfl, hrep, hcs, hbz⟩
 obtain ⟨a2, c2, rfl, s1, z1⟩ := hrep
 have HC_r := Lib.hid hcs
 have hrr : RepVer w6' x2 [.int .i64 (x2.ma), .int .i64 (x2.mi), .int .i64 (x2.pa), .slice a2 x2.pre.length c2] := ⟨a2, c2, rfl, s1, z1⟩
 clear hcs s1 z1
 replace HR_v := Lib.hid (HR_v.out.ext hbz)
 replace HR_u := Lib.hid (HR_u.out.ext hbz)
 replace HR_p := Lib.hid (HR_p.out.ext hbz)
 replace HX := Lib.hid (HX.out.ext hbz)
 replace HY := Lib.hid (HY.out.ext hbz)
 replace HRp := Lib.hid (HRp.out.ext hbz)
 replace HW := Lib.hid (ext_trans HW.out hbz)
 clear hbz
 have HRr : Hid (RepVer w6' x2 [.int .i64 (x2.ma), .int .i64 (x2.mi), .int .i64 (x2.pa), .slice a2 x2.pre.length c2]) := Lib.hid hrr
 clear hrr
 go_upto_region 5 with (fail)
 refine wp_vr1 fun w7' hbz hR0 => ?_
 have lt_v_r : w.heap.size < w6'.heap.size := HR_v.out.lt
 have lt_u_r : (w.heap.size + 1) < w6'.heap.size := HR_u.out.lt
 have lt_p_r : b_p < w6'.heap.size := HR_p.out.lt
 have le_r : w.heap.size ≤ w6'.heap.size := HW.out.size
 replace HR_v := Lib.hid (HR_v.out.ext hbz)
 replace HR_u := Lib.hid (HR_u.out.ext hbz)
 replace HR_p := Lib.hid (HR_p.out.ext hbz)
 replace HX := Lib.hid (HX.out.ext hbz)
 replace HY := Lib.hid (HY.out.ext hbz)
 replace HRp := Lib.hid (HRp.out.ext hbz)
 replace HRr := Lib.hid (HRr.out.ext hbz)
 replace HW := Lib.hid (ext_trans HW.out hbz)
 clear hbz
 have HR_r : Hid (RH w7' w6'.heap.size #[.int .i64 (x2.ma), .int .i64 (x2.mi), .int .i64 (x2.pa), .slice a2 x2.pre.length c2] 24) := Lib.hid hR0
 clear hR0
 generalize w6'.heap.size = b_r at *
 obtain ⟨hxx, hff⟩ := rd_same HC_p.out HC_r.out
 subst hxx
 subst hff
 clear HC_p HC_r
 obtain ⟨c_v_0, c_v_1, c_v_2, c_v_3⟩ := zs4 HR_v.out
 obtain ⟨c_u_0, c_u_1, c_u_2, c_u_3⟩ := zs4 HR_u.out
 obtain ⟨c_p_0, c_p_1, c_p_2, c_p_3⟩ := zs4 HR_p.out
 obtain ⟨c_r_0, c_r_1, c_r_2, c_r_3⟩ := zs4 HR_r.out
 refine Grow.wp_region_grow 34 [TP.eq (.agg #[.int .i64 (x.ma), .int .i64 (x.mi), .int .i64 (x.pa), .slice ax x.pre.length cx]), TP.eq (.int .i64 (fx)), TP.eq (.agg #[.int .i64 (x.ma), .int .i64 (x.mi), .int .i64 (x.pa), .slice ax x.pre.length cx]), TP.eq (.int .i64 (fx)), TP.eq (.bool true), TP.eq (.bool true), TP.eq (.string tx), TP.eq (.string tx), TP.eq (.bool true), TP.eq (.bool true), TP.eq (.bool true), TP.eq (.int .i64 (fx)), TP.eq (.int .i64 (fx)), TP.eq (.bool true), TP.eq (.bool true), TP.eq (.bool true), TP.eq (.agg #[.int .i64 (x1.ma), .int .i64 (x1.mi), .int .i64 (x1.pa), .slice a1 x1.pre.length c1]), TP.eq (.agg #[.int .i64 (x1.ma), .int .i64 (x1.mi), .int .i64 (x1.pa), .slice a2 x1.pre.length c2]), TP.eq (.bool true), TP.eq (.bool true), TP.eq (.bool true), TP.eq (.int .i64 (f1)), TP.eq (.int .i64 (f1)), TP.eq (.bool true), TP.eq (.bool true), TP.eq (.bool true), TP.eq (.agg #[.int .i64 (x.ma), .int .i64 (x.mi), .int .i64 (x.pa), .slice ax x.pre.length cx]), TP.eq (.agg #[.int .i64 (y.ma), .int .i64 (y.mi), .int .i64 (y.pa), .slice ay y.pre.length cy]), TP.eq (.int .i64 (z)), TP.eq (.agg #[.int .i64 (x.ma), .int .i64 (x.mi), .int .i64 (x.pa), .slice ax x.pre.length cx]), TP.eq (.agg #[.int .i64 (y.ma), .int .i64 (y.mi), .int .i64 (y.pa), .slice ay y.pre.length cy]), TP.eq (.int .i64 (z)), TP.eq (.bool true), TP.eq (.bool true)] [[], [0], [], [2], [1, 3], [4], [5], [5], [5, 6, 7], [5, 8], [9], [10], [10], [10, 11, 12], [10, 13], [14], [15], [15], [15, 16, 17], [15, 18], [19], [20], [20], [20, 21, 22], [20, 23], [24], [25], [25], [25, 26, 27], [25], [25], [25, 29, 30], [25, 28, 31], [25, 32]] (by kernel_rfl) (by kernel_rfl) ⟨?o0g, ?o1g, ?o2g, ?o3g, ?o4g, ?o5g, ?o6g, ?o7g, ?o8g, ?o9g, ?o10g, ?o11g, ?o12g, ?o13g, ?o14g, ?o15g, ?o16g, ?o17g, ?o18g, ?o19g, ?o20g, ?o21g, ?o22g, ?o23g, ?o24g, ?o25g, ?o26g, ?o27g, ?o28g, ?o29g, ?o30g, ?o31g, ?o32g, ?o33g, trivial⟩ ?_
 case o0g | o2g =>
  intro w' hb
  have c_v_0' := zzc hb c_v_0
  have c_v_1' := zzc hb c_v_1
  have c_v_2' := zzc hb c_v_2
  have c_v_3' := zzc hb c_v_3
  show wpList _ _ _ _ _ _
  go_wp2
  exact ⟨rfl, Below.refl _ _, rfl⟩
 case o1g =>
  intro w' hb v1 hv1
  obtain rfl : v1 = _ := hv1
  show wpList _ _ _ _ _ _
  simp only [Grow.dstOf, zz1, zz3, zz4, Act.put, zz5, zz6, zz7]
  go_wp2_with fail
  refine (chk_is1 x fx HF.out.1 _ w' (HX.out.ext hb)).mono ?_
  rintro e wz ⟨rfl, hbz⟩
  go_wp2
  exact ⟨rfl, hbz, rfl⟩
 case o3g =>
  intro w' hb v1 hv1
  obtain rfl : v1 = _ := hv1
  show wpList _ _ _ _ _ _
  simp only [Grow.dstOf, zz1, zz2, zz3, zz4, Act.put, zz5, zz6, zz7]
  go_wp2_with fail
  refine (chk_is2 x fx HF.out.1 _ w' (HX.out.ext hb)).mono ?_
  rintro e wz ⟨rfl, hbz⟩
  go_wp2
  exact ⟨rfl, hbz, rfl⟩
 case o4g | o9g | o14g | o19g | o24g | o33g =>
  intro w' hb v1 hv1 v2 hv2
  obtain rfl : v1 = _ := hv1
  obtain rfl : v2 = _ := hv2
  show wpList _ _ _ _ _ _
  simp only [Grow.dstOf, zz1, zz2, zz3, zz4, Act.put, zz5, zz6, zz7]
  go_wp2
  exact ⟨rfl, Below.refl _ _, rfl⟩
 case o5g | o6g | o7g | o10g | o11g | o12g | o15g | o20g | o21g | o22g | o25g =>
  intro w' hb v1 hv1
  obtain rfl : v1 = _ := hv1
  show wpList _ _ _ _ _ _
  simp only [Grow.dstOf, zz1, zz2, zz3, zz4, Act.put, zz5, zz6, zz7]
  go_wp2
  exact ⟨rfl, Below.refl _ _, rfl⟩
 case o8g | o13g | o23g | o32g =>
  intro w' hb v1 hv1 v2 hv2 v3 hv3
  obtain rfl : v1 = _ := hv1
  obtain rfl : v2 = _ := hv2
  obtain rfl : v3 = _ := hv3
  show wpList _ _ _ _ _ _
  simp only [Grow.dstOf, zz1, zz2, zz3, zz4, Act.put, zz5, zz6, zz7]
  go_wp2
  exact ⟨rfl, Below.refl _ _, rfl⟩
 case o16g | o17g | o26g | o27g | o29g | o30g =>
  intro w' hb v1 hv1
  obtain rfl : v1 = _ := hv1
  have c_p_0' := zzc hb c_p_0
  have c_p_1' := zzc hb c_p_1
  have c_p_2' := zzc hb c_p_2
  have c_p_3' := zzc hb c_p_3
  have c_r_0' := zzc hb c_r_0
  have c_r_1' := zzc hb c_r_1
  have c_r_2' := zzc hb c_r_2
  have c_r_3' := zzc hb c_r_3
  have c_v_0' := zzc hb c_v_0
  have c_v_1' := zzc hb c_v_1
  have c_v_2' := zzc hb c_v_2
  have c_v_3' := zzc hb c_v_3
  have c_u_0' := zzc hb c_u_0
  have c_u_1' := zzc hb c_u_1
  have c_u_2' := zzc hb c_u_2
  have c_u_3' := zzc hb c_u_3
  show wpList _ _ _ _ _ _
  simp only [Grow.dstOf, zz1, zz2, zz3, zz4, Act.put, zz5, zz6, zz7]
  go_wp2
  exact ⟨rfl, Below.refl _ _, rfl⟩
 case o18g =>
  intro w' hb v1 hv1 v2 hv2 v3 hv3
  obtain rfl : v1 = _ := hv1
  obtain rfl : v2 = _ := hv2
  obtain rfl : v3 = _ := hv3
  show wpList _ _ _ _ _ _
  simp only [Grow.dstOf, zz1, zz2, zz3, zz4, Act.put, zz5, zz6, zz7]
  go_wp2_with fail
  refine (sameVersion_self x1 _ _ w' (HRp.out.ext hb) (HRr.out.ext hb)).mono ?_
  rintro e wz ⟨rfl, hbz⟩
  go_wp2
  exact ⟨rfl, hbz, rfl⟩
 case o28g =>
  intro w' hb v1 hv1 v2 hv2 v3 hv3
  obtain rfl : v1 = _ := hv1
  obtain rfl : v2 = _ := hv2
  obtain rfl : v3 = _ := hv3
  show wpList _ _ _ _ _ _
  simp only [Grow.dstOf, zz1, zz2, zz3, zz4, Act.put, zz5, zz6, zz7]
  go_wp2_with fail
  refine (cmp_is1 x y z HZ.out _ _ w' (HX.out.ext hb) (HY.out.ext hb)).mono ?_
  rintro e wz ⟨rfl, hbz⟩
  go_wp2
  exact ⟨rfl, hbz, rfl⟩
 case o31g =>
  intro w' hb v1 hv1 v2 hv2 v3 hv3
  obtain rfl : v1 = _ := hv1
  obtain rfl : v2 = _ := hv2
  obtain rfl : v3 = _ := hv3
  show wpList _ _ _ _ _ _
  simp only [Grow.dstOf, zz1, zz2, zz3, zz4, Act.put, zz5, zz6, zz7]
  go_wp2_with fail
  refine (cmp_is2 x y z HZ.out _ _ w' (HX.out.ext hb) (HY.out.ext hb)).mono ?_
  rintro e wz ⟨rfl, hbz⟩
  go_wp2
  exact ⟨rfl, hbz, rfl⟩
 intro w8' hbz u0 hu0 u1 hu1 u2 hu2 u3 hu3 u4 hu4 u5 hu5 u6 hu6 u7 hu7 u8 hu8 u9 hu9 u10 hu10 u11 hu11 u12 hu12 u13 hu13 u14 hu14 u15 hu15 u16 hu16 u17 hu17 u18 hu18 u19 hu19 u20 hu20 u21 hu21 u22 hu22 u23 hu23 u24 hu24 u25 hu25 u26 hu26 u27 hu27 u28 hu28 u29 hu29 u30 hu30 u31 hu31 u32 hu32 u33 hu33
 obtain rfl : u33 = _ := hu33
 clear hu0 hu1 hu2 hu3 hu4 hu5 hu6 hu7 hu8 hu9 hu10 hu11 hu12 hu13 hu14 hu15 hu16 hu17 hu18 hu19 hu20 hu21 hu22 hu23 hu24 hu25 hu26 hu27 hu28 hu29 hu30 hu31 hu32
 replace HR_v := Lib.hid (HR_v.out.ext hbz)
 replace HR_u := Lib.hid (HR_u.out.ext hbz)
 replace HR_p := Lib.hid (HR_p.out.ext hbz)
 replace HR_r := Lib.hid (HR_r.out.ext hbz)
 replace HX := Lib.hid (HX.out.ext hbz)
 replace HY := Lib.hid (HY.out.ext hbz)
 replace HRp := Lib.hid (HRp.out.ext hbz)
 replace HRr := Lib.hid (HRr.out.ext hbz)
 replace HW := Lib.hid (ext_trans HW.out hbz)
 clear c_v_0 c_v_1 c_v_2 c_v_3 c_u_0 c_u_1 c_u_2 c_u_3 c_p_0 c_p_1 c_p_2 c_p_3 c_r_0 c_r_1 c_r_2 c_r_3
 clear hbz
 show wpList _ _ _ _ _ _
 simp only [Act.put, zz5, zz6, zz7]
 go_wp2
 go_ret
 exact ⟨rfl, HW.out⟩
end Tx
end Go.Proofs.YtfdaakghkhecgaaGreatDoor
