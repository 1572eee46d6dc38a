/- compareCuts, isZero of the program and of the reference. Printed by gen_cuta.py. showVersion, ShowVersion of package value and of the reference; CheckVersion of the reference. Printed by gen_vread.py. -/
import Derived.Test.YtiogfdkdhfmamaaGreatDoorRb04
import Derived.Test.YtiogfdkdhfmamaaGreatDoorRb07
import Derived.Test.YtiogfdkdhfmamaaGreatDoorRb05
import Derived.Test.YtiogfdkdhfmamaaGreatDoorRb06
namespace Go.Proofs.YtiogfdkdhfmamaaGreatDoor
open Go.RowKit
namespace Rg
theorem box5 {w : World} {b : Nat} {a0 a1 a2 a3 a4 : Value} (h : Box w b #[a0, a1, a2, a3, a4]) : w.cell? ⟨b, 0, none⟩ = some a0 ∧ w.cell? ⟨b, 1, none⟩ = some a1 ∧ w.cell? ⟨b, 2, none⟩ = some a2 ∧ w.cell? ⟨b, 3, none⟩ = some a3 ∧ w.cell? ⟨b, 4, none⟩ = some a4 :=
  ⟨h.2 0, h.2 1, h.2 2, h.2 3, h.2 4⟩
theorem cmpC_is {a b : Ct} {z : Int} (h : cmpVer a.v b.v = z) : cmpC a b = if z ≠ 0 then z else if a.af = b.af then 0 else if b.af = true then -1 else 1 := by subst h; rfl

set_option maxRecDepth 100000 in
set_option maxHeartbeats 4000000 in
theorem compareCuts_g (x y : CA) (w : World) (h : x.ok w) (h' : y.ok w) : Calls Tryz.prog 26 #[.agg (caL x).toArray, .agg (caL y).toArray] w fun e w' => e = .returned (.int .i64 (cmpC x.c y.c)) ∧ Grew w w' := by
  obtain ⟨z, hz⟩ : ∃ z, cmpVer x.c.v y.c.v = z := ⟨_, rfl⟩
  have HV : Hid (cmpC x.c y.c = if z ≠ 0 then z else if x.c.af = y.c.af then 0 else if y.c.af = true then -1 else 1) := Lib.hid (cmpC_is hz)
  have HC : Hid (∀ W, Below w.heap.size w W → Calls Tryz.prog 41 #[.agg (vaL x).toArray, .agg (vaL y).toArray] W fun e w' => e = .returned (.int .i64 z) ∧ Grew W w') := Lib.hid (fun W hb => by
    subst hz
    exact compareVersions_g x.c.v y.c.v (vaL x) (vaL y) W (h.ext hb).rep (h'.ext hb).rep)
  clear hz h h'
  generalize cmpC x.c y.c = N at *
  obtain ⟨⟨⟨ma, mi, pa, pre⟩, af⟩, aa, n⟩ := x
  obtain ⟨⟨⟨ma', mi', pa', pre'⟩, af'⟩, aa', n'⟩ := y
  unfold vaL at HC
  unfold caL
  simp only at HV HC ⊢
  generalize pre.length = m at *
  generalize pre'.length = m' at *
  go_enter Tryz.func26, Tryz.ntmps26
  go_upto_region 1 with (fail)
  refine wp_box2d fun W hbW hA hB => ?_
  obtain ⟨a0, a1, a2, a3, a4⟩ := box5 hA
  obtain ⟨b0, b1, b2, b3, b4⟩ := box5 hB
  go_wp2_with fail
  refine (HC.out _ hbW.1).mono ?_
  rintro e w1 ⟨rfl, hb1⟩
  have hB1 : Below W.heap.size W w1 := hb1.1
  have hw1 := hbW.trans hb1
  replace hA := hA.ext hB1
  replace hB := hB.ext hB1
  clear a0 a1 a2 a3 a4 b0 b1 b2 b3 b4 HC hb1 hB1 hbW
  obtain ⟨a0, a1, a2, a3, a4⟩ := box5 hA
  obtain ⟨b0, b1, b2, b3, b4⟩ := box5 hB
  by_cases hz : z = 0
  · have HN := Lib.hid (HV.out.trans (if_neg (by rw [hz]; decide)))
    subst hz
    clear HV
    cases af <;> cases af'
    all_goals
      go_wp2
      go_ret
      exact ⟨ret_int (by rw [HN.out]; rfl), hw1⟩
  · have HN := Lib.hid (HV.out.trans (if_pos hz))
    have hne : (z != 0) = true := by simp [hz]
    have hne2 : (z == 0) = false := by simp [hz]
    clear HV hz
    go_wp2
    go_ret
    exact ⟨ret_int HN.out.symm, hw1⟩

set_option maxRecDepth 100000 in
set_option maxHeartbeats 4000000 in
theorem refCompareCuts_at (x y : CA) (w : World) (h : x.ok w) (h' : y.ok w) : Calls Tryz.prog 31 #[.agg (caL x).toArray, .agg (caL y).toArray] w fun e w' => e = .returned (.int .i64 (cmpC x.c y.c)) ∧ Below w.heap.size w w' := by
  obtain ⟨z, hz⟩ : ∃ z, cmpVer x.c.v y.c.v = z := ⟨_, rfl⟩
  have HV : Hid (cmpC x.c y.c = if z ≠ 0 then z else if x.c.af = y.c.af then 0 else if y.c.af = true then -1 else 1) := Lib.hid (cmpC_is hz)
  have HC : Hid (∀ W, Below w.heap.size w W → Calls Tryz.prog 47 #[.agg (vaL x).toArray, .agg (vaL y).toArray] W fun e w' => e = .returned (.int .i64 z) ∧ Below W.heap.size W w') := Lib.hid (fun W hb => by
    subst hz
    exact Tx.refCompareVersions_at x.c.v y.c.v (vaL x) (vaL y) W (h.ext hb).rep (h'.ext hb).rep)
  clear hz h h'
  generalize cmpC x.c y.c = N at *
  obtain ⟨⟨⟨ma, mi, pa, pre⟩, af⟩, aa, n⟩ := x
  obtain ⟨⟨⟨ma', mi', pa', pre'⟩, af'⟩, aa', n'⟩ := y
  unfold vaL at HC
  unfold caL
  simp only at HV HC ⊢
  generalize pre.length = m at *
  generalize pre'.length = m' at *
  go_enter Tryz.func31, Tryz.ntmps31
  go_upto_region 1 with (fail)
  refine wp_box2 fun W hsz hbW hA hB => ?_
  clear hsz
  obtain ⟨a0, a1, a2, a3, a4⟩ := box5 hA
  obtain ⟨b0, b1, b2, b3, b4⟩ := box5 hB
  go_wp2_with fail
  refine (HC.out _ hbW).mono ?_
  rintro e w1 ⟨rfl, hb1⟩
  have hB1 : Below W.heap.size W w1 := hb1
  have hw1 := ext_trans hbW hb1
  replace hA := hA.ext hB1
  replace hB := hB.ext hB1
  clear a0 a1 a2 a3 a4 b0 b1 b2 b3 b4 HC hb1 hB1 hbW
  obtain ⟨a0, a1, a2, a3, a4⟩ := box5 hA
  obtain ⟨b0, b1, b2, b3, b4⟩ := box5 hB
  by_cases hz : z = 0
  · have HN := Lib.hid (HV.out.trans (if_neg (by rw [hz]; decide)))
    subst hz
    clear HV
    cases af <;> cases af'
    all_goals
      go_wp2
      go_ret
      exact ⟨ret_int (by rw [HN.out]; rfl), hw1⟩
  · have HN := Lib.hid (HV.out.trans (if_pos hz))
    have hne : (z != 0) = true := by simp [hz]
    have hne2 : (z == 0) = false := by simp [hz]
    clear HV hz
    go_wp2
    go_ret
    exact ⟨ret_int HN.out.symm, hw1⟩

set_option maxRecDepth 100000 in
set_option maxHeartbeats 4000000 in
theorem isZero_at (x : CA) (w : World) (hx : x.ok w) : Calls Tryz.prog 38 #[.agg (caL x).toArray] w fun e w' => e = .returned (.bool (isZ x.c)) ∧ Below w.heap.size w w' := by
  have hl := hx.sl.len63
  obtain ⟨r, hr⟩ : ∃ r, isZ x.c = r := ⟨_, rfl⟩
  have HR : Hid (r = (decide (x.c.v.ma = 0) && decide (x.c.v.mi = 0) && decide (x.c.v.pa = 0) && decide (x.c.v.pre.length = 0) && !x.c.af)) := Lib.hid (by
    rw [← hr]; unfold isZ
    congr 2
    exact decide_eq_decide.2 List.length_eq_zero_iff.symm)
  rw [hr]
  clear hr hx
  obtain ⟨⟨⟨ma, mi, pa, pre⟩, af⟩, aa, n⟩ := x
  unfold caL
  simp only at HR hl ⊢
  generalize pre.length = m at *
  go_enter Tryz.func38, Tryz.ntmps38
  go_upto_region 1 with (fail)
  refine wp_box1 fun W hsz hbW hA => ?_
  clear hsz
  have hlt := hA.1
  have hne : ¬ w.heap.size = W.heap.size := by omega
  have a4x : ∀ o, (W.alloc o).cell? ⟨w.heap.size, 4, none⟩ = some (.bool af) := fun o => ((ext_alloc W o).cell (p := ⟨w.heap.size, 4, none⟩) hlt).trans (box5 hA).2.2.2.2
  obtain ⟨a0, a1, a2, a3, a4⟩ := box5 hA
  by_cases h0 : ma = 0
  · by_cases h1 : mi = 0
    · by_cases h2 : pa = 0
      · by_cases h3 : m = 0
        · cases af
          all_goals
            subst h0 h1 h2 h3
            go_wp2
            go_ret
            exact ⟨congrArg (fun b => Ending.returned (.bool b)) (by rw [HR.out]; rfl), ext_trans hbW (by go_grown)⟩
        · have e3 : ((m : Int) == 0) = false := beq_eq_false_iff_ne.2 (by omega)
          have HN : Hid (r = false) := Lib.hid (by rw [HR.out, decide_eq_false h3]; simp)
          subst h0 h1 h2
          clear h3 HR
          go_wp2
          go_ret
          exact ⟨congrArg (fun b => Ending.returned (.bool b)) HN.out.symm, ext_trans hbW (by go_grown)⟩
      · have e2 : (pa == 0) = false := beq_eq_false_iff_ne.2 h2
        have HN : Hid (r = false) := Lib.hid (by rw [HR.out, decide_eq_false h2]; simp)
        subst h0 h1
        clear h2 HR
        go_wp2
        go_ret
        exact ⟨congrArg (fun b => Ending.returned (.bool b)) HN.out.symm, ext_trans hbW (by go_grown)⟩
    · have e1 : (mi == 0) = false := beq_eq_false_iff_ne.2 h1
      have HN : Hid (r = false) := Lib.hid (by rw [HR.out, decide_eq_false h1]; simp)
      subst h0
      clear h1 HR
      go_wp2
      go_ret
      exact ⟨congrArg (fun b => Ending.returned (.bool b)) HN.out.symm, ext_trans hbW (by go_grown)⟩
  · have e0 : (ma == 0) = false := beq_eq_false_iff_ne.2 h0
    have HN : Hid (r = false) := Lib.hid (by rw [HR.out, decide_eq_false h0]; simp)
    clear h0 HR
    go_wp2
    go_ret
    exact ⟨congrArg (fun b => Ending.returned (.bool b)) HN.out.symm, ext_trans hbW (by go_grown)⟩

set_option maxRecDepth 100000 in
set_option maxHeartbeats 4000000 in
theorem refZeroCut_at (x : CA) (w : World) (hx : x.ok w) : Calls Tryz.prog 30 #[.agg (caL x).toArray] w fun e w' => e = .returned (.bool (isZ x.c)) ∧ Below w.heap.size w w' := by
  have hl := hx.sl.len63
  obtain ⟨r, hr⟩ : ∃ r, isZ x.c = r := ⟨_, rfl⟩
  have HR : Hid (r = (decide (x.c.v.ma = 0) && decide (x.c.v.mi = 0) && decide (x.c.v.pa = 0) && decide (x.c.v.pre.length = 0) && !x.c.af)) := Lib.hid (by
    rw [← hr]; unfold isZ
    congr 2
    exact decide_eq_decide.2 List.length_eq_zero_iff.symm)
  rw [hr]
  clear hr hx
  obtain ⟨⟨⟨ma, mi, pa, pre⟩, af⟩, aa, n⟩ := x
  unfold caL
  simp only at HR hl ⊢
  generalize pre.length = m at *
  go_enter Tryz.func30, Tryz.ntmps30
  go_upto_region 1 with (fail)
  refine wp_box1 fun W hsz hbW hA => ?_
  clear hsz
  have hlt := hA.1
  have hne : ¬ w.heap.size = W.heap.size := by omega
  have a4x : ∀ o, (W.alloc o).cell? ⟨w.heap.size, 4, none⟩ = some (.bool af) := fun o => ((ext_alloc W o).cell (p := ⟨w.heap.size, 4, none⟩) hlt).trans (box5 hA).2.2.2.2
  obtain ⟨a0, a1, a2, a3, a4⟩ := box5 hA
  by_cases h0 : ma = 0
  · by_cases h1 : mi = 0
    · by_cases h2 : pa = 0
      · by_cases h3 : m = 0
        · cases af
          all_goals
            subst h0 h1 h2 h3
            go_wp2
            go_ret
            exact ⟨congrArg (fun b => Ending.returned (.bool b)) (by rw [HR.out]; rfl), ext_trans hbW (by go_grown)⟩
        · have e3 : ((m : Int) == 0) = false := beq_eq_false_iff_ne.2 (by omega)
          have HN : Hid (r = false) := Lib.hid (by rw [HR.out, decide_eq_false h3]; simp)
          subst h0 h1 h2
          clear h3 HR
          go_wp2
          go_ret
          exact ⟨congrArg (fun b => Ending.returned (.bool b)) HN.out.symm, ext_trans hbW (by go_grown)⟩
      · have e2 : (pa == 0) = false := beq_eq_false_iff_ne.2 h2
        have HN : Hid (r = false) := Lib.hid (by rw [HR.out, decide_eq_false h2]; simp)
        subst h0 h1
        clear h2 HR
        go_wp2
        go_ret
        exact ⟨congrArg (fun b => Ending.returned (.bool b)) HN.out.symm, ext_trans hbW (by go_grown)⟩
    · have e1 : (mi == 0) = false := beq_eq_false_iff_ne.2 h1
      have HN : Hid (r = false) := Lib.hid (by rw [HR.out, decide_eq_false h1]; simp)
      subst h0
      clear h1 HR
      go_wp2
      go_ret
      exact ⟨congrArg (fun b => Ending.returned (.bool b)) HN.out.symm, ext_trans hbW (by go_grown)⟩
  · have e0 : (ma == 0) = false := beq_eq_false_iff_ne.2 h0
    have HN : Hid (r = false) := Lib.hid (by rw [HR.out, decide_eq_false h0]; simp)
    clear h0 HR
    go_wp2
    go_ret
    exact ⟨congrArg (fun b => Ending.returned (.bool b)) HN.out.symm, ext_trans hbW (by go_grown)⟩

end Rg
end Go.Proofs.YtiogfdkdhfmamaaGreatDoor
namespace Go.Proofs.YtiogfdkdhfmamaaGreatDoor
open Go.RowKit
namespace Tx
open _root_.Go.Proofs.YtiogfdkdhfmamaaGreatDoor.Nm
open _root_.Go.Proofs.YtiogfdkdhfmamaaGreatDoor.Nt (RH RH.cell RH.box RH.lt RH.new RH.ext RH.fre RH.set RH.other)
set_option maxRecDepth 100000 in
set_option maxHeartbeats 16000000 in
theorem refCheckVersion_at (x : Ver) (cs : List Value) (w : World) (h : RepVer w x cs) : Calls Tryz.prog 29 #[.agg cs.toArray] w fun e w' => e = .returned (.int .i64 (chkVer x)) ∧ Below w.heap.size w w' := by
  obtain ⟨ad, cp, rfl, s1, h1⟩ := h
  obtain ⟨ma, mi, pa, pre⟩ := x
  simp only at s1 h1
  have HZ := Lib.hid h1
  have HSL : Hid (SlS w ad pre cp) := Lib.hid s1
  have hp63 := s1.len63
  clear s1 h1
  go_enter Tryz.func29, Tryz.ntmps29
  go_upto_region 1 with (fail)
  refine wp_vr1 fun w1' hbz hR0 => ?_
  have HR_v : Hid (RH w1' w.heap.size #[.int .i64 (ma), .int .i64 (mi), .int .i64 (pa), .slice ad pre.length cp] 29) := Lib.hid hR0
  have HW := Lib.hid hbz
  clear hbz hR0
  have HSP : Hid (SlS w1' ad pre cp) := Lib.hid (HSL.out.ext HW.out)
  clear HSL
  obtain ⟨c_v_0, c_v_1, c_v_2, c_v_3⟩ := zs4 HR_v.out
  by_cases hA : withinV ma 0 999999 = true
  · have HA := Lib.hid hA
    clear hA
    go_wp2_with fail
    refine (refWithin_is ma 0 999999 true HA.out _).mono ?_
    rintro e w9 ⟨rfl, hw9⟩
    subst hw9
    by_cases hB : withinV mi 0 999999 = true
    · have HB := Lib.hid hB
      clear hB
      go_wp2_with fail
      refine (refWithin_is mi 0 999999 true HB.out _).mono ?_
      rintro e w9 ⟨rfl, hw9⟩
      subst hw9
      by_cases hC : withinV pa 0 999999 = true
      · have HC := Lib.hid hC
        clear hC
        go_wp2_with fail
        refine (refWithin_is pa 0 999999 true HC.out _).mono ?_
        rintro e w9 ⟨rfl, hw9⟩
        subst hw9
        have HG : Hid (chkVer ⟨ma, mi, pa, pre⟩ = if 10 < pre.length then 2 else if pre.all preOk = true then 0 else 3) := Lib.hid (rng_good (by unfold rngOk; simp only; rw [HA.out, HB.out, HC.out]; rfl))
        clear HA HB HC
        by_cases h10 : 10 < pre.length
        · have HN := Lib.hid (HG.out.trans (if_pos h10))
          have h10' : (10 : Int) < (pre.length : Int) := by omega
          clear h10 HG
          go_wp2
          exact bodyPost_ret (v := .int .i64 2) (by simp [results, Tryz.results29, go_sem]) rfl ⟨by rw [HN.out], HW.out⟩
        · have HG2 := Lib.hid (HG.out.trans (if_neg h10))
          have h10' : ¬ (10 : Int) < (pre.length : Int) := by omega
          clear h10 HG
          go_wp2
          go_loopw [30] (fun i wr => ∃ k : Nat, k ≤ pre.length ∧ i = .int .i64 (k : Int) ∧ Hid ((pre.take k).all preOk = true) ∧ (RH wr w.heap.size #[.int .i64 (ma), .int .i64 (mi), .int .i64 (pa), .slice ad pre.length cp] 29) ∧ (SlS wr ad pre cp) ∧ (Below w.heap.size w wr)) (fun i _ => pre.length - (intOf i).toNat)
          case atStart => exact ⟨0, by omega, rfl, rfl, HR_v.out, HSP.out, HW.out⟩
          case round =>
            clear HR_v HSP HW
            obtain ⟨k, hk, rfl, HK, q_HR_v, q_HSP, q_HW⟩ := hrel
            have HR_v := Lib.hid q_HR_v
            have HSP := Lib.hid q_HSP
            have HW := Lib.hid q_HW
            clear q_HR_v q_HSP q_HW
            clear c_v_0 c_v_1 c_v_2 c_v_3
            generalize hX : wr = X at *
            clear hX
            by_cases hlt : k < pre.length
            · obtain ⟨pb, po, rfl, e0⟩ := HSP.out.at hlt
              have husz : pre[k].size ≤ maxLen := HZ.out _ (List.getElem_mem hlt)
              have HT : Hid ((pre.take (k + 1)).all preOk = preOk pre[k]) := Lib.hid (by rw [List.take_succ_eq_append_getElem hlt, List.all_append, HK.out]; simp)
              have HF : Hid (preOk pre[k] = false → pre.all preOk = false) := Lib.hid (fun h => by rw [List.all_eq_false]; exact ⟨_, List.getElem_mem hlt, by simp [h]⟩)
              generalize pre[k] = u at *
              have hk0 : (0 : Int) ≤ (k : Int) := Int.natCast_nonneg _
              have hk1 : (k : Int) < (pre.length : Int) := by omega
              by_cases hok : preOk u = true
              · have HO := Lib.hid hok
                clear hok
                go_wp2_with (go_at_call 46; refine (refIsPre_is u husz true HO.out _).mono ?_; rintro e w' ⟨rfl, rfl⟩)
                go_roundw
                case rel => exact ⟨k + 1, by omega, by go_num, Lib.hid (HT.out.trans HO.out), HR_v.out, HSP.out, HW.out⟩
                case measure => simp [intOf]; omega
              · have hok' : preOk u = false := by simpa using hok
                have HO := Lib.hid hok'
                have HN := Lib.hid (HG2.out.trans (if_neg (by rw [HF.out hok']; decide)))
                clear hok hok'
                go_wp2_with (go_at_call 46; refine (refIsPre_is u husz false HO.out _).mono ?_; rintro e w' ⟨rfl, rfl⟩)
                exact bodyPost_ret (v := .int .i64 3) (by simp [results, Tryz.results29, go_sem]) rfl ⟨by rw [HN.out], HW.out⟩
            · have HN : Hid (chkVer ⟨ma, mi, pa, pre⟩ = 0) := Lib.hid (HG2.out.trans (if_pos (by have h := HK.out; rw [List.take_of_length_le (by omega)] at h; exact h)))
              go_wp2
              exact bodyPost_ret (v := .int .i64 0) (by simp [results, Tryz.results29, go_sem]) rfl ⟨by rw [HN.out], HW.out⟩
      · have hC' : withinV pa 0 999999 = false := by simpa using hC
        have HC := Lib.hid hC'
        have HN : Hid (chkVer ⟨ma, mi, pa, pre⟩ = 1) := Lib.hid (rng_bad (by unfold rngOk; simp [hC']))
        clear hC hC'
        go_wp2_with fail
        refine (refWithin_is pa 0 999999 false HC.out _).mono ?_
        rintro e w9 ⟨rfl, hw9⟩
        subst hw9
        -- out of range
        go_wp2
        exact bodyPost_ret (v := .int .i64 1) (by simp [results, Tryz.results29, go_sem]) rfl ⟨by rw [HN.out], HW.out⟩
    · have hB' : withinV mi 0 999999 = false := by simpa using hB
      have HB := Lib.hid hB'
      have HN : Hid (chkVer ⟨ma, mi, pa, pre⟩ = 1) := Lib.hid (rng_bad (by unfold rngOk; simp [hB']))
      clear hB hB'
      go_wp2_with fail
      refine (refWithin_is mi 0 999999 false HB.out _).mono ?_
      rintro e w9 ⟨rfl, hw9⟩
      subst hw9
      -- out of range
      go_wp2
      exact bodyPost_ret (v := .int .i64 1) (by simp [results, Tryz.results29, go_sem]) rfl ⟨by rw [HN.out], HW.out⟩
  · have hA' : withinV ma 0 999999 = false := by simpa using hA
    have HA := Lib.hid hA'
    have HN : Hid (chkVer ⟨ma, mi, pa, pre⟩ = 1) := Lib.hid (rng_bad (by unfold rngOk; simp [hA']))
    clear hA hA'
    go_wp2_with fail
    refine (refWithin_is ma 0 999999 false HA.out _).mono ?_
    rintro e w9 ⟨rfl, hw9⟩
    subst hw9
    -- out of range
    go_wp2
    exact bodyPost_ret (v := .int .i64 1) (by simp [results, Tryz.results29, go_sem]) rfl ⟨by rw [HN.out], HW.out⟩
end Tx
end Go.Proofs.YtiogfdkdhfmamaaGreatDoor
