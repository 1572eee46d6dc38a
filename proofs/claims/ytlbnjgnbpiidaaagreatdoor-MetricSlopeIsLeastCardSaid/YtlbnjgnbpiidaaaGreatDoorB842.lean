/- sums, isZero, below, CheckMoments of the reference. Printed by gen_moms.py. -/
import Derived.Test.YtlbnjgnbpiidaaaGreatDoorB828
import Derived.Test.YtlbnjgnbpiidaaaGreatDoorB836
import Derived.Test.YtlbnjgnbpiidaaaGreatDoorB800
import Derived.Test.YtlbnjgnbpiidaaaGreatDoorB829
import Derived.Test.YtlbnjgnbpiidaaaGreatDoorB813
import Derived.Test.YtlbnjgnbpiidaaaGreatDoorB827
import Derived.Test.YtlbnjgnbpiidaaaGreatDoorProg
import Derived.Test.YtlbnjgnbpiidaaaGreatDoorB801
import Derived.Test.YtlbnjgnbpiidaaaGreatDoorB802
import Derived.Test.YtlbnjgnbpiidaaaGreatDoorB803
import Derived.Test.YtlbnjgnbpiidaaaGreatDoorB804
import Derived.Test.YtlbnjgnbpiidaaaGreatDoorB805
import Derived.Test.YtlbnjgnbpiidaaaGreatDoorB806
import Derived.Test.YtlbnjgnbpiidaaaGreatDoorB807
import Derived.Test.YtlbnjgnbpiidaaaGreatDoorB808
import Derived.Test.YtlbnjgnbpiidaaaGreatDoorB809
import Derived.Test.YtlbnjgnbpiidaaaGreatDoorB810
import Derived.Test.YtlbnjgnbpiidaaaGreatDoorB811
import Derived.Test.YtlbnjgnbpiidaaaGreatDoorB830
import Derived.Test.YtlbnjgnbpiidaaaGreatDoorB831
import Derived.Test.YtlbnjgnbpiidaaaGreatDoorB832
import Derived.Test.YtlbnjgnbpiidaaaGreatDoorB834
import Derived.Test.YtlbnjgnbpiidaaaGreatDoorB812
import Derived.Test.YtlbnjgnbpiidaaaGreatDoorB814
import Derived.Test.YtlbnjgnbpiidaaaGreatDoorB815
import Derived.Test.YtlbnjgnbpiidaaaGreatDoorB816
import Derived.Test.YtlbnjgnbpiidaaaGreatDoorB817
import Derived.Test.YtlbnjgnbpiidaaaGreatDoorB818
import Derived.Test.YtlbnjgnbpiidaaaGreatDoorB819
import Derived.Test.YtlbnjgnbpiidaaaGreatDoorB820
import Derived.Test.YtlbnjgnbpiidaaaGreatDoorShelf
import Derived.Test.YtlbnjgnbpiidaaaGreatDoorB821
import Derived.Test.YtlbnjgnbpiidaaaGreatDoorB822
import Derived.Test.YtlbnjgnbpiidaaaGreatDoorB823
import Derived.Test.YtlbnjgnbpiidaaaGreatDoorB824
import Derived.Test.YtlbnjgnbpiidaaaGreatDoorB825
import Derived.Test.YtlbnjgnbpiidaaaGreatDoorB826
namespace Go.Proofs.YtlbnjgnbpiidaaaGreatDoor
open Go.RowKit
namespace Nt
open _root_.Go.Proofs.YtlbnjgnbpiidaaaGreatDoor.Nm (tl_lit rF rQ showN showD Fits show_size cutS cutS_size cutB cut_show cmpQ RT rtL rtOk trimPrefix_at tail_none Ln QL QF QS Q5 R5 shR mrA mr_info NoW noW_all BF cs_other wp_rows1 wp_rows2 wp_rows3 wp_rows4 smF smL smL_step sm_five momF posB posB1 posB_steps zerB dfA dfB dfC df_ln ln_n n_ne fits_int i64_ten BPost FPost spA spB spC sp_ln atF at_parts mom_parts vrQ rtC fq fr fr_get R5.ok_at rat_neg TP.row)

theorem showN_zero {q : Rat} : showN q = ⟨#[48]⟩ ↔ q = 0 := by
 constructor
 ·intro h
  have e := (cut_show q).2
  have h1 : (cutS (showN q)).data.toList = [48] := by rw [h]; rfl
  rw [h1] at e
  have e2 := congrArg Nm.decv e
  rw [Nm.decv_decS] at e2
  have e3 : q.num.natAbs = 0 := e2.symm.trans rfl
  exact Rat.num_eq_zero.1 (by omega)
 ·rintro rfl
  decide +kernel
theorem isZero_at (q : Rat) (b : Bool) (hb : decide (q = 0) = b) (w : World) : Calls Tryz.prog 41 #[rtV q] w (BPost w b) := by
 have HB := Lib.hid hb
 clear hb
 go_enter Tryz.func41, Tryz.ntmps41
 by_cases hd1 : showN q = ⟨#[48]⟩
 ·have hq1 : ((showN q).toList == [48]) = true := (tl_lit _ _).trans (decide_eq_true hd1)
  have HV : Hid (b = true) := Lib.hid (by rw [← HB.out]; exact decide_eq_true (showN_zero.1 hd1))
  clear hd1
  go_wp2
  exact bodyPost_ret (v := .bool true) (by simp [results, Tryz.results41, go_sem]) rfl ⟨by rw [HV.out], by go_grown⟩
 ·have hq1 : ((showN q).toList == [48]) = false := (tl_lit _ _).trans (decide_eq_false hd1)
  have HV : Hid (b = false) := Lib.hid (by rw [← HB.out]; exact decide_eq_false (fun h => hd1 (showN_zero.2 h)))
  clear hd1
  go_wp2
  exact bodyPost_ret (v := .bool false) (by simp [results, Tryz.results41, go_sem]) rfl ⟨by rw [HV.out], by go_grown⟩
theorem below_at (q : Rat) (hf : Fits q) (b : Bool) (hb : decide (q < 0) = b) (w : World) : Calls Tryz.prog 82 #[rtV q] w (BPost w b) := by
 have HF := Lib.hid hf
 have HV : Hid (cutB (showN q).data.toList = b) := Lib.hid (by
  rw [(cut_show q).1, ← hb]
  by_cases h : q < 0
  ·rw [decide_eq_true h, decide_eq_true (rat_neg.2 h)]
  ·rw [decide_eq_false h, decide_eq_false (fun h' => h (rat_neg.1 h'))])
 clear hb hf
 go_enter Tryz.func82, Tryz.ntmps82
 go_wp2_with fail
 refine (strHasPrefix_at (showN q) (show_size HF.out).1 _).mono ?_
 rintro e w' ⟨rfl, hw⟩
 rw [HV.out]
 subst hw
 go_wp2
 exact bodyPost_ret (v := .bool b) (by simp [results, Tryz.results82, go_sem]) rfl ⟨rfl, by go_grown⟩
theorem fq_get {q : Q5} {k : Nat} (h : k < 5) : q.r.l[k]? = some (shR (fq q k)) := by
 match k, h with
 | 0, _ => rfl
 | 1, _ => rfl
 | 2, _ => rfl
 | 3, _ => rfl
 | 4, _ => rfl
theorem zerB_fq {q : Q5} (h : zerB q = true) {k : Nat} (hk : k < 5) : fq q k = 0 := by
 obtain ⟨h1, h2, h3, h4, h5⟩ := Nm.zerB_iff.1 h
 match k, hk with
 | 0, _ => exact h1
 | 1, _ => exact h2
 | 2, _ => exact h3
 | 3, _ => exact h4
 | 4, _ => exact h5
theorem fq_zerB {q : Q5} (h : ∀ j, j < 5 → fq q j = 0) : zerB q = true := Nm.zerB_iff.2 ⟨h 0 (by decide), h 1 (by decide), h 2 (by decide), h 3 (by decide), h 4 (by decide)⟩
set_option maxRecDepth 100000 in
set_option maxHeartbeats 16000000 in
theorem sums_at (n : Int) (r : R5) (w : World) : Calls Tryz.prog 80 #[.agg (mrA n r)] w (fun e w' => ∃ g, e = .returned (.slice (some ⟨g, 0, none⟩) 5 5) ∧ Sl w' (.slice (some ⟨g, 0, none⟩) 5 5) 5 (r.l.flatMap rtL) ∧ Below w.heap.size w w') := by
 go_enter Tryz.func80, Tryz.ntmps80
 go_upto_region 1 with (fail)
 refine wp_rows1 fun w1' hbz hR0 => ?_
 have HR_m : Hid (RH w1' w.heap.size (mrA (n) r) 35) := Lib.hid hR0
 have HW := Lib.hid hbz
 clear hbz hR0
 obtain ⟨c_m_0, c_m_1, c_m_2, c_m_3, c_m_4, c_m_5, c_m_6, c_m_7, c_m_8, c_m_9, c_m_10⟩ := zs11 HR_m.out
 go_wp2
 refine bodyPost_ret (v := .slice (some ⟨w1'.heap.size, 0, none⟩) 5 5) (by simp [results, Tryz.results80, go_sem]) rfl ⟨_, rfl, Sl.new _ _ _ 5 5 (by omega) (by decide), ext_trans HW.out (ext_alloc _ _)⟩
set_option maxRecDepth 100000 in
set_option maxHeartbeats 16000000 in
theorem refCheckMom_at (n : Int) (r : R5) (hok : r.ok) (w : World) (ht : Tab w) : Calls Tryz.prog 52 #[.agg (mrA n r)] w (FPost w (momF n r)) := by
 have HOK := Lib.hid hok
 clear hok
 go_enter Tryz.func52, Tryz.ntmps52
 have HT0 := Lib.hid ht
 clear ht
 go_upto_region 1 with (fail)
 refine wp_rows1 fun w1' hbz hR0 => ?_
 have HR_m : Hid (RH w1' w.heap.size (mrA (n) r) 35) := Lib.hid hR0
 have HW := Lib.hid hbz
 clear hbz hR0
 obtain ⟨c_m_0, -, -, -, -, -, -, -, -, -, -⟩ := zs11 HR_m.out
 by_cases hn : 0 ≤ n ∧ n ≤ 20000
 ·obtain ⟨hn0, hn1⟩ := hn
  have HP0 : Hid (momF n r = if smL r.l ≠ 0 then smL r.l else if posB n r.q = true then 0 else 13) := Lib.hid (by unfold momF; rw [if_neg (by omega)])
  have HNB := Lib.hid (And.intro hn0 hn1)
  have hnn0 : ¬ n < 0 := by omega
  have hnn1 : ¬ 20000 < n := by omega
  clear hn0 hn1
  go_wp2_with (first | (refine wpList_load_row rfl _ _ rfl w.heap.size rfl _ (mrA (n) r) _ _ HR_m.out Tryz.underlying35 rfl (mr_info _ _) ?_))
  refine (sums_at n r w1').mono ?_
  rintro e w2' ⟨g, rfl, hs9, hbz⟩
  clear hnn0 hnn1
  replace HR_m := Lib.hid (HR_m.out.ext hbz)
  replace HW := Lib.hid (ext_trans HW.out hbz)
  clear c_m_0
  clear hbz
  have HSL : Hid (Sl w2' (.slice (some ⟨g, 0, none⟩) 5 5) 5 (r.l.flatMap rtL)) := Lib.hid hs9
  clear hs9
  go_wp2
  go_loopw [5, 23, 32, 36] (fun _ i _ _ wr => ∃ k : Nat, k ≤ 5 ∧ i = .int .i64 (k : Int) ∧ Hid (smL r.l = smL (r.l.drop k)) ∧ (RH wr w.heap.size (mrA (n) r) 35) ∧ (Sl wr (.slice (some ⟨g, 0, none⟩) 5 5) 5 (r.l.flatMap rtL)) ∧ (Below w.heap.size w wr)) (fun _ i _ _ _ => 5 - (intOf i).toNat)
  case atStart => exact ⟨0, by omega, rfl, rfl, HR_m.out, HSL.out, HW.out⟩
  case round =>
   obtain ⟨k, hk, rfl, HK, q_HR_m, q_HSL, q_HW⟩ := hrel
   clear HR_m HSL HW
   have HR_m := Lib.hid q_HR_m
   have HSL := Lib.hid q_HSL
   have HW := Lib.hid q_HW
   clear q_HR_m q_HSL q_HW
   generalize hX : wr = X at *
   clear hX
   by_cases hlt : k < 5
   ·have hgk := fr_get (r := r) hlt
    have hok := R5.ok_at HOK.out k
    generalize fr r k = p at hgk hok
    obtain ⟨rn, rd⟩ := p
    have HST := Lib.hid (HK.out.trans (smL_step hgk))
    obtain ⟨pb, po, hp9, hcs⟩ := HSL.out.elem (f := rtL) (fun _ => rfl) (by omega : 0 < 2) hgk
    have e0 := hcs 0 _ rfl
    have e1 := hcs 1 _ rfl
    rw [Nat.add_zero] at e0
    simp only at HST e0 e1
    cases hp9
    obtain ⟨ho1, ho2⟩ := hok
    have hk0 : (0 : Int) ≤ (k : Int) := Int.natCast_nonneg _
    have hk1 : (k : Int) < 5 := by omega
    have hk3 : (k : Int).toNat = k := by omega
    clear hcs hgk HK
    rw [Nat.zero_add] at e0 e1
    go_upto_region 6 with (fail)
    refine wp_rows1 fun w3' hbz hR0 => ?_
    have lt_m_p : w.heap.size < X.heap.size := HR_m.out.lt
    have le_p : w.heap.size ≤ X.heap.size := HW.out.size
    replace HR_m := Lib.hid (HR_m.out.ext hbz)
    replace HSL := Lib.hid (HSL.out.ext hbz)
    replace HW := Lib.hid (ext_trans HW.out hbz)
    clear e0 e1
    clear hbz
    have HR_p : Hid (RH w3' X.heap.size #[.string rn, .string rd] 24) := Lib.hid hR0
    clear hR0
    generalize X.heap.size = b_p at *
    obtain ⟨c_p_0, c_p_1⟩ := zs2 HR_p.out
    go_wp2_with fail
    refine (refCheck_at rn rd ho1 ho2 w3' (HT0.out.ext HW.out)).mono ?_
    rintro e w4' ⟨rfl, hbz⟩
    replace HR_m := Lib.hid (HR_m.out.ext hbz)
    replace HR_p := Lib.hid (HR_p.out.ext hbz)
    replace HSL := Lib.hid (HSL.out.ext hbz)
    replace HW := Lib.hid (ext_trans HW.out hbz)
    clear c_p_0 c_p_1
    clear hbz
    by_cases hz : rF rn rd = 0
    ·have HF8 : Hid (smF rn rd = if rd ≠ ⟨#[49]⟩ then 3 else if 100 < (cutS rn).size then 2 else 0) := Lib.hid (by unfold smF; rw [if_neg (fun h => h hz)])
     have hne : (rF rn rd != 0) = false := by simp [hz]
     clear hz
     obtain ⟨c_p_0, c_p_1⟩ := zs2 HR_p.out
     by_cases hd1 : rd = ⟨#[49]⟩
     ·have hq1 : (rd.toList == [49]) = true := (tl_lit rd 49).trans (decide_eq_true hd1)
      have HF7 : Hid (smF rn rd = if 100 < (cutS rn).size then 2 else 0) := Lib.hid (by rw [HF8.out, if_neg (fun h => h hd1)])
      clear hd1
      have hcz := cutS_size rn
      have hcy := ho1
      unfold maxLen at hcy
      go_wp2_with fail
      refine (trimPrefix_at rn ho1 w4').mono ?_
      rintro e w5' ⟨rfl, hw9⟩
      have hbz : Below w4'.heap.size w4' w5' := by rw [← hw9]; exact Below.refl _ _
      clear hw9
      clear hq1
      replace HR_m := Lib.hid (HR_m.out.ext hbz)
      replace HR_p := Lib.hid (HR_p.out.ext hbz)
      replace HSL := Lib.hid (HSL.out.ext hbz)
      replace HW := Lib.hid (ext_trans HW.out hbz)
      clear c_p_0 c_p_1
      clear hbz
      by_cases hl : 100 < (cutS rn).size
      ·have HF9 : Hid (smF rn rd = 2) := Lib.hid (by rw [HF7.out, if_pos hl])
       have HNE : Hid ((2 : Int) ≠ 0) := Lib.hid (by decide)
       have hl2 : (100 : Int) < ((cutS rn).size : Int) := by omega
       have HP : Hid (momF n r = 2) := Lib.hid (by
        have e : smL r.l = 2 := by rw [HST.out, if_pos (by rw [HF9.out]; exact HNE.out), HF9.out]
        rw [HP0.out, e, if_pos HNE.out])
       clear HST
       go_wp2
       exact bodyPost_ret (v := .int .i64 2) (by simp [results, Tryz.results52, go_sem]) rfl ⟨by rw [HP.out], HW.out⟩
      ·have HF9 : Hid (smF rn rd = 0) := Lib.hid (by rw [HF7.out, if_neg hl])
       have hl2 : ¬ (100 : Int) < ((cutS rn).size : Int) := by omega
       have HN : Hid (smL r.l = smL (r.l.drop (k + 1))) := Lib.hid (HST.out.trans (if_neg (fun h => h HF9.out)))
       clear HR_p
       go_wp2
       go_roundw
       case rel => exact ⟨k + 1, by omega, by go_num, HN, HR_m.out, HSL.out, HW.out⟩
       case measure => simp [intOf]; omega
     ·have hq1 : (rd.toList == [49]) = false := (tl_lit rd 49).trans (decide_eq_false hd1)
      have HF9 : Hid (smF rn rd = 3) := Lib.hid (by rw [HF8.out, if_pos hd1])
      have HNE : Hid ((3 : Int) ≠ 0) := Lib.hid (by decide)
      clear hd1
      have HP : Hid (momF n r = 3) := Lib.hid (by
       have e : smL r.l = 3 := by rw [HST.out, if_pos (by rw [HF9.out]; exact HNE.out), HF9.out]
       rw [HP0.out, e, if_pos HNE.out])
      clear HST
      go_wp2
      exact bodyPost_ret (v := .int .i64 3) (by simp [results, Tryz.results52, go_sem]) rfl ⟨by rw [HP.out], HW.out⟩
    ·have HF9 : Hid (smF rn rd = rF rn rd) := Lib.hid (by unfold smF; rw [if_pos hz])
     have HNE : Hid (rF rn rd ≠ 0) := Lib.hid hz
     have hne : (rF rn rd != 0) = true := by simp [hz]
     clear hz
     have HP : Hid (momF n r = (rF rn rd)) := Lib.hid (by
      have e : smL r.l = (rF rn rd) := by rw [HST.out, if_pos (by rw [HF9.out]; exact HNE.out), HF9.out]
      rw [HP0.out, e, if_pos HNE.out])
     clear HST
     go_wp2
     exact bodyPost_ret (v := .int .i64 (rF rn rd)) (by simp [results, Tryz.results52, go_sem]) rfl ⟨by rw [HP.out], HW.out⟩
   ·obtain rfl : k = 5 := by omega
    have HSM : Hid (smL r.l = 0) := HK
    clear HK hk hlt
    obtain ⟨q, hrq, hqr, hql⟩ := sm_five HSM.out
    have HP1 : Hid (momF n r = if posB n q = true then 0 else 13) := Lib.hid (by rw [HP0.out, if_neg (fun h => h HSM.out), hqr])
    clear HP0 HSM hqr HOK
    subst hrq
    have HQL := Lib.hid hql
    have HQF := Lib.hid hql.fits
    clear hql
    obtain ⟨hn0, hn1⟩ := id HNB.out
    clear HSL
    have HDA := Lib.hid (df_ln hn0 hn1 HQL.out.xx HQL.out.x HQL.out.x)
    have HDB := Lib.hid (df_ln hn0 hn1 HQL.out.yy HQL.out.y HQL.out.y)
    have HDC := Lib.hid (df_ln hn0 hn1 HQL.out.xy HQL.out.x HQL.out.y)
    obtain ⟨nq, hnq⟩ : ∃ z : Rat, ((n : Int) : Rat) = z := ⟨_, rfl⟩
    have HNF : Hid (Fits nq) := Lib.hid (by rw [← hnq]; exact (ln_n hn0 hn1).fits (by omega) (by omega))
    obtain ⟨lA, hlA⟩ : ∃ z : Rat, nq * q.xx = z := ⟨_, rfl⟩
    obtain ⟨rA, hrA⟩ : ∃ z : Rat, q.x * q.x = z := ⟨_, rfl⟩
    obtain ⟨dA, hdA⟩ : ∃ z : Rat, lA - rA = z := ⟨_, rfl⟩
    have HDA' : Hid (Fits lA ∧ Fits rA ∧ Fits dA ∧ Ln 201 0 dA) := Lib.hid (by
     obtain ⟨e1, e2, e3⟩ := HDA.out
     rw [hnq, hlA] at e1
     rw [hrA] at e2
     rw [hnq, hlA, hrA, hdA] at e3
     exact ⟨e1.fits (by omega) (by omega), e2.fits (by omega) (by omega), e3.fits (by omega) (by omega), e3⟩)
    have HEA := Lib.hid (And.intro hlA (And.intro hrA hdA))
    obtain ⟨lB, hlB⟩ : ∃ z : Rat, nq * q.yy = z := ⟨_, rfl⟩
    obtain ⟨rB, hrB⟩ : ∃ z : Rat, q.y * q.y = z := ⟨_, rfl⟩
    obtain ⟨dB, hdB⟩ : ∃ z : Rat, lB - rB = z := ⟨_, rfl⟩
    have HDB' : Hid (Fits lB ∧ Fits rB ∧ Fits dB ∧ Ln 201 0 dB) := Lib.hid (by
     obtain ⟨e1, e2, e3⟩ := HDB.out
     rw [hnq, hlB] at e1
     rw [hrB] at e2
     rw [hnq, hlB, hrB, hdB] at e3
     exact ⟨e1.fits (by omega) (by omega), e2.fits (by omega) (by omega), e3.fits (by omega) (by omega), e3⟩)
    have HEB := Lib.hid (And.intro hlB (And.intro hrB hdB))
    obtain ⟨lC, hlC⟩ : ∃ z : Rat, nq * q.xy = z := ⟨_, rfl⟩
    obtain ⟨rC, hrC⟩ : ∃ z : Rat, q.x * q.y = z := ⟨_, rfl⟩
    obtain ⟨dC, hdC⟩ : ∃ z : Rat, lC - rC = z := ⟨_, rfl⟩
    have HDC' : Hid (Fits lC ∧ Fits rC ∧ Fits dC ∧ Ln 201 0 dC) := Lib.hid (by
     obtain ⟨e1, e2, e3⟩ := HDC.out
     rw [hnq, hlC] at e1
     rw [hrC] at e2
     rw [hnq, hlC, hrC, hdC] at e3
     exact ⟨e1.fits (by omega) (by omega), e2.fits (by omega) (by omega), e3.fits (by omega) (by omega), e3⟩)
    have HEC := Lib.hid (And.intro hlC (And.intro hrC hdC))
    have HDD : Hid (dfA n q = dA ∧ dfB n q = dB ∧ dfC n q = dC) := Lib.hid (by unfold dfA dfB dfC; rw [hnq, hlA, hrA, hdA, hlB, hrB, hdB, hlC, hrC, hdC]; exact ⟨rfl, rfl, rfl⟩)
    have HNQ := Lib.hid hnq
    clear HDA HDB HDC hnq hlA hrA hdA hlB hrB hdB hlC hrC hdC
    obtain ⟨cc, hcc⟩ : ∃ z : Rat, dC * dC = z := ⟨_, rfl⟩
    obtain ⟨ab, hab⟩ : ∃ z : Rat, dA * dB = z := ⟨_, rfl⟩
    have HCC : Hid (dC * dC = cc ∧ dA * dB = ab ∧ Fits cc ∧ Fits ab) := Lib.hid ⟨hcc, hab, by rw [← hcc]; exact (HDC'.out.2.2.2.mul HDC'.out.2.2.2).fits (by omega) (by omega), by rw [← hab]; exact (HDA'.out.2.2.2.mul HDB'.out.2.2.2).fits (by omega) (by omega)⟩
    clear hcc hab
    have HP2 : Hid (posB n q = ((decide (0 ≤ q.xx) && (decide (0 ≤ q.yy) && (decide (0 ≤ dA) && (decide (0 ≤ dB) && decide (cc ≤ ab))))) && (!decide (n = 0) || zerB q))) := Lib.hid (by
     rw [posB_steps]
     unfold posB1
     rw [HDD.out.1, HDD.out.2.1, HDD.out.2.2, HCC.out.1, HCC.out.2.1])
    clear HDD
    obtain ⟨c_m_0, -, -, -, -, -, -, -, -, -, -⟩ := zs11 HR_m.out
    go_wp2_with fail
    refine ((by have h := whole_is n n.toNat (by omega) (by omega) X (HT0.out.ext HW.out); rw [show ((n.toNat : Nat) : Rat) = nq by rw [← HNQ.out, ← Rat.intCast_natCast]; congr 1; omega] at h; exact h : Calls _ _ _ X (RtP X nq))).mono ?_
    rintro e w3' ⟨rfl, hbz⟩
    replace HR_m := Lib.hid (HR_m.out.ext hbz)
    replace HW := Lib.hid (ext_trans HW.out hbz)
    clear c_m_0
    clear hbz
    go_upto_region 15 with (fail)
    refine wp_rows1 fun w4' hbz hR0 => ?_
    have lt_m_n : w.heap.size < w3'.heap.size := HR_m.out.lt
    have le_n : w.heap.size ≤ w3'.heap.size := HW.out.size
    replace HR_m := Lib.hid (HR_m.out.ext hbz)
    replace HW := Lib.hid (ext_trans HW.out hbz)
    clear hbz
    have HR_n : Hid (RH w4' w3'.heap.size #[.string (showN nq), .string (showD nq)] 24) := Lib.hid hR0
    clear hR0
    generalize w3'.heap.size = b_n at *
    obtain ⟨c_m_0, c_m_1, c_m_2, c_m_3, c_m_4, c_m_5, c_m_6, c_m_7, c_m_8, c_m_9, c_m_10⟩ := zs11 HR_m.out
    obtain ⟨c_n_0, c_n_1⟩ := zs2 HR_n.out
    refine Grow.wp_region_grow2 22 [.is (TP.eq (rtV nq)), .is (TP.eq (.pointer (some ⟨w.heap.size, 5, none⟩))), .is (TP.eq (rtV q.xx)), .is (TP.eq (rtV lA)), .is (TP.eq (.pointer (some ⟨w.heap.size, 1, none⟩))), .is (TP.eq (rtV q.x)), .is (TP.eq (.pointer (some ⟨w.heap.size, 1, none⟩))), .is (TP.eq (rtV q.x)), .is (TP.eq (rtV rA)), .is (TP.eq (rtV dA)), .is (TP.eq (rtV nq)), .is (TP.eq (.pointer (some ⟨w.heap.size, 7, none⟩))), .is (TP.eq (rtV q.yy)), .is (TP.eq (rtV lB)), .is (TP.eq (.pointer (some ⟨w.heap.size, 3, none⟩))), .is (TP.eq (rtV q.y)), .is (TP.eq (.pointer (some ⟨w.heap.size, 3, none⟩))), .is (TP.eq (rtV q.y)), .is (TP.eq (rtV rB)), .is (TP.eq (rtV dB)), .new #[.string ⟨#[]⟩, .string ⟨#[]⟩], .new #[.string ⟨#[]⟩, .string ⟨#[]⟩]] [[], [], [1], [0, 2], [], [4], [], [6], [5, 7], [3, 8], [], [], [11], [10, 12], [], [14], [], [16], [15, 17], [13, 18], [], []] (by kernel_rfl) (by kernel_rfl) ⟨?o0g, ?o1g, ?o2g, ?o3g, ?o4g, ?o5g, ?o6g, ?o7g, ?o8g, ?o9g, ?o10g, ?o11g, ?o12g, ?o13g, ?o14g, ?o15g, ?o16g, ?o17g, ?o18g, ?o19g, ?o20g, ?o21g, trivial⟩ ?_
    case o0g | o10g =>
     intro w' hb
     have c_n_0' := zzc hb c_n_0
     have c_n_1' := zzc hb c_n_1
     show wpList _ _ _ _ _ _
     go_wp2
     exact ⟨rfl, Below.refl _ _, rfl⟩
    case o1g | o4g | o6g | o11g | o14g | o16g =>
     intro w' hb
     show wpList _ _ _ _ _ _
     go_wp2
     exact ⟨rfl, Below.refl _ _, rfl⟩
    case o2g | o5g | o7g | o12g | o15g | o17g =>
     intro w' hb v1 hv1
     cases hv1
     have c_m_5' := zzc hb c_m_5
     have c_m_6' := zzc hb c_m_6
     have c_m_1' := zzc hb c_m_1
     have c_m_2' := zzc hb c_m_2
     have c_m_7' := zzc hb c_m_7
     have c_m_8' := zzc hb c_m_8
     have c_m_3' := zzc hb c_m_3
     have c_m_4' := zzc hb c_m_4
     show wpList _ _ _ _ _ _
     simp only [Grow.dstOf, zzp, Act.put]
     go_wp2
     exact ⟨rfl, Below.refl _ _, rfl⟩
    case o3g =>
     intro w' hb v1 hv1 v2 hv2
     cases hv1
     cases hv2
     show wpList _ _ _ _ _ _
     simp only [Grow.dstOf, zzp, Act.put]
     go_wp2_with fail
     refine (times_is nq q.xx lA HEA.out.1 HNF.out HQF.out.xx HDA'.out.1 w' (HT0.out.ext (ext_trans HW.out hb))).mono ?_
     rintro e wz ⟨rfl, hbz⟩
     go_wp2
     exact ⟨rfl, hbz, rfl⟩
    case o8g =>
     intro w' hb v1 hv1 v2 hv2
     cases hv1
     cases hv2
     show wpList _ _ _ _ _ _
     simp only [Grow.dstOf, zzp, Act.put]
     go_wp2_with fail
     refine (times_is q.x q.x rA HEA.out.2.1 HQF.out.x HQF.out.x HDA'.out.2.1 w' (HT0.out.ext (ext_trans HW.out hb))).mono ?_
     rintro e wz ⟨rfl, hbz⟩
     go_wp2
     exact ⟨rfl, hbz, rfl⟩
    case o9g =>
     intro w' hb v1 hv1 v2 hv2
     cases hv1
     cases hv2
     show wpList _ _ _ _ _ _
     simp only [Grow.dstOf, zzp, Act.put]
     go_wp2_with fail
     refine (minus_is lA rA dA HEA.out.2.2 HDA'.out.1 HDA'.out.2.1 HDA'.out.2.2.1 w' (HT0.out.ext (ext_trans HW.out hb))).mono ?_
     rintro e wz ⟨rfl, hbz⟩
     go_wp2
     exact ⟨rfl, hbz, rfl⟩
    case o13g =>
     intro w' hb v1 hv1 v2 hv2
     cases hv1
     cases hv2
     show wpList _ _ _ _ _ _
     simp only [Grow.dstOf, zzp, Act.put]
     go_wp2_with fail
     refine (times_is nq q.yy lB HEB.out.1 HNF.out HQF.out.yy HDB'.out.1 w' (HT0.out.ext (ext_trans HW.out hb))).mono ?_
     rintro e wz ⟨rfl, hbz⟩
     go_wp2
     exact ⟨rfl, hbz, rfl⟩
    case o18g =>
     intro w' hb v1 hv1 v2 hv2
     cases hv1
     cases hv2
     show wpList _ _ _ _ _ _
     simp only [Grow.dstOf, zzp, Act.put]
     go_wp2_with fail
     refine (times_is q.y q.y rB HEB.out.2.1 HQF.out.y HQF.out.y HDB'.out.2.1 w' (HT0.out.ext (ext_trans HW.out hb))).mono ?_
     rintro e wz ⟨rfl, hbz⟩
     go_wp2
     exact ⟨rfl, hbz, rfl⟩
    case o19g =>
     intro w' hb v1 hv1 v2 hv2
     cases hv1
     cases hv2
     show wpList _ _ _ _ _ _
     simp only [Grow.dstOf, zzp, Act.put]
     go_wp2_with fail
     refine (minus_is lB rB dB HEB.out.2.2 HDB'.out.1 HDB'.out.2.1 HDB'.out.2.2.1 w' (HT0.out.ext (ext_trans HW.out hb))).mono ?_
     rintro e wz ⟨rfl, hbz⟩
     go_wp2
     exact ⟨rfl, hbz, rfl⟩
    case o20g | o21g =>
     intro w' hb
     show wpList _ _ _ _ _ _
     go_wp2
     exact ⟨⟨_, rfl, Nat.le_refl _, Box.new _ _ _, Fre.new _ _ _⟩, ext_alloc _ _, rfl⟩
    intro w5' hbz u0 hu0 u1 hu1 u2 hu2 u3 hu3 u4 hu4 u5 hu5 u6 hu6 u7 hu7 u8 hu8 u9 hu9 u10 hu10 u11 hu11 u12 hu12 u13 hu13 u14 hu14 u15 hu15 u16 hu16 u17 hu17 u18 hu18 u19 hu19 u20 hu20 u21 hu21 hpw
    obtain rfl : u9 = _ := hu9
    obtain rfl : u19 = _ := hu19
    have hne_20_21 := hpw 20 21 (by omega) (by omega) (by omega) rfl rfl
    simp only [List.nil_append, List.cons_append, List.getD_cons_succ, List.getD_cons_zero] at hne_20_21
    have hg20 : ∃ g, u20 = .pointer (some ⟨g, 0, none⟩) ∧ w4'.heap.size ≤ g ∧ Box w5' g #[.string ⟨#[]⟩, .string ⟨#[]⟩] ∧ Fre w5' g := hu20
    have hg21 : ∃ g, u21 = .pointer (some ⟨g, 0, none⟩) ∧ w4'.heap.size ≤ g ∧ Box w5' g #[.string ⟨#[]⟩, .string ⟨#[]⟩] ∧ Fre w5' g := hu21
    clear hpw hu0 hu1 hu2 hu3 hu4 hu5 hu6 hu7 hu8 hu10 hu11 hu12 hu13 hu14 hu15 hu16 hu17 hu18 hu20 hu21
    obtain ⟨b_a, rfl, hgUa, hXUa, hFUa⟩ := hg20
    obtain ⟨b_b, rfl, hgUb, hXUb, hFUb⟩ := hg21
    have hnb_20_21 : b_a ≠ b_b := fun e => hne_20_21 (by rw [e])
    clear hne_20_21
    have lt_m_a : w.heap.size < b_a := Nat.lt_of_lt_of_le HR_m.out.lt hgUa
    have lt_n_a : b_n < b_a := Nat.lt_of_lt_of_le HR_n.out.lt hgUa
    have le_a : w.heap.size ≤ b_a := Nat.le_trans HW.out.size hgUa
    clear hgUa
    have lt_m_b : w.heap.size < b_b := Nat.lt_of_lt_of_le HR_m.out.lt hgUb
    have lt_n_b : b_n < b_b := Nat.lt_of_lt_of_le HR_n.out.lt hgUb
    have le_b : w.heap.size ≤ b_b := Nat.le_trans HW.out.size hgUb
    clear hgUb
    replace HR_m := Lib.hid (HR_m.out.ext hbz)
    replace HR_n := Lib.hid (HR_n.out.ext hbz)
    replace HW := Lib.hid (ext_trans HW.out hbz)
    clear c_m_0 c_m_1 c_m_2 c_m_3 c_m_4 c_m_5 c_m_6 c_m_7 c_m_8 c_m_9 c_m_10 c_n_0 c_n_1
    clear hbz
    have HR_a : Hid (BF w5' b_a #[.string ⟨#[]⟩, .string ⟨#[]⟩]) := Lib.hid ⟨hXUa, hFUa⟩
    clear hXUa hFUa
    have HR_b : Hid (BF w5' b_b #[.string ⟨#[]⟩, .string ⟨#[]⟩]) := Lib.hid ⟨hXUb, hFUb⟩
    clear hXUb hFUb
    show wpList _ _ _ _ _ _
    simp only [Act.put, zzp]
    have c_a_0 : w5'.cell? ⟨b_a, 0, none⟩ = some (.string ⟨#[]⟩) := (HR_a.out.cell 0).trans rfl
    have c_a_1 : w5'.cell? ⟨b_a, 1, none⟩ = some (.string ⟨#[]⟩) := (HR_a.out.cell 1).trans rfl
    have f_a_0 := HR_a.out.fre 0
    have f_a_1 := HR_a.out.fre 1
    have c_b_0 : w5'.cell? ⟨b_b, 0, none⟩ = some (.string ⟨#[]⟩) := (HR_b.out.cell 0).trans rfl
    have c_b_1 : w5'.cell? ⟨b_b, 1, none⟩ = some (.string ⟨#[]⟩) := (HR_b.out.cell 1).trans rfl
    have f_b_0 := HR_b.out.fre 0
    have f_b_1 := HR_b.out.fre 1
    go_upto_region 16 with (fail)
    obtain ⟨w6', hX⟩ : ∃ Z9, Z9 = ((w5'.setCell ⟨b_a, 0, none⟩ (.string (showN dA))).setCell ⟨b_a, 1, none⟩ (.string (showD dA))) := ⟨_, rfl⟩
    rw [← hX]
    have n_a : Hid (BF w6' b_a #[.string (showN dA), .string (showD dA)]) := by rw [hX]; exact Lib.hid (((HR_a.out).set 0 (by simp) (.string (showN dA))).set 1 (by simp) (.string (showD dA)))
    have n_m : Hid (RH w6' w.heap.size (mrA (n) q.r) 35) := by rw [hX]; exact Lib.hid (zzo (zzo (HR_m.out) (by omega)) (by omega))
    have n_n : Hid (RH w6' b_n #[.string (showN nq), .string (showD nq)] 24) := by rw [hX]; exact Lib.hid (zzo (zzo (HR_n.out) (by omega)) (by omega))
    have n_b : Hid (BF w6' b_b #[.string ⟨#[]⟩, .string ⟨#[]⟩]) := by rw [hX]; exact Lib.hid (((HR_b.out).other (p := ⟨b_a, 0, none⟩) (show b_b ≠ b_a by omega) (.string (showN dA))).other (p := ⟨b_a, 1, none⟩) (show b_b ≠ b_a by omega) (.string (showD dA)))
    have HK_ : ∀ p : Addr, p.block ≠ b_a → w6'.cell? p = w5'.cell? p := fun p hp => by rw [hX]; exact (cs_other hp).trans (cs_other hp)
    have nW : Hid (Below w.heap.size w w6') := by rw [hX]; exact Lib.hid (zzw (zzw (HW.out) (by omega)) (by omega))
    clear c_a_0 c_a_1 f_a_0 f_a_1 c_b_0 c_b_1 f_b_0 f_b_1
    clear hX HK_ HW HR_m HR_n HR_a HR_b 
    have HR_m := n_m; clear n_m
    have HR_n := n_n; clear n_n
    have HR_a := n_a; clear n_a
    have HR_b := n_b; clear n_b
    have HW := nW; clear nW
    obtain ⟨w7', hX⟩ : ∃ Z9, Z9 = ((w6'.setCell ⟨b_b, 0, none⟩ (.string (showN dB))).setCell ⟨b_b, 1, none⟩ (.string (showD dB))) := ⟨_, rfl⟩
    rw [← hX]
    have n_b : Hid (BF w7' b_b #[.string (showN dB), .string (showD dB)]) := by rw [hX]; exact Lib.hid (((HR_b.out).set 0 (by simp) (.string (showN dB))).set 1 (by simp) (.string (showD dB)))
    have n_m : Hid (RH w7' w.heap.size (mrA (n) q.r) 35) := by rw [hX]; exact Lib.hid (zzo (zzo (HR_m.out) (by omega)) (by omega))
    have n_n : Hid (RH w7' b_n #[.string (showN nq), .string (showD nq)] 24) := by rw [hX]; exact Lib.hid (zzo (zzo (HR_n.out) (by omega)) (by omega))
    have n_a : Hid (BF w7' b_a #[.string (showN dA), .string (showD dA)]) := by rw [hX]; exact Lib.hid (((HR_a.out).other (p := ⟨b_b, 0, none⟩) (show b_a ≠ b_b by omega) (.string (showN dB))).other (p := ⟨b_b, 1, none⟩) (show b_a ≠ b_b by omega) (.string (showD dB)))
    have HK_ : ∀ p : Addr, p.block ≠ b_b → w7'.cell? p = w6'.cell? p := fun p hp => by rw [hX]; exact (cs_other hp).trans (cs_other hp)
    have nW : Hid (Below w.heap.size w w7') := by rw [hX]; exact Lib.hid (zzw (zzw (HW.out) (by omega)) (by omega))
    clear hX HK_ HW HR_m HR_n HR_a HR_b 
    have HR_m := n_m; clear n_m
    have HR_n := n_n; clear n_n
    have HR_a := n_a; clear n_a
    have HR_b := n_b; clear n_b
    have HW := nW; clear nW
    obtain ⟨c_m_0, c_m_1, c_m_2, c_m_3, c_m_4, c_m_5, c_m_6, c_m_7, c_m_8, c_m_9, c_m_10⟩ := zs11 HR_m.out
    obtain ⟨c_n_0, c_n_1⟩ := zs2 HR_n.out
    refine Grow.wp_region_grow2 11 [.is (TP.eq (rtV nq)), .is (TP.eq (.pointer (some ⟨w.heap.size, 9, none⟩))), .is (TP.eq (rtV q.xy)), .is (TP.eq (rtV lC)), .is (TP.eq (.pointer (some ⟨w.heap.size, 1, none⟩))), .is (TP.eq (rtV q.x)), .is (TP.eq (.pointer (some ⟨w.heap.size, 3, none⟩))), .is (TP.eq (rtV q.y)), .is (TP.eq (rtV rC)), .is (TP.eq (rtV dC)), .new #[.string ⟨#[]⟩, .string ⟨#[]⟩]] [[], [], [1], [0, 2], [], [4], [], [6], [5, 7], [3, 8], []] (by kernel_rfl) (by kernel_rfl) ⟨?o0h, ?o1h, ?o2h, ?o3h, ?o4h, ?o5h, ?o6h, ?o7h, ?o8h, ?o9h, ?o10h, trivial⟩ ?_
    case o0h =>
     intro w' hb
     have c_n_0' := zzc hb c_n_0
     have c_n_1' := zzc hb c_n_1
     show wpList _ _ _ _ _ _
     go_wp2
     exact ⟨rfl, Below.refl _ _, rfl⟩
    case o1h | o4h | o6h =>
     intro w' hb
     show wpList _ _ _ _ _ _
     go_wp2
     exact ⟨rfl, Below.refl _ _, rfl⟩
    case o2h | o5h | o7h =>
     intro w' hb v1 hv1
     cases hv1
     have c_m_9' := zzc hb c_m_9
     have c_m_10' := zzc hb c_m_10
     have c_m_1' := zzc hb c_m_1
     have c_m_2' := zzc hb c_m_2
     have c_m_3' := zzc hb c_m_3
     have c_m_4' := zzc hb c_m_4
     show wpList _ _ _ _ _ _
     simp only [Grow.dstOf, zzp, Act.put]
     go_wp2
     exact ⟨rfl, Below.refl _ _, rfl⟩
    case o3h =>
     intro w' hb v1 hv1 v2 hv2
     cases hv1
     cases hv2
     show wpList _ _ _ _ _ _
     simp only [Grow.dstOf, zzp, Act.put]
     go_wp2_with fail
     refine (times_is nq q.xy lC HEC.out.1 HNF.out HQF.out.xy HDC'.out.1 w' (HT0.out.ext (ext_trans HW.out hb))).mono ?_
     rintro e wz ⟨rfl, hbz⟩
     go_wp2
     exact ⟨rfl, hbz, rfl⟩
    case o8h =>
     intro w' hb v1 hv1 v2 hv2
     cases hv1
     cases hv2
     show wpList _ _ _ _ _ _
     simp only [Grow.dstOf, zzp, Act.put]
     go_wp2_with fail
     refine (times_is q.x q.y rC HEC.out.2.1 HQF.out.x HQF.out.y HDC'.out.2.1 w' (HT0.out.ext (ext_trans HW.out hb))).mono ?_
     rintro e wz ⟨rfl, hbz⟩
     go_wp2
     exact ⟨rfl, hbz, rfl⟩
    case o9h =>
     intro w' hb v1 hv1 v2 hv2
     cases hv1
     cases hv2
     show wpList _ _ _ _ _ _
     simp only [Grow.dstOf, zzp, Act.put]
     go_wp2_with fail
     refine (minus_is lC rC dC HEC.out.2.2 HDC'.out.1 HDC'.out.2.1 HDC'.out.2.2.1 w' (HT0.out.ext (ext_trans HW.out hb))).mono ?_
     rintro e wz ⟨rfl, hbz⟩
     go_wp2
     exact ⟨rfl, hbz, rfl⟩
    case o10h =>
     intro w' hb
     show wpList _ _ _ _ _ _
     go_wp2
     exact ⟨⟨_, rfl, Nat.le_refl _, Box.new _ _ _, Fre.new _ _ _⟩, ext_alloc _ _, rfl⟩
    intro w8' hbz u0 hu0 u1 hu1 u2 hu2 u3 hu3 u4 hu4 u5 hu5 u6 hu6 u7 hu7 u8 hu8 u9 hu9 u10 hu10 hpw
    obtain rfl : u9 = _ := hu9
    have hg10 : ∃ g, u10 = .pointer (some ⟨g, 0, none⟩) ∧ w7'.heap.size ≤ g ∧ Box w8' g #[.string ⟨#[]⟩, .string ⟨#[]⟩] ∧ Fre w8' g := hu10
    clear hpw hu0 hu1 hu2 hu3 hu4 hu5 hu6 hu7 hu8 hu10
    obtain ⟨b_c, rfl, hgUc, hXUc, hFUc⟩ := hg10
    have lt_m_c : w.heap.size < b_c := Nat.lt_of_lt_of_le HR_m.out.lt hgUc
    have lt_n_c : b_n < b_c := Nat.lt_of_lt_of_le HR_n.out.lt hgUc
    have lt_a_c : b_a < b_c := Nat.lt_of_lt_of_le HR_a.out.lt hgUc
    have lt_b_c : b_b < b_c := Nat.lt_of_lt_of_le HR_b.out.lt hgUc
    have le_c : w.heap.size ≤ b_c := Nat.le_trans HW.out.size hgUc
    clear hgUc
    replace HR_m := Lib.hid (HR_m.out.ext hbz)
    replace HR_n := Lib.hid (HR_n.out.ext hbz)
    replace HR_a := Lib.hid (HR_a.out.ext hbz)
    replace HR_b := Lib.hid (HR_b.out.ext hbz)
    replace HW := Lib.hid (ext_trans HW.out hbz)
    clear c_m_0 c_m_1 c_m_2 c_m_3 c_m_4 c_m_5 c_m_6 c_m_7 c_m_8 c_m_9 c_m_10 c_n_0 c_n_1
    clear hbz
    have HR_c : Hid (BF w8' b_c #[.string ⟨#[]⟩, .string ⟨#[]⟩]) := Lib.hid ⟨hXUc, hFUc⟩
    clear hXUc hFUc
    show wpList _ _ _ _ _ _
    simp only [Act.put, zzp]
    have c_c_0 : w8'.cell? ⟨b_c, 0, none⟩ = some (.string ⟨#[]⟩) := (HR_c.out.cell 0).trans rfl
    have c_c_1 : w8'.cell? ⟨b_c, 1, none⟩ = some (.string ⟨#[]⟩) := (HR_c.out.cell 1).trans rfl
    have f_c_0 := HR_c.out.fre 0
    have f_c_1 := HR_c.out.fre 1
    go_upto_region 17 with (fail)
    obtain ⟨w9', hX⟩ : ∃ Z9, Z9 = ((w8'.setCell ⟨b_c, 0, none⟩ (.string (showN dC))).setCell ⟨b_c, 1, none⟩ (.string (showD dC))) := ⟨_, rfl⟩
    rw [← hX]
    have n_c : Hid (BF w9' b_c #[.string (showN dC), .string (showD dC)]) := by rw [hX]; exact Lib.hid (((HR_c.out).set 0 (by simp) (.string (showN dC))).set 1 (by simp) (.string (showD dC)))
    have n_m : Hid (RH w9' w.heap.size (mrA (n) q.r) 35) := by rw [hX]; exact Lib.hid (zzo (zzo (HR_m.out) (by omega)) (by omega))
    have n_n : Hid (RH w9' b_n #[.string (showN nq), .string (showD nq)] 24) := by rw [hX]; exact Lib.hid (zzo (zzo (HR_n.out) (by omega)) (by omega))
    have n_a : Hid (BF w9' b_a #[.string (showN dA), .string (showD dA)]) := by rw [hX]; exact Lib.hid (((HR_a.out).other (p := ⟨b_c, 0, none⟩) (show b_a ≠ b_c by omega) (.string (showN dC))).other (p := ⟨b_c, 1, none⟩) (show b_a ≠ b_c by omega) (.string (showD dC)))
    have n_b : Hid (BF w9' b_b #[.string (showN dB), .string (showD dB)]) := by rw [hX]; exact Lib.hid (((HR_b.out).other (p := ⟨b_c, 0, none⟩) (show b_b ≠ b_c by omega) (.string (showN dC))).other (p := ⟨b_c, 1, none⟩) (show b_b ≠ b_c by omega) (.string (showD dC)))
    have HK_ : ∀ p : Addr, p.block ≠ b_c → w9'.cell? p = w8'.cell? p := fun p hp => by rw [hX]; exact (cs_other hp).trans (cs_other hp)
    have nW : Hid (Below w.heap.size w w9') := by rw [hX]; exact Lib.hid (zzw (zzw (HW.out) (by omega)) (by omega))
    clear c_c_0 c_c_1 f_c_0 f_c_1
    clear hX HK_ HW HR_m HR_n HR_a HR_b HR_c 
    have HR_m := n_m; clear n_m
    have HR_n := n_n; clear n_n
    have HR_a := n_a; clear n_a
    have HR_b := n_b; clear n_b
    have HR_c := n_c; clear n_c
    have HW := nW; clear nW
    by_cases hc0 : 0 ≤ q.xx
    ·by_cases hc1 : 0 ≤ q.yy
     ·by_cases hc2 : 0 ≤ dA
      ·by_cases hc3 : 0 ≤ dB
       ·by_cases hc4 : cc ≤ ab
        ·obtain ⟨-, -, -, -, -, c_m_5, c_m_6, c_m_7, c_m_8, -, -⟩ := zs11 HR_m.out
         have c_a_0 : w9'.cell? ⟨b_a, 0, none⟩ = some (.string (showN dA)) := (HR_a.out.cell 0).trans rfl
         have c_a_1 : w9'.cell? ⟨b_a, 1, none⟩ = some (.string (showD dA)) := (HR_a.out.cell 1).trans rfl
         have c_b_0 : w9'.cell? ⟨b_b, 0, none⟩ = some (.string (showN dB)) := (HR_b.out.cell 0).trans rfl
         have c_b_1 : w9'.cell? ⟨b_b, 1, none⟩ = some (.string (showD dB)) := (HR_b.out.cell 1).trans rfl
         have c_c_0 : w9'.cell? ⟨b_c, 0, none⟩ = some (.string (showN dC)) := (HR_c.out.cell 0).trans rfl
         have c_c_1 : w9'.cell? ⟨b_c, 1, none⟩ = some (.string (showD dC)) := (HR_c.out.cell 1).trans rfl
         have HL0 : Hid (decide (q.xx < 0) = false) := Lib.hid (decide_eq_false (fun h => Rat.not_lt.2 hc0 h))
         have HL1 : Hid (decide (q.yy < 0) = false) := Lib.hid (decide_eq_false (fun h => Rat.not_lt.2 hc1 h))
         have HL2 : Hid (decide (dA < 0) = false) := Lib.hid (decide_eq_false (fun h => Rat.not_lt.2 hc2 h))
         have HL3 : Hid (decide (dB < 0) = false) := Lib.hid (decide_eq_false (fun h => Rat.not_lt.2 hc3 h))
         have HL4 : Hid (decide (ab < cc) = false) := Lib.hid (decide_eq_false (fun h => Rat.not_lt.2 hc4 h))
         refine Grow.wp_region_grow 25 [TP.eq (.pointer (some ⟨w.heap.size, 5, none⟩)), TP.eq (rtV q.xx), TP.eq (.bool false), TP.eq (.bool false), TP.eq (.pointer (some ⟨w.heap.size, 7, none⟩)), TP.eq (rtV q.yy), TP.eq (.bool false), TP.eq (.bool false), TP.eq (.bool false), TP.eq (rtV dA), TP.eq (.bool false), TP.eq (.bool false), TP.eq (.bool false), TP.eq (rtV dB), TP.eq (.bool false), TP.eq (.bool false), TP.eq (.bool false), TP.eq (rtV dA), TP.eq (rtV dB), TP.eq (rtV ab), TP.eq (rtV dC), TP.eq (rtV dC), TP.eq (rtV cc), TP.eq (.bool false), TP.eq (.bool false)] [[], [0], [1], [2], [3], [3, 4], [3, 5], [3, 6], [7], [8], [8, 9], [8, 10], [11], [12], [12, 13], [12, 14], [15], [16], [16], [16, 17, 18], [16], [16], [16, 20, 21], [16, 19, 22], [16, 23]] (by kernel_rfl) (by kernel_rfl) ⟨?o0l5, ?o1l5, ?o2l5, ?o3l5, ?o4l5, ?o5l5, ?o6l5, ?o7l5, ?o8l5, ?o9l5, ?o10l5, ?o11l5, ?o12l5, ?o13l5, ?o14l5, ?o15l5, ?o16l5, ?o17l5, ?o18l5, ?o19l5, ?o20l5, ?o21l5, ?o22l5, ?o23l5, ?o24l5, trivial⟩ ?_
         case o0l5 =>
          intro w' hb
          show wpList _ _ _ _ _ _
          go_wp2
          exact ⟨rfl, Below.refl _ _, rfl⟩
         case o1l5 =>
          intro w' hb v1 hv1
          cases hv1
          have c_m_5' := zzc hb c_m_5
          have c_m_6' := zzc hb c_m_6
          show wpList _ _ _ _ _ _
          simp only [Grow.dstOf, zzp, Act.put]
          go_wp2
          exact ⟨rfl, Below.refl _ _, rfl⟩
         case o2l5 =>
          intro w' hb v1 hv1
          cases hv1
          show wpList _ _ _ _ _ _
          simp only [Grow.dstOf, zzp, Act.put]
          go_wp2_with fail
          refine (below_at q.xx HQF.out.xx false HL0.out w').mono ?_
          rintro e wz ⟨rfl, hbz⟩
          go_wp2
          exact ⟨rfl, hbz, rfl⟩
         case o3l5 | o4l5 | o8l5 | o12l5 | o16l5 =>
          intro w' hb v1 hv1
          cases hv1
          show wpList _ _ _ _ _ _
          simp only [Grow.dstOf, zzp, Act.put]
          go_wp2
          exact ⟨rfl, Below.refl _ _, rfl⟩
         case o5l5 =>
          intro w' hb v1 hv1 v2 hv2
          cases hv1
          cases hv2
          have c_m_7' := zzc hb c_m_7
          have c_m_8' := zzc hb c_m_8
          show wpList _ _ _ _ _ _
          simp only [Grow.dstOf, zzp, Act.put]
          go_wp2
          exact ⟨rfl, Below.refl _ _, rfl⟩
         case o6l5 =>
          intro w' hb v1 hv1 v2 hv2
          cases hv1
          cases hv2
          show wpList _ _ _ _ _ _
          simp only [Grow.dstOf, zzp, Act.put]
          go_wp2_with fail
          refine (below_at q.yy HQF.out.yy false HL1.out w').mono ?_
          rintro e wz ⟨rfl, hbz⟩
          go_wp2
          exact ⟨rfl, hbz, rfl⟩
         case o7l5 | o11l5 | o15l5 | o24l5 =>
          intro w' hb v1 hv1 v2 hv2
          cases hv1
          cases hv2
          show wpList _ _ _ _ _ _
          simp only [Grow.dstOf, zzp, Act.put]
          go_wp2
          exact ⟨rfl, Below.refl _ _, rfl⟩
         case o9l5 | o13l5 | o17l5 | o18l5 | o20l5 | o21l5 =>
          intro w' hb v1 hv1
          cases hv1
          have c_a_0' := zzc hb c_a_0
          have c_a_1' := zzc hb c_a_1
          have c_b_0' := zzc hb c_b_0
          have c_b_1' := zzc hb c_b_1
          have c_c_0' := zzc hb c_c_0
          have c_c_1' := zzc hb c_c_1
          show wpList _ _ _ _ _ _
          simp only [Grow.dstOf, zzp, Act.put]
          go_wp2
          exact ⟨rfl, Below.refl _ _, rfl⟩
         case o10l5 =>
          intro w' hb v1 hv1 v2 hv2
          cases hv1
          cases hv2
          show wpList _ _ _ _ _ _
          simp only [Grow.dstOf, zzp, Act.put]
          go_wp2_with fail
          refine (below_at dA HDA'.out.2.2.1 false HL2.out w').mono ?_
          rintro e wz ⟨rfl, hbz⟩
          go_wp2
          exact ⟨rfl, hbz, rfl⟩
         case o14l5 =>
          intro w' hb v1 hv1 v2 hv2
          cases hv1
          cases hv2
          show wpList _ _ _ _ _ _
          simp only [Grow.dstOf, zzp, Act.put]
          go_wp2_with fail
          refine (below_at dB HDB'.out.2.2.1 false HL3.out w').mono ?_
          rintro e wz ⟨rfl, hbz⟩
          go_wp2
          exact ⟨rfl, hbz, rfl⟩
         case o19l5 =>
          intro w' hb v1 hv1 v2 hv2 v3 hv3
          cases hv1
          cases hv2
          cases hv3
          show wpList _ _ _ _ _ _
          simp only [Grow.dstOf, zzp, Act.put]
          go_wp2_with fail
          refine (times_is dA dB ab HCC.out.2.1 HDA'.out.2.2.1 HDB'.out.2.2.1 HCC.out.2.2.2 w' (HT0.out.ext (ext_trans HW.out hb))).mono ?_
          rintro e wz ⟨rfl, hbz⟩
          go_wp2
          exact ⟨rfl, hbz, rfl⟩
         case o22l5 =>
          intro w' hb v1 hv1 v2 hv2 v3 hv3
          cases hv1
          cases hv2
          cases hv3
          show wpList _ _ _ _ _ _
          simp only [Grow.dstOf, zzp, Act.put]
          go_wp2_with fail
          refine (times_is dC dC cc HCC.out.1 HDC'.out.2.2.1 HDC'.out.2.2.1 HCC.out.2.2.1 w' (HT0.out.ext (ext_trans HW.out hb))).mono ?_
          rintro e wz ⟨rfl, hbz⟩
          go_wp2
          exact ⟨rfl, hbz, rfl⟩
         case o23l5 =>
          intro w' hb v1 hv1 v2 hv2 v3 hv3
          cases hv1
          cases hv2
          cases hv3
          show wpList _ _ _ _ _ _
          simp only [Grow.dstOf, zzp, Act.put]
          go_wp2_with fail
          refine (less_is ab cc false HL4.out HCC.out.2.2.2 HCC.out.2.2.1 w' (HT0.out.ext (ext_trans HW.out hb))).mono ?_
          rintro e wz ⟨rfl, hbz⟩
          go_wp2
          exact ⟨rfl, hbz, rfl⟩
         intro w10' hbz u0 hu0 u1 hu1 u2 hu2 u3 hu3 u4 hu4 u5 hu5 u6 hu6 u7 hu7 u8 hu8 u9 hu9 u10 hu10 u11 hu11 u12 hu12 u13 hu13 u14 hu14 u15 hu15 u16 hu16 u17 hu17 u18 hu18 u19 hu19 u20 hu20 u21 hu21 u22 hu22 u23 hu23 u24 hu24
         obtain rfl : u24 = _ := hu24
         clear hu0 hu1 hu2 hu3 hu4 hu5 hu6 hu7 hu8 hu9 hu10 hu11 hu12 hu13 hu14 hu15 hu16 hu17 hu18 hu19 hu20 hu21 hu22 hu23
         replace HR_m := Lib.hid (HR_m.out.ext hbz)
         replace HR_n := Lib.hid (HR_n.out.ext hbz)
         replace HR_a := Lib.hid (HR_a.out.ext hbz)
         replace HR_b := Lib.hid (HR_b.out.ext hbz)
         replace HR_c := Lib.hid (HR_c.out.ext hbz)
         replace HW := Lib.hid (ext_trans HW.out hbz)
         clear c_m_5 c_m_6 c_m_7 c_m_8 c_a_0 c_a_1 c_b_0 c_b_1 c_c_0 c_c_1
         clear hbz
         try refine Grow.TailOk.nil ?_
         refine tail_none (P := Tryz.prog) (ops := #[]) ?_
         simp only [Act.put, zzp]
         have HP3 : Hid (posB n q = (!decide (n = 0) || zerB q)) := Lib.hid (by rw [HP2.out]; simp [hc0, hc1, hc2, hc3, hc4])
         clear HP2 hc0 hc1 hc2 hc3 hc4
         clear HR_a
         clear HR_b
         clear HR_c
         clear HR_n
         go_wp2_with (first | (refine wpList_load_row rfl _ _ rfl w.heap.size rfl _ (mrA (n) q.r) _ _ HR_m.out Tryz.underlying35 rfl (mr_info _ _) ?_))
         refine (sums_at n q.r w10').mono ?_
         rintro e w11' ⟨g2, rfl, hs9, hbz⟩
         replace HR_m := Lib.hid (HR_m.out.ext hbz)
         replace HW := Lib.hid (ext_trans HW.out hbz)
         clear hbz
         have HSL : Hid (Sl w11' (.slice (some ⟨g2, 0, none⟩) 5 5) 5 (q.r.l.flatMap rtL)) := Lib.hid hs9
         clear hs9
         go_wp2
         go_loopw [104] (fun i wr => ∃ k : Nat, k ≤ 5 ∧ i = .int .i64 (k : Int) ∧ Hid (n = 0 → ∀ j, j < k → fq q j = 0) ∧ (RH wr w.heap.size (mrA (n) q.r) 35) ∧ (Sl wr (.slice (some ⟨g2, 0, none⟩) 5 5) 5 (q.r.l.flatMap rtL)) ∧ (Below w.heap.size w wr)) (fun i _ => 5 - (intOf i).toNat)
         case atStart => exact ⟨0, by omega, rfl, Lib.hid (fun _ j hj => by omega), HR_m.out, HSL.out, HW.out⟩
         case round =>
          obtain ⟨k, hk, rfl, HK, q_HR_m, q_HSL, q_HW⟩ := hrel
          clear HR_m HSL HW
          have HR_m := Lib.hid q_HR_m
          have HSL := Lib.hid q_HSL
          have HW := Lib.hid q_HW
          clear q_HR_m q_HSL q_HW
          generalize hX : wr = Y at *
          clear hX
          by_cases hlt : k < 5
          ·have hgk := fq_get (q := q) hlt
           obtain ⟨qk, hqk⟩ : ∃ z, fq q k = z := ⟨_, rfl⟩
           rw [hqk] at hgk
           obtain ⟨pb, po, hp9, hcs⟩ := HSL.out.elem (f := rtL) (fun _ => rfl) (by omega : 0 < 2) hgk
           have e0 := hcs 0 _ rfl
           have e1 := hcs 1 _ rfl
           rw [Nat.add_zero] at e0
           simp only [shR] at e0 e1
           cases hp9
           have hk0 : (0 : Int) ≤ (k : Int) := Int.natCast_nonneg _
           have hk1 : (k : Int) < 5 := by omega
           have hk3 : (k : Int).toNat = k := by omega
           clear hcs hgk
           rw [Nat.zero_add] at e0 e1
           have HQK := Lib.hid hqk
           clear hqk
           go_upto_region 22 with (fail)
           refine wp_rows1 fun w12' hbz hR0 => ?_
           have lt_m_p : w.heap.size < Y.heap.size := HR_m.out.lt
           have le_p : w.heap.size ≤ Y.heap.size := HW.out.size
           replace HR_m := Lib.hid (HR_m.out.ext hbz)
           replace HSL := Lib.hid (HSL.out.ext hbz)
           replace HW := Lib.hid (ext_trans HW.out hbz)
           clear e0 e1
           clear hbz
           have HR_p : Hid (RH w12' Y.heap.size #[.string (showN qk), .string (showD qk)] 24) := Lib.hid hR0
           clear hR0
           generalize Y.heap.size = b_p at *
           obtain ⟨c_p_0, c_p_1⟩ := zs2 HR_p.out
           obtain ⟨c_m_0, -, -, -, -, -, -, -, -, -, -⟩ := zs11 HR_m.out
           by_cases hz : n = 0
           ·have hnz : (n == 0) = true := beq_iff_eq.2 hz
            have HZ0 := Lib.hid hz
            obtain ⟨bz, hbz9⟩ : ∃ b, decide (qk = 0) = b := ⟨_, rfl⟩
            have HBZ := Lib.hid hbz9
            clear hbz9 hz
            go_wp2_with fail
            refine (isZero_at qk bz HBZ.out w12').mono ?_
            rintro e w13' ⟨rfl, hbz⟩
            replace HR_m := Lib.hid (HR_m.out.ext hbz)
            replace HR_p := Lib.hid (HR_p.out.ext hbz)
            replace HSL := Lib.hid (HSL.out.ext hbz)
            replace HW := Lib.hid (ext_trans HW.out hbz)
            clear c_p_0 c_p_1 c_m_0
            clear hbz
            cases bz with
            | false =>
             have HP : Hid (momF n q.r = 13) := Lib.hid (by
              rw [HP1.out, if_neg]
              rw [HP3.out, HZ0.out]
              intro h
              have hz := zerB_fq (by simpa using h) hlt
              rw [HQK.out] at hz
              exact absurd hz (of_decide_eq_false HBZ.out))
             go_wp2
             exact bodyPost_ret (v := .int .i64 13) (by simp [results, Tryz.results52, go_sem]) rfl ⟨by rw [HP.out], HW.out⟩
            | true =>
             clear HR_p
             go_wp2
             go_roundw
             case rel => exact ⟨k + 1, by omega, by go_num, Lib.hid (fun h j hj => by
              by_cases e : j = k
              ·rw [e, HQK.out]; exact of_decide_eq_true HBZ.out
              ·exact HK.out h j (by omega)), HR_m.out, HSL.out, HW.out⟩
             case measure => simp [intOf]; omega
           ·have hnz : (n == 0) = false := beq_eq_false_iff_ne.2 hz
            clear HR_p
            have HZN := Lib.hid hz
            clear hz
            go_wp2
            go_roundw
            case rel => exact ⟨k + 1, by omega, by go_num, Lib.hid (fun h => absurd h HZN.out), HR_m.out, HSL.out, HW.out⟩
            case measure => simp [intOf]; omega
          ·obtain rfl : k = 5 := by omega
           have HP : Hid (momF n q.r = 0) := Lib.hid (by
            rw [HP1.out, if_pos]
            rw [HP3.out]
            by_cases h : n = 0
            ·rw [fq_zerB (HK.out h)]; simp
            ·simp [h])
           go_wp2
           exact bodyPost_ret (v := .int .i64 0) (by simp [results, Tryz.results52, go_sem]) rfl ⟨by rw [HP.out], HW.out⟩
        ·obtain ⟨-, -, -, -, -, c_m_5, c_m_6, c_m_7, c_m_8, -, -⟩ := zs11 HR_m.out
         have c_a_0 : w9'.cell? ⟨b_a, 0, none⟩ = some (.string (showN dA)) := (HR_a.out.cell 0).trans rfl
         have c_a_1 : w9'.cell? ⟨b_a, 1, none⟩ = some (.string (showD dA)) := (HR_a.out.cell 1).trans rfl
         have c_b_0 : w9'.cell? ⟨b_b, 0, none⟩ = some (.string (showN dB)) := (HR_b.out.cell 0).trans rfl
         have c_b_1 : w9'.cell? ⟨b_b, 1, none⟩ = some (.string (showD dB)) := (HR_b.out.cell 1).trans rfl
         have c_c_0 : w9'.cell? ⟨b_c, 0, none⟩ = some (.string (showN dC)) := (HR_c.out.cell 0).trans rfl
         have c_c_1 : w9'.cell? ⟨b_c, 1, none⟩ = some (.string (showD dC)) := (HR_c.out.cell 1).trans rfl
         have HL0 : Hid (decide (q.xx < 0) = false) := Lib.hid (decide_eq_false (fun h => Rat.not_lt.2 hc0 h))
         have HL1 : Hid (decide (q.yy < 0) = false) := Lib.hid (decide_eq_false (fun h => Rat.not_lt.2 hc1 h))
         have HL2 : Hid (decide (dA < 0) = false) := Lib.hid (decide_eq_false (fun h => Rat.not_lt.2 hc2 h))
         have HL3 : Hid (decide (dB < 0) = false) := Lib.hid (decide_eq_false (fun h => Rat.not_lt.2 hc3 h))
         have HL4 : Hid (decide (ab < cc) = true) := Lib.hid (decide_eq_true (Rat.not_le.1 hc4))
         refine Grow.wp_region_grow 25 [TP.eq (.pointer (some ⟨w.heap.size, 5, none⟩)), TP.eq (rtV q.xx), TP.eq (.bool false), TP.eq (.bool false), TP.eq (.pointer (some ⟨w.heap.size, 7, none⟩)), TP.eq (rtV q.yy), TP.eq (.bool false), TP.eq (.bool false), TP.eq (.bool false), TP.eq (rtV dA), TP.eq (.bool false), TP.eq (.bool false), TP.eq (.bool false), TP.eq (rtV dB), TP.eq (.bool false), TP.eq (.bool false), TP.eq (.bool false), TP.eq (rtV dA), TP.eq (rtV dB), TP.eq (rtV ab), TP.eq (rtV dC), TP.eq (rtV dC), TP.eq (rtV cc), TP.eq (.bool true), TP.eq (.bool true)] [[], [0], [1], [2], [3], [3, 4], [3, 5], [3, 6], [7], [8], [8, 9], [8, 10], [11], [12], [12, 13], [12, 14], [15], [16], [16], [16, 17, 18], [16], [16], [16, 20, 21], [16, 19, 22], [16, 23]] (by kernel_rfl) (by kernel_rfl) ⟨?o0l4, ?o1l4, ?o2l4, ?o3l4, ?o4l4, ?o5l4, ?o6l4, ?o7l4, ?o8l4, ?o9l4, ?o10l4, ?o11l4, ?o12l4, ?o13l4, ?o14l4, ?o15l4, ?o16l4, ?o17l4, ?o18l4, ?o19l4, ?o20l4, ?o21l4, ?o22l4, ?o23l4, ?o24l4, trivial⟩ ?_
         case o0l4 =>
          intro w' hb
          show wpList _ _ _ _ _ _
          go_wp2
          exact ⟨rfl, Below.refl _ _, rfl⟩
         case o1l4 =>
          intro w' hb v1 hv1
          cases hv1
          have c_m_5' := zzc hb c_m_5
          have c_m_6' := zzc hb c_m_6
          show wpList _ _ _ _ _ _
          simp only [Grow.dstOf, zzp, Act.put]
          go_wp2
          exact ⟨rfl, Below.refl _ _, rfl⟩
         case o2l4 =>
          intro w' hb v1 hv1
          cases hv1
          show wpList _ _ _ _ _ _
          simp only [Grow.dstOf, zzp, Act.put]
          go_wp2_with fail
          refine (below_at q.xx HQF.out.xx false HL0.out w').mono ?_
          rintro e wz ⟨rfl, hbz⟩
          go_wp2
          exact ⟨rfl, hbz, rfl⟩
         case o3l4 | o4l4 | o8l4 | o12l4 | o16l4 =>
          intro w' hb v1 hv1
          cases hv1
          show wpList _ _ _ _ _ _
          simp only [Grow.dstOf, zzp, Act.put]
          go_wp2
          exact ⟨rfl, Below.refl _ _, rfl⟩
         case o5l4 =>
          intro w' hb v1 hv1 v2 hv2
          cases hv1
          cases hv2
          have c_m_7' := zzc hb c_m_7
          have c_m_8' := zzc hb c_m_8
          show wpList _ _ _ _ _ _
          simp only [Grow.dstOf, zzp, Act.put]
          go_wp2
          exact ⟨rfl, Below.refl _ _, rfl⟩
         case o6l4 =>
          intro w' hb v1 hv1 v2 hv2
          cases hv1
          cases hv2
          show wpList _ _ _ _ _ _
          simp only [Grow.dstOf, zzp, Act.put]
          go_wp2_with fail
          refine (below_at q.yy HQF.out.yy false HL1.out w').mono ?_
          rintro e wz ⟨rfl, hbz⟩
          go_wp2
          exact ⟨rfl, hbz, rfl⟩
         case o7l4 | o11l4 | o15l4 | o24l4 =>
          intro w' hb v1 hv1 v2 hv2
          cases hv1
          cases hv2
          show wpList _ _ _ _ _ _
          simp only [Grow.dstOf, zzp, Act.put]
          go_wp2
          exact ⟨rfl, Below.refl _ _, rfl⟩
         case o9l4 | o13l4 | o17l4 | o18l4 | o20l4 | o21l4 =>
          intro w' hb v1 hv1
          cases hv1
          have c_a_0' := zzc hb c_a_0
          have c_a_1' := zzc hb c_a_1
          have c_b_0' := zzc hb c_b_0
          have c_b_1' := zzc hb c_b_1
          have c_c_0' := zzc hb c_c_0
          have c_c_1' := zzc hb c_c_1
          show wpList _ _ _ _ _ _
          simp only [Grow.dstOf, zzp, Act.put]
          go_wp2
          exact ⟨rfl, Below.refl _ _, rfl⟩
         case o10l4 =>
          intro w' hb v1 hv1 v2 hv2
          cases hv1
          cases hv2
          show wpList _ _ _ _ _ _
          simp only [Grow.dstOf, zzp, Act.put]
          go_wp2_with fail
          refine (below_at dA HDA'.out.2.2.1 false HL2.out w').mono ?_
          rintro e wz ⟨rfl, hbz⟩
          go_wp2
          exact ⟨rfl, hbz, rfl⟩
         case o14l4 =>
          intro w' hb v1 hv1 v2 hv2
          cases hv1
          cases hv2
          show wpList _ _ _ _ _ _
          simp only [Grow.dstOf, zzp, Act.put]
          go_wp2_with fail
          refine (below_at dB HDB'.out.2.2.1 false HL3.out w').mono ?_
          rintro e wz ⟨rfl, hbz⟩
          go_wp2
          exact ⟨rfl, hbz, rfl⟩
         case o19l4 =>
          intro w' hb v1 hv1 v2 hv2 v3 hv3
          cases hv1
          cases hv2
          cases hv3
          show wpList _ _ _ _ _ _
          simp only [Grow.dstOf, zzp, Act.put]
          go_wp2_with fail
          refine (times_is dA dB ab HCC.out.2.1 HDA'.out.2.2.1 HDB'.out.2.2.1 HCC.out.2.2.2 w' (HT0.out.ext (ext_trans HW.out hb))).mono ?_
          rintro e wz ⟨rfl, hbz⟩
          go_wp2
          exact ⟨rfl, hbz, rfl⟩
         case o22l4 =>
          intro w' hb v1 hv1 v2 hv2 v3 hv3
          cases hv1
          cases hv2
          cases hv3
          show wpList _ _ _ _ _ _
          simp only [Grow.dstOf, zzp, Act.put]
          go_wp2_with fail
          refine (times_is dC dC cc HCC.out.1 HDC'.out.2.2.1 HDC'.out.2.2.1 HCC.out.2.2.1 w' (HT0.out.ext (ext_trans HW.out hb))).mono ?_
          rintro e wz ⟨rfl, hbz⟩
          go_wp2
          exact ⟨rfl, hbz, rfl⟩
         case o23l4 =>
          intro w' hb v1 hv1 v2 hv2 v3 hv3
          cases hv1
          cases hv2
          cases hv3
          show wpList _ _ _ _ _ _
          simp only [Grow.dstOf, zzp, Act.put]
          go_wp2_with fail
          refine (less_is ab cc true HL4.out HCC.out.2.2.2 HCC.out.2.2.1 w' (HT0.out.ext (ext_trans HW.out hb))).mono ?_
          rintro e wz ⟨rfl, hbz⟩
          go_wp2
          exact ⟨rfl, hbz, rfl⟩
         intro w10' hbz u0 hu0 u1 hu1 u2 hu2 u3 hu3 u4 hu4 u5 hu5 u6 hu6 u7 hu7 u8 hu8 u9 hu9 u10 hu10 u11 hu11 u12 hu12 u13 hu13 u14 hu14 u15 hu15 u16 hu16 u17 hu17 u18 hu18 u19 hu19 u20 hu20 u21 hu21 u22 hu22 u23 hu23 u24 hu24
         obtain rfl : u24 = _ := hu24
         clear hu0 hu1 hu2 hu3 hu4 hu5 hu6 hu7 hu8 hu9 hu10 hu11 hu12 hu13 hu14 hu15 hu16 hu17 hu18 hu19 hu20 hu21 hu22 hu23
         replace HR_m := Lib.hid (HR_m.out.ext hbz)
         replace HR_n := Lib.hid (HR_n.out.ext hbz)
         replace HR_a := Lib.hid (HR_a.out.ext hbz)
         replace HR_b := Lib.hid (HR_b.out.ext hbz)
         replace HR_c := Lib.hid (HR_c.out.ext hbz)
         replace HW := Lib.hid (ext_trans HW.out hbz)
         clear c_m_5 c_m_6 c_m_7 c_m_8 c_a_0 c_a_1 c_b_0 c_b_1 c_c_0 c_c_1
         clear hbz
         try refine Grow.TailOk.nil ?_
         refine tail_none (P := Tryz.prog) (ops := #[]) ?_
         simp only [Act.put, zzp]
         have HP : Hid (momF n q.r = 13) := Lib.hid (by rw [HP1.out, if_neg (by rw [HP2.out]; simp [hc0, hc1, hc2, hc3, hc4])])
         go_wp2
         exact bodyPost_ret (v := .int .i64 13) (by simp [results, Tryz.results52, go_sem]) rfl ⟨by rw [HP.out], HW.out⟩
       ·obtain ⟨-, -, -, -, -, c_m_5, c_m_6, c_m_7, c_m_8, -, -⟩ := zs11 HR_m.out
        have c_a_0 : w9'.cell? ⟨b_a, 0, none⟩ = some (.string (showN dA)) := (HR_a.out.cell 0).trans rfl
        have c_a_1 : w9'.cell? ⟨b_a, 1, none⟩ = some (.string (showD dA)) := (HR_a.out.cell 1).trans rfl
        have c_b_0 : w9'.cell? ⟨b_b, 0, none⟩ = some (.string (showN dB)) := (HR_b.out.cell 0).trans rfl
        have c_b_1 : w9'.cell? ⟨b_b, 1, none⟩ = some (.string (showD dB)) := (HR_b.out.cell 1).trans rfl
        have c_c_0 : w9'.cell? ⟨b_c, 0, none⟩ = some (.string (showN dC)) := (HR_c.out.cell 0).trans rfl
        have c_c_1 : w9'.cell? ⟨b_c, 1, none⟩ = some (.string (showD dC)) := (HR_c.out.cell 1).trans rfl
        have HL0 : Hid (decide (q.xx < 0) = false) := Lib.hid (decide_eq_false (fun h => Rat.not_lt.2 hc0 h))
        have HL1 : Hid (decide (q.yy < 0) = false) := Lib.hid (decide_eq_false (fun h => Rat.not_lt.2 hc1 h))
        have HL2 : Hid (decide (dA < 0) = false) := Lib.hid (decide_eq_false (fun h => Rat.not_lt.2 hc2 h))
        have HL3 : Hid (decide (dB < 0) = true) := Lib.hid (decide_eq_true (Rat.not_le.1 hc3))
        refine Grow.wp_region_grow 25 [TP.eq (.pointer (some ⟨w.heap.size, 5, none⟩)), TP.eq (rtV q.xx), TP.eq (.bool false), TP.eq (.bool false), TP.eq (.pointer (some ⟨w.heap.size, 7, none⟩)), TP.eq (rtV q.yy), TP.eq (.bool false), TP.eq (.bool false), TP.eq (.bool false), TP.eq (rtV dA), TP.eq (.bool false), TP.eq (.bool false), TP.eq (.bool false), TP.eq (rtV dB), TP.eq (.bool true), TP.eq (.bool true), TP.eq (.bool true), TP.eq undef, TP.eq undef, TP.eq undef, TP.eq undef, TP.eq undef, TP.eq undef, TP.eq undef, TP.eq (.bool true)] [[], [0], [1], [2], [3], [3, 4], [3, 5], [3, 6], [7], [8], [8, 9], [8, 10], [11], [12], [12, 13], [12, 14], [15], [16], [16], [16, 17, 18], [16], [16], [16, 20, 21], [16, 19, 22], [16, 23]] (by kernel_rfl) (by kernel_rfl) ⟨?o0l3, ?o1l3, ?o2l3, ?o3l3, ?o4l3, ?o5l3, ?o6l3, ?o7l3, ?o8l3, ?o9l3, ?o10l3, ?o11l3, ?o12l3, ?o13l3, ?o14l3, ?o15l3, ?o16l3, ?o17l3, ?o18l3, ?o19l3, ?o20l3, ?o21l3, ?o22l3, ?o23l3, ?o24l3, trivial⟩ ?_
        case o0l3 =>
         intro w' hb
         show wpList _ _ _ _ _ _
         go_wp2
         exact ⟨rfl, Below.refl _ _, rfl⟩
        case o1l3 =>
         intro w' hb v1 hv1
         cases hv1
         have c_m_5' := zzc hb c_m_5
         have c_m_6' := zzc hb c_m_6
         show wpList _ _ _ _ _ _
         simp only [Grow.dstOf, zzp, Act.put]
         go_wp2
         exact ⟨rfl, Below.refl _ _, rfl⟩
        case o2l3 =>
         intro w' hb v1 hv1
         cases hv1
         show wpList _ _ _ _ _ _
         simp only [Grow.dstOf, zzp, Act.put]
         go_wp2_with fail
         refine (below_at q.xx HQF.out.xx false HL0.out w').mono ?_
         rintro e wz ⟨rfl, hbz⟩
         go_wp2
         exact ⟨rfl, hbz, rfl⟩
        case o3l3 | o4l3 | o8l3 | o12l3 | o16l3 | o17l3 | o18l3 | o20l3 | o21l3 =>
         intro w' hb v1 hv1
         cases hv1
         show wpList _ _ _ _ _ _
         simp only [Grow.dstOf, zzp, Act.put]
         go_wp2
         exact ⟨rfl, Below.refl _ _, rfl⟩
        case o5l3 =>
         intro w' hb v1 hv1 v2 hv2
         cases hv1
         cases hv2
         have c_m_7' := zzc hb c_m_7
         have c_m_8' := zzc hb c_m_8
         show wpList _ _ _ _ _ _
         simp only [Grow.dstOf, zzp, Act.put]
         go_wp2
         exact ⟨rfl, Below.refl _ _, rfl⟩
        case o6l3 =>
         intro w' hb v1 hv1 v2 hv2
         cases hv1
         cases hv2
         show wpList _ _ _ _ _ _
         simp only [Grow.dstOf, zzp, Act.put]
         go_wp2_with fail
         refine (below_at q.yy HQF.out.yy false HL1.out w').mono ?_
         rintro e wz ⟨rfl, hbz⟩
         go_wp2
         exact ⟨rfl, hbz, rfl⟩
        case o7l3 | o11l3 | o15l3 | o24l3 =>
         intro w' hb v1 hv1 v2 hv2
         cases hv1
         cases hv2
         show wpList _ _ _ _ _ _
         simp only [Grow.dstOf, zzp, Act.put]
         go_wp2
         exact ⟨rfl, Below.refl _ _, rfl⟩
        case o9l3 | o13l3 =>
         intro w' hb v1 hv1
         cases hv1
         have c_a_0' := zzc hb c_a_0
         have c_a_1' := zzc hb c_a_1
         have c_b_0' := zzc hb c_b_0
         have c_b_1' := zzc hb c_b_1
         show wpList _ _ _ _ _ _
         simp only [Grow.dstOf, zzp, Act.put]
         go_wp2
         exact ⟨rfl, Below.refl _ _, rfl⟩
        case o10l3 =>
         intro w' hb v1 hv1 v2 hv2
         cases hv1
         cases hv2
         show wpList _ _ _ _ _ _
         simp only [Grow.dstOf, zzp, Act.put]
         go_wp2_with fail
         refine (below_at dA HDA'.out.2.2.1 false HL2.out w').mono ?_
         rintro e wz ⟨rfl, hbz⟩
         go_wp2
         exact ⟨rfl, hbz, rfl⟩
        case o14l3 =>
         intro w' hb v1 hv1 v2 hv2
         cases hv1
         cases hv2
         show wpList _ _ _ _ _ _
         simp only [Grow.dstOf, zzp, Act.put]
         go_wp2_with fail
         refine (below_at dB HDB'.out.2.2.1 true HL3.out w').mono ?_
         rintro e wz ⟨rfl, hbz⟩
         go_wp2
         exact ⟨rfl, hbz, rfl⟩
        case o19l3 | o22l3 | o23l3 =>
         intro w' hb v1 hv1 v2 hv2 v3 hv3
         cases hv1
         cases hv2
         cases hv3
         show wpList _ _ _ _ _ _
         simp only [Grow.dstOf, zzp, Act.put]
         go_wp2
         exact ⟨rfl, Below.refl _ _, rfl⟩
        intro w10' hbz u0 hu0 u1 hu1 u2 hu2 u3 hu3 u4 hu4 u5 hu5 u6 hu6 u7 hu7 u8 hu8 u9 hu9 u10 hu10 u11 hu11 u12 hu12 u13 hu13 u14 hu14 u15 hu15 u16 hu16 u17 hu17 u18 hu18 u19 hu19 u20 hu20 u21 hu21 u22 hu22 u23 hu23 u24 hu24
        obtain rfl : u24 = _ := hu24
        clear hu0 hu1 hu2 hu3 hu4 hu5 hu6 hu7 hu8 hu9 hu10 hu11 hu12 hu13 hu14 hu15 hu16 hu17 hu18 hu19 hu20 hu21 hu22 hu23
        replace HR_m := Lib.hid (HR_m.out.ext hbz)
        replace HR_n := Lib.hid (HR_n.out.ext hbz)
        replace HR_a := Lib.hid (HR_a.out.ext hbz)
        replace HR_b := Lib.hid (HR_b.out.ext hbz)
        replace HR_c := Lib.hid (HR_c.out.ext hbz)
        replace HW := Lib.hid (ext_trans HW.out hbz)
        clear c_m_5 c_m_6 c_m_7 c_m_8 c_a_0 c_a_1 c_b_0 c_b_1 c_c_0 c_c_1
        clear hbz
        try refine Grow.TailOk.nil ?_
        refine tail_none (P := Tryz.prog) (ops := #[]) ?_
        simp only [Act.put, zzp]
        have HP : Hid (momF n q.r = 13) := Lib.hid (by rw [HP1.out, if_neg (by rw [HP2.out]; simp [hc0, hc1, hc2, hc3])])
        go_wp2
        exact bodyPost_ret (v := .int .i64 13) (by simp [results, Tryz.results52, go_sem]) rfl ⟨by rw [HP.out], HW.out⟩
      ·obtain ⟨-, -, -, -, -, c_m_5, c_m_6, c_m_7, c_m_8, -, -⟩ := zs11 HR_m.out
       have c_a_0 : w9'.cell? ⟨b_a, 0, none⟩ = some (.string (showN dA)) := (HR_a.out.cell 0).trans rfl
       have c_a_1 : w9'.cell? ⟨b_a, 1, none⟩ = some (.string (showD dA)) := (HR_a.out.cell 1).trans rfl
       have c_b_0 : w9'.cell? ⟨b_b, 0, none⟩ = some (.string (showN dB)) := (HR_b.out.cell 0).trans rfl
       have c_b_1 : w9'.cell? ⟨b_b, 1, none⟩ = some (.string (showD dB)) := (HR_b.out.cell 1).trans rfl
       have c_c_0 : w9'.cell? ⟨b_c, 0, none⟩ = some (.string (showN dC)) := (HR_c.out.cell 0).trans rfl
       have c_c_1 : w9'.cell? ⟨b_c, 1, none⟩ = some (.string (showD dC)) := (HR_c.out.cell 1).trans rfl
       have HL0 : Hid (decide (q.xx < 0) = false) := Lib.hid (decide_eq_false (fun h => Rat.not_lt.2 hc0 h))
       have HL1 : Hid (decide (q.yy < 0) = false) := Lib.hid (decide_eq_false (fun h => Rat.not_lt.2 hc1 h))
       have HL2 : Hid (decide (dA < 0) = true) := Lib.hid (decide_eq_true (Rat.not_le.1 hc2))
       refine Grow.wp_region_grow 25 [TP.eq (.pointer (some ⟨w.heap.size, 5, none⟩)), TP.eq (rtV q.xx), TP.eq (.bool false), TP.eq (.bool false), TP.eq (.pointer (some ⟨w.heap.size, 7, none⟩)), TP.eq (rtV q.yy), TP.eq (.bool false), TP.eq (.bool false), TP.eq (.bool false), TP.eq (rtV dA), TP.eq (.bool true), TP.eq (.bool true), TP.eq (.bool true), TP.eq undef, TP.eq undef, TP.eq (.bool true), TP.eq (.bool true), TP.eq undef, TP.eq undef, TP.eq undef, TP.eq undef, TP.eq undef, TP.eq undef, TP.eq undef, TP.eq (.bool true)] [[], [0], [1], [2], [3], [3, 4], [3, 5], [3, 6], [7], [8], [8, 9], [8, 10], [11], [12], [12, 13], [12, 14], [15], [16], [16], [16, 17, 18], [16], [16], [16, 20, 21], [16, 19, 22], [16, 23]] (by kernel_rfl) (by kernel_rfl) ⟨?o0l2, ?o1l2, ?o2l2, ?o3l2, ?o4l2, ?o5l2, ?o6l2, ?o7l2, ?o8l2, ?o9l2, ?o10l2, ?o11l2, ?o12l2, ?o13l2, ?o14l2, ?o15l2, ?o16l2, ?o17l2, ?o18l2, ?o19l2, ?o20l2, ?o21l2, ?o22l2, ?o23l2, ?o24l2, trivial⟩ ?_
       case o0l2 =>
        intro w' hb
        show wpList _ _ _ _ _ _
        go_wp2
        exact ⟨rfl, Below.refl _ _, rfl⟩
       case o1l2 =>
        intro w' hb v1 hv1
        cases hv1
        have c_m_5' := zzc hb c_m_5
        have c_m_6' := zzc hb c_m_6
        show wpList _ _ _ _ _ _
        simp only [Grow.dstOf, zzp, Act.put]
        go_wp2
        exact ⟨rfl, Below.refl _ _, rfl⟩
       case o2l2 =>
        intro w' hb v1 hv1
        cases hv1
        show wpList _ _ _ _ _ _
        simp only [Grow.dstOf, zzp, Act.put]
        go_wp2_with fail
        refine (below_at q.xx HQF.out.xx false HL0.out w').mono ?_
        rintro e wz ⟨rfl, hbz⟩
        go_wp2
        exact ⟨rfl, hbz, rfl⟩
       case o3l2 | o4l2 | o8l2 | o12l2 | o13l2 | o16l2 | o17l2 | o18l2 | o20l2 | o21l2 =>
        intro w' hb v1 hv1
        cases hv1
        show wpList _ _ _ _ _ _
        simp only [Grow.dstOf, zzp, Act.put]
        go_wp2
        exact ⟨rfl, Below.refl _ _, rfl⟩
       case o5l2 =>
        intro w' hb v1 hv1 v2 hv2
        cases hv1
        cases hv2
        have c_m_7' := zzc hb c_m_7
        have c_m_8' := zzc hb c_m_8
        show wpList _ _ _ _ _ _
        simp only [Grow.dstOf, zzp, Act.put]
        go_wp2
        exact ⟨rfl, Below.refl _ _, rfl⟩
       case o6l2 =>
        intro w' hb v1 hv1 v2 hv2
        cases hv1
        cases hv2
        show wpList _ _ _ _ _ _
        simp only [Grow.dstOf, zzp, Act.put]
        go_wp2_with fail
        refine (below_at q.yy HQF.out.yy false HL1.out w').mono ?_
        rintro e wz ⟨rfl, hbz⟩
        go_wp2
        exact ⟨rfl, hbz, rfl⟩
       case o7l2 | o11l2 | o14l2 | o15l2 | o24l2 =>
        intro w' hb v1 hv1 v2 hv2
        cases hv1
        cases hv2
        show wpList _ _ _ _ _ _
        simp only [Grow.dstOf, zzp, Act.put]
        go_wp2
        exact ⟨rfl, Below.refl _ _, rfl⟩
       case o9l2 =>
        intro w' hb v1 hv1
        cases hv1
        have c_a_0' := zzc hb c_a_0
        have c_a_1' := zzc hb c_a_1
        show wpList _ _ _ _ _ _
        simp only [Grow.dstOf, zzp, Act.put]
        go_wp2
        exact ⟨rfl, Below.refl _ _, rfl⟩
       case o10l2 =>
        intro w' hb v1 hv1 v2 hv2
        cases hv1
        cases hv2
        show wpList _ _ _ _ _ _
        simp only [Grow.dstOf, zzp, Act.put]
        go_wp2_with fail
        refine (below_at dA HDA'.out.2.2.1 true HL2.out w').mono ?_
        rintro e wz ⟨rfl, hbz⟩
        go_wp2
        exact ⟨rfl, hbz, rfl⟩
       case o19l2 | o22l2 | o23l2 =>
        intro w' hb v1 hv1 v2 hv2 v3 hv3
        cases hv1
        cases hv2
        cases hv3
        show wpList _ _ _ _ _ _
        simp only [Grow.dstOf, zzp, Act.put]
        go_wp2
        exact ⟨rfl, Below.refl _ _, rfl⟩
       intro w10' hbz u0 hu0 u1 hu1 u2 hu2 u3 hu3 u4 hu4 u5 hu5 u6 hu6 u7 hu7 u8 hu8 u9 hu9 u10 hu10 u11 hu11 u12 hu12 u13 hu13 u14 hu14 u15 hu15 u16 hu16 u17 hu17 u18 hu18 u19 hu19 u20 hu20 u21 hu21 u22 hu22 u23 hu23 u24 hu24
       obtain rfl : u24 = _ := hu24
       clear hu0 hu1 hu2 hu3 hu4 hu5 hu6 hu7 hu8 hu9 hu10 hu11 hu12 hu13 hu14 hu15 hu16 hu17 hu18 hu19 hu20 hu21 hu22 hu23
       replace HR_m := Lib.hid (HR_m.out.ext hbz)
       replace HR_n := Lib.hid (HR_n.out.ext hbz)
       replace HR_a := Lib.hid (HR_a.out.ext hbz)
       replace HR_b := Lib.hid (HR_b.out.ext hbz)
       replace HR_c := Lib.hid (HR_c.out.ext hbz)
       replace HW := Lib.hid (ext_trans HW.out hbz)
       clear c_m_5 c_m_6 c_m_7 c_m_8 c_a_0 c_a_1 c_b_0 c_b_1 c_c_0 c_c_1
       clear hbz
       try refine Grow.TailOk.nil ?_
       refine tail_none (P := Tryz.prog) (ops := #[]) ?_
       simp only [Act.put, zzp]
       have HP : Hid (momF n q.r = 13) := Lib.hid (by rw [HP1.out, if_neg (by rw [HP2.out]; simp [hc0, hc1, hc2])])
       go_wp2
       exact bodyPost_ret (v := .int .i64 13) (by simp [results, Tryz.results52, go_sem]) rfl ⟨by rw [HP.out], HW.out⟩
     ·obtain ⟨-, -, -, -, -, c_m_5, c_m_6, c_m_7, c_m_8, -, -⟩ := zs11 HR_m.out
      have c_a_0 : w9'.cell? ⟨b_a, 0, none⟩ = some (.string (showN dA)) := (HR_a.out.cell 0).trans rfl
      have c_a_1 : w9'.cell? ⟨b_a, 1, none⟩ = some (.string (showD dA)) := (HR_a.out.cell 1).trans rfl
      have c_b_0 : w9'.cell? ⟨b_b, 0, none⟩ = some (.string (showN dB)) := (HR_b.out.cell 0).trans rfl
      have c_b_1 : w9'.cell? ⟨b_b, 1, none⟩ = some (.string (showD dB)) := (HR_b.out.cell 1).trans rfl
      have c_c_0 : w9'.cell? ⟨b_c, 0, none⟩ = some (.string (showN dC)) := (HR_c.out.cell 0).trans rfl
      have c_c_1 : w9'.cell? ⟨b_c, 1, none⟩ = some (.string (showD dC)) := (HR_c.out.cell 1).trans rfl
      have HL0 : Hid (decide (q.xx < 0) = false) := Lib.hid (decide_eq_false (fun h => Rat.not_lt.2 hc0 h))
      have HL1 : Hid (decide (q.yy < 0) = true) := Lib.hid (decide_eq_true (Rat.not_le.1 hc1))
      refine Grow.wp_region_grow 25 [TP.eq (.pointer (some ⟨w.heap.size, 5, none⟩)), TP.eq (rtV q.xx), TP.eq (.bool false), TP.eq (.bool false), TP.eq (.pointer (some ⟨w.heap.size, 7, none⟩)), TP.eq (rtV q.yy), TP.eq (.bool true), TP.eq (.bool true), TP.eq (.bool true), TP.eq undef, TP.eq undef, TP.eq (.bool true), TP.eq (.bool true), TP.eq undef, TP.eq undef, TP.eq (.bool true), TP.eq (.bool true), TP.eq undef, TP.eq undef, TP.eq undef, TP.eq undef, TP.eq undef, TP.eq undef, TP.eq undef, TP.eq (.bool true)] [[], [0], [1], [2], [3], [3, 4], [3, 5], [3, 6], [7], [8], [8, 9], [8, 10], [11], [12], [12, 13], [12, 14], [15], [16], [16], [16, 17, 18], [16], [16], [16, 20, 21], [16, 19, 22], [16, 23]] (by kernel_rfl) (by kernel_rfl) ⟨?o0l1, ?o1l1, ?o2l1, ?o3l1, ?o4l1, ?o5l1, ?o6l1, ?o7l1, ?o8l1, ?o9l1, ?o10l1, ?o11l1, ?o12l1, ?o13l1, ?o14l1, ?o15l1, ?o16l1, ?o17l1, ?o18l1, ?o19l1, ?o20l1, ?o21l1, ?o22l1, ?o23l1, ?o24l1, trivial⟩ ?_
      case o0l1 =>
       intro w' hb
       show wpList _ _ _ _ _ _
       go_wp2
       exact ⟨rfl, Below.refl _ _, rfl⟩
      case o1l1 =>
       intro w' hb v1 hv1
       cases hv1
       have c_m_5' := zzc hb c_m_5
       have c_m_6' := zzc hb c_m_6
       show wpList _ _ _ _ _ _
       simp only [Grow.dstOf, zzp, Act.put]
       go_wp2
       exact ⟨rfl, Below.refl _ _, rfl⟩
      case o2l1 =>
       intro w' hb v1 hv1
       cases hv1
       show wpList _ _ _ _ _ _
       simp only [Grow.dstOf, zzp, Act.put]
       go_wp2_with fail
       refine (below_at q.xx HQF.out.xx false HL0.out w').mono ?_
       rintro e wz ⟨rfl, hbz⟩
       go_wp2
       exact ⟨rfl, hbz, rfl⟩
      case o3l1 | o4l1 | o8l1 | o9l1 | o12l1 | o13l1 | o16l1 | o17l1 | o18l1 | o20l1 | o21l1 =>
       intro w' hb v1 hv1
       cases hv1
       show wpList _ _ _ _ _ _
       simp only [Grow.dstOf, zzp, Act.put]
       go_wp2
       exact ⟨rfl, Below.refl _ _, rfl⟩
      case o5l1 =>
       intro w' hb v1 hv1 v2 hv2
       cases hv1
       cases hv2
       have c_m_7' := zzc hb c_m_7
       have c_m_8' := zzc hb c_m_8
       show wpList _ _ _ _ _ _
       simp only [Grow.dstOf, zzp, Act.put]
       go_wp2
       exact ⟨rfl, Below.refl _ _, rfl⟩
      case o6l1 =>
       intro w' hb v1 hv1 v2 hv2
       cases hv1
       cases hv2
       show wpList _ _ _ _ _ _
       simp only [Grow.dstOf, zzp, Act.put]
       go_wp2_with fail
       refine (below_at q.yy HQF.out.yy true HL1.out w').mono ?_
       rintro e wz ⟨rfl, hbz⟩
       go_wp2
       exact ⟨rfl, hbz, rfl⟩
      case o7l1 | o10l1 | o11l1 | o14l1 | o15l1 | o24l1 =>
       intro w' hb v1 hv1 v2 hv2
       cases hv1
       cases hv2
       show wpList _ _ _ _ _ _
       simp only [Grow.dstOf, zzp, Act.put]
       go_wp2
       exact ⟨rfl, Below.refl _ _, rfl⟩
      case o19l1 | o22l1 | o23l1 =>
       intro w' hb v1 hv1 v2 hv2 v3 hv3
       cases hv1
       cases hv2
       cases hv3
       show wpList _ _ _ _ _ _
       simp only [Grow.dstOf, zzp, Act.put]
       go_wp2
       exact ⟨rfl, Below.refl _ _, rfl⟩
      intro w10' hbz u0 hu0 u1 hu1 u2 hu2 u3 hu3 u4 hu4 u5 hu5 u6 hu6 u7 hu7 u8 hu8 u9 hu9 u10 hu10 u11 hu11 u12 hu12 u13 hu13 u14 hu14 u15 hu15 u16 hu16 u17 hu17 u18 hu18 u19 hu19 u20 hu20 u21 hu21 u22 hu22 u23 hu23 u24 hu24
      obtain rfl : u24 = _ := hu24
      clear hu0 hu1 hu2 hu3 hu4 hu5 hu6 hu7 hu8 hu9 hu10 hu11 hu12 hu13 hu14 hu15 hu16 hu17 hu18 hu19 hu20 hu21 hu22 hu23
      replace HR_m := Lib.hid (HR_m.out.ext hbz)
      replace HR_n := Lib.hid (HR_n.out.ext hbz)
      replace HR_a := Lib.hid (HR_a.out.ext hbz)
      replace HR_b := Lib.hid (HR_b.out.ext hbz)
      replace HR_c := Lib.hid (HR_c.out.ext hbz)
      replace HW := Lib.hid (ext_trans HW.out hbz)
      clear c_m_5 c_m_6 c_m_7 c_m_8 c_a_0 c_a_1 c_b_0 c_b_1 c_c_0 c_c_1
      clear hbz
      try refine Grow.TailOk.nil ?_
      refine tail_none (P := Tryz.prog) (ops := #[]) ?_
      simp only [Act.put, zzp]
      have HP : Hid (momF n q.r = 13) := Lib.hid (by rw [HP1.out, if_neg (by rw [HP2.out]; simp [hc0, hc1])])
      go_wp2
      exact bodyPost_ret (v := .int .i64 13) (by simp [results, Tryz.results52, go_sem]) rfl ⟨by rw [HP.out], HW.out⟩
    ·obtain ⟨-, -, -, -, -, c_m_5, c_m_6, c_m_7, c_m_8, -, -⟩ := zs11 HR_m.out
     have c_a_0 : w9'.cell? ⟨b_a, 0, none⟩ = some (.string (showN dA)) := (HR_a.out.cell 0).trans rfl
     have c_a_1 : w9'.cell? ⟨b_a, 1, none⟩ = some (.string (showD dA)) := (HR_a.out.cell 1).trans rfl
     have c_b_0 : w9'.cell? ⟨b_b, 0, none⟩ = some (.string (showN dB)) := (HR_b.out.cell 0).trans rfl
     have c_b_1 : w9'.cell? ⟨b_b, 1, none⟩ = some (.string (showD dB)) := (HR_b.out.cell 1).trans rfl
     have c_c_0 : w9'.cell? ⟨b_c, 0, none⟩ = some (.string (showN dC)) := (HR_c.out.cell 0).trans rfl
     have c_c_1 : w9'.cell? ⟨b_c, 1, none⟩ = some (.string (showD dC)) := (HR_c.out.cell 1).trans rfl
     have HL0 : Hid (decide (q.xx < 0) = true) := Lib.hid (decide_eq_true (Rat.not_le.1 hc0))
     refine Grow.wp_region_grow 25 [TP.eq (.pointer (some ⟨w.heap.size, 5, none⟩)), TP.eq (rtV q.xx), TP.eq (.bool true), TP.eq (.bool true), TP.eq undef, TP.eq undef, TP.eq undef, TP.eq (.bool true), TP.eq (.bool true), TP.eq undef, TP.eq undef, TP.eq (.bool true), TP.eq (.bool true), TP.eq undef, TP.eq undef, TP.eq (.bool true), TP.eq (.bool true), TP.eq undef, TP.eq undef, TP.eq undef, TP.eq undef, TP.eq undef, TP.eq undef, TP.eq undef, TP.eq (.bool true)] [[], [0], [1], [2], [3], [3, 4], [3, 5], [3, 6], [7], [8], [8, 9], [8, 10], [11], [12], [12, 13], [12, 14], [15], [16], [16], [16, 17, 18], [16], [16], [16, 20, 21], [16, 19, 22], [16, 23]] (by kernel_rfl) (by kernel_rfl) ⟨?o0l0, ?o1l0, ?o2l0, ?o3l0, ?o4l0, ?o5l0, ?o6l0, ?o7l0, ?o8l0, ?o9l0, ?o10l0, ?o11l0, ?o12l0, ?o13l0, ?o14l0, ?o15l0, ?o16l0, ?o17l0, ?o18l0, ?o19l0, ?o20l0, ?o21l0, ?o22l0, ?o23l0, ?o24l0, trivial⟩ ?_
     case o0l0 =>
      intro w' hb
      show wpList _ _ _ _ _ _
      go_wp2
      exact ⟨rfl, Below.refl _ _, rfl⟩
     case o1l0 =>
      intro w' hb v1 hv1
      cases hv1
      have c_m_5' := zzc hb c_m_5
      have c_m_6' := zzc hb c_m_6
      show wpList _ _ _ _ _ _
      simp only [Grow.dstOf, zzp, Act.put]
      go_wp2
      exact ⟨rfl, Below.refl _ _, rfl⟩
     case o2l0 =>
      intro w' hb v1 hv1
      cases hv1
      show wpList _ _ _ _ _ _
      simp only [Grow.dstOf, zzp, Act.put]
      go_wp2_with fail
      refine (below_at q.xx HQF.out.xx true HL0.out w').mono ?_
      rintro e wz ⟨rfl, hbz⟩
      go_wp2
      exact ⟨rfl, hbz, rfl⟩
     case o3l0 | o4l0 | o8l0 | o9l0 | o12l0 | o13l0 | o16l0 | o17l0 | o18l0 | o20l0 | o21l0 =>
      intro w' hb v1 hv1
      cases hv1
      show wpList _ _ _ _ _ _
      simp only [Grow.dstOf, zzp, Act.put]
      go_wp2
      exact ⟨rfl, Below.refl _ _, rfl⟩
     case o5l0 | o6l0 | o7l0 | o10l0 | o11l0 | o14l0 | o15l0 | o24l0 =>
      intro w' hb v1 hv1 v2 hv2
      cases hv1
      cases hv2
      show wpList _ _ _ _ _ _
      simp only [Grow.dstOf, zzp, Act.put]
      go_wp2
      exact ⟨rfl, Below.refl _ _, rfl⟩
     case o19l0 | o22l0 | o23l0 =>
      intro w' hb v1 hv1 v2 hv2 v3 hv3
      cases hv1
      cases hv2
      cases hv3
      show wpList _ _ _ _ _ _
      simp only [Grow.dstOf, zzp, Act.put]
      go_wp2
      exact ⟨rfl, Below.refl _ _, rfl⟩
     intro w10' hbz u0 hu0 u1 hu1 u2 hu2 u3 hu3 u4 hu4 u5 hu5 u6 hu6 u7 hu7 u8 hu8 u9 hu9 u10 hu10 u11 hu11 u12 hu12 u13 hu13 u14 hu14 u15 hu15 u16 hu16 u17 hu17 u18 hu18 u19 hu19 u20 hu20 u21 hu21 u22 hu22 u23 hu23 u24 hu24
     obtain rfl : u24 = _ := hu24
     clear hu0 hu1 hu2 hu3 hu4 hu5 hu6 hu7 hu8 hu9 hu10 hu11 hu12 hu13 hu14 hu15 hu16 hu17 hu18 hu19 hu20 hu21 hu22 hu23
     replace HR_m := Lib.hid (HR_m.out.ext hbz)
     replace HR_n := Lib.hid (HR_n.out.ext hbz)
     replace HR_a := Lib.hid (HR_a.out.ext hbz)
     replace HR_b := Lib.hid (HR_b.out.ext hbz)
     replace HR_c := Lib.hid (HR_c.out.ext hbz)
     replace HW := Lib.hid (ext_trans HW.out hbz)
     clear c_m_5 c_m_6 c_m_7 c_m_8 c_a_0 c_a_1 c_b_0 c_b_1 c_c_0 c_c_1
     clear hbz
     try refine Grow.TailOk.nil ?_
     refine tail_none (P := Tryz.prog) (ops := #[]) ?_
     simp only [Act.put, zzp]
     have HP : Hid (momF n q.r = 13) := Lib.hid (by rw [HP1.out, if_neg (by rw [HP2.out]; simp [hc0])])
     go_wp2
     exact bodyPost_ret (v := .int .i64 13) (by simp [results, Tryz.results52, go_sem]) rfl ⟨by rw [HP.out], HW.out⟩
 ·have HP : Hid (momF n r = 1) := Lib.hid (by unfold momF; rw [if_pos (by omega)])
  by_cases hn0 : n < 0
  ·go_wp2
   exact bodyPost_ret (v := .int .i64 1) (by simp [results, Tryz.results52, go_sem]) rfl ⟨by rw [HP.out], HW.out⟩
  ·have hn1 : 20000 < n := by omega
   go_wp2
   exact bodyPost_ret (v := .int .i64 1) (by simp [results, Tryz.results52, go_sem]) rfl ⟨by rw [HP.out], HW.out⟩
end Nt
end Go.Proofs.YtlbnjgnbpiidaaaGreatDoor
