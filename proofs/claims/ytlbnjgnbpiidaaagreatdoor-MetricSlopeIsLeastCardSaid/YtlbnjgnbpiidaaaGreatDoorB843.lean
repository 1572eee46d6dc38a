/- some, Mean, around, Spread of the reference. Printed by gen_momt.py. -/
import Derived.Test.YtlbnjgnbpiidaaaGreatDoorB836
import Derived.Test.YtlbnjgnbpiidaaaGreatDoorB842
import Derived.Test.YtlbnjgnbpiidaaaGreatDoorB835
import Derived.Test.YtlbnjgnbpiidaaaGreatDoorB800
import Derived.Test.YtlbnjgnbpiidaaaGreatDoorB812
namespace Go.Proofs.YtlbnjgnbpiidaaaGreatDoor
open Go.RowKit
namespace Nt
open _root_.Go.Proofs.YtlbnjgnbpiidaaaGreatDoor.Nm (tl_lit rF rQ showN showD Fits show_size cutS cutS_size cutB cut_show cmpQ RT rtL rtOk trimPrefix_at tail_none Ln QL QF QS Q5 R5 shR mrA mr_info NoW noW_all BF cs_other wp_rows1 wp_rows2 wp_rows3 wp_rows4 smF smL smL_step sm_five momF posB posB1 posB_steps zerB dfA dfB dfC df_ln ln_n n_ne fits_int i64_ten BPost FPost spA spB spC sp_ln atF at_parts mom_parts vrQ rtC fq fr fr_get R5.ok_at rat_neg TP.row rtN rtD nF rtN_0 rtD_0 nF_0 rtN_no rtD_no nF_no meQ RqPost EsPost mom_ql at_ql)
set_option maxRecDepth 100000 in
set_option maxHeartbeats 16000000 in
theorem some_at (c n : Int) (r : R5) (hok : r.ok) (w : World) (ht : Tab w) : Calls Tryz.prog 40 #[.agg (mrA n r), .int .i64 c] w (FPost w (atF c n r)) := by
 have HOK := Lib.hid hok
 clear hok
 go_enter Tryz.func40, Tryz.ntmps40
 have HT0 := Lib.hid ht
 clear ht
 go_upto_region 1 with (fail)
 refine wp_rows1 fun w1' hbz hR0 => ?_
 have HR_m : Hid (RH w1' w.heap.size (mrA (n) r) 35) := Lib.hid hR0
 have HW := Lib.hid hbz
 clear hbz hR0
 go_wp2_with (first | (refine wpList_load_row rfl _ _ rfl w.heap.size rfl _ (mrA (n) r) _ _ HR_m.out Tryz.underlying35 rfl (mr_info _ _) ?_))
 refine (refCheckMom_at n r HOK.out w1' (HT0.out.ext HW.out)).mono ?_
 rintro e w2' ⟨rfl, hbz⟩
 replace HR_m := Lib.hid (HR_m.out.ext hbz)
 replace HW := Lib.hid (ext_trans HW.out hbz)
 clear hbz
 by_cases hz : momF n r = 0
 ·have hne2 : (momF n r != 0) = false := by simp [hz]
  have HP0 : Hid (atF c n r = if n < c then 9 else 0) := Lib.hid (by unfold atF; rw [if_neg (fun h => h hz)])
  clear hz
  obtain ⟨c_m_0, -, -, -, -, -, -, -, -, -, -⟩ := zs11 HR_m.out
  by_cases hlt : n < c
  ·have HP : Hid (atF c n r = 9) := Lib.hid (by rw [HP0.out, if_pos hlt])
   go_wp2
   exact bodyPost_ret (v := .int .i64 9) (by simp [results, Tryz.results40, go_sem]) rfl ⟨by rw [HP.out], HW.out⟩
  ·have HP : Hid (atF c n r = 0) := Lib.hid (by rw [HP0.out, if_neg hlt])
   go_wp2
   exact bodyPost_ret (v := .int .i64 0) (by simp [results, Tryz.results40, go_sem]) rfl ⟨by rw [HP.out], HW.out⟩
 ·have hne2 : (momF n r != 0) = true := by simp [hz]
  have HP : Hid (atF c n r = momF n r) := Lib.hid (by unfold atF; rw [if_pos hz])
  clear hz
  go_wp2
  exact bodyPost_ret (v := .int .i64 (momF n r)) (by simp [results, Tryz.results40, go_sem]) rfl ⟨by rw [HP.out], HW.out⟩
set_option maxRecDepth 100000 in
set_option maxHeartbeats 16000000 in
theorem around_at (n : Int) (h0 : 1 ≤ n) (h1 : n ≤ 20000) (q : Q5) (hq : QL q) (w : World) (ht : Tab w) : Calls Tryz.prog 53 #[.agg (mrA n q.r)] w (fun e w' => e = .returned (.tuple #[rtV (spA n q), rtV (spB n q), rtV (spC n q)]) ∧ Below w.heap.size w w') := by
 have HQL := Lib.hid hq
 have HQF := Lib.hid hq.fits
 have hn0 := h0
 have hn1 := h1
 clear hq h0 h1
 obtain ⟨nq, hnq⟩ : ∃ z : Rat, ((n : Int) : Rat) = z := ⟨_, rfl⟩
 have HNQ := Lib.hid hnq
 have HNF : Hid (Fits nq ∧ nq ≠ 0) := Lib.hid (by rw [← hnq]; exact ⟨(ln_n (by omega) hn1).fits (by omega) (by omega), n_ne (by omega)⟩)
 have HDA := Lib.hid (sp_ln hn0 hn1 HQL.out.xx HQL.out.x HQL.out.x)
 obtain ⟨rA, hrA⟩ : ∃ z : Rat, q.x * q.x = z := ⟨_, rfl⟩
 obtain ⟨lA, hlA⟩ : ∃ z : Rat, rA / nq = z := ⟨_, rfl⟩
 obtain ⟨dA, hdA⟩ : ∃ z : Rat, q.xx - lA = z := ⟨_, rfl⟩
 have HDA' : Hid (Fits rA ∧ Fits lA ∧ Fits dA) := Lib.hid (by
  obtain ⟨e1, e2, e3⟩ := HDA.out
  rw [hrA] at e1 e2 e3
  rw [hnq, hlA] at e2 e3
  rw [hdA] at e3
  exact ⟨e1.fits (by omega) (by omega), e2.fits (by omega) (by omega), e3.fits (by omega) (by omega)⟩)
 have HEA := Lib.hid (And.intro hrA (And.intro hlA hdA))
 have HDB := Lib.hid (sp_ln hn0 hn1 HQL.out.yy HQL.out.y HQL.out.y)
 obtain ⟨rB, hrB⟩ : ∃ z : Rat, q.y * q.y = z := ⟨_, rfl⟩
 obtain ⟨lB, hlB⟩ : ∃ z : Rat, rB / nq = z := ⟨_, rfl⟩
 obtain ⟨dB, hdB⟩ : ∃ z : Rat, q.yy - lB = z := ⟨_, rfl⟩
 have HDB' : Hid (Fits rB ∧ Fits lB ∧ Fits dB) := Lib.hid (by
  obtain ⟨e1, e2, e3⟩ := HDB.out
  rw [hrB] at e1 e2 e3
  rw [hnq, hlB] at e2 e3
  rw [hdB] at e3
  exact ⟨e1.fits (by omega) (by omega), e2.fits (by omega) (by omega), e3.fits (by omega) (by omega)⟩)
 have HEB := Lib.hid (And.intro hrB (And.intro hlB hdB))
 have HDC := Lib.hid (sp_ln hn0 hn1 HQL.out.xy HQL.out.x HQL.out.y)
 obtain ⟨rC, hrC⟩ : ∃ z : Rat, q.x * q.y = z := ⟨_, rfl⟩
 obtain ⟨lC, hlC⟩ : ∃ z : Rat, rC / nq = z := ⟨_, rfl⟩
 obtain ⟨dC, hdC⟩ : ∃ z : Rat, q.xy - lC = z := ⟨_, rfl⟩
 have HDC' : Hid (Fits rC ∧ Fits lC ∧ Fits dC) := Lib.hid (by
  obtain ⟨e1, e2, e3⟩ := HDC.out
  rw [hrC] at e1 e2 e3
  rw [hnq, hlC] at e2 e3
  rw [hdC] at e3
  exact ⟨e1.fits (by omega) (by omega), e2.fits (by omega) (by omega), e3.fits (by omega) (by omega)⟩)
 have HEC := Lib.hid (And.intro hrC (And.intro hlC hdC))
 have HDD : Hid (spA n q = dA ∧ spB n q = dB ∧ spC n q = dC) := Lib.hid (by unfold spA spB spC; rw [hnq, hrA, hlA, hdA, hrB, hlB, hdB, hrC, hlC, hdC]; exact ⟨rfl, rfl, rfl⟩)
 clear HDA HDB HDC hnq hlA hrA hdA hlB hrB hdB hlC hrC hdC
 go_enter Tryz.func53, Tryz.ntmps53
 have HT0 := Lib.hid ht
 clear ht
 go_upto_region 1 with (fail)
 refine wp_rows4 fun w1' hbz hR0 hR1 hR2 hR3 => ?_
 have HR_m : Hid (RH w1' w.heap.size (mrA (n) q.r) 35) := Lib.hid hR0
 have HR_oa : Hid (RH w1' (w.heap.size + 1) #[.string ⟨#[]⟩, .string ⟨#[]⟩] 24) := Lib.hid hR1
 have HR_ob : Hid (RH w1' (w.heap.size + 2) #[.string ⟨#[]⟩, .string ⟨#[]⟩] 24) := Lib.hid hR2
 have HR_oc : Hid (RH w1' (w.heap.size + 3) #[.string ⟨#[]⟩, .string ⟨#[]⟩] 24) := Lib.hid hR3
 have HW := Lib.hid hbz
 clear hbz hR0 hR1 hR2 hR3
 obtain ⟨c_m_0, -, -, -, -, -, -, -, -, -, -⟩ := zs11 HR_m.out
 go_wp2_with fail
 refine (whole_z n nq HNQ.out (by omega) (by omega) w1' (HT0.out.ext HW.out)).mono ?_
 rintro e w2' ⟨rfl, hbz⟩
 replace HR_m := Lib.hid (HR_m.out.ext hbz)
 replace HR_oa := Lib.hid (HR_oa.out.ext hbz)
 replace HR_ob := Lib.hid (HR_ob.out.ext hbz)
 replace HR_oc := Lib.hid (HR_oc.out.ext hbz)
 replace HW := Lib.hid (ext_trans HW.out hbz)
 clear c_m_0
 clear hbz
 go_upto_region 2 with (fail)
 refine wp_rows1 fun w3' hbz hR0 => ?_
 have lt_m_n : w.heap.size < w2'.heap.size := HR_m.out.lt
 have lt_oa_n : (w.heap.size + 1) < w2'.heap.size := HR_oa.out.lt
 have lt_ob_n : (w.heap.size + 2) < w2'.heap.size := HR_ob.out.lt
 have lt_oc_n : (w.heap.size + 3) < w2'.heap.size := HR_oc.out.lt
 have le_n : w.heap.size ≤ w2'.heap.size := HW.out.size
 replace HR_m := Lib.hid (HR_m.out.ext hbz)
 replace HR_oa := Lib.hid (HR_oa.out.ext hbz)
 replace HR_ob := Lib.hid (HR_ob.out.ext hbz)
 replace HR_oc := Lib.hid (HR_oc.out.ext hbz)
 replace HW := Lib.hid (ext_trans HW.out hbz)
 clear hbz
 have HR_n : Hid (RH w3' w2'.heap.size #[.string (showN nq), .string (showD nq)] 24) := Lib.hid hR0
 clear hR0
 generalize w2'.heap.size = b_n at *
 obtain ⟨c_m_0, c_m_1, c_m_2, c_m_3, c_m_4, c_m_5, c_m_6, c_m_7, c_m_8, c_m_9, c_m_10⟩ := zs11 HR_m.out
 obtain ⟨c_n_0, c_n_1⟩ := zs2 HR_n.out
 refine Grow.wp_region_grow 30 [TP.eq (.pointer (some ⟨w.heap.size, 5, none⟩)), TP.eq (rtV q.xx), TP.eq (.pointer (some ⟨w.heap.size, 1, none⟩)), TP.eq (rtV q.x), TP.eq (.pointer (some ⟨w.heap.size, 1, none⟩)), TP.eq (rtV q.x), TP.eq (rtV rA), TP.eq (rtV nq), TP.eq (rtV lA), TP.eq (rtV dA), TP.eq (.pointer (some ⟨w.heap.size, 7, none⟩)), TP.eq (rtV q.yy), TP.eq (.pointer (some ⟨w.heap.size, 3, none⟩)), TP.eq (rtV q.y), TP.eq (.pointer (some ⟨w.heap.size, 3, none⟩)), TP.eq (rtV q.y), TP.eq (rtV rB), TP.eq (rtV nq), TP.eq (rtV lB), TP.eq (rtV dB), TP.eq (.pointer (some ⟨w.heap.size, 9, none⟩)), TP.eq (rtV q.xy), TP.eq (.pointer (some ⟨w.heap.size, 1, none⟩)), TP.eq (rtV q.x), TP.eq (.pointer (some ⟨w.heap.size, 3, none⟩)), TP.eq (rtV q.y), TP.eq (rtV rC), TP.eq (rtV nq), TP.eq (rtV lC), TP.eq (rtV dC)] [[], [0], [], [2], [], [4], [3, 5], [], [6, 7], [1, 8], [], [10], [], [12], [], [14], [13, 15], [], [16, 17], [11, 18], [], [20], [], [22], [], [24], [23, 25], [], [26, 27], [21, 28]] (by kernel_rfl) (by kernel_rfl) ⟨?o0s, ?o1s, ?o2s, ?o3s, ?o4s, ?o5s, ?o6s, ?o7s, ?o8s, ?o9s, ?o10s, ?o11s, ?o12s, ?o13s, ?o14s, ?o15s, ?o16s, ?o17s, ?o18s, ?o19s, ?o20s, ?o21s, ?o22s, ?o23s, ?o24s, ?o25s, ?o26s, ?o27s, ?o28s, ?o29s, trivial⟩ ?_
 case o0s | o2s | o4s | o10s | o12s | o14s | o20s | o22s | o24s =>
  intro w' hb
  show wpList _ _ _ _ _ _
  go_wp2
  exact ⟨rfl, Below.refl _ _, rfl⟩
 case o1s =>
  intro w' hb v1 hv1
  cases hv1
  have c_m_5' := zzc hb c_m_5
  have c_m_6' := zzc hb c_m_6
  show wpList _ _ _ _ _ _
  simp only [Grow.dstOf, zzp, Act.put]
  go_wp2
  exact ⟨rfl, Below.refl _ _, rfl⟩
 case o3s | o5s | o11s | o13s | o15s | o21s | o23s | o25s =>
  intro w' hb v1 hv1
  cases hv1
  have c_m_1' := zzc hb c_m_1
  have c_m_2' := zzc hb c_m_2
  have c_m_7' := zzc hb c_m_7
  have c_m_8' := zzc hb c_m_8
  have c_m_3' := zzc hb c_m_3
  have c_m_4' := zzc hb c_m_4
  have c_m_9' := zzc hb c_m_9
  have c_m_10' := zzc hb c_m_10
  show wpList _ _ _ _ _ _
  simp only [Grow.dstOf, zzp, Act.put]
  go_wp2
  exact ⟨rfl, Below.refl _ _, rfl⟩
 case o6s =>
  intro w' hb v1 hv1 v2 hv2
  cases hv1
  cases hv2
  show wpList _ _ _ _ _ _
  simp only [Grow.dstOf, zzp, Act.put]
  go_wp2_with fail
  refine (times_is q.x q.x rA HEA.out.1 HQF.out.x HQF.out.x HDA'.out.1 w' (HT0.out.ext (ext_trans HW.out hb))).mono ?_
  rintro e wz ⟨rfl, hbz⟩
  go_wp2
  exact ⟨rfl, hbz, rfl⟩
 case o7s | o17s | o27s =>
  intro w' hb
  have c_n_0' := zzc hb c_n_0
  have c_n_1' := zzc hb c_n_1
  show wpList _ _ _ _ _ _
  go_wp2
  exact ⟨rfl, Below.refl _ _, rfl⟩
 case o8s =>
  intro w' hb v1 hv1 v2 hv2
  cases hv1
  cases hv2
  show wpList _ _ _ _ _ _
  simp only [Grow.dstOf, zzp, Act.put]
  go_wp2_with fail
  refine (over_is rA nq lA HEA.out.2.1 HDA'.out.1 HNF.out.1 HNF.out.2 HDA'.out.2.1 w' (HT0.out.ext (ext_trans HW.out hb))).mono ?_
  rintro e wz ⟨rfl, hbz⟩
  go_wp2
  exact ⟨rfl, hbz, rfl⟩
 case o9s =>
  intro w' hb v1 hv1 v2 hv2
  cases hv1
  cases hv2
  show wpList _ _ _ _ _ _
  simp only [Grow.dstOf, zzp, Act.put]
  go_wp2_with fail
  refine (minus_is q.xx lA dA HEA.out.2.2 HQF.out.xx HDA'.out.2.1 HDA'.out.2.2 w' (HT0.out.ext (ext_trans HW.out hb))).mono ?_
  rintro e wz ⟨rfl, hbz⟩
  go_wp2
  exact ⟨rfl, hbz, rfl⟩
 case o16s =>
  intro w' hb v1 hv1 v2 hv2
  cases hv1
  cases hv2
  show wpList _ _ _ _ _ _
  simp only [Grow.dstOf, zzp, Act.put]
  go_wp2_with fail
  refine (times_is q.y q.y rB HEB.out.1 HQF.out.y HQF.out.y HDB'.out.1 w' (HT0.out.ext (ext_trans HW.out hb))).mono ?_
  rintro e wz ⟨rfl, hbz⟩
  go_wp2
  exact ⟨rfl, hbz, rfl⟩
 case o18s =>
  intro w' hb v1 hv1 v2 hv2
  cases hv1
  cases hv2
  show wpList _ _ _ _ _ _
  simp only [Grow.dstOf, zzp, Act.put]
  go_wp2_with fail
  refine (over_is rB nq lB HEB.out.2.1 HDB'.out.1 HNF.out.1 HNF.out.2 HDB'.out.2.1 w' (HT0.out.ext (ext_trans HW.out hb))).mono ?_
  rintro e wz ⟨rfl, hbz⟩
  go_wp2
  exact ⟨rfl, hbz, rfl⟩
 case o19s =>
  intro w' hb v1 hv1 v2 hv2
  cases hv1
  cases hv2
  show wpList _ _ _ _ _ _
  simp only [Grow.dstOf, zzp, Act.put]
  go_wp2_with fail
  refine (minus_is q.yy lB dB HEB.out.2.2 HQF.out.yy HDB'.out.2.1 HDB'.out.2.2 w' (HT0.out.ext (ext_trans HW.out hb))).mono ?_
  rintro e wz ⟨rfl, hbz⟩
  go_wp2
  exact ⟨rfl, hbz, rfl⟩
 case o26s =>
  intro w' hb v1 hv1 v2 hv2
  cases hv1
  cases hv2
  show wpList _ _ _ _ _ _
  simp only [Grow.dstOf, zzp, Act.put]
  go_wp2_with fail
  refine (times_is q.x q.y rC HEC.out.1 HQF.out.x HQF.out.y HDC'.out.1 w' (HT0.out.ext (ext_trans HW.out hb))).mono ?_
  rintro e wz ⟨rfl, hbz⟩
  go_wp2
  exact ⟨rfl, hbz, rfl⟩
 case o28s =>
  intro w' hb v1 hv1 v2 hv2
  cases hv1
  cases hv2
  show wpList _ _ _ _ _ _
  simp only [Grow.dstOf, zzp, Act.put]
  go_wp2_with fail
  refine (over_is rC nq lC HEC.out.2.1 HDC'.out.1 HNF.out.1 HNF.out.2 HDC'.out.2.1 w' (HT0.out.ext (ext_trans HW.out hb))).mono ?_
  rintro e wz ⟨rfl, hbz⟩
  go_wp2
  exact ⟨rfl, hbz, rfl⟩
 case o29s =>
  intro w' hb v1 hv1 v2 hv2
  cases hv1
  cases hv2
  show wpList _ _ _ _ _ _
  simp only [Grow.dstOf, zzp, Act.put]
  go_wp2_with fail
  refine (minus_is q.xy lC dC HEC.out.2.2 HQF.out.xy HDC'.out.2.1 HDC'.out.2.2 w' (HT0.out.ext (ext_trans HW.out hb))).mono ?_
  rintro e wz ⟨rfl, hbz⟩
  go_wp2
  exact ⟨rfl, hbz, rfl⟩
 intro w4' hbz u0 hu0 u1 hu1 u2 hu2 u3 hu3 u4 hu4 u5 hu5 u6 hu6 u7 hu7 u8 hu8 u9 hu9 u10 hu10 u11 hu11 u12 hu12 u13 hu13 u14 hu14 u15 hu15 u16 hu16 u17 hu17 u18 hu18 u19 hu19 u20 hu20 u21 hu21 u22 hu22 u23 hu23 u24 hu24 u25 hu25 u26 hu26 u27 hu27 u28 hu28 u29 hu29
 obtain rfl : u9 = _ := hu9
 obtain rfl : u19 = _ := hu19
 obtain rfl : u29 = _ := hu29
 clear hu0 hu1 hu2 hu3 hu4 hu5 hu6 hu7 hu8 hu10 hu11 hu12 hu13 hu14 hu15 hu16 hu17 hu18 hu20 hu21 hu22 hu23 hu24 hu25 hu26 hu27 hu28
 replace HR_m := Lib.hid (HR_m.out.ext hbz)
 replace HR_oa := Lib.hid (HR_oa.out.ext hbz)
 replace HR_ob := Lib.hid (HR_ob.out.ext hbz)
 replace HR_oc := Lib.hid (HR_oc.out.ext hbz)
 replace HR_n := Lib.hid (HR_n.out.ext hbz)
 replace HW := Lib.hid (ext_trans HW.out hbz)
 clear c_m_0 c_m_1 c_m_2 c_m_3 c_m_4 c_m_5 c_m_6 c_m_7 c_m_8 c_m_9 c_m_10 c_n_0 c_n_1
 clear hbz
 show wpList _ _ _ _ _ _
 simp only [Act.put, zzp]
 clear HR_n
 obtain ⟨c_oa_0, c_oa_1⟩ := zs2 HR_oa.out
 have f_oa_0 := HR_oa.out.fre 0
 have f_oa_1 := HR_oa.out.fre 1
 obtain ⟨c_ob_0, c_ob_1⟩ := zs2 HR_ob.out
 have f_ob_0 := HR_ob.out.fre 0
 have f_ob_1 := HR_ob.out.fre 1
 obtain ⟨c_oc_0, c_oc_1⟩ := zs2 HR_oc.out
 have f_oc_0 := HR_oc.out.fre 0
 have f_oc_1 := HR_oc.out.fre 1
 go_wp2
 obtain ⟨w5', hX⟩ : ∃ Z9, Z9 = ((w4'.setCell ⟨(w.heap.size + 1), 0, none⟩ (.string (showN dA))).setCell ⟨(w.heap.size + 1), 1, none⟩ (.string (showD dA))) := ⟨_, rfl⟩
 rw [← hX]
 have n_oa : Hid (RH w5' (w.heap.size + 1) #[.string (showN dA), .string (showD dA)] 24) := by rw [hX]; exact Lib.hid (((HR_oa.out).set 0 (.string (showN dA))).set 1 (.string (showD dA)))
 have n_m : Hid (RH w5' w.heap.size (mrA (n) q.r) 35) := by rw [hX]; exact Lib.hid (zzo (zzo (HR_m.out) (by omega)) (by omega))
 have n_ob : Hid (RH w5' (w.heap.size + 2) #[.string ⟨#[]⟩, .string ⟨#[]⟩] 24) := by rw [hX]; exact Lib.hid (zzo (zzo (HR_ob.out) (by omega)) (by omega))
 have n_oc : Hid (RH w5' (w.heap.size + 3) #[.string ⟨#[]⟩, .string ⟨#[]⟩] 24) := by rw [hX]; exact Lib.hid (zzo (zzo (HR_oc.out) (by omega)) (by omega))
 have HK_ : ∀ p : Addr, p.block ≠ (w.heap.size + 1) → w5'.cell? p = w4'.cell? p := fun p hp => by rw [hX]; exact (cs_other hp).trans (cs_other hp)
 have nW : Hid (Below w.heap.size w w5') := by rw [hX]; exact Lib.hid (zzw (zzw (HW.out) (by omega)) (by omega))
 clear c_oa_0 c_oa_1 f_oa_0 f_oa_1 c_ob_0 c_ob_1 f_ob_0 f_ob_1 c_oc_0 c_oc_1 f_oc_0 f_oc_1
 clear hX HK_ HW HR_m HR_oa HR_ob HR_oc 
 have HR_m := n_m; clear n_m
 have HR_oa := n_oa; clear n_oa
 have HR_ob := n_ob; clear n_ob
 have HR_oc := n_oc; clear n_oc
 have HW := nW; clear nW
 obtain ⟨w6', hX⟩ : ∃ Z9, Z9 = ((w5'.setCell ⟨(w.heap.size + 2), 0, none⟩ (.string (showN dB))).setCell ⟨(w.heap.size + 2), 1, none⟩ (.string (showD dB))) := ⟨_, rfl⟩
 rw [← hX]
 have n_ob : Hid (RH w6' (w.heap.size + 2) #[.string (showN dB), .string (showD dB)] 24) := by rw [hX]; exact Lib.hid (((HR_ob.out).set 0 (.string (showN dB))).set 1 (.string (showD dB)))
 have n_m : Hid (RH w6' w.heap.size (mrA (n) q.r) 35) := by rw [hX]; exact Lib.hid (zzo (zzo (HR_m.out) (by omega)) (by omega))
 have n_oa : Hid (RH w6' (w.heap.size + 1) #[.string (showN dA), .string (showD dA)] 24) := by rw [hX]; exact Lib.hid (zzo (zzo (HR_oa.out) (by omega)) (by omega))
 have n_oc : Hid (RH w6' (w.heap.size + 3) #[.string ⟨#[]⟩, .string ⟨#[]⟩] 24) := by rw [hX]; exact Lib.hid (zzo (zzo (HR_oc.out) (by omega)) (by omega))
 have HK_ : ∀ p : Addr, p.block ≠ (w.heap.size + 2) → w6'.cell? p = w5'.cell? p := fun p hp => by rw [hX]; exact (cs_other hp).trans (cs_other hp)
 have nW : Hid (Below w.heap.size w w6') := by rw [hX]; exact Lib.hid (zzw (zzw (HW.out) (by omega)) (by omega))
 clear hX HK_ HW HR_m HR_oa HR_ob HR_oc 
 have HR_m := n_m; clear n_m
 have HR_oa := n_oa; clear n_oa
 have HR_ob := n_ob; clear n_ob
 have HR_oc := n_oc; clear n_oc
 have HW := nW; clear nW
 obtain ⟨w7', hX⟩ : ∃ Z9, Z9 = ((w6'.setCell ⟨(w.heap.size + 3), 0, none⟩ (.string (showN dC))).setCell ⟨(w.heap.size + 3), 1, none⟩ (.string (showD dC))) := ⟨_, rfl⟩
 rw [← hX]
 have n_oc : Hid (RH w7' (w.heap.size + 3) #[.string (showN dC), .string (showD dC)] 24) := by rw [hX]; exact Lib.hid (((HR_oc.out).set 0 (.string (showN dC))).set 1 (.string (showD dC)))
 have n_m : Hid (RH w7' w.heap.size (mrA (n) q.r) 35) := by rw [hX]; exact Lib.hid (zzo (zzo (HR_m.out) (by omega)) (by omega))
 have n_oa : Hid (RH w7' (w.heap.size + 1) #[.string (showN dA), .string (showD dA)] 24) := by rw [hX]; exact Lib.hid (zzo (zzo (HR_oa.out) (by omega)) (by omega))
 have n_ob : Hid (RH w7' (w.heap.size + 2) #[.string (showN dB), .string (showD dB)] 24) := by rw [hX]; exact Lib.hid (zzo (zzo (HR_ob.out) (by omega)) (by omega))
 have HK_ : ∀ p : Addr, p.block ≠ (w.heap.size + 3) → w7'.cell? p = w6'.cell? p := fun p hp => by rw [hX]; exact (cs_other hp).trans (cs_other hp)
 have nW : Hid (Below w.heap.size w w7') := by rw [hX]; exact Lib.hid (zzw (zzw (HW.out) (by omega)) (by omega))
 clear hX HK_ HW HR_m HR_oa HR_ob HR_oc 
 have HR_m := n_m; clear n_m
 have HR_oa := n_oa; clear n_oa
 have HR_ob := n_ob; clear n_ob
 have HR_oc := n_oc; clear n_oc
 have HW := nW; clear nW
 obtain ⟨c_oa_0, c_oa_1⟩ := zs2 HR_oa.out
 obtain ⟨c_ob_0, c_ob_1⟩ := zs2 HR_ob.out
 obtain ⟨c_oc_0, c_oc_1⟩ := zs2 HR_oc.out
 exact bodyPost_ret (v := .tuple #[rtV dA, rtV dB, rtV dC]) (by simp [results, Tryz.results53, go_sem, c_oa_0, c_oa_1, c_ob_0, c_ob_1, c_oc_0, c_oc_1]) rfl ⟨by rw [HDD.out.1, HDD.out.2.1, HDD.out.2.2], HW.out⟩
end Nt
end Go.Proofs.YtlbnjgnbpiidaaaGreatDoor
