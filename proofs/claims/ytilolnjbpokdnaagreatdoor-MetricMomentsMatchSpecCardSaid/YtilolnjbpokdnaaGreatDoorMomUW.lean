/- Variance, Estimate, Add of the reference. Printed by gen_momt.py. The walk of MetricMomentsMatchSpec. Printed by gen_lawmom.py. -/
import Derived.Test.YtilolnjbpokdnaaGreatDoorMomSum
namespace Go.Proofs.YtilolnjbpokdnaaGreatDoor
open Go.RowKit
namespace Nt
open _root_.Go.Proofs.YtilolnjbpokdnaaGreatDoor.Nm (tl_lit rF rQ showN showD Fits show_size cutS cutS_size cutB cut_show cmpQ RT rtL rtOk trimPrefix_at tail_none Ln QL QF QS Q5 R5 shR rtz r5z mrA mr_nw mr_info mr_all NoW noW_all BF cs_other wp_rows1 wp_rows2 wp_rows3 wp_rows4 smF smL smL_step sm_five momF posB posB1 posB_steps zerB dfA dfB dfC df_ln ln_n n_ne fits_int i64_ten BPost FPost spA spB spC sp_ln atF at_parts mom_parts vrQ rtC lgB lgL lgK lgK_step lgK_more fq r5k wrF wrA adF q5a ql_add fr fr_get R5.ok_at rat_neg TP.row rtN rtD nF rtN_0 rtD_0 nF_0 rtN_no rtD_no nF_no meQ veQ RqPost EsPost S3Post adA ad_no ad_wr mom_ql at_ql)
set_option maxRecDepth 100000 in
set_option maxHeartbeats 16000000 in
theorem refVariance_at (n : Int) (r : R5) (hok : r.ok) (w : World) (ht : Tab w) : Calls Tryz.prog 35 #[.agg (mrA n r)] w (RqPost w (atF 2 n r) (vrQ n r.q)) := by
 have HOK := Lib.hid hok
 clear hok
 go_enter Tryz.func35, Tryz.ntmps35
 have HT0 := Lib.hid ht
 clear ht
 go_upto_region 1 with (fail)
 refine wp_rows2 fun w1' hbz hR0 hR1 => ?_
 have HR_m : Hid (RH w1' w.heap.size (mrA (n) r) 47) := Lib.hid hR0
 have HR_o : Hid (RH w1' (w.heap.size + 1) #[.string ⟨#[]⟩, .string ⟨#[]⟩] 23) := Lib.hid hR1
 have HW := Lib.hid hbz
 clear hbz hR0 hR1
 go_wp2_with (first | (refine wpList_load_row rfl _ _ rfl w.heap.size rfl _ (mrA (n) r) _ _ HR_m.out Tryz.underlying47 rfl (mr_info _ _) ?_))
 refine (some_at 2 n r HOK.out w1' (HT0.out.ext HW.out)).mono ?_
 rintro e w2' ⟨rfl, hbz⟩
 replace HR_m := Lib.hid (HR_m.out.ext hbz)
 replace HR_o := Lib.hid (HR_o.out.ext hbz)
 replace HW := Lib.hid (ext_trans HW.out hbz)
 clear hbz
 by_cases hz : atF 2 n r = 0
 ·obtain ⟨hm0, hn0, hn1, hql⟩ := at_ql hz
  obtain ⟨_, _, _, hrq⟩ := mom_ql hm0
  obtain ⟨q, hq⟩ : ∃ z, r.q = z := ⟨_, rfl⟩
  rw [hq] at hql hrq
  subst hrq
  have hne2 : (atF 2 n q.r != 0) = false := by simp [hz]
  have HZ := Lib.hid hz
  have HQ9 := Lib.hid hq
  have HQL := Lib.hid hql
  have HQF := Lib.hid hql.fits
  clear hm0 hz hq hql
  obtain ⟨qa, hqa⟩ : ∃ z, spA n q = z := ⟨_, rfl⟩
  obtain ⟨qb, hqb⟩ : ∃ z, spB n q = z := ⟨_, rfl⟩
  obtain ⟨qc, hqc⟩ : ∃ z, spC n q = z := ⟨_, rfl⟩
  have HE : Hid (spA n q = qa ∧ spB n q = qb ∧ spC n q = qc) := Lib.hid (And.intro hqa (And.intro hqb hqc))
  clear hqa hqb hqc
  obtain ⟨mq, hmq⟩ : ∃ z : Rat, ((n - 1 : Int) : Rat) = z := ⟨_, rfl⟩
  have HML : Hid (Fits mq ∧ mq ≠ 0) := Lib.hid (by rw [← hmq]; exact ⟨(ln_n (n := n - 1) (by omega) (by omega)).fits (by omega) (by omega), n_ne (n := n - 1) (by omega)⟩)
  have HSA : Hid (Fits qa) := Lib.hid (by rw [← HE.out.1]; exact (HQL.out.spA (by omega) hn1).fits (by omega) (by omega))
  obtain ⟨vq, hvq⟩ : ∃ z, qa / mq = z := ⟨_, rfl⟩
  have HV : Hid (vrQ n q.r.q = vq) := Lib.hid (by rw [HQ9.out]; unfold vrQ; rw [hmq, HE.out.1, hvq])
  have HVF : Hid (Fits vq) := Lib.hid (by
   have h := HQL.out.vr hn0 hn1
   rw [← HQ9.out, HV.out] at h
   exact h.fits (by omega) (by omega))
  have HVQ := Lib.hid hvq
  have HMQ := Lib.hid hmq
  obtain ⟨m, hm⟩ : ∃ m, n - 1 = m := ⟨_, rfl⟩
  rw [hm] at HMQ
  have hmw : IntKind.i64.wrap (n - 1) = m := (IntWalk.i64_in _ (by omega)).trans hm
  have hmb : 1 ≤ m ∧ m ≤ 20000 := by omega
  clear hmq hvq hm
  go_wp2_with (first | (refine wpList_load_row rfl _ _ rfl w.heap.size rfl _ (mrA (n) q.r) _ _ HR_m.out Tryz.underlying47 rfl (mr_info _ _) ?_))
  refine (around_at n (by omega) hn1 q HQL.out w2' (HT0.out.ext HW.out)).mono ?_
  rintro e w3' ⟨rfl, hbz⟩
  rw [HE.out.1, HE.out.2.1, HE.out.2.2]
  replace HR_m := Lib.hid (HR_m.out.ext hbz)
  replace HR_o := Lib.hid (HR_o.out.ext hbz)
  replace HW := Lib.hid (ext_trans HW.out hbz)
  clear hbz
  go_upto_region 5 with (fail)
  refine wp_rows3 fun w4' hbz hR0 hR1 hR2 => ?_
  have lt_m_x : w.heap.size < w3'.heap.size := HR_m.out.lt
  have lt_o_x : (w.heap.size + 1) < w3'.heap.size := HR_o.out.lt
  have le_x : w.heap.size ≤ w3'.heap.size := HW.out.size
  replace HR_m := Lib.hid (HR_m.out.ext hbz)
  replace HR_o := Lib.hid (HR_o.out.ext hbz)
  replace HW := Lib.hid (ext_trans HW.out hbz)
  clear hbz
  have HR_x : Hid (RH w4' w3'.heap.size #[.string (showN qa), .string (showD qa)] 23) := Lib.hid hR0
  have HR_y : Hid (RH w4' (w3'.heap.size + 1) #[.string (showN qb), .string (showD qb)] 23) := Lib.hid hR1
  have HR_z : Hid (RH w4' (w3'.heap.size + 2) #[.string (showN qc), .string (showD qc)] 23) := Lib.hid hR2
  clear hR0 hR1 hR2
  generalize w3'.heap.size = b_x at *
  obtain ⟨c_x_0, c_x_1⟩ := zs2 HR_x.out
  obtain ⟨c_m_0, -, -, -, -, -, -, -, -, -, -⟩ := zs11 HR_m.out
  refine Grow.wp_region_grow 6 [TP.eq (rtV qa), TP.eq (.pointer (some ⟨w.heap.size, 0, none⟩)), TP.eq (.int .i64 n), TP.eq (.int .i64 m), TP.eq (rtV mq), TP.eq (rtV vq)] [[], [], [1], [2], [3], [0, 4]] (by kernel_rfl) (by kernel_rfl) ⟨?o0v, ?o1v, ?o2v, ?o3v, ?o4v, ?o5v, trivial⟩ ?_
  case o0v =>
   intro w' hb
   have c_x_0' := zzc hb c_x_0
   have c_x_1' := zzc hb c_x_1
   show wpList _ _ _ _ _ _
   go_wp2
   exact ⟨rfl, Below.refl _ _, rfl⟩
  case o1v =>
   intro w' hb
   show wpList _ _ _ _ _ _
   go_wp2
   exact ⟨rfl, Below.refl _ _, rfl⟩
  case o2v =>
   intro w' hb v1 hv1
   obtain rfl : v1 = _ := hv1
   have c_m_0' := zzc hb c_m_0
   show wpList _ _ _ _ _ _
   simp only [Grow.dstOf, zz1, zz2, zz3, zz4, Act.put, zz5, zz6, zz7]
   go_wp2
   exact ⟨rfl, Below.refl _ _, rfl⟩
  case o3v =>
   intro w' hb v1 hv1
   obtain rfl : v1 = _ := hv1
   show wpList _ _ _ _ _ _
   simp only [Grow.dstOf, zz1, zz2, zz3, zz4, Act.put, zz5, zz6, zz7]
   go_wp2
   exact ⟨rfl, Below.refl _ _, rfl⟩
  case o4v =>
   intro w' hb v1 hv1
   obtain rfl : v1 = _ := hv1
   show wpList _ _ _ _ _ _
   simp only [Grow.dstOf, zz1, zz2, zz3, zz4, Act.put, zz5, zz6, zz7]
   go_wp2_with fail
   refine (whole_z m mq HMQ.out (by omega) (by omega) w' (HT0.out.ext (ext_trans HW.out hb))).mono ?_
   rintro e wz ⟨rfl, hbz⟩
   go_wp2
   exact ⟨rfl, hbz, rfl⟩
  case o5v =>
   intro w' hb v1 hv1 v2 hv2
   obtain rfl : v1 = _ := hv1
   obtain rfl : v2 = _ := hv2
   show wpList _ _ _ _ _ _
   simp only [Grow.dstOf, zz1, zz2, zz3, zz4, Act.put, zz5, zz6, zz7]
   go_wp2_with fail
   refine (over_is qa mq vq HVQ.out HSA.out HML.out.1 HML.out.2 HVF.out w' (HT0.out.ext (ext_trans HW.out hb))).mono ?_
   rintro e wz ⟨rfl, hbz⟩
   go_wp2
   exact ⟨rfl, hbz, rfl⟩
  intro w5' hbz u0 hu0 u1 hu1 u2 hu2 u3 hu3 u4 hu4 u5 hu5
  obtain rfl : u5 = _ := hu5
  clear hu0 hu1 hu2 hu3 hu4
  replace HR_m := Lib.hid (HR_m.out.ext hbz)
  replace HR_o := Lib.hid (HR_o.out.ext hbz)
  replace HR_x := Lib.hid (HR_x.out.ext hbz)
  replace HR_y := Lib.hid (HR_y.out.ext hbz)
  replace HR_z := Lib.hid (HR_z.out.ext hbz)
  replace HW := Lib.hid (ext_trans HW.out hbz)
  clear c_x_0 c_x_1 c_m_0
  clear hbz
  show wpList _ _ _ _ _ _
  simp only [Act.put, zz5, zz6, zz7]
  obtain ⟨c_o_0, c_o_1⟩ := zs2 HR_o.out
  have f_o_0 := HR_o.out.fre 0
  have f_o_1 := HR_o.out.fre 1
  go_wp2
  obtain ⟨w6', hX⟩ : ∃ Z9, Z9 = ((w5'.setCell ⟨(w.heap.size + 1), 0, none⟩ (.string (showN vq))).setCell ⟨(w.heap.size + 1), 1, none⟩ (.string (showD vq))) := ⟨_, rfl⟩
  rw [← hX]
  have n_o : Hid (RH w6' (w.heap.size + 1) #[.string (showN vq), .string (showD vq)] 23) := by rw [hX]; exact Lib.hid (((HR_o.out).set 0 (.string (showN vq))).set 1 (.string (showD vq)))
  have n_m : Hid (RH w6' w.heap.size (mrA (n) q.r) 47) := by rw [hX]; exact Lib.hid (zzo (zzo (HR_m.out) (by omega)) (by omega))
  have n_x : Hid (RH w6' b_x #[.string (showN qa), .string (showD qa)] 23) := by rw [hX]; exact Lib.hid (zzo (zzo (HR_x.out) (by omega)) (by omega))
  have n_y : Hid (RH w6' (b_x + 1) #[.string (showN qb), .string (showD qb)] 23) := by rw [hX]; exact Lib.hid (zzo (zzo (HR_y.out) (by omega)) (by omega))
  have n_z : Hid (RH w6' (b_x + 2) #[.string (showN qc), .string (showD qc)] 23) := by rw [hX]; exact Lib.hid (zzo (zzo (HR_z.out) (by omega)) (by omega))
  have HK_ : ∀ p : Addr, p.block ≠ (w.heap.size + 1) → w6'.cell? p = w5'.cell? p := fun p hp => by rw [hX]; exact (cs_other hp).trans (cs_other hp)
  have nW : Hid (Below w.heap.size w w6') := by rw [hX]; exact Lib.hid (zzw (zzw (HW.out) (by omega)) (by omega))
  clear c_o_0 c_o_1 f_o_0 f_o_1
  clear hX HK_ HW HR_m HR_o HR_x HR_y HR_z 
  have HR_m := n_m; clear n_m
  have HR_o := n_o; clear n_o
  have HR_x := n_x; clear n_x
  have HR_y := n_y; clear n_y
  have HR_z := n_z; clear n_z
  have HW := nW; clear nW
  refine bodyPost_ret (v := .tuple #[.agg #[.string (showN vq), .string (showD vq)], .int .i64 0]) ?_ rfl ⟨by simp only [HZ.out, rtN_0, rtD_0, HV.out], HW.out⟩
  have hld := run_loadVar_row (P := Tryz.prog) _ _ _ 23 _ _ _ HR_o.out Tryz.underlying23 rfl (by kernel_rfl : (Tryz.prog.info? 23).map (·.size) = some 2)
  rw [results_cell_tmp rfl]
  simp [asAddr, Result.andThen, hld]
 ·have hne2 : (atF 2 n r != 0) = true := by simp [hz]
  have HNE := Lib.hid hz
  clear hz
  obtain ⟨c_o_0, c_o_1⟩ := zs2 HR_o.out
  have f_o_0 := HR_o.out.fre 0
  have f_o_1 := HR_o.out.fre 1
  go_wp2
  obtain ⟨w3', hX⟩ : ∃ Z9, Z9 = ((w2'.setCell ⟨(w.heap.size + 1), 0, none⟩ (.string ⟨#[]⟩)).setCell ⟨(w.heap.size + 1), 1, none⟩ (.string ⟨#[]⟩)) := ⟨_, rfl⟩
  rw [← hX]
  have n_o : Hid (RH w3' (w.heap.size + 1) #[.string ⟨#[]⟩, .string ⟨#[]⟩] 23) := by rw [hX]; exact Lib.hid (((HR_o.out).set 0 (.string ⟨#[]⟩)).set 1 (.string ⟨#[]⟩))
  have n_m : Hid (RH w3' w.heap.size (mrA (n) r) 47) := by rw [hX]; exact Lib.hid (zzo (zzo (HR_m.out) (by omega)) (by omega))
  have HK_ : ∀ p : Addr, p.block ≠ (w.heap.size + 1) → w3'.cell? p = w2'.cell? p := fun p hp => by rw [hX]; exact (cs_other hp).trans (cs_other hp)
  have nW : Hid (Below w.heap.size w w3') := by rw [hX]; exact Lib.hid (zzw (zzw (HW.out) (by omega)) (by omega))
  clear c_o_0 c_o_1 f_o_0 f_o_1
  clear hX HK_ HW HR_m HR_o 
  have HR_m := n_m; clear n_m
  have HR_o := n_o; clear n_o
  have HW := nW; clear nW
  refine bodyPost_ret (v := .tuple #[.agg #[.string ⟨#[]⟩, .string ⟨#[]⟩], .int .i64 (atF 2 n r)]) ?_ rfl ⟨by simp only [rtN_no HNE.out, rtD_no HNE.out], HW.out⟩
  have hld := run_loadVar_row (P := Tryz.prog) _ _ _ 23 _ _ _ HR_o.out Tryz.underlying23 rfl (by kernel_rfl : (Tryz.prog.info? 23).map (·.size) = some 2)
  rw [results_cell_tmp rfl]
  simp [asAddr, Result.andThen, hld]
set_option maxRecDepth 100000 in
set_option maxHeartbeats 16000000 in
theorem refEstimate_at (n : Int) (r : R5) (hok : r.ok) (w : World) (ht : Tab w) : Calls Tryz.prog 38 #[.agg (mrA n r)] w (EsPost w (atF 2 n r) n (meQ n r.q) (veQ n r.q)) := by
 have HOK := Lib.hid hok
 clear hok
 go_enter Tryz.func38, Tryz.ntmps38
 have HT0 := Lib.hid ht
 clear ht
 go_upto_region 1 with (fail)
 refine wp_rows2 fun w1' hbz hR0 hR1 => ?_
 have HR_m : Hid (RH w1' w.heap.size (mrA (n) r) 47) := Lib.hid hR0
 have HR_o : Hid (RH w1' (w.heap.size + 1) #[.int .i64 0, .string ⟨#[]⟩, .string ⟨#[]⟩, .string ⟨#[]⟩, .string ⟨#[]⟩] 55) := Lib.hid hR1
 have HW := Lib.hid hbz
 clear hbz hR0 hR1
 by_cases hz : atF 2 n r = 0
 ·obtain ⟨hm0, hn0, hn1, hql⟩ := at_ql hz
  obtain ⟨_, _, _, hrq⟩ := mom_ql hm0
  obtain ⟨q, hq⟩ : ∃ z, r.q = z := ⟨_, rfl⟩
  rw [hq] at hql hrq
  subst hrq
  have hne2 : (atF 2 n q.r != 0) = false := by simp [hz]
  have HZ := Lib.hid hz
  have HQ9 := Lib.hid hq
  have HQL := Lib.hid hql
  have HQF := Lib.hid hql.fits
  clear hm0 hz hq hql
  obtain ⟨nq, hnq⟩ : ∃ z : Rat, ((n : Int) : Rat) = z := ⟨_, rfl⟩
  have HNQ := Lib.hid hnq
  have HNF : Hid (Fits nq ∧ nq ≠ 0) := Lib.hid (by rw [← hnq]; exact ⟨(ln_n (by omega) hn1).fits (by omega) (by omega), n_ne (by omega)⟩)
  obtain ⟨mq, hmq⟩ : ∃ z : Rat, q.x / nq = z := ⟨_, rfl⟩
  obtain ⟨vq, hvq⟩ : ∃ z, vrQ n q = z := ⟨_, rfl⟩
  obtain ⟨eq, heq⟩ : ∃ z : Rat, vq / nq = z := ⟨_, rfl⟩
  have HMM : Hid (meQ n q = mq ∧ vrQ n q = vq ∧ veQ n q = eq) := Lib.hid ⟨by unfold meQ; rw [hnq, hmq], hvq, by unfold veQ; rw [hnq, hvq, heq]⟩
  have HQE := Lib.hid (And.intro hmq heq)
  have HMF : Hid (Fits mq ∧ Fits vq ∧ Fits eq) := Lib.hid (by
   have h := HQL.out.me (by omega) hn1
   have h1 := HQL.out.vr hn0 hn1
   have h2 := HQL.out.ve hn0 hn1
   rw [HMM.out.1] at h
   rw [HMM.out.2.1] at h1
   rw [HMM.out.2.2] at h2
   exact ⟨h.fits (by omega) (by omega), h1.fits (by omega) (by omega), h2.fits (by omega) (by omega)⟩)
  clear hnq hmq hvq heq
  go_wp2_with (first | (refine wpList_load_row rfl _ _ rfl w.heap.size rfl _ (mrA (n) q.r) _ _ HR_m.out Tryz.underlying47 rfl (mr_info _ _) ?_))
  refine (refVariance_at n q.r HOK.out w1' (HT0.out.ext HW.out)).mono ?_
  rintro e w2' ⟨rfl, hbz⟩
  simp only [HZ.out, rtN_0, rtD_0, HQ9.out, HMM.out.2.1]
  replace HR_m := Lib.hid (HR_m.out.ext hbz)
  replace HR_o := Lib.hid (HR_o.out.ext hbz)
  replace HW := Lib.hid (ext_trans HW.out hbz)
  clear hbz
  go_upto_region 2 with (fail)
  refine wp_rows1 fun w3' hbz hR0 => ?_
  have lt_m_v : w.heap.size < w2'.heap.size := HR_m.out.lt
  have lt_o_v : (w.heap.size + 1) < w2'.heap.size := HR_o.out.lt
  have le_v : w.heap.size ≤ w2'.heap.size := HW.out.size
  replace HR_m := Lib.hid (HR_m.out.ext hbz)
  replace HR_o := Lib.hid (HR_o.out.ext hbz)
  replace HW := Lib.hid (ext_trans HW.out hbz)
  clear hbz
  have HR_v : Hid (RH w3' w2'.heap.size #[.string (showN vq), .string (showD vq)] 23) := Lib.hid hR0
  clear hR0
  generalize w2'.heap.size = b_v at *
  obtain ⟨c_m_0, c_m_1, c_m_2, -, -, -, -, -, -, -, -⟩ := zs11 HR_m.out
  obtain ⟨c_v_0, c_v_1⟩ := zs2 HR_v.out
  go_upto_region 4 with (fail)
  refine Grow.wp_region_grow 14 [TP.eq (.pointer (some ⟨w.heap.size, 0, none⟩)), TP.eq (.int .i64 n), TP.eq (.pointer (some ⟨w.heap.size, 1, none⟩)), TP.eq (rtV q.x), TP.eq (.pointer (some ⟨w.heap.size, 0, none⟩)), TP.eq (.int .i64 n), TP.eq (rtV nq), TP.eq (rtV mq), TP.eq (rtV vq), TP.eq (.pointer (some ⟨w.heap.size, 0, none⟩)), TP.eq (.int .i64 n), TP.eq (rtV nq), TP.eq (rtV eq), TP.eq (.agg #[.int .i64 n, .string (showN mq), .string (showD mq), .string (showN eq), .string (showD eq)])] [[], [0], [], [2], [], [4], [5], [3, 6], [], [], [9], [10], [8, 11], [1, 7, 12]] (by kernel_rfl) (by kernel_rfl) ⟨?o0e, ?o1e, ?o2e, ?o3e, ?o4e, ?o5e, ?o6e, ?o7e, ?o8e, ?o9e, ?o10e, ?o11e, ?o12e, ?o13e, trivial⟩ ?_
  case o0e | o2e | o4e | o9e =>
   intro w' hb
   show wpList _ _ _ _ _ _
   go_wp2
   exact ⟨rfl, Below.refl _ _, rfl⟩
  case o1e =>
   intro w' hb v1 hv1
   obtain rfl : v1 = _ := hv1
   have c_m_0' := zzc hb c_m_0
   show wpList _ _ _ _ _ _
   simp only [Grow.dstOf, zz1, zz3, zz4, Act.put, zz5, zz6, zz7]
   go_wp2
   exact ⟨rfl, Below.refl _ _, rfl⟩
  case o3e | o5e | o10e =>
   intro w' hb v1 hv1
   obtain rfl : v1 = _ := hv1
   have c_m_1' := zzc hb c_m_1
   have c_m_2' := zzc hb c_m_2
   have c_m_0' := zzc hb c_m_0
   show wpList _ _ _ _ _ _
   simp only [Grow.dstOf, zz1, zz2, zz3, zz4, Act.put, zz5, zz6, zz7]
   go_wp2
   exact ⟨rfl, Below.refl _ _, rfl⟩
  case o6e | o11e =>
   intro w' hb v1 hv1
   obtain rfl : v1 = _ := hv1
   show wpList _ _ _ _ _ _
   simp only [Grow.dstOf, zz1, zz2, zz3, zz4, Act.put, zz5, zz6, zz7]
   go_wp2_with fail
   refine (whole_z n nq HNQ.out (by omega) (by omega) w' (HT0.out.ext (ext_trans HW.out hb))).mono ?_
   rintro e wz ⟨rfl, hbz⟩
   go_wp2
   exact ⟨rfl, hbz, rfl⟩
  case o7e =>
   intro w' hb v1 hv1 v2 hv2
   obtain rfl : v1 = _ := hv1
   obtain rfl : v2 = _ := hv2
   show wpList _ _ _ _ _ _
   simp only [Grow.dstOf, zz1, zz2, zz3, zz4, Act.put, zz5, zz6, zz7]
   go_wp2_with fail
   refine (over_is q.x nq mq HQE.out.1 HQF.out.x HNF.out.1 HNF.out.2 HMF.out.1 w' (HT0.out.ext (ext_trans HW.out hb))).mono ?_
   rintro e wz ⟨rfl, hbz⟩
   go_wp2
   exact ⟨rfl, hbz, rfl⟩
  case o8e =>
   intro w' hb
   have c_v_0' := zzc hb c_v_0
   have c_v_1' := zzc hb c_v_1
   show wpList _ _ _ _ _ _
   go_wp2
   exact ⟨rfl, Below.refl _ _, rfl⟩
  case o12e =>
   intro w' hb v1 hv1 v2 hv2
   obtain rfl : v1 = _ := hv1
   obtain rfl : v2 = _ := hv2
   show wpList _ _ _ _ _ _
   simp only [Grow.dstOf, zz1, zz2, zz3, zz4, Act.put, zz5, zz6, zz7]
   go_wp2_with fail
   refine (over_is vq nq eq HQE.out.2 HMF.out.2.1 HNF.out.1 HNF.out.2 HMF.out.2.2 w' (HT0.out.ext (ext_trans HW.out hb))).mono ?_
   rintro e wz ⟨rfl, hbz⟩
   go_wp2
   exact ⟨rfl, hbz, rfl⟩
  case o13e =>
   intro w' hb v1 hv1 v2 hv2 v3 hv3
   obtain rfl : v1 = _ := hv1
   obtain rfl : v2 = _ := hv2
   obtain rfl : v3 = _ := hv3
   show wpList _ _ _ _ _ _
   simp only [Grow.dstOf, zz1, zz2, zz3, zz4, Act.put, zz5, zz6, zz7]
   go_wp2
   exact ⟨rfl, Below.refl _ _, rfl⟩
  intro w4' hbz u0 hu0 u1 hu1 u2 hu2 u3 hu3 u4 hu4 u5 hu5 u6 hu6 u7 hu7 u8 hu8 u9 hu9 u10 hu10 u11 hu11 u12 hu12 u13 hu13
  obtain rfl : u13 = _ := hu13
  clear hu0 hu1 hu2 hu3 hu4 hu5 hu6 hu7 hu8 hu9 hu10 hu11 hu12
  replace HR_m := Lib.hid (HR_m.out.ext hbz)
  replace HR_o := Lib.hid (HR_o.out.ext hbz)
  replace HR_v := Lib.hid (HR_v.out.ext hbz)
  replace HW := Lib.hid (ext_trans HW.out hbz)
  clear c_m_0 c_m_1 c_m_2 c_v_0 c_v_1
  clear hbz
  show wpList _ _ _ _ _ _
  simp only [Act.put, zz5, zz6, zz7]
  obtain ⟨c_o_0, c_o_1, c_o_2, c_o_3, c_o_4⟩ := zs5 HR_o.out
  have f_o_0 := HR_o.out.fre 0
  have f_o_1 := HR_o.out.fre 1
  have f_o_2 := HR_o.out.fre 2
  have f_o_3 := HR_o.out.fre 3
  have f_o_4 := HR_o.out.fre 4
  go_wp2
  obtain ⟨w5', hX⟩ : ∃ Z9, Z9 = (((((w4'.setCell ⟨(w.heap.size + 1), 0, none⟩ (.int .i64 n)).setCell ⟨(w.heap.size + 1), 1, none⟩ (.string (showN mq))).setCell ⟨(w.heap.size + 1), 2, none⟩ (.string (showD mq))).setCell ⟨(w.heap.size + 1), 3, none⟩ (.string (showN eq))).setCell ⟨(w.heap.size + 1), 4, none⟩ (.string (showD eq))) := ⟨_, rfl⟩
  rw [← hX]
  have n_o : Hid (RH w5' (w.heap.size + 1) #[.int .i64 n, .string (showN mq), .string (showD mq), .string (showN eq), .string (showD eq)] 55) := by rw [hX]; exact Lib.hid ((((((HR_o.out).set 0 (.int .i64 n)).set 1 (.string (showN mq))).set 2 (.string (showD mq))).set 3 (.string (showN eq))).set 4 (.string (showD eq)))
  have n_m : Hid (RH w5' w.heap.size (mrA (n) q.r) 47) := by rw [hX]; exact Lib.hid (zzo (zzo (zzo (zzo (zzo (HR_m.out) (by omega)) (by omega)) (by omega)) (by omega)) (by omega))
  have n_v : Hid (RH w5' b_v #[.string (showN vq), .string (showD vq)] 23) := by rw [hX]; exact Lib.hid (zzo (zzo (zzo (zzo (zzo (HR_v.out) (by omega)) (by omega)) (by omega)) (by omega)) (by omega))
  have HK_ : ∀ p : Addr, p.block ≠ (w.heap.size + 1) → w5'.cell? p = w4'.cell? p := fun p hp => by rw [hX]; exact (cs_other hp).trans ((cs_other hp).trans ((cs_other hp).trans ((cs_other hp).trans (cs_other hp))))
  have nW : Hid (Below w.heap.size w w5') := by rw [hX]; exact Lib.hid (zzw (zzw (zzw (zzw (zzw (HW.out) (by omega)) (by omega)) (by omega)) (by omega)) (by omega))
  clear c_o_0 c_o_1 c_o_2 c_o_3 c_o_4 f_o_0 f_o_1 f_o_2 f_o_3 f_o_4
  clear hX HK_ HW HR_m HR_o HR_v 
  have HR_m := n_m; clear n_m
  have HR_o := n_o; clear n_o
  have HR_v := n_v; clear n_v
  have HW := nW; clear nW
  refine bodyPost_ret (v := .tuple #[.agg #[.int .i64 n, .string (showN mq), .string (showD mq), .string (showN eq), .string (showD eq)], .int .i64 0]) ?_ rfl ⟨by simp only [HZ.out, rtN_0, rtD_0, nF_0, HQ9.out, HMM.out.1, HMM.out.2.2], HW.out⟩
  have hld := run_loadVar_row (P := Tryz.prog) _ _ _ 55 _ _ _ HR_o.out Tryz.underlying55 rfl (by kernel_rfl : (Tryz.prog.info? 55).map (·.size) = some 5)
  rw [results_cell_tmp rfl]
  simp [asAddr, Result.andThen, hld]
 ·have hne2 : (atF 2 n r != 0) = true := by simp [hz]
  have HNE := Lib.hid hz
  clear hz
  go_wp2_with (first | (refine wpList_load_row rfl _ _ rfl w.heap.size rfl _ (mrA (n) r) _ _ HR_m.out Tryz.underlying47 rfl (mr_info _ _) ?_))
  refine (refVariance_at n r HOK.out w1' (HT0.out.ext HW.out)).mono ?_
  rintro e w2' ⟨rfl, hbz⟩
  simp only [rtN_no HNE.out, rtD_no HNE.out]
  replace HR_m := Lib.hid (HR_m.out.ext hbz)
  replace HR_o := Lib.hid (HR_o.out.ext hbz)
  replace HW := Lib.hid (ext_trans HW.out hbz)
  clear hbz
  go_upto_region 2 with (fail)
  refine wp_rows1 fun w3' hbz hR0 => ?_
  have lt_m_v : w.heap.size < w2'.heap.size := HR_m.out.lt
  have lt_o_v : (w.heap.size + 1) < w2'.heap.size := HR_o.out.lt
  have le_v : w.heap.size ≤ w2'.heap.size := HW.out.size
  replace HR_m := Lib.hid (HR_m.out.ext hbz)
  replace HR_o := Lib.hid (HR_o.out.ext hbz)
  replace HW := Lib.hid (ext_trans HW.out hbz)
  clear hbz
  have HR_v : Hid (RH w3' w2'.heap.size #[.string ⟨#[]⟩, .string ⟨#[]⟩] 23) := Lib.hid hR0
  clear hR0
  generalize w2'.heap.size = b_v at *
  obtain ⟨c_o_0, c_o_1, c_o_2, c_o_3, c_o_4⟩ := zs5 HR_o.out
  have f_o_0 := HR_o.out.fre 0
  have f_o_1 := HR_o.out.fre 1
  have f_o_2 := HR_o.out.fre 2
  have f_o_3 := HR_o.out.fre 3
  have f_o_4 := HR_o.out.fre 4
  go_wp2
  obtain ⟨w4', hX⟩ : ∃ Z9, Z9 = (((((w3'.setCell ⟨(w.heap.size + 1), 0, none⟩ (.int .i64 0)).setCell ⟨(w.heap.size + 1), 1, none⟩ (.string ⟨#[]⟩)).setCell ⟨(w.heap.size + 1), 2, none⟩ (.string ⟨#[]⟩)).setCell ⟨(w.heap.size + 1), 3, none⟩ (.string ⟨#[]⟩)).setCell ⟨(w.heap.size + 1), 4, none⟩ (.string ⟨#[]⟩)) := ⟨_, rfl⟩
  rw [← hX]
  have n_o : Hid (RH w4' (w.heap.size + 1) #[.int .i64 0, .string ⟨#[]⟩, .string ⟨#[]⟩, .string ⟨#[]⟩, .string ⟨#[]⟩] 55) := by rw [hX]; exact Lib.hid ((((((HR_o.out).set 0 (.int .i64 0)).set 1 (.string ⟨#[]⟩)).set 2 (.string ⟨#[]⟩)).set 3 (.string ⟨#[]⟩)).set 4 (.string ⟨#[]⟩))
  have n_m : Hid (RH w4' w.heap.size (mrA (n) r) 47) := by rw [hX]; exact Lib.hid (zzo (zzo (zzo (zzo (zzo (HR_m.out) (by omega)) (by omega)) (by omega)) (by omega)) (by omega))
  have n_v : Hid (RH w4' b_v #[.string ⟨#[]⟩, .string ⟨#[]⟩] 23) := by rw [hX]; exact Lib.hid (zzo (zzo (zzo (zzo (zzo (HR_v.out) (by omega)) (by omega)) (by omega)) (by omega)) (by omega))
  have HK_ : ∀ p : Addr, p.block ≠ (w.heap.size + 1) → w4'.cell? p = w3'.cell? p := fun p hp => by rw [hX]; exact (cs_other hp).trans ((cs_other hp).trans ((cs_other hp).trans ((cs_other hp).trans (cs_other hp))))
  have nW : Hid (Below w.heap.size w w4') := by rw [hX]; exact Lib.hid (zzw (zzw (zzw (zzw (zzw (HW.out) (by omega)) (by omega)) (by omega)) (by omega)) (by omega))
  clear c_o_0 c_o_1 c_o_2 c_o_3 c_o_4 f_o_0 f_o_1 f_o_2 f_o_3 f_o_4
  clear hX HK_ HW HR_m HR_o HR_v 
  have HR_m := n_m; clear n_m
  have HR_o := n_o; clear n_o
  have HR_v := n_v; clear n_v
  have HW := nW; clear nW
  refine bodyPost_ret (v := .tuple #[.agg #[.int .i64 0, .string ⟨#[]⟩, .string ⟨#[]⟩, .string ⟨#[]⟩, .string ⟨#[]⟩], .int .i64 (atF 2 n r)]) ?_ rfl ⟨by simp only [rtN_no HNE.out, rtD_no HNE.out, nF_no HNE.out], HW.out⟩
  have hld := run_loadVar_row (P := Tryz.prog) _ _ _ 55 _ _ _ HR_o.out Tryz.underlying55 rfl (by kernel_rfl : (Tryz.prog.info? 55).map (·.size) = some 5)
  rw [results_cell_tmp rfl]
  simp [asAddr, Result.andThen, hld]
set_option maxRecDepth 100000 in
set_option maxHeartbeats 16000000 in
theorem refAdd_at (n k : Int) (r s : R5) (hok : r.ok) (hok2 : s.ok) (w : World) (ht : Tab w) : Calls Tryz.prog 29 #[.agg (mrA n r), .agg (mrA k s)] w (fun e w' => e = .returned (.tuple #[.agg (adA n k r s), .int .i64 (adF n k r s)]) ∧ Below w.heap.size w w') := by
 have HOK := Lib.hid (And.intro hok hok2)
 clear hok hok2
 go_enter Tryz.func29, Tryz.ntmps29
 have HT0 := Lib.hid ht
 clear ht
 go_upto_region 1 with (fail)
 refine wp_rows3 fun w1' hbz hR0 hR1 hR2 => ?_
 have HR_a : Hid (RH w1' w.heap.size (mrA (n) r) 47) := Lib.hid hR0
 have HR_b : Hid (RH w1' (w.heap.size + 1) (mrA (k) s) 47) := Lib.hid hR1
 have HR_o : Hid (RH w1' (w.heap.size + 2) (mrA (0) r5z) 47) := Lib.hid hR2
 have HW := Lib.hid hbz
 clear hbz hR0 hR1 hR2
 go_wp2_with (first | (refine wpList_load_row rfl _ _ rfl w.heap.size rfl _ (mrA (n) r) _ _ HR_a.out Tryz.underlying47 rfl (mr_info _ _) ?_))
 refine (refCheckMom_at n r HOK.out.1 w1' (HT0.out.ext HW.out)).mono ?_
 rintro e w2' ⟨rfl, hbz⟩
 replace HR_a := Lib.hid (HR_a.out.ext hbz)
 replace HR_b := Lib.hid (HR_b.out.ext hbz)
 replace HR_o := Lib.hid (HR_o.out.ext hbz)
 replace HW := Lib.hid (ext_trans HW.out hbz)
 clear hbz
 by_cases hz : momF n r = 0
 ·have hne2 : (momF n r != 0) = false := by simp [hz]
  have HZ := Lib.hid hz
  clear hz
  go_wp2_with (first | (refine wpList_load_row rfl _ _ rfl (w.heap.size + 1) rfl _ (mrA (k) s) _ _ HR_b.out Tryz.underlying47 rfl (mr_info _ _) ?_))
  refine (refCheckMom_at k s HOK.out.2 w2' (HT0.out.ext HW.out)).mono ?_
  rintro e w3' ⟨rfl, hbz⟩
  replace HR_a := Lib.hid (HR_a.out.ext hbz)
  replace HR_b := Lib.hid (HR_b.out.ext hbz)
  replace HR_o := Lib.hid (HR_o.out.ext hbz)
  replace HW := Lib.hid (ext_trans HW.out hbz)
  clear hbz
  by_cases hz : momF k s = 0
  ·have hne3 : (momF k s != 0) = false := by simp [hz]
   have HZ2 := Lib.hid hz
   clear hz
   have HAD : Hid (n + k ≤ 20000 → adA n k r s = wrA (n + k) (q5a r.q s.q) ∧ adF n k r s = wrF (q5a r.q s.q)) := Lib.hid (ad_wr HZ.out HZ2.out)
   have HA2 : Hid (20000 < n + k → adF n k r s = 2) := Lib.hid (fun hl => by unfold adF; rw [if_neg (fun h => h HZ.out), if_neg (fun h => h HZ2.out), if_pos hl])
   obtain ⟨g1, g2, g3, g7⟩ := mom_ql HZ.out
   obtain ⟨g4, g5, g6, g8⟩ := mom_ql HZ2.out
   have hwr : IntKind.i64.wrap (n + k) = n + k := IntWalk.i64_in _ (by omega)
   obtain ⟨qa, hqa⟩ : ∃ z, r.q = z := ⟨_, rfl⟩
   obtain ⟨qb, hqb⟩ : ∃ z, s.q = z := ⟨_, rfl⟩
   rw [hqa] at g3 g7
   rw [hqb] at g6 g8
   subst g7
   subst g8
   rw [hqa, hqb] at HAD
   obtain ⟨qs, hqs⟩ : ∃ z, q5a qa qb = z := ⟨_, rfl⟩
   have HL := Lib.hid (ql_add g3 g6)
   have HFF : Hid ((Fits qa.x ∧ Fits qa.y ∧ Fits qa.xx ∧ Fits qa.yy ∧ Fits qa.xy) ∧ Fits qb.x ∧ Fits qb.y ∧ Fits qb.xx ∧ Fits qb.yy ∧ Fits qb.xy) := Lib.hid ⟨⟨g3.fits.x, g3.fits.y, g3.fits.xx, g3.fits.yy, g3.fits.xy⟩, g6.fits.x, g6.fits.y, g6.fits.xx, g6.fits.yy, g6.fits.xy⟩
   have HSF : Hid (Fits qs.x ∧ Fits qs.y ∧ Fits qs.xx ∧ Fits qs.yy ∧ Fits qs.xy) := Lib.hid (by rw [← hqs]; exact ⟨HL.out.1.fits (by omega) (by omega), HL.out.2.1.fits (by omega) (by omega), HL.out.2.2.1.fits (by omega) (by omega), HL.out.2.2.2.1.fits (by omega) (by omega), HL.out.2.2.2.2.fits (by omega) (by omega)⟩)
   have HSE : Hid (qa.x + qb.x = qs.x ∧ qa.y + qb.y = qs.y ∧ qa.xx + qb.xx = qs.xx ∧ qa.yy + qb.yy = qs.yy ∧ qa.xy + qb.xy = qs.xy) := Lib.hid (by rw [← hqs]; exact ⟨rfl, rfl, rfl, rfl, rfl⟩)
   rw [hqs] at HAD
   have HQB := Lib.hid (And.intro hqa hqb)
   have HWR := Lib.hid hwr
   clear hqa hqb hqs g3 g6
   go_wp2_with (first | (refine wpList_load_row rfl _ _ rfl w.heap.size rfl _ (mrA (n) qa.r) _ _ HR_a.out Tryz.underlying47 rfl (mr_info _ _) ?_) | (refine wpList_load_row rfl _ _ rfl (w.heap.size + 1) rfl _ (mrA (k) qb.r) _ _ HR_b.out Tryz.underlying47 rfl (mr_info _ _) ?_))
   refine (refPlus_at n k (n + k) HWR.out qa.x qa.y qa.xx qa.yy qa.xy qb.x qb.y qb.xx qb.yy qb.xy qs.x qs.y qs.xx qs.yy qs.xy HSE.out HFF.out.1 HFF.out.2 HSF.out w3' (HT0.out.ext HW.out)).mono ?_
   rintro e w4' ⟨rfl, hbz⟩
   replace HR_a := Lib.hid (HR_a.out.ext hbz)
   replace HR_b := Lib.hid (HR_b.out.ext hbz)
   replace HR_o := Lib.hid (HR_o.out.ext hbz)
   replace HW := Lib.hid (ext_trans HW.out hbz)
   clear hbz
   have hsz : (mrA (n + k) qs.r).size = 11 := rfl
   have hsc := run_storeCells_new (P := Tryz.prog) w4' 47 #[.int .i64 0, .string ⟨#[]⟩, .string ⟨#[]⟩, .string ⟨#[]⟩, .string ⟨#[]⟩, .string ⟨#[]⟩, .string ⟨#[]⟩, .string ⟨#[]⟩, .string ⟨#[]⟩, .string ⟨#[]⟩, .string ⟨#[]⟩] (mrA (n + k) qs.r) (mr_info _ _) rfl (mr_all _ _)
   go_upto_region 8 with (fail)
   clear hsc hsz
   refine wp_rows1 fun w5' hbz hR0 => ?_
   have lt_a_p : w.heap.size < w4'.heap.size := HR_a.out.lt
   have lt_b_p : (w.heap.size + 1) < w4'.heap.size := HR_b.out.lt
   have lt_o_p : (w.heap.size + 2) < w4'.heap.size := HR_o.out.lt
   have le_p : w.heap.size ≤ w4'.heap.size := HW.out.size
   replace HR_a := Lib.hid (HR_a.out.ext hbz)
   replace HR_b := Lib.hid (HR_b.out.ext hbz)
   replace HR_o := Lib.hid (HR_o.out.ext hbz)
   replace HW := Lib.hid (ext_trans HW.out hbz)
   clear hbz
   have HR_p : Hid (RH w5' w4'.heap.size (mrA (n + k) qs.r) 47) := Lib.hid hR0
   clear hR0
   generalize w4'.heap.size = b_p at *
   obtain ⟨c_p_0, -, -, -, -, -, -, -, -, -, -⟩ := zs11 HR_p.out
   by_cases hl : 20000 < n + k
   ·have HP : Hid (adF n k qa.r qb.r = 2) := Lib.hid (HA2.out hl)
    have HNE : Hid ((2 : Int) ≠ 0) := Lib.hid (by decide)
    go_wp2_with (first | (refine wpList_store_row rfl _ _ _ rfl (w.heap.size + 2) (mrA (0) r5z) rfl rfl _ _ HR_o.out (mr_info _ _) rfl (mr_all _ _) ?_))
    obtain ⟨w6', hX⟩ : ∃ Z9, Z9 = w5'.setRow (w.heap.size + 2) (mrA (0) r5z) := ⟨_, rfl⟩
    rw [← hX]
    have n_o : Hid (RH w6' (w.heap.size + 2) (mrA (0) r5z) 47) := by rw [hX]; exact Lib.hid (HR_o.out.row _)
    have n_a : Hid (RH w6' w.heap.size (mrA (n) qa.r) 47) := by rw [hX]; exact Lib.hid (HR_a.out.row_other (show w.heap.size ≠ (w.heap.size + 2) by omega) _)
    have n_b : Hid (RH w6' (w.heap.size + 1) (mrA (k) qb.r) 47) := by rw [hX]; exact Lib.hid (HR_b.out.row_other (show (w.heap.size + 1) ≠ (w.heap.size + 2) by omega) _)
    have n_p : Hid (RH w6' b_p (mrA (n + k) qs.r) 47) := by rw [hX]; exact Lib.hid (HR_p.out.row_other (show b_p ≠ (w.heap.size + 2) by omega) _)
    have HK_ : ∀ p : Addr, p.block ≠ (w.heap.size + 2) → w6'.cell? p = w5'.cell? p := fun p hp => by rw [hX]; exact cell_setRow_other _ _ _ p hp
    have nW : Hid (Below w.heap.size w w6') := by rw [hX]; exact Lib.hid (below_setRow HW.out (show w.heap.size ≤ (w.heap.size + 2) by omega) _)
    clear c_p_0
    clear hX HK_ HW HR_a HR_b HR_o HR_p 
    have HR_a := n_a; clear n_a
    have HR_b := n_b; clear n_b
    have HR_o := n_o; clear n_o
    have HR_p := n_p; clear n_p
    have HW := nW; clear nW
    refine bodyPost_ret (v := .tuple #[.agg (mrA (0) r5z), .int .i64 2]) ?_ rfl ⟨by rw [ad_no HP.out HNE.out, HP.out], HW.out⟩
    have hld := run_loadVar_row (P := Tryz.prog) _ _ _ 47 _ _ _ HR_o.out Tryz.underlying47 rfl (mr_info _ _)
    rw [results_cell_tmp rfl]
    simp [asAddr, Result.andThen, hld]
   ·have HV := Lib.hid (HAD.out (by omega))
    have hl2 : ¬ (20000 : Int) < n + k := hl
    go_wp2_with (first | (refine wpList_load_row rfl _ _ rfl b_p rfl _ (mrA (n + k) qs.r) _ _ HR_p.out Tryz.underlying47 rfl (mr_info _ _) ?_))
    refine (sums_at (n + k) qs.r w5').mono ?_
    rintro e w6' ⟨g, rfl, hs9, hbz⟩
    clear hl hl2 hwr g1 g2 g4 g5
    replace HR_a := Lib.hid (HR_a.out.ext hbz)
    replace HR_b := Lib.hid (HR_b.out.ext hbz)
    replace HR_o := Lib.hid (HR_o.out.ext hbz)
    replace HR_p := Lib.hid (HR_p.out.ext hbz)
    replace HW := Lib.hid (ext_trans HW.out hbz)
    clear c_p_0
    clear hbz
    have HSL : Hid (Sl w6' (.slice (some ⟨g, 0, none⟩) 5 5) 5 (qs.r.l.flatMap rtL)) := Lib.hid hs9
    clear hs9
    go_wp2
    go_loopw [33] (fun i wr => ∃ j : Nat, j ≤ 5 ∧ i = .int .i64 (j : Int) ∧ Hid (lgK qs j = false) ∧ (RH wr w.heap.size (mrA (n) qa.r) 47) ∧ (RH wr (w.heap.size + 1) (mrA (k) qb.r) 47) ∧ (RH wr (w.heap.size + 2) (mrA (0) r5z) 47) ∧ (RH wr b_p (mrA (n + k) qs.r) 47) ∧ (Sl wr (.slice (some ⟨g, 0, none⟩) 5 5) 5 (qs.r.l.flatMap rtL)) ∧ (Below w.heap.size w wr)) (fun i _ => 5 - (intOf i).toNat)
    case atStart => exact ⟨0, by omega, rfl, Lib.hid rfl, HR_a.out, HR_b.out, HR_o.out, HR_p.out, HSL.out, HW.out⟩
    case round =>
     obtain ⟨j, hj, rfl, HK, q_HR_a, q_HR_b, q_HR_o, q_HR_p, q_HSL, q_HW⟩ := hrel
     clear HR_a HR_b HR_o HR_p HSL HW
     have HR_a := Lib.hid q_HR_a
     have HR_b := Lib.hid q_HR_b
     have HR_o := Lib.hid q_HR_o
     have HR_p := Lib.hid q_HR_p
     have HSL := Lib.hid q_HSL
     have HW := Lib.hid q_HW
     clear q_HR_a q_HR_b q_HR_o q_HR_p q_HSL q_HW
     generalize hX : wr = X at *
     clear hX
     by_cases hlt : j < 5
     ·have hgk := fq_get (q := qs) hlt
      obtain ⟨qk, hqk⟩ : ∃ z, fq qs j = z := ⟨_, rfl⟩
      rw [hqk] at hgk
      obtain ⟨pb, po, hp9, hcs⟩ := HSL.out.elem (f := rtL) (fun _ => rfl) (by omega : 0 < 2) hgk
      have e0 := hcs 0 _ rfl
      have e1 := hcs 1 _ rfl
      rw [Nat.add_zero] at e0
      simp only [shR] at e0 e1
      cases hp9
      have hk0 : (0 : Int) ≤ (j : Int) := Int.natCast_nonneg _
      have hk1 : (j : Int) < 5 := by omega
      have hk3 : (j : Int).toNat = j := by omega
      clear hcs hgk
      rw [Nat.zero_add] at e0 e1
      have HFK : Hid (Fits qk) := Lib.hid (by
       rw [← hqk]
       match j, hlt with
       | 0, _ => exact HSF.out.1
       | 1, _ => exact HSF.out.2.1
       | 2, _ => exact HSF.out.2.2.1
       | 3, _ => exact HSF.out.2.2.2.1
       | 4, _ => exact HSF.out.2.2.2.2)
      have HLB : Hid (lgB (fq qs j) = decide (100 < (cutS (showN qk)).size)) := Lib.hid (by rw [hqk]; rfl)
      clear hqk
      go_upto_region 13 with (fail)
      refine wp_rows1 fun w7' hbz hR0 => ?_
      have lt_a_e : w.heap.size < X.heap.size := HR_a.out.lt
      have lt_b_e : (w.heap.size + 1) < X.heap.size := HR_b.out.lt
      have lt_o_e : (w.heap.size + 2) < X.heap.size := HR_o.out.lt
      have lt_p_e : b_p < X.heap.size := HR_p.out.lt
      have le_e : w.heap.size ≤ X.heap.size := HW.out.size
      replace HR_a := Lib.hid (HR_a.out.ext hbz)
      replace HR_b := Lib.hid (HR_b.out.ext hbz)
      replace HR_o := Lib.hid (HR_o.out.ext hbz)
      replace HR_p := Lib.hid (HR_p.out.ext hbz)
      replace HSL := Lib.hid (HSL.out.ext hbz)
      replace HW := Lib.hid (ext_trans HW.out hbz)
      clear e0 e1
      clear hbz
      have HR_e : Hid (RH w7' X.heap.size #[.string (showN qk), .string (showD qk)] 23) := Lib.hid hR0
      clear hR0
      generalize X.heap.size = b_e at *
      obtain ⟨c_e_0, c_e_1⟩ := zs2 HR_e.out
      have hcz := cutS_size (showN qk)
      have hcy := (show_size HFK.out).1
      unfold maxLen at hcy
      go_wp2_with fail
      refine (trimPrefix_at (showN qk) (show_size HFK.out).1 w7').mono ?_
      rintro e w8' ⟨rfl, hw9⟩
      have hbz : Below w7'.heap.size w7' w8' := by rw [← hw9]; exact Below.refl _ _
      clear hw9
      replace HR_a := Lib.hid (HR_a.out.ext hbz)
      replace HR_b := Lib.hid (HR_b.out.ext hbz)
      replace HR_o := Lib.hid (HR_o.out.ext hbz)
      replace HR_p := Lib.hid (HR_p.out.ext hbz)
      replace HR_e := Lib.hid (HR_e.out.ext hbz)
      replace HSL := Lib.hid (HSL.out.ext hbz)
      replace HW := Lib.hid (ext_trans HW.out hbz)
      clear c_e_0 c_e_1
      clear hbz
      obtain ⟨sz, hsz9⟩ : ∃ z, (cutS (showN qk)).size = z := ⟨_, rfl⟩
      rw [hsz9] at hcz HLB
      by_cases hl : 100 < sz
      ·have HVL : Hid (lgL qs = true) := Lib.hid (lgK_more hlt (by rw [HLB.out]; exact decide_eq_true hl))
       have hl2 : (100 : Int) < ((cutS (showN qk)).size : Int) := by rw [hsz9]; omega
       clear hsz9
       have HP : Hid (adF n k qa.r qb.r = 2) := Lib.hid (by rw [HV.out.2]; unfold wrF; rw [HVL.out]; rfl)
       have HNE : Hid ((2 : Int) ≠ 0) := Lib.hid (by decide)
       clear HSL
       go_wp2_with (first | (refine wpList_store_row rfl _ _ _ rfl (w.heap.size + 2) (mrA (0) r5z) rfl rfl _ _ HR_o.out (mr_info _ _) rfl (mr_all _ _) ?_))
       obtain ⟨w9', hX⟩ : ∃ Z9, Z9 = w8'.setRow (w.heap.size + 2) (mrA (0) r5z) := ⟨_, rfl⟩
       rw [← hX]
       have n_o : Hid (RH w9' (w.heap.size + 2) (mrA (0) r5z) 47) := by rw [hX]; exact Lib.hid (HR_o.out.row _)
       have n_a : Hid (RH w9' w.heap.size (mrA (n) qa.r) 47) := by rw [hX]; exact Lib.hid (HR_a.out.row_other (show w.heap.size ≠ (w.heap.size + 2) by omega) _)
       have n_b : Hid (RH w9' (w.heap.size + 1) (mrA (k) qb.r) 47) := by rw [hX]; exact Lib.hid (HR_b.out.row_other (show (w.heap.size + 1) ≠ (w.heap.size + 2) by omega) _)
       have n_p : Hid (RH w9' b_p (mrA (n + k) qs.r) 47) := by rw [hX]; exact Lib.hid (HR_p.out.row_other (show b_p ≠ (w.heap.size + 2) by omega) _)
       have n_e : Hid (RH w9' b_e #[.string (showN qk), .string (showD qk)] 23) := by rw [hX]; exact Lib.hid (HR_e.out.row_other (show b_e ≠ (w.heap.size + 2) by omega) _)
       have HK_ : ∀ p : Addr, p.block ≠ (w.heap.size + 2) → w9'.cell? p = w8'.cell? p := fun p hp => by rw [hX]; exact cell_setRow_other _ _ _ p hp
       have nW : Hid (Below w.heap.size w w9') := by rw [hX]; exact Lib.hid (below_setRow HW.out (show w.heap.size ≤ (w.heap.size + 2) by omega) _)
       clear hX HK_ HW HR_a HR_b HR_o HR_p HR_e 
       have HR_a := n_a; clear n_a
       have HR_b := n_b; clear n_b
       have HR_o := n_o; clear n_o
       have HR_p := n_p; clear n_p
       have HR_e := n_e; clear n_e
       have HW := nW; clear nW
       refine bodyPost_ret (v := .tuple #[.agg (mrA (0) r5z), .int .i64 2]) ?_ rfl ⟨by rw [ad_no HP.out HNE.out, HP.out], HW.out⟩
       have hld := run_loadVar_row (P := Tryz.prog) _ _ _ 47 _ _ _ HR_o.out Tryz.underlying47 rfl (mr_info _ _)
       rw [results_cell_tmp rfl]
       simp [asAddr, Result.andThen, hld]
      ·have HN : Hid (lgK qs (j + 1) = false) := Lib.hid (by rw [lgK_step hlt, HK.out, HLB.out, decide_eq_false hl]; rfl)
       have hl2 : ¬ (100 : Int) < ((cutS (showN qk)).size : Int) := by rw [hsz9]; omega
       clear hsz9
       clear HR_e
       go_wp2
       go_roundw
       case rel => exact ⟨j + 1, by omega, by go_num, HN, HR_a.out, HR_b.out, HR_o.out, HR_p.out, HSL.out, HW.out⟩
       case measure => simp [intOf]; omega
     ·obtain rfl : j = 5 := by omega
      have HVL : Hid (lgL qs = false) := HK
      have HE : Hid (adA n k qa.r qb.r = mrA (n + k) qs.r ∧ adF n k qa.r qb.r = 0) := Lib.hid (by
       rw [HV.out.1, HV.out.2]
       unfold wrA wrF
       rw [HVL.out]; exact ⟨rfl, rfl⟩)
      clear HSL
      go_wp2_with (first | (refine wpList_load_row rfl _ _ rfl b_p rfl _ (mrA (n + k) qs.r) _ _ HR_p.out Tryz.underlying47 rfl (mr_info _ _) ?_) | (refine wpList_store_row rfl _ _ _ rfl (w.heap.size + 2) (mrA (n + k) qs.r) rfl rfl _ _ HR_o.out (mr_info _ _) rfl (mr_all _ _) ?_))
      obtain ⟨w7', hX⟩ : ∃ Z9, Z9 = X.setRow (w.heap.size + 2) (mrA (n + k) qs.r) := ⟨_, rfl⟩
      rw [← hX]
      have n_o : Hid (RH w7' (w.heap.size + 2) (mrA (n + k) qs.r) 47) := by rw [hX]; exact Lib.hid (HR_o.out.row _)
      have n_a : Hid (RH w7' w.heap.size (mrA (n) qa.r) 47) := by rw [hX]; exact Lib.hid (HR_a.out.row_other (show w.heap.size ≠ (w.heap.size + 2) by omega) _)
      have n_b : Hid (RH w7' (w.heap.size + 1) (mrA (k) qb.r) 47) := by rw [hX]; exact Lib.hid (HR_b.out.row_other (show (w.heap.size + 1) ≠ (w.heap.size + 2) by omega) _)
      have n_p : Hid (RH w7' b_p (mrA (n + k) qs.r) 47) := by rw [hX]; exact Lib.hid (HR_p.out.row_other (show b_p ≠ (w.heap.size + 2) by omega) _)
      have HK_ : ∀ p : Addr, p.block ≠ (w.heap.size + 2) → w7'.cell? p = X.cell? p := fun p hp => by rw [hX]; exact cell_setRow_other _ _ _ p hp
      have nW : Hid (Below w.heap.size w w7') := by rw [hX]; exact Lib.hid (below_setRow HW.out (show w.heap.size ≤ (w.heap.size + 2) by omega) _)
      clear hX HK_ HW HR_a HR_b HR_o HR_p 
      have HR_a := n_a; clear n_a
      have HR_b := n_b; clear n_b
      have HR_o := n_o; clear n_o
      have HR_p := n_p; clear n_p
      have HW := nW; clear nW
      refine bodyPost_ret (v := .tuple #[.agg (mrA (n + k) qs.r), .int .i64 0]) ?_ rfl ⟨by rw [HE.out.1, HE.out.2], HW.out⟩
      have hld := run_loadVar_row (P := Tryz.prog) _ _ _ 47 _ _ _ HR_o.out Tryz.underlying47 rfl (mr_info _ _)
      rw [results_cell_tmp rfl]
      simp [asAddr, Result.andThen, hld]
  ·have hne3 : (momF k s != 0) = true := by simp [hz]
   have HP : Hid (adF n k r s = momF k s) := Lib.hid (by unfold adF; rw [if_neg (fun h => h HZ.out), if_pos hz])
   have HNE := Lib.hid hz
   clear hz
   go_wp2_with (first | (refine wpList_store_row rfl _ _ _ rfl (w.heap.size + 2) (mrA (0) r5z) rfl rfl _ _ HR_o.out (mr_info _ _) rfl (mr_all _ _) ?_))
   obtain ⟨w4', hX⟩ : ∃ Z9, Z9 = w3'.setRow (w.heap.size + 2) (mrA (0) r5z) := ⟨_, rfl⟩
   rw [← hX]
   have n_o : Hid (RH w4' (w.heap.size + 2) (mrA (0) r5z) 47) := by rw [hX]; exact Lib.hid (HR_o.out.row _)
   have n_a : Hid (RH w4' w.heap.size (mrA (n) r) 47) := by rw [hX]; exact Lib.hid (HR_a.out.row_other (show w.heap.size ≠ (w.heap.size + 2) by omega) _)
   have n_b : Hid (RH w4' (w.heap.size + 1) (mrA (k) s) 47) := by rw [hX]; exact Lib.hid (HR_b.out.row_other (show (w.heap.size + 1) ≠ (w.heap.size + 2) by omega) _)
   have HK_ : ∀ p : Addr, p.block ≠ (w.heap.size + 2) → w4'.cell? p = w3'.cell? p := fun p hp => by rw [hX]; exact cell_setRow_other _ _ _ p hp
   have nW : Hid (Below w.heap.size w w4') := by rw [hX]; exact Lib.hid (below_setRow HW.out (show w.heap.size ≤ (w.heap.size + 2) by omega) _)
   clear hX HK_ HW HR_a HR_b HR_o 
   have HR_a := n_a; clear n_a
   have HR_b := n_b; clear n_b
   have HR_o := n_o; clear n_o
   have HW := nW; clear nW
   refine bodyPost_ret (v := .tuple #[.agg (mrA (0) r5z), .int .i64 (momF k s)]) ?_ rfl ⟨by rw [ad_no HP.out HNE.out, HP.out], HW.out⟩
   have hld := run_loadVar_row (P := Tryz.prog) _ _ _ 47 _ _ _ HR_o.out Tryz.underlying47 rfl (mr_info _ _)
   rw [results_cell_tmp rfl]
   simp [asAddr, Result.andThen, hld]
 ·have hne2 : (momF n r != 0) = true := by simp [hz]
  have HP : Hid (adF n k r s = momF n r) := Lib.hid (by unfold adF; rw [if_pos hz])
  have HNE := Lib.hid hz
  clear hz
  go_wp2_with (first | (refine wpList_store_row rfl _ _ _ rfl (w.heap.size + 2) (mrA (0) r5z) rfl rfl _ _ HR_o.out (mr_info _ _) rfl (mr_all _ _) ?_))
  obtain ⟨w3', hX⟩ : ∃ Z9, Z9 = w2'.setRow (w.heap.size + 2) (mrA (0) r5z) := ⟨_, rfl⟩
  rw [← hX]
  have n_o : Hid (RH w3' (w.heap.size + 2) (mrA (0) r5z) 47) := by rw [hX]; exact Lib.hid (HR_o.out.row _)
  have n_a : Hid (RH w3' w.heap.size (mrA (n) r) 47) := by rw [hX]; exact Lib.hid (HR_a.out.row_other (show w.heap.size ≠ (w.heap.size + 2) by omega) _)
  have n_b : Hid (RH w3' (w.heap.size + 1) (mrA (k) s) 47) := by rw [hX]; exact Lib.hid (HR_b.out.row_other (show (w.heap.size + 1) ≠ (w.heap.size + 2) by omega) _)
  have HK_ : ∀ p : Addr, p.block ≠ (w.heap.size + 2) → w3'.cell? p = w2'.cell? p := fun p hp => by rw [hX]; exact cell_setRow_other _ _ _ p hp
  have nW : Hid (Below w.heap.size w w3') := by rw [hX]; exact Lib.hid (below_setRow HW.out (show w.heap.size ≤ (w.heap.size + 2) by omega) _)
  clear hX HK_ HW HR_a HR_b HR_o 
  have HR_a := n_a; clear n_a
  have HR_b := n_b; clear n_b
  have HR_o := n_o; clear n_o
  have HW := nW; clear nW
  refine bodyPost_ret (v := .tuple #[.agg (mrA (0) r5z), .int .i64 (momF n r)]) ?_ rfl ⟨by rw [ad_no HP.out HNE.out, HP.out], HW.out⟩
  have hld := run_loadVar_row (P := Tryz.prog) _ _ _ 47 _ _ _ HR_o.out Tryz.underlying47 rfl (mr_info _ _)
  rw [results_cell_tmp rfl]
  simp [asAddr, Result.andThen, hld]
end Nt
end Go.Proofs.YtilolnjbpokdnaaGreatDoor
namespace Go.Proofs.YtilolnjbpokdnaaGreatDoor
open Go.RowKit
namespace Nm
open _root_.Go.Proofs.YtilolnjbpokdnaaGreatDoor.Nt (RH RH.cell RH.box RH.row RH.lt RH.new RH.ext RH.fre RH.set RH.other RH.row_other store_cells Tab Tab.ext)
set_option maxRecDepth 100000 in
set_option maxHeartbeats 16000000 in
theorem lawMom_at (n k : Int) (r s : R5) (hok : r.ok) (hok2 : s.ok) (w : World) (ht : Tab w) :
  Calls Tryz.prog 7 #[.agg (mrA n r), .agg (mrA k s)] w fun e w' => e = .returned (.bool true) ∧ Below w.heap.size w w' := by
 have HOK := Lib.hid (And.intro hok hok2)
 clear hok hok2
 obtain ⟨n3, hn3⟩ : ∃ z, (if adF n k r s = 0 then n + k else 0) = z := ⟨_, rfl⟩
 obtain ⟨r3, hr3⟩ : ∃ z, (if adF n k r s = 0 then (q5a r.q s.q).r else r5z) = z := ⟨_, rfl⟩
 obtain ⟨f3, hf3⟩ : ∃ z, adF n k r s = z := ⟨_, rfl⟩
 have HAD : Hid (adA n k r s = mrA n3 r3 ∧ adF n k r s = f3) := Lib.hid ⟨by unfold adA; rw [hn3, hr3], hf3⟩
 clear hn3 hr3 hf3
 obtain ⟨fm, hfm⟩ : ∃ z, momF n r = z := ⟨_, rfl⟩
 have HFM := Lib.hid hfm
 clear hfm
 obtain ⟨fa, hfa⟩ : ∃ z, atF 1 n r = z := ⟨_, rfl⟩
 obtain ⟨na0, hna0⟩ : ∃ z, rtN (atF 1 n r) (meQ n r.q) = z := ⟨_, rfl⟩
 obtain ⟨da0, hda0⟩ : ∃ z, rtD (atF 1 n r) (meQ n r.q) = z := ⟨_, rfl⟩
 have H_a := Lib.hid (And.intro hna0 (And.intro hda0 hfa))
 clear hfa hna0 hda0
 obtain ⟨fb, hfb⟩ : ∃ z, atF 2 n r = z := ⟨_, rfl⟩
 obtain ⟨nb0, hnb0⟩ : ∃ z, rtN (atF 2 n r) (vrQ n r.q) = z := ⟨_, rfl⟩
 obtain ⟨db0, hdb0⟩ : ∃ z, rtD (atF 2 n r) (vrQ n r.q) = z := ⟨_, rfl⟩
 have H_b := Lib.hid (And.intro hnb0 (And.intro hdb0 hfb))
 clear hfb hnb0 hdb0
 obtain ⟨fc, hfc⟩ : ∃ z, atF 1 n r = z := ⟨_, rfl⟩
 obtain ⟨nc0, hnc0⟩ : ∃ z, rtN (atF 1 n r) (spA n r.q) = z := ⟨_, rfl⟩
 obtain ⟨dc0, hdc0⟩ : ∃ z, rtD (atF 1 n r) (spA n r.q) = z := ⟨_, rfl⟩
 obtain ⟨nc1, hnc1⟩ : ∃ z, rtN (atF 1 n r) (spB n r.q) = z := ⟨_, rfl⟩
 obtain ⟨dc1, hdc1⟩ : ∃ z, rtD (atF 1 n r) (spB n r.q) = z := ⟨_, rfl⟩
 obtain ⟨nc2, hnc2⟩ : ∃ z, rtN (atF 1 n r) (spC n r.q) = z := ⟨_, rfl⟩
 obtain ⟨dc2, hdc2⟩ : ∃ z, rtD (atF 1 n r) (spC n r.q) = z := ⟨_, rfl⟩
 have H_c := Lib.hid (And.intro hnc0 (And.intro hdc0 (And.intro hnc1 (And.intro hdc1 (And.intro hnc2 (And.intro hdc2 hfc))))))
 clear hfc hnc0 hdc0 hnc1 hdc1 hnc2 hdc2
 obtain ⟨fe, hfe⟩ : ∃ z, atF 2 n r = z := ⟨_, rfl⟩
 obtain ⟨ne0, hne0⟩ : ∃ z, rtN (atF 2 n r) (meQ n r.q) = z := ⟨_, rfl⟩
 obtain ⟨de0, hde0⟩ : ∃ z, rtD (atF 2 n r) (meQ n r.q) = z := ⟨_, rfl⟩
 obtain ⟨ne1, hne1⟩ : ∃ z, rtN (atF 2 n r) (veQ n r.q) = z := ⟨_, rfl⟩
 obtain ⟨de1, hde1⟩ : ∃ z, rtD (atF 2 n r) (veQ n r.q) = z := ⟨_, rfl⟩
 have H_e := Lib.hid (And.intro hne0 (And.intro hde0 (And.intro hne1 (And.intro hde1 hfe))))
 clear hfe hne0 hde0 hne1 hde1
 obtain ⟨ne, hne⟩ : ∃ z, nF (atF 2 n r) n = z := ⟨_, rfl⟩
 have HNE := Lib.hid hne
 clear hne
 go_enter Tryz.func7, Tryz.ntmps7
 have HT0 := Lib.hid ht
 clear ht
 go_upto_region 1 with (fail)
 refine wp_rows2 fun w1' hbz hR0 hR1 => ?_
 have HR_m : Hid (RH w1' w.heap.size (mrA (n) r) 47) := Lib.hid hR0
 have HR_m2 : Hid (RH w1' (w.heap.size + 1) (mrA (k) s) 47) := Lib.hid hR1
 have HW := Lib.hid hbz
 clear hbz hR0 hR1
 go_wp2_with (first | (refine wpList_load_row rfl _ _ rfl w.heap.size rfl _ (mrA (n) r) _ _ HR_m.out Tryz.underlying47 rfl (mr_info _ _) ?_) | (refine wpList_load_row rfl _ _ rfl (w.heap.size + 1) rfl _ (mrA (k) s) _ _ HR_m2.out Tryz.underlying47 rfl (mr_info _ _) ?_))
 refine (addMom_at n k r s HOK.out.1 HOK.out.2 w1').mono ?_
 rintro e w2' ⟨rfl, hbz⟩
 rw [HAD.out.1, HAD.out.2]
 replace HR_m := Lib.hid (HR_m.out.ext hbz)
 replace HR_m2 := Lib.hid (HR_m2.out.ext hbz)
 replace HW := Lib.hid (ext_trans HW.out hbz)
 clear hbz
 have hsz : (mrA (n3) r3).size = 11 := rfl
 have hsc := run_storeCells_new (P := Tryz.prog) w2' 47 #[.int .i64 0, .string ⟨#[]⟩, .string ⟨#[]⟩, .string ⟨#[]⟩, .string ⟨#[]⟩, .string ⟨#[]⟩, .string ⟨#[]⟩, .string ⟨#[]⟩, .string ⟨#[]⟩, .string ⟨#[]⟩, .string ⟨#[]⟩] (mrA (n3) r3) (mr_info _ _) rfl (mr_all _ _)
 go_upto_region 2 with (fail)
 clear hsc hsz
 refine wp_rows1 fun w3' hbz hR0 => ?_
 have lt_m_x : w.heap.size < w2'.heap.size := HR_m.out.lt
 have lt_m2_x : (w.heap.size + 1) < w2'.heap.size := HR_m2.out.lt
 have le_x : w.heap.size ≤ w2'.heap.size := HW.out.size
 replace HR_m := Lib.hid (HR_m.out.ext hbz)
 replace HR_m2 := Lib.hid (HR_m2.out.ext hbz)
 replace HW := Lib.hid (ext_trans HW.out hbz)
 clear hbz
 have HR_x : Hid (RH w3' w2'.heap.size (mrA (n3) r3) 47) := Lib.hid hR0
 clear hR0
 generalize w2'.heap.size = b_x at *
 go_wp2_with (first | (refine wpList_load_row rfl _ _ rfl w.heap.size rfl _ (mrA (n) r) _ _ HR_m.out Tryz.underlying47 rfl (mr_info _ _) ?_) | (refine wpList_load_row rfl _ _ rfl (w.heap.size + 1) rfl _ (mrA (k) s) _ _ HR_m2.out Tryz.underlying47 rfl (mr_info _ _) ?_))
 refine (Nt.refAdd_at n k r s HOK.out.1 HOK.out.2 w3' (HT0.out.ext HW.out)).mono ?_
 rintro e w4' ⟨rfl, hbz⟩
 rw [HAD.out.1, HAD.out.2]
 replace HR_m := Lib.hid (HR_m.out.ext hbz)
 replace HR_m2 := Lib.hid (HR_m2.out.ext hbz)
 replace HR_x := Lib.hid (HR_x.out.ext hbz)
 replace HW := Lib.hid (ext_trans HW.out hbz)
 clear hbz
 have hsz : (mrA (n3) r3).size = 11 := rfl
 have hsc := run_storeCells_new (P := Tryz.prog) w4' 47 #[.int .i64 0, .string ⟨#[]⟩, .string ⟨#[]⟩, .string ⟨#[]⟩, .string ⟨#[]⟩, .string ⟨#[]⟩, .string ⟨#[]⟩, .string ⟨#[]⟩, .string ⟨#[]⟩, .string ⟨#[]⟩, .string ⟨#[]⟩] (mrA (n3) r3) (mr_info _ _) rfl (mr_all _ _)
 go_upto_region 3 with (fail)
 clear hsc hsz
 refine wp_rows1 fun w5' hbz hR0 => ?_
 have lt_m_y : w.heap.size < w4'.heap.size := HR_m.out.lt
 have lt_m2_y : (w.heap.size + 1) < w4'.heap.size := HR_m2.out.lt
 have lt_x_y : b_x < w4'.heap.size := HR_x.out.lt
 have le_y : w.heap.size ≤ w4'.heap.size := HW.out.size
 replace HR_m := Lib.hid (HR_m.out.ext hbz)
 replace HR_m2 := Lib.hid (HR_m2.out.ext hbz)
 replace HR_x := Lib.hid (HR_x.out.ext hbz)
 replace HW := Lib.hid (ext_trans HW.out hbz)
 clear hbz
 have HR_y : Hid (RH w5' w4'.heap.size (mrA (n3) r3) 47) := Lib.hid hR0
 clear hR0
 generalize w4'.heap.size = b_y at *
 obtain ⟨c_m_0, c_m_1, c_m_2, c_m_3, c_m_4, c_m_5, c_m_6, c_m_7, c_m_8, c_m_9, c_m_10⟩ := zs11 HR_m.out
 obtain ⟨c_x_0, c_x_1, c_x_2, c_x_3, c_x_4, c_x_5, c_x_6, c_x_7, c_x_8, c_x_9, c_x_10⟩ := zs11 HR_x.out
 obtain ⟨c_y_0, c_y_1, c_y_2, c_y_3, c_y_4, c_y_5, c_y_6, c_y_7, c_y_8, c_y_9, c_y_10⟩ := zs11 HR_y.out
 refine Grow.wp_region_grow 15 [TP.eq (.agg #[.int .i64 (n), .string r.x.n, .string r.x.d, .string r.y.n, .string r.y.d, .string r.xx.n, .string r.xx.d, .string r.yy.n, .string r.yy.d, .string r.xy.n, .string r.xy.d]), TP.eq (.int .i64 fm), TP.eq (.agg #[.int .i64 (n), .string r.x.n, .string r.x.d, .string r.y.n, .string r.y.d, .string r.xx.n, .string r.xx.d, .string r.yy.n, .string r.yy.d, .string r.xy.n, .string r.xy.d]), TP.eq (.int .i64 fm), TP.eq (.bool false), TP.eq (.bool false), TP.eq (.agg #[.int .i64 (n3), .string r3.x.n, .string r3.x.d, .string r3.y.n, .string r3.y.d, .string r3.xx.n, .string r3.xx.d, .string r3.yy.n, .string r3.yy.d, .string r3.xy.n, .string r3.xy.d]), TP.eq (.agg #[.int .i64 (n3), .string r3.x.n, .string r3.x.d, .string r3.y.n, .string r3.y.d, .string r3.xx.n, .string r3.xx.d, .string r3.yy.n, .string r3.yy.d, .string r3.xy.n, .string r3.xy.d]), TP.eq (.bool false), TP.eq (.bool false), TP.eq (.bool false), TP.eq (.int .i64 f3), TP.eq (.int .i64 f3), TP.eq (.bool false), TP.eq (.bool false)] [[], [0], [], [2], [1, 3], [4], [5], [5], [5, 6, 7], [5, 8], [9], [10], [10], [10, 11, 12], [10, 13]] (by kernel_rfl) (by kernel_rfl) ⟨?o0g, ?o1g, ?o2g, ?o3g, ?o4g, ?o5g, ?o6g, ?o7g, ?o8g, ?o9g, ?o10g, ?o11g, ?o12g, ?o13g, ?o14g, trivial⟩ ?_
 case o0g | o2g =>
  intro w' hb
  have c_m_0' := zzc hb c_m_0
  have c_m_1' := zzc hb c_m_1
  have c_m_2' := zzc hb c_m_2
  have c_m_3' := zzc hb c_m_3
  have c_m_4' := zzc hb c_m_4
  have c_m_5' := zzc hb c_m_5
  have c_m_6' := zzc hb c_m_6
  have c_m_7' := zzc hb c_m_7
  have c_m_8' := zzc hb c_m_8
  have c_m_9' := zzc hb c_m_9
  have c_m_10' := zzc hb c_m_10
  show wpList _ _ _ _ _ _
  go_wp2
  exact ⟨rfl, Below.refl _ _, rfl⟩
 case o1g =>
  intro w' hb v1 hv1
  obtain rfl : v1 = _ := hv1
  show wpList _ _ _ _ _ _
  simp only [Grow.dstOf, zz1, zz3, zz4, Act.put, zz5, zz6, zz7]
  go_wp2_with fail
  refine ((by have h := checkMom_at n r HOK.out.1 w'; rw [HFM.out] at h; exact h : Calls _ _ _ w' (FPost w' fm))).mono ?_
  rintro e wz ⟨rfl, hbz⟩
  go_wp2
  exact ⟨rfl, hbz, rfl⟩
 case o3g =>
  intro w' hb v1 hv1
  obtain rfl : v1 = _ := hv1
  show wpList _ _ _ _ _ _
  simp only [Grow.dstOf, zz1, zz2, zz3, zz4, Act.put, zz5, zz6, zz7]
  go_wp2_with fail
  refine ((by have h := Nt.refCheckMom_at n r HOK.out.1 w' (HT0.out.ext (ext_trans HW.out hb)); rw [HFM.out] at h; exact h : Calls _ _ _ w' (FPost w' fm))).mono ?_
  rintro e wz ⟨rfl, hbz⟩
  go_wp2
  exact ⟨rfl, hbz, rfl⟩
 case o4g | o9g | o14g =>
  intro w' hb v1 hv1 v2 hv2
  obtain rfl : v1 = _ := hv1
  obtain rfl : v2 = _ := hv2
  show wpList _ _ _ _ _ _
  simp only [Grow.dstOf, zz1, zz2, zz3, zz4, Act.put, zz5, zz6, zz7]
  go_wp2
  exact ⟨rfl, Below.refl _ _, rfl⟩
 case o5g | o10g | o11g | o12g =>
  intro w' hb v1 hv1
  obtain rfl : v1 = _ := hv1
  show wpList _ _ _ _ _ _
  simp only [Grow.dstOf, zz1, zz2, zz3, zz4, Act.put, zz5, zz6, zz7]
  go_wp2
  exact ⟨rfl, Below.refl _ _, rfl⟩
 case o6g | o7g =>
  intro w' hb v1 hv1
  obtain rfl : v1 = _ := hv1
  have c_x_0' := zzc hb c_x_0
  have c_x_1' := zzc hb c_x_1
  have c_x_2' := zzc hb c_x_2
  have c_x_3' := zzc hb c_x_3
  have c_x_4' := zzc hb c_x_4
  have c_x_5' := zzc hb c_x_5
  have c_x_6' := zzc hb c_x_6
  have c_x_7' := zzc hb c_x_7
  have c_x_8' := zzc hb c_x_8
  have c_x_9' := zzc hb c_x_9
  have c_x_10' := zzc hb c_x_10
  have c_y_0' := zzc hb c_y_0
  have c_y_1' := zzc hb c_y_1
  have c_y_2' := zzc hb c_y_2
  have c_y_3' := zzc hb c_y_3
  have c_y_4' := zzc hb c_y_4
  have c_y_5' := zzc hb c_y_5
  have c_y_6' := zzc hb c_y_6
  have c_y_7' := zzc hb c_y_7
  have c_y_8' := zzc hb c_y_8
  have c_y_9' := zzc hb c_y_9
  have c_y_10' := zzc hb c_y_10
  show wpList _ _ _ _ _ _
  simp only [Grow.dstOf, zz1, zz2, zz3, zz4, Act.put, zz5, zz6, zz7]
  go_wp2
  exact ⟨rfl, Below.refl _ _, rfl⟩
 case o8g | o13g =>
  intro w' hb v1 hv1 v2 hv2 v3 hv3
  obtain rfl : v1 = _ := hv1
  obtain rfl : v2 = _ := hv2
  obtain rfl : v3 = _ := hv3
  show wpList _ _ _ _ _ _
  simp only [Grow.dstOf, zz1, zz2, zz3, zz4, Act.put, zz5, zz6, zz7]
  go_wp2
  exact ⟨rfl, Below.refl _ _, rfl⟩
 intro w6' hbz u0 hu0 u1 hu1 u2 hu2 u3 hu3 u4 hu4 u5 hu5 u6 hu6 u7 hu7 u8 hu8 u9 hu9 u10 hu10 u11 hu11 u12 hu12 u13 hu13 u14 hu14
 obtain rfl : u14 = _ := hu14
 clear hu0 hu1 hu2 hu3 hu4 hu5 hu6 hu7 hu8 hu9 hu10 hu11 hu12 hu13
 replace HR_m := Lib.hid (HR_m.out.ext hbz)
 replace HR_m2 := Lib.hid (HR_m2.out.ext hbz)
 replace HR_x := Lib.hid (HR_x.out.ext hbz)
 replace HR_y := Lib.hid (HR_y.out.ext hbz)
 replace HW := Lib.hid (ext_trans HW.out hbz)
 clear c_m_0 c_m_1 c_m_2 c_m_3 c_m_4 c_m_5 c_m_6 c_m_7 c_m_8 c_m_9 c_m_10 c_x_0 c_x_1 c_x_2 c_x_3 c_x_4 c_x_5 c_x_6 c_x_7 c_x_8 c_x_9 c_x_10 c_y_0 c_y_1 c_y_2 c_y_3 c_y_4 c_y_5 c_y_6 c_y_7 c_y_8 c_y_9 c_y_10
 clear hbz
 try refine Grow.TailOk.nil ?_
 refine tail_none (P := Tryz.prog) (ops := #[]) ?_
 simp only [Act.put, zz5, zz6, zz7]
 clear HR_x
 clear HR_y
 clear HR_m2
 clear HAD HFM
 go_wp2_with (first | (refine wpList_load_row rfl _ _ rfl w.heap.size rfl _ (mrA (n) r) _ _ HR_m.out Tryz.underlying47 rfl (mr_info _ _) ?_))
 refine (mean_at n r HOK.out.1 w6').mono ?_
 rintro e w7' ⟨rfl, hbz⟩
 rw [H_a.out.1, H_a.out.2.1, H_a.out.2.2]
 replace HR_m := Lib.hid (HR_m.out.ext hbz)
 replace HW := Lib.hid (ext_trans HW.out hbz)
 clear hbz
 go_upto_region 6 with (fail)
 refine wp_rows1 fun w8' hbz hR0 => ?_
 have lt_m_a : w.heap.size < w7'.heap.size := HR_m.out.lt
 have le_a : w.heap.size ≤ w7'.heap.size := HW.out.size
 replace HR_m := Lib.hid (HR_m.out.ext hbz)
 replace HW := Lib.hid (ext_trans HW.out hbz)
 clear hbz
 have HR_a : Hid (RH w8' w7'.heap.size #[.string na0, .string da0] 23) := Lib.hid hR0
 clear hR0
 generalize w7'.heap.size = b_a at *
 go_wp2_with (first | (refine wpList_load_row rfl _ _ rfl w.heap.size rfl _ (mrA (n) r) _ _ HR_m.out Tryz.underlying47 rfl (mr_info _ _) ?_))
 refine (Nt.refMean_at n r HOK.out.1 w8' (HT0.out.ext HW.out)).mono ?_
 rintro e w9' ⟨rfl, hbz⟩
 rw [H_a.out.1, H_a.out.2.1, H_a.out.2.2]
 replace HR_m := Lib.hid (HR_m.out.ext hbz)
 replace HR_a := Lib.hid (HR_a.out.ext hbz)
 replace HW := Lib.hid (ext_trans HW.out hbz)
 clear hbz
 go_upto_region 7 with (fail)
 refine wp_rows1 fun w10' hbz hR0 => ?_
 have lt_m_b : w.heap.size < w9'.heap.size := HR_m.out.lt
 have lt_a_b : b_a < w9'.heap.size := HR_a.out.lt
 have le_b : w.heap.size ≤ w9'.heap.size := HW.out.size
 replace HR_m := Lib.hid (HR_m.out.ext hbz)
 replace HR_a := Lib.hid (HR_a.out.ext hbz)
 replace HW := Lib.hid (ext_trans HW.out hbz)
 clear hbz
 have HR_b : Hid (RH w10' w9'.heap.size #[.string na0, .string da0] 23) := Lib.hid hR0
 clear hR0
 generalize w9'.heap.size = b_b at *
 obtain ⟨c_a_0, c_a_1⟩ := zs2 HR_a.out
 obtain ⟨c_b_0, c_b_1⟩ := zs2 HR_b.out
 go_wp2_with (first | (refine wpList_load_row rfl _ _ rfl w.heap.size rfl _ (mrA (n) r) _ _ HR_m.out Tryz.underlying47 rfl (mr_info _ _) ?_))
 refine (varianceM_at n r HOK.out.1 w10').mono ?_
 rintro e w11' ⟨rfl, hbz⟩
 rw [H_b.out.1, H_b.out.2.1, H_b.out.2.2]
 replace HR_m := Lib.hid (HR_m.out.ext hbz)
 replace HR_a := Lib.hid (HR_a.out.ext hbz)
 replace HR_b := Lib.hid (HR_b.out.ext hbz)
 replace HW := Lib.hid (ext_trans HW.out hbz)
 clear c_a_0 c_a_1 c_b_0 c_b_1
 clear hbz
 obtain ⟨c_a_0, c_a_1⟩ := zs2 HR_a.out
 have f_a_0 := HR_a.out.fre 0
 have f_a_1 := HR_a.out.fre 1
 go_upto_region 10 with (fail)
 obtain ⟨w12', hX⟩ : ∃ Z9, Z9 = ((w11'.setCell ⟨b_a, 0, none⟩ (.string nb0)).setCell ⟨b_a, 1, none⟩ (.string db0)) := ⟨_, rfl⟩
 rw [← hX]
 have n_a : Hid (RH w12' b_a #[.string nb0, .string db0] 23) := by rw [hX]; exact Lib.hid (((HR_a.out).set 0 (.string nb0)).set 1 (.string db0))
 have n_m : Hid (RH w12' w.heap.size (mrA (n) r) 47) := by rw [hX]; exact Lib.hid (zzo (zzo (HR_m.out) (by omega)) (by omega))
 have n_b : Hid (RH w12' b_b #[.string na0, .string da0] 23) := by rw [hX]; exact Lib.hid (zzo (zzo (HR_b.out) (by omega)) (by omega))
 have HK_ : ∀ p : Addr, p.block ≠ b_a → w12'.cell? p = w11'.cell? p := fun p hp => by rw [hX]; exact (cs_other hp).trans (cs_other hp)
 have nW : Hid (Below w.heap.size w w12') := by rw [hX]; exact Lib.hid (zzw (zzw (HW.out) (by omega)) (by omega))
 clear c_a_0 c_a_1 f_a_0 f_a_1
 clear hX HK_ HW HR_m HR_a HR_b 
 have HR_m := n_m; clear n_m
 have HR_a := n_a; clear n_a
 have HR_b := n_b; clear n_b
 have HW := nW; clear nW
 go_wp2_with (first | (refine wpList_load_row rfl _ _ rfl w.heap.size rfl _ (mrA (n) r) _ _ HR_m.out Tryz.underlying47 rfl (mr_info _ _) ?_))
 refine (Nt.refVariance_at n r HOK.out.1 w12' (HT0.out.ext HW.out)).mono ?_
 rintro e w13' ⟨rfl, hbz⟩
 rw [H_b.out.1, H_b.out.2.1, H_b.out.2.2]
 replace HR_m := Lib.hid (HR_m.out.ext hbz)
 replace HR_a := Lib.hid (HR_a.out.ext hbz)
 replace HR_b := Lib.hid (HR_b.out.ext hbz)
 replace HW := Lib.hid (ext_trans HW.out hbz)
 clear hbz
 obtain ⟨c_b_0, c_b_1⟩ := zs2 HR_b.out
 have f_b_0 := HR_b.out.fre 0
 have f_b_1 := HR_b.out.fre 1
 go_upto_region 11 with (fail)
 obtain ⟨w14', hX⟩ : ∃ Z9, Z9 = ((w13'.setCell ⟨b_b, 0, none⟩ (.string nb0)).setCell ⟨b_b, 1, none⟩ (.string db0)) := ⟨_, rfl⟩
 rw [← hX]
 have n_b : Hid (RH w14' b_b #[.string nb0, .string db0] 23) := by rw [hX]; exact Lib.hid (((HR_b.out).set 0 (.string nb0)).set 1 (.string db0))
 have n_m : Hid (RH w14' w.heap.size (mrA (n) r) 47) := by rw [hX]; exact Lib.hid (zzo (zzo (HR_m.out) (by omega)) (by omega))
 have n_a : Hid (RH w14' b_a #[.string nb0, .string db0] 23) := by rw [hX]; exact Lib.hid (zzo (zzo (HR_a.out) (by omega)) (by omega))
 have HK_ : ∀ p : Addr, p.block ≠ b_b → w14'.cell? p = w13'.cell? p := fun p hp => by rw [hX]; exact (cs_other hp).trans (cs_other hp)
 have nW : Hid (Below w.heap.size w w14') := by rw [hX]; exact Lib.hid (zzw (zzw (HW.out) (by omega)) (by omega))
 clear c_b_0 c_b_1 f_b_0 f_b_1
 clear hX HK_ HW HR_m HR_a HR_b 
 have HR_m := n_m; clear n_m
 have HR_a := n_a; clear n_a
 have HR_b := n_b; clear n_b
 have HW := nW; clear nW
 obtain ⟨c_a_0, c_a_1⟩ := zs2 HR_a.out
 obtain ⟨c_b_0, c_b_1⟩ := zs2 HR_b.out
 -- regions 11 to 13
 go_wp2_with (first | (refine wpList_load_row rfl _ _ rfl w.heap.size rfl _ (mrA (n) r) _ _ HR_m.out Tryz.underlying47 rfl (mr_info _ _) ?_))
 refine (spreadM_at n r HOK.out.1 w14').mono ?_
 rintro e w15' ⟨rfl, hbz⟩
 rw [H_c.out.1, H_c.out.2.1, H_c.out.2.2.1, H_c.out.2.2.2.1, H_c.out.2.2.2.2.1, H_c.out.2.2.2.2.2.1, H_c.out.2.2.2.2.2.2]
 replace HR_m := Lib.hid (HR_m.out.ext hbz)
 replace HR_a := Lib.hid (HR_a.out.ext hbz)
 replace HR_b := Lib.hid (HR_b.out.ext hbz)
 replace HW := Lib.hid (ext_trans HW.out hbz)
 clear c_a_0 c_a_1 c_b_0 c_b_1
 clear hbz
 go_upto_region 14 with (fail)
 refine wp_rows3 fun w16' hbz hR0 hR1 hR2 => ?_
 have lt_m_c : w.heap.size < w15'.heap.size := HR_m.out.lt
 have lt_a_c : b_a < w15'.heap.size := HR_a.out.lt
 have lt_b_c : b_b < w15'.heap.size := HR_b.out.lt
 have le_c : w.heap.size ≤ w15'.heap.size := HW.out.size
 replace HR_m := Lib.hid (HR_m.out.ext hbz)
 replace HR_a := Lib.hid (HR_a.out.ext hbz)
 replace HR_b := Lib.hid (HR_b.out.ext hbz)
 replace HW := Lib.hid (ext_trans HW.out hbz)
 clear hbz
 have HR_c : Hid (RH w16' w15'.heap.size #[.string nc0, .string dc0] 23) := Lib.hid hR0
 have HR_d : Hid (RH w16' (w15'.heap.size + 1) #[.string nc1, .string dc1] 23) := Lib.hid hR1
 have HR_e : Hid (RH w16' (w15'.heap.size + 2) #[.string nc2, .string dc2] 23) := Lib.hid hR2
 clear hR0 hR1 hR2
 generalize w15'.heap.size = b_c at *
 go_wp2_with (first | (refine wpList_load_row rfl _ _ rfl w.heap.size rfl _ (mrA (n) r) _ _ HR_m.out Tryz.underlying47 rfl (mr_info _ _) ?_))
 refine (Nt.refSpread_at n r HOK.out.1 w16' (HT0.out.ext HW.out)).mono ?_
 rintro e w17' ⟨rfl, hbz⟩
 rw [H_c.out.1, H_c.out.2.1, H_c.out.2.2.1, H_c.out.2.2.2.1, H_c.out.2.2.2.2.1, H_c.out.2.2.2.2.2.1, H_c.out.2.2.2.2.2.2]
 replace HR_m := Lib.hid (HR_m.out.ext hbz)
 replace HR_a := Lib.hid (HR_a.out.ext hbz)
 replace HR_b := Lib.hid (HR_b.out.ext hbz)
 replace HR_c := Lib.hid (HR_c.out.ext hbz)
 replace HR_d := Lib.hid (HR_d.out.ext hbz)
 replace HR_e := Lib.hid (HR_e.out.ext hbz)
 replace HW := Lib.hid (ext_trans HW.out hbz)
 clear hbz
 go_upto_region 15 with (fail)
 refine wp_rows3 fun w18' hbz hR0 hR1 hR2 => ?_
 have lt_m_p : w.heap.size < w17'.heap.size := HR_m.out.lt
 have lt_a_p : b_a < w17'.heap.size := HR_a.out.lt
 have lt_b_p : b_b < w17'.heap.size := HR_b.out.lt
 have lt_c_p : b_c < w17'.heap.size := HR_c.out.lt
 have lt_d_p : (b_c + 1) < w17'.heap.size := HR_d.out.lt
 have lt_e_p : (b_c + 2) < w17'.heap.size := HR_e.out.lt
 have le_p : w.heap.size ≤ w17'.heap.size := HW.out.size
 replace HR_m := Lib.hid (HR_m.out.ext hbz)
 replace HR_a := Lib.hid (HR_a.out.ext hbz)
 replace HR_b := Lib.hid (HR_b.out.ext hbz)
 replace HR_c := Lib.hid (HR_c.out.ext hbz)
 replace HR_d := Lib.hid (HR_d.out.ext hbz)
 replace HR_e := Lib.hid (HR_e.out.ext hbz)
 replace HW := Lib.hid (ext_trans HW.out hbz)
 clear hbz
 have HR_p : Hid (RH w18' w17'.heap.size #[.string nc0, .string dc0] 23) := Lib.hid hR0
 have HR_q : Hid (RH w18' (w17'.heap.size + 1) #[.string nc1, .string dc1] 23) := Lib.hid hR1
 have HR_t : Hid (RH w18' (w17'.heap.size + 2) #[.string nc2, .string dc2] 23) := Lib.hid hR2
 clear hR0 hR1 hR2
 generalize w17'.heap.size = b_p at *
 obtain ⟨c_c_0, c_c_1⟩ := zs2 HR_c.out
 obtain ⟨c_d_0, c_d_1⟩ := zs2 HR_d.out
 obtain ⟨c_e_0, c_e_1⟩ := zs2 HR_e.out
 obtain ⟨c_p_0, c_p_1⟩ := zs2 HR_p.out
 obtain ⟨c_q_0, c_q_1⟩ := zs2 HR_q.out
 obtain ⟨c_t_0, c_t_1⟩ := zs2 HR_t.out
 go_wp2_with (first | (refine wpList_load_row rfl _ _ rfl w.heap.size rfl _ (mrA (n) r) _ _ HR_m.out Tryz.underlying47 rfl (mr_info _ _) ?_))
 refine (estimateM_at n r HOK.out.1 w18').mono ?_
 rintro e w19' ⟨rfl, hbz⟩
 rw [HNE.out, H_e.out.1, H_e.out.2.1, H_e.out.2.2.1, H_e.out.2.2.2.1, H_e.out.2.2.2.2]
 replace HR_m := Lib.hid (HR_m.out.ext hbz)
 replace HR_a := Lib.hid (HR_a.out.ext hbz)
 replace HR_b := Lib.hid (HR_b.out.ext hbz)
 replace HR_c := Lib.hid (HR_c.out.ext hbz)
 replace HR_d := Lib.hid (HR_d.out.ext hbz)
 replace HR_e := Lib.hid (HR_e.out.ext hbz)
 replace HR_p := Lib.hid (HR_p.out.ext hbz)
 replace HR_q := Lib.hid (HR_q.out.ext hbz)
 replace HR_t := Lib.hid (HR_t.out.ext hbz)
 replace HW := Lib.hid (ext_trans HW.out hbz)
 clear c_c_0 c_c_1 c_d_0 c_d_1 c_e_0 c_e_1 c_p_0 c_p_1 c_q_0 c_q_1 c_t_0 c_t_1
 clear hbz
 go_upto_region 18 with (fail)
 refine wp_rows1 fun w20' hbz hR0 => ?_
 have lt_m_u : w.heap.size < w19'.heap.size := HR_m.out.lt
 have lt_a_u : b_a < w19'.heap.size := HR_a.out.lt
 have lt_b_u : b_b < w19'.heap.size := HR_b.out.lt
 have lt_c_u : b_c < w19'.heap.size := HR_c.out.lt
 have lt_d_u : (b_c + 1) < w19'.heap.size := HR_d.out.lt
 have lt_e_u : (b_c + 2) < w19'.heap.size := HR_e.out.lt
 have lt_p_u : b_p < w19'.heap.size := HR_p.out.lt
 have lt_q_u : (b_p + 1) < w19'.heap.size := HR_q.out.lt
 have lt_t_u : (b_p + 2) < w19'.heap.size := HR_t.out.lt
 have le_u : w.heap.size ≤ w19'.heap.size := HW.out.size
 replace HR_m := Lib.hid (HR_m.out.ext hbz)
 replace HR_a := Lib.hid (HR_a.out.ext hbz)
 replace HR_b := Lib.hid (HR_b.out.ext hbz)
 replace HR_c := Lib.hid (HR_c.out.ext hbz)
 replace HR_d := Lib.hid (HR_d.out.ext hbz)
 replace HR_e := Lib.hid (HR_e.out.ext hbz)
 replace HR_p := Lib.hid (HR_p.out.ext hbz)
 replace HR_q := Lib.hid (HR_q.out.ext hbz)
 replace HR_t := Lib.hid (HR_t.out.ext hbz)
 replace HW := Lib.hid (ext_trans HW.out hbz)
 clear hbz
 have HR_u : Hid (RH w20' w19'.heap.size #[.int .i64 ne, .string ne0, .string de0, .string ne1, .string de1] 55) := Lib.hid hR0
 clear hR0
 generalize w19'.heap.size = b_u at *
 go_wp2_with (first | (refine wpList_load_row rfl _ _ rfl w.heap.size rfl _ (mrA (n) r) _ _ HR_m.out Tryz.underlying47 rfl (mr_info _ _) ?_))
 refine (Nt.refEstimate_at n r HOK.out.1 w20' (HT0.out.ext HW.out)).mono ?_
 rintro e w21' ⟨rfl, hbz⟩
 rw [HNE.out, H_e.out.1, H_e.out.2.1, H_e.out.2.2.1, H_e.out.2.2.2.1, H_e.out.2.2.2.2]
 replace HR_m := Lib.hid (HR_m.out.ext hbz)
 replace HR_a := Lib.hid (HR_a.out.ext hbz)
 replace HR_b := Lib.hid (HR_b.out.ext hbz)
 replace HR_c := Lib.hid (HR_c.out.ext hbz)
 replace HR_d := Lib.hid (HR_d.out.ext hbz)
 replace HR_e := Lib.hid (HR_e.out.ext hbz)
 replace HR_p := Lib.hid (HR_p.out.ext hbz)
 replace HR_q := Lib.hid (HR_q.out.ext hbz)
 replace HR_t := Lib.hid (HR_t.out.ext hbz)
 replace HR_u := Lib.hid (HR_u.out.ext hbz)
 replace HW := Lib.hid (ext_trans HW.out hbz)
 clear hbz
 go_upto_region 19 with (fail)
 refine wp_rows1 fun w22' hbz hR0 => ?_
 have lt_m_v : w.heap.size < w21'.heap.size := HR_m.out.lt
 have lt_a_v : b_a < w21'.heap.size := HR_a.out.lt
 have lt_b_v : b_b < w21'.heap.size := HR_b.out.lt
 have lt_c_v : b_c < w21'.heap.size := HR_c.out.lt
 have lt_d_v : (b_c + 1) < w21'.heap.size := HR_d.out.lt
 have lt_e_v : (b_c + 2) < w21'.heap.size := HR_e.out.lt
 have lt_p_v : b_p < w21'.heap.size := HR_p.out.lt
 have lt_q_v : (b_p + 1) < w21'.heap.size := HR_q.out.lt
 have lt_t_v : (b_p + 2) < w21'.heap.size := HR_t.out.lt
 have lt_u_v : b_u < w21'.heap.size := HR_u.out.lt
 have le_v : w.heap.size ≤ w21'.heap.size := HW.out.size
 replace HR_m := Lib.hid (HR_m.out.ext hbz)
 replace HR_a := Lib.hid (HR_a.out.ext hbz)
 replace HR_b := Lib.hid (HR_b.out.ext hbz)
 replace HR_c := Lib.hid (HR_c.out.ext hbz)
 replace HR_d := Lib.hid (HR_d.out.ext hbz)
 replace HR_e := Lib.hid (HR_e.out.ext hbz)
 replace HR_p := Lib.hid (HR_p.out.ext hbz)
 replace HR_q := Lib.hid (HR_q.out.ext hbz)
 replace HR_t := Lib.hid (HR_t.out.ext hbz)
 replace HR_u := Lib.hid (HR_u.out.ext hbz)
 replace HW := Lib.hid (ext_trans HW.out hbz)
 clear hbz
 have HR_v : Hid (RH w22' w21'.heap.size #[.int .i64 ne, .string ne0, .string de0, .string ne1, .string de1] 55) := Lib.hid hR0
 clear hR0
 generalize w21'.heap.size = b_v at *
 obtain ⟨c_u_0, c_u_1, c_u_2, c_u_3, c_u_4⟩ := zs5 HR_u.out
 obtain ⟨c_v_0, c_v_1, c_v_2, c_v_3, c_v_4⟩ := zs5 HR_v.out
 go_wp2
 go_ret
 exact ⟨by simp, HW.out⟩
end Nm
end Go.Proofs.YtilolnjbpokdnaaGreatDoor
