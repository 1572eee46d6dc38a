/- Variance, Estimate of package metric. Printed by gen_momf.py. -/
import Derived.Test.YtilolnjbpokdnaaGreatDoorMomF
namespace Go.Proofs.YtilolnjbpokdnaaGreatDoor
open Go.RowKit
namespace Nm
open _root_.Go.Proofs.YtilolnjbpokdnaaGreatDoor.Nt (RH RH.cell RH.box RH.row RH.lt RH.new RH.ext RH.fre RH.set RH.other RH.row_other store_cells)
set_option maxRecDepth 100000 in
set_option maxHeartbeats 16000000 in
theorem varianceM_at (n : Int) (r : R5) (hok : r.ok) (w : World) : Calls Tryz.prog 34 #[.agg (mrA n r)] w (RqPost w (atF 2 n r) (vrQ n r.q)) := by
 have HOK := Lib.hid hok
 clear hok
 go_enter Tryz.func34, Tryz.ntmps34
 go_upto_region 1 with (fail)
 refine wp_rows2 fun w1' hbz hR0 hR1 => ?_
 have HR_m : Hid (RH w1' w.heap.size (mrA (n) r) 47) := Lib.hid hR0
 have HR_o : Hid (RH w1' (w.heap.size + 1) #[.string ⟨#[]⟩, .string ⟨#[]⟩] 23) := Lib.hid hR1
 have HW := Lib.hid hbz
 clear hbz hR0 hR1
 go_wp2_with (first | (refine wpList_load_row rfl _ _ rfl w.heap.size rfl _ (mrA (n) r) _ _ HR_m.out Tryz.underlying47 rfl (mr_info _ _) ?_))
 refine (atLeast_at 2 n r HOK.out w1').mono ?_
 rintro e w2' ⟨k9, t9, rfl, hx9, hbz⟩
 replace HR_m := Lib.hid (HR_m.out.ext hbz)
 replace HR_o := Lib.hid (HR_o.out.ext hbz)
 replace HW := Lib.hid (ext_trans HW.out hbz)
 clear hbz
 have HRD : Hid (RdIf w2' (atF 2 n r) n r k9 t9) := Lib.hid hx9
 clear hx9
 have hsz : (smA (k9) t9).size = 16 := rfl
 have hsc := run_storeCells_new (P := Tryz.prog) w2' 110 #[.int .i64 0, .bool false, .slice none 0 0, .slice none 0 0, .bool false, .slice none 0 0, .slice none 0 0, .bool false, .slice none 0 0, .slice none 0 0, .bool false, .slice none 0 0, .slice none 0 0, .bool false, .slice none 0 0, .slice none 0 0] (smA (k9) t9) (sm_info _ _) rfl (sm_all _ _)
 go_upto_region 2 with (fail)
 clear hsc hsz
 refine wp_rows1 fun w3' hbz hR0 => ?_
 have lt_m_s : w.heap.size < w2'.heap.size := HR_m.out.lt
 have lt_o_s : (w.heap.size + 1) < w2'.heap.size := HR_o.out.lt
 have le_s : w.heap.size ≤ w2'.heap.size := HW.out.size
 replace HR_m := Lib.hid (HR_m.out.ext hbz)
 replace HR_o := Lib.hid (HR_o.out.ext hbz)
 replace HRD := Lib.hid (HRD.out.ext hbz)
 replace HW := Lib.hid (ext_trans HW.out hbz)
 clear hbz
 have HR_s : Hid (RH w3' w2'.heap.size (smA (k9) t9) 110) := Lib.hid hR0
 clear hR0
 generalize w2'.heap.size = b_s at *
 by_cases hz : atF 2 n r = 0
 ·have hne2 : (atF 2 n r != 0) = false := by simp [hz]
  have HZ := Lib.hid hz
  obtain rfl : n = k9 := (HRD.out hz).1.symm
  have HX : Hid (SX w3' t9 r.q) := Lib.hid ((HRD.out hz).2)
  clear HRD
  obtain ⟨_, hn0, hn1, hql⟩ := at_ql hz
  have HQL := Lib.hid hql
  have HNB := Lib.hid (And.intro hn0 hn1)
  clear hz hql
  obtain ⟨vq, hvq⟩ : ∃ z, vrQ n r.q = z := ⟨_, rfl⟩
  have HVQ := Lib.hid hvq
  have HVF : Hid (Fits vq ∧ Sm vq) := Lib.hid (by
   have h := HQL.out.vr hn0 hn1
   rw [hvq] at h
   exact ⟨h.fits (by omega) (by omega), h.sm (by omega) (by omega)⟩)
  clear hvq
  go_wp2_with (first | (refine wpList_load_row rfl _ _ rfl b_s rfl _ (smA (n) t9) _ _ HR_s.out Tryz.underlying110 rfl (sm_info _ _) ?_))
  refine (variance_at n hn0 hn1 t9 r.q w3' HX.out HQL.out).mono ?_
  rintro e w4' ⟨v1, rfl, hv1, hbz⟩
  replace HR_m := Lib.hid (HR_m.out.ext hbz)
  replace HR_o := Lib.hid (HR_o.out.ext hbz)
  replace HR_s := Lib.hid (HR_s.out.ext hbz)
  replace HX := Lib.hid (HX.out.ext hbz)
  replace HW := Lib.hid (ext_trans HW.out hbz)
  clear hbz
  have HV1 : Hid (XR w4' v1 (vrQ n r.q)) := Lib.hid hv1
  clear hv1
  rw [HVQ.out] at HV1
  go_wp2_with fail
  refine (ratio_is vq HVF.out.1 HVF.out.2 _ w4' HV1.out).mono ?_
  rintro e w5' ⟨rfl, hbz⟩
  replace HR_m := Lib.hid (HR_m.out.ext hbz)
  replace HR_o := Lib.hid (HR_o.out.ext hbz)
  replace HR_s := Lib.hid (HR_s.out.ext hbz)
  replace HX := Lib.hid (HX.out.ext hbz)
  replace HV1 := Lib.hid (HV1.out.ext hbz)
  replace HW := Lib.hid (ext_trans HW.out hbz)
  clear hbz
  obtain ⟨c_o_0, c_o_1⟩ := zs2 HR_o.out
  have f_o_0 := HR_o.out.fre 0
  have f_o_1 := HR_o.out.fre 1
  go_wp2
  obtain ⟨w6', hX⟩ : ∃ Z9, Z9 = ((w5'.setCell ⟨(w.heap.size + 1), 0, none⟩ (.string (showN vq))).setCell ⟨(w.heap.size + 1), 1, none⟩ (.string (showD vq))) := ⟨_, rfl⟩
  rw [← hX]
  have n_o : Hid (RH w6' (w.heap.size + 1) #[.string (showN vq), .string (showD vq)] 23) := by rw [hX]; exact Lib.hid (((HR_o.out).set 0 (.string (showN vq))).set 1 (.string (showD vq)))
  have n_m : Hid (RH w6' w.heap.size (mrA (n) r) 47) := by rw [hX]; exact Lib.hid (zzo (zzo (HR_m.out) (by omega)) (by omega))
  have n_s : Hid (RH w6' b_s (smA (n) t9) 110) := by rw [hX]; exact Lib.hid (zzo (zzo (HR_s.out) (by omega)) (by omega))
  have HK_ : ∀ p : Addr, p.block ≠ (w.heap.size + 1) → w6'.cell? p = w5'.cell? p := fun p hp => by rw [hX]; exact (cs_other hp).trans (cs_other hp)
  have n_HX : Hid (SX w6' t9 r.q) := Lib.hid (HX.out.far HR_o.out.box (noW_all (by simp [isWord])) HK_)
  have n_HV1 : Hid (XR w6' v1 vq) := Lib.hid (HV1.out.far HR_o.out.box (noW_all (by simp [isWord])) HK_)
  have nW : Hid (Below w.heap.size w w6') := by rw [hX]; exact Lib.hid (zzw (zzw (HW.out) (by omega)) (by omega))
  clear c_o_0 c_o_1 f_o_0 f_o_1
  clear hX HK_ HW HR_m HR_o HR_s HX HV1
  have HR_m := n_m; clear n_m
  have HR_o := n_o; clear n_o
  have HR_s := n_s; clear n_s
  have HX := n_HX; clear n_HX
  have HV1 := n_HV1; clear n_HV1
  have HW := nW; clear nW
  refine bodyPost_ret (v := .tuple #[.agg #[.string (showN vq), .string (showD vq)], .int .i64 0]) ?_ rfl ⟨by simp only [HZ.out, rtN_0, rtD_0, HVQ.out], HW.out⟩
  have hld := run_loadVar_row (P := Tryz.prog) _ _ _ 23 _ _ _ HR_o.out Tryz.underlying23 rfl (by kernel_rfl : (Tryz.prog.info? 23).map (·.size) = some 2)
  rw [results_cell_tmp rfl]
  simp [asAddr, Result.andThen, hld]
 ·have hne2 : (atF 2 n r != 0) = true := by simp [hz]
  have HNE := Lib.hid hz
  clear hz
  obtain ⟨c_o_0, c_o_1⟩ := zs2 HR_o.out
  have f_o_0 := HR_o.out.fre 0
  have f_o_1 := HR_o.out.fre 1
  go_wp2
  obtain ⟨w4', hX⟩ : ∃ Z9, Z9 = ((w3'.setCell ⟨(w.heap.size + 1), 0, none⟩ (.string ⟨#[]⟩)).setCell ⟨(w.heap.size + 1), 1, none⟩ (.string ⟨#[]⟩)) := ⟨_, rfl⟩
  rw [← hX]
  have n_o : Hid (RH w4' (w.heap.size + 1) #[.string ⟨#[]⟩, .string ⟨#[]⟩] 23) := by rw [hX]; exact Lib.hid (((HR_o.out).set 0 (.string ⟨#[]⟩)).set 1 (.string ⟨#[]⟩))
  have n_m : Hid (RH w4' w.heap.size (mrA (n) r) 47) := by rw [hX]; exact Lib.hid (zzo (zzo (HR_m.out) (by omega)) (by omega))
  have n_s : Hid (RH w4' b_s (smA (k9) t9) 110) := by rw [hX]; exact Lib.hid (zzo (zzo (HR_s.out) (by omega)) (by omega))
  have HK_ : ∀ p : Addr, p.block ≠ (w.heap.size + 1) → w4'.cell? p = w3'.cell? p := fun p hp => by rw [hX]; exact (cs_other hp).trans (cs_other hp)
  have n_HRD : Hid (RdIf w4' (atF 2 n r) n r k9 t9) := Lib.hid (HRD.out.far HR_o.out.box (noW_all (by simp [isWord])) HK_)
  have nW : Hid (Below w.heap.size w w4') := by rw [hX]; exact Lib.hid (zzw (zzw (HW.out) (by omega)) (by omega))
  clear c_o_0 c_o_1 f_o_0 f_o_1
  clear hX HK_ HW HR_m HR_o HR_s HRD
  have HR_m := n_m; clear n_m
  have HR_o := n_o; clear n_o
  have HR_s := n_s; clear n_s
  have HRD := n_HRD; clear n_HRD
  have HW := nW; clear nW
  refine bodyPost_ret (v := .tuple #[.agg #[.string ⟨#[]⟩, .string ⟨#[]⟩], .int .i64 (atF 2 n r)]) ?_ rfl ⟨by simp only [rtN_no HNE.out, rtD_no HNE.out], HW.out⟩
  have hld := run_loadVar_row (P := Tryz.prog) _ _ _ 23 _ _ _ HR_o.out Tryz.underlying23 rfl (by kernel_rfl : (Tryz.prog.info? 23).map (·.size) = some 2)
  rw [results_cell_tmp rfl]
  simp [asAddr, Result.andThen, hld]
set_option maxRecDepth 100000 in
set_option maxHeartbeats 16000000 in
theorem estimateM_at (n : Int) (r : R5) (hok : r.ok) (w : World) : Calls Tryz.prog 25 #[.agg (mrA n r)] w (EsPost w (atF 2 n r) n (meQ n r.q) (veQ n r.q)) := by
 have HOK := Lib.hid hok
 clear hok
 go_enter Tryz.func25, Tryz.ntmps25
 go_upto_region 1 with (fail)
 refine wp_rows2 fun w1' hbz hR0 hR1 => ?_
 have HR_m : Hid (RH w1' w.heap.size (mrA (n) r) 47) := Lib.hid hR0
 have HR_o : Hid (RH w1' (w.heap.size + 1) #[.int .i64 0, .string ⟨#[]⟩, .string ⟨#[]⟩, .string ⟨#[]⟩, .string ⟨#[]⟩] 55) := Lib.hid hR1
 have HW := Lib.hid hbz
 clear hbz hR0 hR1
 go_wp2_with (first | (refine wpList_load_row rfl _ _ rfl w.heap.size rfl _ (mrA (n) r) _ _ HR_m.out Tryz.underlying47 rfl (mr_info _ _) ?_))
 refine (atLeast_at 2 n r HOK.out w1').mono ?_
 rintro e w2' ⟨k9, t9, rfl, hx9, hbz⟩
 replace HR_m := Lib.hid (HR_m.out.ext hbz)
 replace HR_o := Lib.hid (HR_o.out.ext hbz)
 replace HW := Lib.hid (ext_trans HW.out hbz)
 clear hbz
 have HRD : Hid (RdIf w2' (atF 2 n r) n r k9 t9) := Lib.hid hx9
 clear hx9
 have hsz : (smA (k9) t9).size = 16 := rfl
 have hsc := run_storeCells_new (P := Tryz.prog) w2' 110 #[.int .i64 0, .bool false, .slice none 0 0, .slice none 0 0, .bool false, .slice none 0 0, .slice none 0 0, .bool false, .slice none 0 0, .slice none 0 0, .bool false, .slice none 0 0, .slice none 0 0, .bool false, .slice none 0 0, .slice none 0 0] (smA (k9) t9) (sm_info _ _) rfl (sm_all _ _)
 go_upto_region 2 with (fail)
 clear hsc hsz
 refine wp_rows1 fun w3' hbz hR0 => ?_
 have lt_m_s : w.heap.size < w2'.heap.size := HR_m.out.lt
 have lt_o_s : (w.heap.size + 1) < w2'.heap.size := HR_o.out.lt
 have le_s : w.heap.size ≤ w2'.heap.size := HW.out.size
 replace HR_m := Lib.hid (HR_m.out.ext hbz)
 replace HR_o := Lib.hid (HR_o.out.ext hbz)
 replace HRD := Lib.hid (HRD.out.ext hbz)
 replace HW := Lib.hid (ext_trans HW.out hbz)
 clear hbz
 have HR_s : Hid (RH w3' w2'.heap.size (smA (k9) t9) 110) := Lib.hid hR0
 clear hR0
 generalize w2'.heap.size = b_s at *
 by_cases hz : atF 2 n r = 0
 ·have hne2 : (atF 2 n r != 0) = false := by simp [hz]
  have HZ := Lib.hid hz
  obtain rfl : n = k9 := (HRD.out hz).1.symm
  have HX : Hid (SX w3' t9 r.q) := Lib.hid ((HRD.out hz).2)
  clear HRD
  obtain ⟨_, hn0, hn1, hql⟩ := at_ql hz
  have HQL := Lib.hid hql
  have HNB := Lib.hid (And.intro hn0 hn1)
  clear hz hql
  obtain ⟨nq, hnq⟩ : ∃ z : Rat, ((n : Int) : Rat) = z := ⟨_, rfl⟩
  have HNQ := Lib.hid hnq
  have HNL : Hid (Sm nq ∧ nq ≠ 0) := Lib.hid (by rw [← hnq]; exact ⟨(ln_n (by omega) hn1).sm (by omega) (by omega), n_ne (by omega)⟩)
  obtain ⟨mq, hmq⟩ : ∃ z : Rat, r.q.x / nq = z := ⟨_, rfl⟩
  obtain ⟨vq, hvq⟩ : ∃ z, vrQ n r.q = z := ⟨_, rfl⟩
  obtain ⟨eq, heq⟩ : ∃ z : Rat, vq / nq = z := ⟨_, rfl⟩
  have HMM : Hid (meQ n r.q = mq ∧ vrQ n r.q = vq ∧ veQ n r.q = eq) := Lib.hid ⟨by unfold meQ; rw [hnq, hmq], hvq, by unfold veQ; rw [hnq, hvq, heq]⟩
  have HQE := Lib.hid (And.intro hmq heq)
  have HMF : Hid ((Fits mq ∧ Sm mq) ∧ Fits eq ∧ Sm eq) := Lib.hid (by
   have h := HQL.out.me (by omega) hn1
   have h2 := HQL.out.ve hn0 hn1
   rw [HMM.out.1] at h
   rw [HMM.out.2.2] at h2
   exact ⟨⟨h.fits (by omega) (by omega), h.sm (by omega) (by omega)⟩, h2.fits (by omega) (by omega), h2.sm (by omega) (by omega)⟩)
  have HVF : Hid (Sm vq) := Lib.hid (by
   have h := HQL.out.vr hn0 hn1
   rw [hvq] at h
   exact h.sm (by omega) (by omega))
  clear hnq hmq hvq heq
  obtain ⟨c_s_0, -, -, -, -, -, -, -, -, -, -, -, -, -, -, -⟩ := zs16 HR_s.out
  go_wp2_with fail
  refine (mwhole_is n nq HNQ.out (by omega) (by omega) w3').mono ?_
  rintro e w4' ⟨v1, rfl, hv1, hbz⟩
  obtain ⟨tn, rfl, hx1⟩ := hv1.y3
  clear hv1
  replace HR_m := Lib.hid (HR_m.out.ext hbz)
  replace HR_o := Lib.hid (HR_o.out.ext hbz)
  replace HR_s := Lib.hid (HR_s.out.ext hbz)
  replace HX := Lib.hid (HX.out.ext hbz)
  replace HW := Lib.hid (ext_trans HW.out hbz)
  clear c_s_0
  clear hbz
  have HXn : Hid (XR w4' (y3V tn) nq) := Lib.hid hx1
  clear hx1
  go_upto_region 5 with (fail)
  refine wp_rows1 fun w5' hbz hR0 => ?_
  have lt_m_n : w.heap.size < w4'.heap.size := HR_m.out.lt
  have lt_o_n : (w.heap.size + 1) < w4'.heap.size := HR_o.out.lt
  have lt_s_n : b_s < w4'.heap.size := HR_s.out.lt
  have le_n : w.heap.size ≤ w4'.heap.size := HW.out.size
  replace HR_m := Lib.hid (HR_m.out.ext hbz)
  replace HR_o := Lib.hid (HR_o.out.ext hbz)
  replace HR_s := Lib.hid (HR_s.out.ext hbz)
  replace HX := Lib.hid (HX.out.ext hbz)
  replace HXn := Lib.hid (HXn.out.ext hbz)
  replace HW := Lib.hid (ext_trans HW.out hbz)
  clear hbz
  have HR_n : Hid (RH w5' w4'.heap.size #[.bool tn.b, .slice tn.a1 tn.n1 tn.c1, .slice tn.a2 tn.n2 tn.c2] 93) := Lib.hid hR0
  clear hR0
  generalize w4'.heap.size = b_n at *
  obtain ⟨c_s_0, c_s_1, c_s_2, c_s_3, -, -, -, -, -, -, -, -, -, -, -, -⟩ := zs16 HR_s.out
  obtain ⟨c_n_0, c_n_1, c_n_2⟩ := zs3 HR_n.out
  refine Grow.wp_region_grow 13 [TP.eq (.pointer (some ⟨b_s, 0, none⟩)), TP.eq (.int .i64 n), TP.eq (.pointer (some ⟨b_s, 1, none⟩)), TP.eq (.agg #[.bool t9.x.b, .slice t9.x.a1 t9.x.n1 t9.x.c1, .slice t9.x.a2 t9.x.n2 t9.x.c2]), TP.eq (.agg #[.bool tn.b, .slice tn.a1 tn.n1 tn.c1, .slice tn.a2 tn.n2 tn.c2]), TP.xq mq, TP.eq (.agg (smA n t9)), TP.xq vq, TP.eq (.agg #[.bool tn.b, .slice tn.a1 tn.n1 tn.c1, .slice tn.a2 tn.n2 tn.c2]), TP.xq eq, TP.eq (.tuple #[.agg #[.int .i64 n, .string (showN mq), .string (showD mq), .string (showN eq), .string (showD eq)], .int .i64 0]), TP.eq (.agg #[.int .i64 n, .string (showN mq), .string (showD mq), .string (showN eq), .string (showD eq)]), TP.eq (.int .i64 0)] [[], [0], [], [2], [], [3, 4], [], [6], [], [7, 8], [1, 5, 9], [10], [10]] (by kernel_rfl) (by kernel_rfl) ⟨?o0e, ?o1e, ?o2e, ?o3e, ?o4e, ?o5e, ?o6e, ?o7e, ?o8e, ?o9e, ?o10e, ?o11e, ?o12e, trivial⟩ ?_
  case o0e | o2e =>
   intro w' hb
   show wpList _ _ _ _ _ _
   go_wp2
   exact ⟨rfl, Below.refl _ _, rfl⟩
  case o1e =>
   intro w' hb v1 hv1
   obtain rfl : v1 = _ := hv1
   have c_s_0' := zzc hb c_s_0
   show wpList _ _ _ _ _ _
   simp only [Grow.dstOf, zz1, zz3, zz4, Act.put, zz5, zz6, zz7]
   go_wp2
   exact ⟨rfl, Below.refl _ _, rfl⟩
  case o3e =>
   intro w' hb v1 hv1
   obtain rfl : v1 = _ := hv1
   have c_s_1' := zzc hb c_s_1
   have c_s_2' := zzc hb c_s_2
   have c_s_3' := zzc hb c_s_3
   show wpList _ _ _ _ _ _
   simp only [Grow.dstOf, zz1, zz2, zz3, zz4, Act.put, zz5, zz6, zz7]
   go_wp2
   exact ⟨rfl, Below.refl _ _, rfl⟩
  case o4e | o8e =>
   intro w' hb
   have c_n_0' := zzc hb c_n_0
   have c_n_1' := zzc hb c_n_1
   have c_n_2' := zzc hb c_n_2
   show wpList _ _ _ _ _ _
   go_wp2
   exact ⟨rfl, Below.refl _ _, rfl⟩
  case o5e =>
   intro w' hb v1 hv1 v2 hv2
   obtain rfl : v1 = _ := hv1
   obtain rfl : v2 = _ := hv2
   show wpList _ _ _ _ _ _
   simp only [Grow.dstOf, zz1, zz2, zz3, zz4, Act.put, zz5, zz6, zz7]
   go_wp2_with fail
   refine (mover_is r.q.x nq mq HQE.out.1 HNL.out.2 _ _ w' (HX.out.x.ext hb) (HXn.out.ext hb) HQL.out.qs.x HNL.out.1).mono ?_
   rintro e wz ⟨vz, rfl, hxz, hbz⟩
   go_wp2
   exact ⟨hxz, hbz, rfl⟩
  case o6e =>
   intro w' hb
   show wpList _ _ _ _ _ _
   go_wp2_with (refine wpList_load_row rfl _ _ rfl b_s rfl _ (smA (n) t9) _ _ (HR_s.out.ext hb) Tryz.underlying110 rfl (sm_info _ _) ?_)
   exact ⟨rfl, Below.refl _ _, rfl⟩
  case o7e =>
   intro w' hb v1 hv1
   obtain rfl : v1 = _ := hv1
   show wpList _ _ _ _ _ _
   simp only [Grow.dstOf, zz1, zz2, zz3, zz4, Act.put, zz5, zz6, zz7]
   go_wp2_with fail
   refine (variance_at n hn0 hn1 t9 r.q w' (HX.out.ext hb) HQL.out).mono ?_
   rintro e wz ⟨vz, rfl, hxz, hbz⟩
   go_wp2
   exact ⟨by rw [← HMM.out.2.1]; exact hxz, hbz, rfl⟩
  case o9e =>
   intro w' hb v1 hv1 v2 hv2
   obtain rfl : v2 = _ := hv2
   have hv1' : XR w' v1 vq := hv1
   clear hv1
   show wpList _ _ _ _ _ _
   simp only [Grow.dstOf, zz1, zz2, zz3, zz4, Act.put, zz5, zz6, zz7]
   go_wp2_with fail
   refine (mover_is vq nq eq HQE.out.2 HNL.out.2 _ _ w' hv1' (HXn.out.ext hb) HVF.out HNL.out.1).mono ?_
   rintro e wz ⟨vz, rfl, hxz, hbz⟩
   go_wp2
   exact ⟨hxz, hbz, rfl⟩
  case o10e =>
   intro w' hb v1 hv1 v2 hv2 v3 hv3
   obtain rfl : v1 = _ := hv1
   have hv2' : XR w' v2 mq := hv2
   have hv3' : XR w' v3 eq := hv3
   clear hv2 hv3
   obtain ⟨tm, rfl, hxm⟩ := hv2'.y3
   obtain ⟨tv, rfl, hxv⟩ := hv3'.y3
   show wpList _ _ _ _ _ _
   simp only [Grow.dstOf, zz1, zz2, zz3, zz4, Act.put, zz5, zz6, zz7]
   go_wp2_with fail
   refine (estimate_at n mq eq tm tv w' hxm hxv HMF.out).mono ?_
   rintro e wz ⟨rfl, hbz⟩
   go_wp2
   exact ⟨rfl, hbz, rfl⟩
  case o11e | o12e =>
   intro w' hb v1 hv1
   obtain rfl : v1 = _ := hv1
   show wpList _ _ _ _ _ _
   simp only [Grow.dstOf, zz1, zz2, zz3, zz4, Act.put, zz5, zz6, zz7]
   go_wp2
   exact ⟨rfl, Below.refl _ _, rfl⟩
  intro w6' hbz u0 hu0 u1 hu1 u2 hu2 u3 hu3 u4 hu4 u5 hu5 u6 hu6 u7 hu7 u8 hu8 u9 hu9 u10 hu10 u11 hu11 u12 hu12
  obtain rfl : u11 = _ := hu11
  obtain rfl : u12 = _ := hu12
  clear hu0 hu1 hu2 hu3 hu4 hu5 hu6 hu7 hu8 hu9 hu10
  replace HR_m := Lib.hid (HR_m.out.ext hbz)
  replace HR_o := Lib.hid (HR_o.out.ext hbz)
  replace HR_s := Lib.hid (HR_s.out.ext hbz)
  replace HR_n := Lib.hid (HR_n.out.ext hbz)
  replace HX := Lib.hid (HX.out.ext hbz)
  replace HXn := Lib.hid (HXn.out.ext hbz)
  replace HW := Lib.hid (ext_trans HW.out hbz)
  clear c_s_0 c_s_1 c_s_2 c_s_3 c_n_0 c_n_1 c_n_2
  clear hbz
  show wpList _ _ _ _ _ _
  simp only [Act.put, zz5, zz6, zz7]
  obtain ⟨c_o_0, c_o_1, c_o_2, c_o_3, c_o_4⟩ := zs5 HR_o.out
  have f_o_0 := HR_o.out.fre 0
  have f_o_1 := HR_o.out.fre 1
  have f_o_2 := HR_o.out.fre 2
  have f_o_3 := HR_o.out.fre 3
  have f_o_4 := HR_o.out.fre 4
  go_wp2
  obtain ⟨w7', hX⟩ : ∃ Z9, Z9 = (((((w6'.setCell ⟨(w.heap.size + 1), 0, none⟩ (.int .i64 n)).setCell ⟨(w.heap.size + 1), 1, none⟩ (.string (showN mq))).setCell ⟨(w.heap.size + 1), 2, none⟩ (.string (showD mq))).setCell ⟨(w.heap.size + 1), 3, none⟩ (.string (showN eq))).setCell ⟨(w.heap.size + 1), 4, none⟩ (.string (showD eq))) := ⟨_, rfl⟩
  rw [← hX]
  have n_o : Hid (RH w7' (w.heap.size + 1) #[.int .i64 n, .string (showN mq), .string (showD mq), .string (showN eq), .string (showD eq)] 55) := by rw [hX]; exact Lib.hid ((((((HR_o.out).set 0 (.int .i64 n)).set 1 (.string (showN mq))).set 2 (.string (showD mq))).set 3 (.string (showN eq))).set 4 (.string (showD eq)))
  have n_m : Hid (RH w7' w.heap.size (mrA (n) r) 47) := by rw [hX]; exact Lib.hid (zzo (zzo (zzo (zzo (zzo (HR_m.out) (by omega)) (by omega)) (by omega)) (by omega)) (by omega))
  have n_s : Hid (RH w7' b_s (smA (n) t9) 110) := by rw [hX]; exact Lib.hid (zzo (zzo (zzo (zzo (zzo (HR_s.out) (by omega)) (by omega)) (by omega)) (by omega)) (by omega))
  have n_n : Hid (RH w7' b_n #[.bool tn.b, .slice tn.a1 tn.n1 tn.c1, .slice tn.a2 tn.n2 tn.c2] 93) := by rw [hX]; exact Lib.hid (zzo (zzo (zzo (zzo (zzo (HR_n.out) (by omega)) (by omega)) (by omega)) (by omega)) (by omega))
  have HK_ : ∀ p : Addr, p.block ≠ (w.heap.size + 1) → w7'.cell? p = w6'.cell? p := fun p hp => by rw [hX]; exact (cs_other hp).trans ((cs_other hp).trans ((cs_other hp).trans ((cs_other hp).trans (cs_other hp))))
  have n_HX : Hid (SX w7' t9 r.q) := Lib.hid (HX.out.far HR_o.out.box (noW_all (by simp [isWord])) HK_)
  have n_HXn : Hid (XR w7' (y3V tn) nq) := Lib.hid (HXn.out.far HR_o.out.box (noW_all (by simp [isWord])) HK_)
  have nW : Hid (Below w.heap.size w w7') := by rw [hX]; exact Lib.hid (zzw (zzw (zzw (zzw (zzw (HW.out) (by omega)) (by omega)) (by omega)) (by omega)) (by omega))
  clear c_o_0 c_o_1 c_o_2 c_o_3 c_o_4 f_o_0 f_o_1 f_o_2 f_o_3 f_o_4
  clear hX HK_ HW HR_m HR_o HR_s HR_n HX HXn
  have HR_m := n_m; clear n_m
  have HR_o := n_o; clear n_o
  have HR_s := n_s; clear n_s
  have HR_n := n_n; clear n_n
  have HX := n_HX; clear n_HX
  have HXn := n_HXn; clear n_HXn
  have HW := nW; clear nW
  refine bodyPost_ret (v := .tuple #[.agg #[.int .i64 n, .string (showN mq), .string (showD mq), .string (showN eq), .string (showD eq)], .int .i64 0]) ?_ rfl ⟨by simp only [HZ.out, rtN_0, rtD_0, nF_0, HMM.out.1, HMM.out.2.2], HW.out⟩
  have hld := run_loadVar_row (P := Tryz.prog) _ _ _ 55 _ _ _ HR_o.out Tryz.underlying55 rfl (by kernel_rfl : (Tryz.prog.info? 55).map (·.size) = some 5)
  rw [results_cell_tmp rfl]
  simp [asAddr, Result.andThen, hld]
 ·have hne2 : (atF 2 n r != 0) = true := by simp [hz]
  have HNE := Lib.hid hz
  clear hz
  obtain ⟨c_o_0, c_o_1, c_o_2, c_o_3, c_o_4⟩ := zs5 HR_o.out
  have f_o_0 := HR_o.out.fre 0
  have f_o_1 := HR_o.out.fre 1
  have f_o_2 := HR_o.out.fre 2
  have f_o_3 := HR_o.out.fre 3
  have f_o_4 := HR_o.out.fre 4
  go_wp2
  obtain ⟨w4', hX⟩ : ∃ Z9, Z9 = (((((w3'.setCell ⟨(w.heap.size + 1), 0, none⟩ (.int .i64 0)).setCell ⟨(w.heap.size + 1), 1, none⟩ (.string ⟨#[]⟩)).setCell ⟨(w.heap.size + 1), 2, none⟩ (.string ⟨#[]⟩)).setCell ⟨(w.heap.size + 1), 3, none⟩ (.string ⟨#[]⟩)).setCell ⟨(w.heap.size + 1), 4, none⟩ (.string ⟨#[]⟩)) := ⟨_, rfl⟩
  rw [← hX]
  have n_o : Hid (RH w4' (w.heap.size + 1) #[.int .i64 0, .string ⟨#[]⟩, .string ⟨#[]⟩, .string ⟨#[]⟩, .string ⟨#[]⟩] 55) := by rw [hX]; exact Lib.hid ((((((HR_o.out).set 0 (.int .i64 0)).set 1 (.string ⟨#[]⟩)).set 2 (.string ⟨#[]⟩)).set 3 (.string ⟨#[]⟩)).set 4 (.string ⟨#[]⟩))
  have n_m : Hid (RH w4' w.heap.size (mrA (n) r) 47) := by rw [hX]; exact Lib.hid (zzo (zzo (zzo (zzo (zzo (HR_m.out) (by omega)) (by omega)) (by omega)) (by omega)) (by omega))
  have n_s : Hid (RH w4' b_s (smA (k9) t9) 110) := by rw [hX]; exact Lib.hid (zzo (zzo (zzo (zzo (zzo (HR_s.out) (by omega)) (by omega)) (by omega)) (by omega)) (by omega))
  have HK_ : ∀ p : Addr, p.block ≠ (w.heap.size + 1) → w4'.cell? p = w3'.cell? p := fun p hp => by rw [hX]; exact (cs_other hp).trans ((cs_other hp).trans ((cs_other hp).trans ((cs_other hp).trans (cs_other hp))))
  have n_HRD : Hid (RdIf w4' (atF 2 n r) n r k9 t9) := Lib.hid (HRD.out.far HR_o.out.box (noW_all (by simp [isWord])) HK_)
  have nW : Hid (Below w.heap.size w w4') := by rw [hX]; exact Lib.hid (zzw (zzw (zzw (zzw (zzw (HW.out) (by omega)) (by omega)) (by omega)) (by omega)) (by omega))
  clear c_o_0 c_o_1 c_o_2 c_o_3 c_o_4 f_o_0 f_o_1 f_o_2 f_o_3 f_o_4
  clear hX HK_ HW HR_m HR_o HR_s HRD
  have HR_m := n_m; clear n_m
  have HR_o := n_o; clear n_o
  have HR_s := n_s; clear n_s
  have HRD := n_HRD; clear n_HRD
  have HW := nW; clear nW
  refine bodyPost_ret (v := .tuple #[.agg #[.int .i64 0, .string ⟨#[]⟩, .string ⟨#[]⟩, .string ⟨#[]⟩, .string ⟨#[]⟩], .int .i64 (atF 2 n r)]) ?_ rfl ⟨by simp only [rtN_no HNE.out, rtD_no HNE.out, nF_no HNE.out], HW.out⟩
  have hld := run_loadVar_row (P := Tryz.prog) _ _ _ 55 _ _ _ HR_o.out Tryz.underlying55 rfl (by kernel_rfl : (Tryz.prog.info? 55).map (·.size) = some 5)
  rw [results_cell_tmp rfl]
  simp [asAddr, Result.andThen, hld]
end Nm
end Go.Proofs.YtilolnjbpokdnaaGreatDoor
