/- Quotient of the reference. Printed by gen_radjb.py. -/
import Derived.Test.YtlbnjgnbpiidaaaGreatDoorB844
import Derived.Test.YtlbnjgnbpiidaaaGreatDoorB836
import Derived.Test.YtlbnjgnbpiidaaaGreatDoorB845
import Derived.Test.YtlbnjgnbpiidaaaGreatDoorB843
namespace Go.Proofs.YtlbnjgnbpiidaaaGreatDoor
open Go.RowKit
namespace Nt
open _root_.Go.Proofs.YtlbnjgnbpiidaaaGreatDoor.Nm (tl_lit rF rQ showN showD Fits show_size cutS cutS_size cutB cut_show cmpQ RT rtL rtOk trimPrefix_at tail_none Ln QL QF QS Q5 R5 shR mrA mr_info NoW noW_all BF cs_other wp_rows1 wp_rows2 wp_rows3 wp_rows4 smF smL smL_step sm_five momF posB posB1 posB_steps zerB dfA dfB dfC df_ln ln_n n_ne fits_int i64_ten BPost FPost spA spB spC sp_ln atF at_parts mom_parts vrQ rtC fq fr fr_get R5.ok_at rat_neg MV MV.arm mnL armL armsF armsF_step fewL fewL_step raF ra_parts ra_arm Arm aB aC aB_take aC_take aB_ok aC_ok ApOk ArmsOk arms_ok slQ sl_ln rsQ quR quV quF TP.row rtN rtD nF rtN_0 rtD_0 nF_0 rtN_no rtD_no nF_no meQ RqPost EsPost mom_ql at_ql)
theorem rs_ln {n : Int} (h0 : 1 ≤ n) (h1 : n ≤ 20000) {q : Q5} (hq : QL q) {s : Rat} (hs : Ln 430 430 s) : Ln 1504 1305 (rsQ s ⟨n, q⟩) := by
 have hA := hq.spA h0 h1
 have hB := hq.spB h0 h1
 have hC := hq.spC h0 h1
 have h2 : Ln 1 0 (2 : Rat) := Ln.int (z := 2) (a := 1) (by decide)
 have e1 : Ln 632 435 ((2 : Rat) * (s * spC n q)) := (Ln.mul h2 (Ln.mul hs hC)).mono (by omega) (by omega)
 have e2 : Ln 638 440 (spA n q - 2 * (s * spC n q)) := (Ln.sub hA e1).mono (by omega) (by omega)
 have e3 : Ln 1061 865 (s * (s * spB n q)) := (Ln.mul hs (Ln.mul hs hB)).mono (by omega) (by omega)
 exact (Ln.add e2 e3).mono (by omega) (by omega)
theorem quV_eq (n : Int) (q : Q5) : quV n q = rsQ (quR q) ⟨n, q⟩ / (((n : Int) : Rat) * ((n - 1 : Int) : Rat) * ((q.y / (n : Rat)) * (q.y / (n : Rat)))) := by
 unfold quV quR rsQ
 generalize q.x / q.y = r
 generalize q.y / (n : Rat) = m
 generalize ((n - 1 : Int) : Rat) = p
 generalize spA n q = a
 generalize spB n q = b
 generalize spC n q = c
 have e2 : ((2 : Int) : Rat) = 2 := rfl
 rw [e2]
 grind
set_option maxRecDepth 100000 in
set_option maxHeartbeats 16000000 in
theorem refQuot_at (n : Int) (r : R5) (hok : r.ok) (w : World) (ht : Tab w) : Calls Tryz.prog 11 #[.agg (mrA n r)] w (EsPost w (quF n r) n (quR r.q) (quV n r.q)) := by
 have HOK := Lib.hid hok
 clear hok
 go_enter Tryz.func11, Tryz.ntmps11
 have HT0 := Lib.hid ht
 clear ht
 go_upto_region 1 with (fail)
 refine wp_rows2 fun w1' hbz hR0 hR1 => ?_
 have HR_m : Hid (RH w1' w.heap.size (mrA (n) r) 35) := Lib.hid hR0
 have HR_o : Hid (RH w1' (w.heap.size + 1) #[.int .i64 0, .string ⟨#[]⟩, .string ⟨#[]⟩, .string ⟨#[]⟩, .string ⟨#[]⟩] 33) := Lib.hid hR1
 have HW := Lib.hid hbz
 clear hbz hR0 hR1
 go_wp2_with (first | (refine wpList_load_row rfl _ _ rfl w.heap.size rfl _ (mrA (n) r) _ _ HR_m.out Tryz.underlying35 rfl (mr_info _ _) ?_))
 refine (some_at 2 n r HOK.out w1' (HT0.out.ext HW.out)).mono ?_
 rintro e w2' ⟨rfl, hbz⟩
 replace HR_m := Lib.hid (HR_m.out.ext hbz)
 replace HR_o := Lib.hid (HR_o.out.ext hbz)
 replace HW := Lib.hid (ext_trans HW.out hbz)
 clear hbz
 by_cases hz : atF 2 n r = 0
 ·obtain ⟨hm0, hn0, hn1, hql⟩ := at_ql hz
  obtain ⟨_, _, _, hrq⟩ := mom_ql hm0
  obtain ⟨q, hq⟩ : ∃ z, r.q = z := ⟨_, rfl⟩
  rw [hq] at hql hrq
  subst hrq
  have hne2 : (atF 2 n q.r != 0) = false := by simp [hz]
  have HZ := Lib.hid hz
  have HQ9 := Lib.hid hq
  have HQL := Lib.hid hql
  have HQF := Lib.hid hql.fits
  clear hm0 hz hq hql
  have HP0 : Hid (quF n q.r = if q.y = 0 then 14 else 0) := Lib.hid (by unfold quF; rw [if_neg (fun h => h HZ.out), HQ9.out])
  obtain ⟨yq, hyq⟩ : ∃ z, q.y = z := ⟨_, rfl⟩
  obtain ⟨xq, hxq⟩ : ∃ z, q.x = z := ⟨_, rfl⟩
  have E_yq := Lib.hid hyq
  have E_xq := Lib.hid hxq
  have N_xq : Hid (Ln 100 0 xq) := Lib.hid (by rw [← hxq]; exact HQL.out.x)
  have N_yq : Hid (Ln 100 0 yq) := Lib.hid (by rw [← hyq]; exact HQL.out.y)
  obtain ⟨bz, hbz0⟩ : ∃ b, decide (yq = 0) = b := ⟨_, rfl⟩
  have HBQ := Lib.hid hbz0
  clear hbz0 hyq hxq
  obtain ⟨-, -, -, c_m_3, c_m_4, -, -, -, -, -, -⟩ := zs11 HR_m.out
  go_wp2_with fail
  refine (isZero_at q.y bz (by rw [E_yq.out]; exact HBQ.out) w2').mono ?_
  rintro e w3' ⟨rfl, hbz⟩
  replace HR_m := Lib.hid (HR_m.out.ext hbz)
  replace HR_o := Lib.hid (HR_o.out.ext hbz)
  replace HW := Lib.hid (ext_trans HW.out hbz)
  clear c_m_3 c_m_4
  clear hbz
  cases bz
  ·have HYZ : Hid (yq ≠ 0) := Lib.hid (of_decide_eq_false HBQ.out)
   have HP : Hid (quF n q.r = 0) := Lib.hid (by rw [HP0.out, if_neg (by rw [E_yq.out]; exact HYZ.out)])
   obtain ⟨m9, hm9⟩ : ∃ m, n - 1 = m := ⟨_, rfl⟩
   have hmw : IntKind.i64.wrap (n - 1) = m9 := (IntWalk.i64_in _ (by omega)).trans hm9
   have hmb : 1 ≤ m9 ∧ m9 ≤ 20000 := by omega
   have HM9 := Lib.hid hm9
   clear hm9
   obtain ⟨nq, h9⟩ : ∃ z : Rat, ((n : Int) : Rat) = z := ⟨_, rfl⟩
   have E_nq := Lib.hid h9
   have N_nq : Hid (Ln 5 0 nq) := Lib.hid (by rw [← h9]; exact (ln_n (by omega) hn1).mono (by omega) (by omega))
   clear h9
   obtain ⟨pq, h9⟩ : ∃ z : Rat, ((m9 : Int) : Rat) = z := ⟨_, rfl⟩
   have E_pq := Lib.hid h9
   have N_pq : Hid (Ln 5 0 pq) := Lib.hid (by rw [← h9]; exact (ln_n (by omega) (by omega)).mono (by omega) (by omega))
   clear h9
   have HNZ : Hid (nq ≠ 0) := Lib.hid (by rw [← E_nq.out]; exact n_ne (by omega))
   have HPZ : Hid (pq ≠ 0) := Lib.hid (by rw [← E_pq.out]; exact n_ne (by omega))
   obtain ⟨rq, h9⟩ : ∃ z : Rat, xq / yq = z := ⟨_, rfl⟩
   have E_rq := Lib.hid h9
   have N_rq : Hid (Ln 100 100 rq) := Lib.hid (by rw [← h9]; exact (Ln.div N_xq.out N_yq.out HYZ.out).mono (by omega) (by omega))
   clear h9
   obtain ⟨mq, h9⟩ : ∃ z : Rat, yq / nq = z := ⟨_, rfl⟩
   have E_mq := Lib.hid h9
   have N_mq : Hid (Ln 100 5 mq) := Lib.hid (by rw [← h9]; exact (Ln.div N_yq.out N_nq.out HNZ.out).mono (by omega) (by omega))
   clear h9
   have HMZ : Hid (mq ≠ 0) := Lib.hid (by
    have e := E_mq.out
    have h1 := HYZ.out
    have h2 := HNZ.out
    intro h
    rw [h] at e
    exact h1 (by grind))
   have HRL := rs_ln (n := n) (by omega) hn1 HQL.out (N_rq.out.mono (by omega) (by omega) : Ln 430 430 rq)
   obtain ⟨re, h9⟩ : ∃ z : Rat, rsQ rq ⟨n, q⟩ = z := ⟨_, rfl⟩
   have E_re := Lib.hid h9
   have N_re : Hid (Ln 1504 1305 re) := Lib.hid (by rw [← h9]; exact (HRL).mono (by omega) (by omega))
   clear h9
   clear HRL
   obtain ⟨nn, h9⟩ : ∃ z : Rat, nq * pq = z := ⟨_, rfl⟩
   have E_nn := Lib.hid h9
   have N_nn : Hid (Ln 10 0 nn) := Lib.hid (by rw [← h9]; exact (Ln.mul N_nq.out N_pq.out).mono (by omega) (by omega))
   clear h9
   obtain ⟨mm, h9⟩ : ∃ z : Rat, mq * mq = z := ⟨_, rfl⟩
   have E_mm := Lib.hid h9
   have N_mm : Hid (Ln 200 10 mm) := Lib.hid (by rw [← h9]; exact (Ln.mul N_mq.out N_mq.out).mono (by omega) (by omega))
   clear h9
   obtain ⟨dd, h9⟩ : ∃ z : Rat, nn * mm = z := ⟨_, rfl⟩
   have E_dd := Lib.hid h9
   have N_dd : Hid (Ln 210 10 dd) := Lib.hid (by rw [← h9]; exact (Ln.mul N_nn.out N_mm.out).mono (by omega) (by omega))
   clear h9
   have HDZ : Hid (dd ≠ 0) := Lib.hid (by rw [← E_dd.out, ← E_nn.out, ← E_mm.out]; exact fun h => (Rat.mul_eq_zero.1 h).elim (fun h => (Rat.mul_eq_zero.1 h).elim HNZ.out HPZ.out) (fun h => (Rat.mul_eq_zero.1 h).elim HMZ.out HMZ.out))
   obtain ⟨vq, h9⟩ : ∃ z : Rat, re / dd = z := ⟨_, rfl⟩
   have E_vq := Lib.hid h9
   have N_vq : Hid (Ln 1514 1515 vq) := Lib.hid (by rw [← h9]; exact (Ln.div N_re.out N_dd.out HDZ.out).mono (by omega) (by omega))
   clear h9
   have HRES : Hid (quR q = rq ∧ quV n q = vq) := Lib.hid (by
    have h1 : quR q = rq := by unfold quR; rw [E_xq.out, E_yq.out, E_rq.out]
    refine ⟨h1, ?_⟩
    rw [quV_eq, h1, HM9.out, E_nq.out, E_pq.out, E_yq.out, E_mq.out, E_re.out, E_nn.out, E_mm.out, E_dd.out, E_vq.out])
   obtain ⟨c_m_0, c_m_1, c_m_2, c_m_3, c_m_4, -, -, -, -, -, -⟩ := zs11 HR_m.out
   go_upto_region 6 with (fail)
   refine Grow.wp_region_grow2 10 [.is (TP.eq (.pointer (some ⟨w.heap.size, 0, none⟩))), .is (TP.eq (.int .i64 n)), .is (TP.eq (rtV nq)), .is (TP.eq (.pointer (some ⟨w.heap.size, 1, none⟩))), .is (TP.eq (rtV q.x)), .is (TP.eq (.pointer (some ⟨w.heap.size, 3, none⟩))), .is (TP.eq (rtV q.y)), .is (TP.eq (rtV rq)), .new #[.string ⟨#[]⟩, .string ⟨#[]⟩], .new #[.string ⟨#[]⟩, .string ⟨#[]⟩]] [[], [0], [1], [], [3], [], [5], [4, 6], [], []] (by kernel_rfl) (by kernel_rfl) ⟨?o0g, ?o1g, ?o2g, ?o3g, ?o4g, ?o5g, ?o6g, ?o7g, ?o8g, ?o9g, trivial⟩ ?_
   case o0g | o3g | o5g =>
    intro w' hb
    show wpList _ _ _ _ _ _
    go_wp2
    exact ⟨rfl, Below.refl _ _, rfl⟩
   case o1g =>
    intro w' hb v1 hv1
    cases hv1
    have c_m_0' := zzc hb c_m_0
    show wpList _ _ _ _ _ _
    simp only [Grow.dstOf, zzp, Act.put]
    go_wp2
    exact ⟨rfl, Below.refl _ _, rfl⟩
   case o2g =>
    intro w' hb v1 hv1
    cases hv1
    show wpList _ _ _ _ _ _
    simp only [Grow.dstOf, zzp, Act.put]
    go_wp2_with fail
    refine (whole_z n nq E_nq.out (by omega) (by omega) w' (HT0.out.ext (ext_trans HW.out hb))).mono ?_
    rintro e wz ⟨rfl, hbz⟩
    go_wp2
    exact ⟨rfl, hbz, rfl⟩
   case o4g | o6g =>
    intro w' hb v1 hv1
    cases hv1
    have c_m_1' := zzc hb c_m_1
    have c_m_2' := zzc hb c_m_2
    have c_m_3' := zzc hb c_m_3
    have c_m_4' := zzc hb c_m_4
    show wpList _ _ _ _ _ _
    simp only [Grow.dstOf, zzp, Act.put]
    go_wp2
    exact ⟨rfl, Below.refl _ _, rfl⟩
   case o7g =>
    intro w' hb v1 hv1 v2 hv2
    cases hv1
    cases hv2
    show wpList _ _ _ _ _ _
    simp only [Grow.dstOf, zzp, Act.put]
    go_wp2_with fail
    refine (over_is q.x q.y rq (by rw [E_xq.out, E_yq.out]; exact E_rq.out) (by rw [E_xq.out]; exact (N_xq.out.fits (by omega) (by omega))) (by rw [E_yq.out]; exact (N_yq.out.fits (by omega) (by omega))) (by rw [E_yq.out]; exact HYZ.out) (N_rq.out.fits (by omega) (by omega)) w' (HT0.out.ext (ext_trans HW.out hb))).mono ?_
    rintro e wz ⟨rfl, hbz⟩
    go_wp2
    exact ⟨rfl, hbz, rfl⟩
   case o8g | o9g =>
    intro w' hb
    show wpList _ _ _ _ _ _
    go_wp2
    exact ⟨⟨_, rfl, Nat.le_refl _, Box.new _ _ _, Fre.new _ _ _⟩, ext_alloc _ _, rfl⟩
   intro w4' hbz u0 hu0 u1 hu1 u2 hu2 u3 hu3 u4 hu4 u5 hu5 u6 hu6 u7 hu7 u8 hu8 u9 hu9 hpw
   obtain rfl : u2 = _ := hu2
   obtain rfl : u7 = _ := hu7
   have hne_8_9 := hpw 8 9 (by omega) (by omega) (by omega) rfl rfl
   simp only [List.nil_append, List.cons_append, List.getD_cons_succ, List.getD_cons_zero] at hne_8_9
   have hg8 : ∃ g, u8 = .pointer (some ⟨g, 0, none⟩) ∧ w3'.heap.size ≤ g ∧ Box w4' g #[.string ⟨#[]⟩, .string ⟨#[]⟩] ∧ Fre w4' g := hu8
   have hg9 : ∃ g, u9 = .pointer (some ⟨g, 0, none⟩) ∧ w3'.heap.size ≤ g ∧ Box w4' g #[.string ⟨#[]⟩, .string ⟨#[]⟩] ∧ Fre w4' g := hu9
   clear hpw hu0 hu1 hu3 hu4 hu5 hu6 hu8 hu9
   obtain ⟨b_a, rfl, hgUa, hXUa, hFUa⟩ := hg8
   obtain ⟨b_b, rfl, hgUb, hXUb, hFUb⟩ := hg9
   have hnb_8_9 : b_a ≠ b_b := fun e => hne_8_9 (by rw [e])
   clear hne_8_9
   have lt_m_a : w.heap.size < b_a := Nat.lt_of_lt_of_le HR_m.out.lt hgUa
   have lt_o_a : (w.heap.size + 1) < b_a := Nat.lt_of_lt_of_le HR_o.out.lt hgUa
   have le_a : w.heap.size ≤ b_a := Nat.le_trans HW.out.size hgUa
   clear hgUa
   have lt_m_b : w.heap.size < b_b := Nat.lt_of_lt_of_le HR_m.out.lt hgUb
   have lt_o_b : (w.heap.size + 1) < b_b := Nat.lt_of_lt_of_le HR_o.out.lt hgUb
   have le_b : w.heap.size ≤ b_b := Nat.le_trans HW.out.size hgUb
   clear hgUb
   replace HR_m := Lib.hid (HR_m.out.ext hbz)
   replace HR_o := Lib.hid (HR_o.out.ext hbz)
   replace HW := Lib.hid (ext_trans HW.out hbz)
   clear c_m_0 c_m_1 c_m_2 c_m_3 c_m_4
   clear hbz
   have HR_a : Hid (BF w4' b_a #[.string ⟨#[]⟩, .string ⟨#[]⟩]) := Lib.hid ⟨hXUa, hFUa⟩
   clear hXUa hFUa
   have HR_b : Hid (BF w4' b_b #[.string ⟨#[]⟩, .string ⟨#[]⟩]) := Lib.hid ⟨hXUb, hFUb⟩
   clear hXUb hFUb
   show wpList _ _ _ _ _ _
   simp only [Act.put, zzp]
   have c_a_0 : w4'.cell? ⟨b_a, 0, none⟩ = some (.string ⟨#[]⟩) := (HR_a.out.cell 0).trans rfl
   have c_a_1 : w4'.cell? ⟨b_a, 1, none⟩ = some (.string ⟨#[]⟩) := (HR_a.out.cell 1).trans rfl
   have f_a_0 := HR_a.out.fre 0
   have f_a_1 := HR_a.out.fre 1
   have c_b_0 : w4'.cell? ⟨b_b, 0, none⟩ = some (.string ⟨#[]⟩) := (HR_b.out.cell 0).trans rfl
   have c_b_1 : w4'.cell? ⟨b_b, 1, none⟩ = some (.string ⟨#[]⟩) := (HR_b.out.cell 1).trans rfl
   have f_b_0 := HR_b.out.fre 0
   have f_b_1 := HR_b.out.fre 1
   go_upto_region 7 with (fail)
   obtain ⟨w5', hX⟩ : ∃ Z9, Z9 = ((w4'.setCell ⟨b_a, 0, none⟩ (.string (showN nq))).setCell ⟨b_a, 1, none⟩ (.string (showD nq))) := ⟨_, rfl⟩
   rw [← hX]
   have n_a : Hid (BF w5' b_a #[.string (showN nq), .string (showD nq)]) := by rw [hX]; exact Lib.hid (((HR_a.out).set 0 (by simp) (.string (showN nq))).set 1 (by simp) (.string (showD nq)))
   have n_m : Hid (RH w5' w.heap.size (mrA (n) q.r) 35) := by rw [hX]; exact Lib.hid (zzo (zzo (HR_m.out) (by omega)) (by omega))
   have n_o : Hid (RH w5' (w.heap.size + 1) #[.int .i64 0, .string ⟨#[]⟩, .string ⟨#[]⟩, .string ⟨#[]⟩, .string ⟨#[]⟩] 33) := by rw [hX]; exact Lib.hid (zzo (zzo (HR_o.out) (by omega)) (by omega))
   have n_b : Hid (BF w5' b_b #[.string ⟨#[]⟩, .string ⟨#[]⟩]) := by rw [hX]; exact Lib.hid (((HR_b.out).other (p := ⟨b_a, 0, none⟩) (show b_b ≠ b_a by omega) (.string (showN nq))).other (p := ⟨b_a, 1, none⟩) (show b_b ≠ b_a by omega) (.string (showD nq)))
   have HK_ : ∀ p : Addr, p.block ≠ b_a → w5'.cell? p = w4'.cell? p := fun p hp => by rw [hX]; exact (cs_other hp).trans (cs_other hp)
   have nW : Hid (Below w.heap.size w w5') := by rw [hX]; exact Lib.hid (zzw (zzw (HW.out) (by omega)) (by omega))
   clear c_a_0 c_a_1 f_a_0 f_a_1 c_b_0 c_b_1 f_b_0 f_b_1
   clear hX HK_ HW HR_m HR_o HR_a HR_b 
   have HR_m := n_m; clear n_m
   have HR_o := n_o; clear n_o
   have HR_a := n_a; clear n_a
   have HR_b := n_b; clear n_b
   have HW := nW; clear nW
   obtain ⟨w6', hX⟩ : ∃ Z9, Z9 = ((w5'.setCell ⟨b_b, 0, none⟩ (.string (showN rq))).setCell ⟨b_b, 1, none⟩ (.string (showD rq))) := ⟨_, rfl⟩
   rw [← hX]
   have n_b : Hid (BF w6' b_b #[.string (showN rq), .string (showD rq)]) := by rw [hX]; exact Lib.hid (((HR_b.out).set 0 (by simp) (.string (showN rq))).set 1 (by simp) (.string (showD rq)))
   have n_m : Hid (RH w6' w.heap.size (mrA (n) q.r) 35) := by rw [hX]; exact Lib.hid (zzo (zzo (HR_m.out) (by omega)) (by omega))
   have n_o : Hid (RH w6' (w.heap.size + 1) #[.int .i64 0, .string ⟨#[]⟩, .string ⟨#[]⟩, .string ⟨#[]⟩, .string ⟨#[]⟩] 33) := by rw [hX]; exact Lib.hid (zzo (zzo (HR_o.out) (by omega)) (by omega))
   have n_a : Hid (BF w6' b_a #[.string (showN nq), .string (showD nq)]) := by rw [hX]; exact Lib.hid (((HR_a.out).other (p := ⟨b_b, 0, none⟩) (show b_a ≠ b_b by omega) (.string (showN rq))).other (p := ⟨b_b, 1, none⟩) (show b_a ≠ b_b by omega) (.string (showD rq)))
   have HK_ : ∀ p : Addr, p.block ≠ b_b → w6'.cell? p = w5'.cell? p := fun p hp => by rw [hX]; exact (cs_other hp).trans (cs_other hp)
   have nW : Hid (Below w.heap.size w w6') := by rw [hX]; exact Lib.hid (zzw (zzw (HW.out) (by omega)) (by omega))
   clear hX HK_ HW HR_m HR_o HR_a HR_b 
   have HR_m := n_m; clear n_m
   have HR_o := n_o; clear n_o
   have HR_a := n_a; clear n_a
   have HR_b := n_b; clear n_b
   have HW := nW; clear nW
   obtain ⟨c_m_0, c_m_1, c_m_2, c_m_3, c_m_4, -, -, -, -, -, -⟩ := zs11 HR_m.out
   have c_a_0 : w6'.cell? ⟨b_a, 0, none⟩ = some (.string (showN nq)) := (HR_a.out.cell 0).trans rfl
   have c_a_1 : w6'.cell? ⟨b_a, 1, none⟩ = some (.string (showD nq)) := (HR_a.out.cell 1).trans rfl
   go_wp2_with fail
   refine (over_is q.y nq mq (by rw [E_yq.out]; exact E_mq.out) (by rw [E_yq.out]; exact (N_yq.out.fits (by omega) (by omega))) (N_nq.out.fits (by omega) (by omega)) HNZ.out (N_mq.out.fits (by omega) (by omega)) w6' (HT0.out.ext HW.out)).mono ?_
   rintro e w7' ⟨rfl, hbz⟩
   replace HR_m := Lib.hid (HR_m.out.ext hbz)
   replace HR_o := Lib.hid (HR_o.out.ext hbz)
   replace HR_a := Lib.hid (HR_a.out.ext hbz)
   replace HR_b := Lib.hid (HR_b.out.ext hbz)
   replace HW := Lib.hid (ext_trans HW.out hbz)
   clear c_m_0 c_m_1 c_m_2 c_m_3 c_m_4 c_a_0 c_a_1
   clear hbz
   go_upto_region 8 with (fail)
   refine wp_rows1 fun w8' hbz hR0 => ?_
   have lt_m_y : w.heap.size < w7'.heap.size := HR_m.out.lt
   have lt_o_y : (w.heap.size + 1) < w7'.heap.size := HR_o.out.lt
   have lt_a_y : b_a < w7'.heap.size := HR_a.out.lt
   have lt_b_y : b_b < w7'.heap.size := HR_b.out.lt
   have le_y : w.heap.size ≤ w7'.heap.size := HW.out.size
   replace HR_m := Lib.hid (HR_m.out.ext hbz)
   replace HR_o := Lib.hid (HR_o.out.ext hbz)
   replace HR_a := Lib.hid (HR_a.out.ext hbz)
   replace HR_b := Lib.hid (HR_b.out.ext hbz)
   replace HW := Lib.hid (ext_trans HW.out hbz)
   clear hbz
   have HR_y : Hid (RH w8' w7'.heap.size #[.string (showN mq), .string (showD mq)] 24) := Lib.hid hR0
   clear hR0
   generalize w7'.heap.size = b_y at *
   obtain ⟨c_m_0, c_m_1, c_m_2, c_m_3, c_m_4, c_m_5, c_m_6, c_m_7, c_m_8, c_m_9, c_m_10⟩ := zs11 HR_m.out
   have c_a_0 : w8'.cell? ⟨b_a, 0, none⟩ = some (.string (showN nq)) := (HR_a.out.cell 0).trans rfl
   have c_a_1 : w8'.cell? ⟨b_a, 1, none⟩ = some (.string (showD nq)) := (HR_a.out.cell 1).trans rfl
   have c_b_0 : w8'.cell? ⟨b_b, 0, none⟩ = some (.string (showN rq)) := (HR_b.out.cell 0).trans rfl
   have c_b_1 : w8'.cell? ⟨b_b, 1, none⟩ = some (.string (showD rq)) := (HR_b.out.cell 1).trans rfl
   obtain ⟨c_y_0, c_y_1⟩ := zs2 HR_y.out
   refine Grow.wp_region_grow 18 [TP.eq (.pointer (some ⟨w.heap.size, 0, none⟩)), TP.eq (.int .i64 n), TP.eq (rtV rq), TP.eq (.agg (mrA n q.r)), TP.eq (rtV rq), TP.eq (rtV re), TP.eq (rtV nq), TP.eq (.pointer (some ⟨w.heap.size, 0, none⟩)), TP.eq (.int .i64 n), TP.eq (.int .i64 m9), TP.eq (rtV pq), TP.eq (rtV nn), TP.eq (rtV mq), TP.eq (rtV mq), TP.eq (rtV mm), TP.eq (rtV dd), TP.eq (rtV vq), TP.eq (.agg #[.int .i64 n, .string (showN rq), .string (showD rq), .string (showN vq), .string (showD vq)])] [[], [0], [], [], [], [3, 4], [], [], [7], [8], [9], [6, 10], [], [], [12, 13], [11, 14], [5, 15], [1, 2, 16]] (by kernel_rfl) (by kernel_rfl) ⟨?o0e, ?o1e, ?o2e, ?o3e, ?o4e, ?o5e, ?o6e, ?o7e, ?o8e, ?o9e, ?o10e, ?o11e, ?o12e, ?o13e, ?o14e, ?o15e, ?o16e, ?o17e, trivial⟩ ?_
   case o0e | o7e =>
    intro w' hb
    show wpList _ _ _ _ _ _
    go_wp2
    exact ⟨rfl, Below.refl _ _, rfl⟩
   case o1e =>
    intro w' hb v1 hv1
    cases hv1
    have c_m_0' := zzc hb c_m_0
    show wpList _ _ _ _ _ _
    simp only [Grow.dstOf, zzp, Act.put]
    go_wp2
    exact ⟨rfl, Below.refl _ _, rfl⟩
   case o2e | o3e | o4e | o6e | o12e | o13e =>
    intro w' hb
    have c_b_0' := zzc hb c_b_0
    have c_b_1' := zzc hb c_b_1
    have c_m_0' := zzc hb c_m_0
    have c_m_1' := zzc hb c_m_1
    have c_m_2' := zzc hb c_m_2
    have c_m_3' := zzc hb c_m_3
    have c_m_4' := zzc hb c_m_4
    have c_m_5' := zzc hb c_m_5
    have c_m_6' := zzc hb c_m_6
    have c_m_7' := zzc hb c_m_7
    have c_m_8' := zzc hb c_m_8
    have c_m_9' := zzc hb c_m_9
    have c_m_10' := zzc hb c_m_10
    have c_a_0' := zzc hb c_a_0
    have c_a_1' := zzc hb c_a_1
    have c_y_0' := zzc hb c_y_0
    have c_y_1' := zzc hb c_y_1
    show wpList _ _ _ _ _ _
    go_wp2
    exact ⟨rfl, Below.refl _ _, rfl⟩
   case o5e =>
    intro w' hb v1 hv1 v2 hv2
    cases hv1
    cases hv2
    show wpList _ _ _ _ _ _
    simp only [Grow.dstOf, zzp, Act.put]
    go_wp2_with fail
    refine ((by have h := residual_at n (by omega) hn1 q HQL.out rq (N_rq.out.mono (by omega) (by omega)) w' (HT0.out.ext (ext_trans HW.out hb)); rw [E_re.out] at h; exact h : Calls _ _ _ w' (RtP w' re))).mono ?_
    rintro e wz ⟨rfl, hbz⟩
    go_wp2
    exact ⟨rfl, hbz, rfl⟩
   case o8e =>
    intro w' hb v1 hv1
    cases hv1
    have c_m_0' := zzc hb c_m_0
    show wpList _ _ _ _ _ _
    simp only [Grow.dstOf, zzp, Act.put]
    go_wp2
    exact ⟨rfl, Below.refl _ _, rfl⟩
   case o9e =>
    intro w' hb v1 hv1
    cases hv1
    show wpList _ _ _ _ _ _
    simp only [Grow.dstOf, zzp, Act.put]
    go_wp2
    exact ⟨rfl, Below.refl _ _, rfl⟩
   case o10e =>
    intro w' hb v1 hv1
    cases hv1
    show wpList _ _ _ _ _ _
    simp only [Grow.dstOf, zzp, Act.put]
    go_wp2_with fail
    refine (whole_z m9 pq E_pq.out (by omega) (by omega) w' (HT0.out.ext (ext_trans HW.out hb))).mono ?_
    rintro e wz ⟨rfl, hbz⟩
    go_wp2
    exact ⟨rfl, hbz, rfl⟩
   case o11e =>
    intro w' hb v1 hv1 v2 hv2
    cases hv1
    cases hv2
    show wpList _ _ _ _ _ _
    simp only [Grow.dstOf, zzp, Act.put]
    go_wp2_with fail
    refine (times_is nq pq nn E_nn.out (N_nq.out.fits (by omega) (by omega)) (N_pq.out.fits (by omega) (by omega)) (N_nn.out.fits (by omega) (by omega)) w' (HT0.out.ext (ext_trans HW.out hb))).mono ?_
    rintro e wz ⟨rfl, hbz⟩
    go_wp2
    exact ⟨rfl, hbz, rfl⟩
   case o14e =>
    intro w' hb v1 hv1 v2 hv2
    cases hv1
    cases hv2
    show wpList _ _ _ _ _ _
    simp only [Grow.dstOf, zzp, Act.put]
    go_wp2_with fail
    refine (times_is mq mq mm E_mm.out (N_mq.out.fits (by omega) (by omega)) (N_mq.out.fits (by omega) (by omega)) (N_mm.out.fits (by omega) (by omega)) w' (HT0.out.ext (ext_trans HW.out hb))).mono ?_
    rintro e wz ⟨rfl, hbz⟩
    go_wp2
    exact ⟨rfl, hbz, rfl⟩
   case o15e =>
    intro w' hb v1 hv1 v2 hv2
    cases hv1
    cases hv2
    show wpList _ _ _ _ _ _
    simp only [Grow.dstOf, zzp, Act.put]
    go_wp2_with fail
    refine (times_is nn mm dd E_dd.out (N_nn.out.fits (by omega) (by omega)) (N_mm.out.fits (by omega) (by omega)) (N_dd.out.fits (by omega) (by omega)) w' (HT0.out.ext (ext_trans HW.out hb))).mono ?_
    rintro e wz ⟨rfl, hbz⟩
    go_wp2
    exact ⟨rfl, hbz, rfl⟩
   case o16e =>
    intro w' hb v1 hv1 v2 hv2
    cases hv1
    cases hv2
    show wpList _ _ _ _ _ _
    simp only [Grow.dstOf, zzp, Act.put]
    go_wp2_with fail
    refine (over_is re dd vq E_vq.out (N_re.out.fits (by omega) (by omega)) (N_dd.out.fits (by omega) (by omega)) HDZ.out (N_vq.out.fits (by omega) (by omega)) w' (HT0.out.ext (ext_trans HW.out hb))).mono ?_
    rintro e wz ⟨rfl, hbz⟩
    go_wp2
    exact ⟨rfl, hbz, rfl⟩
   case o17e =>
    intro w' hb v1 hv1 v2 hv2 v3 hv3
    cases hv1
    cases hv2
    cases hv3
    show wpList _ _ _ _ _ _
    simp only [Grow.dstOf, zzp, Act.put]
    go_wp2
    exact ⟨rfl, Below.refl _ _, rfl⟩
   intro w9' hbz u0 hu0 u1 hu1 u2 hu2 u3 hu3 u4 hu4 u5 hu5 u6 hu6 u7 hu7 u8 hu8 u9 hu9 u10 hu10 u11 hu11 u12 hu12 u13 hu13 u14 hu14 u15 hu15 u16 hu16 u17 hu17
   obtain rfl : u17 = _ := hu17
   clear hu0 hu1 hu2 hu3 hu4 hu5 hu6 hu7 hu8 hu9 hu10 hu11 hu12 hu13 hu14 hu15 hu16
   replace HR_m := Lib.hid (HR_m.out.ext hbz)
   replace HR_o := Lib.hid (HR_o.out.ext hbz)
   replace HR_a := Lib.hid (HR_a.out.ext hbz)
   replace HR_b := Lib.hid (HR_b.out.ext hbz)
   replace HR_y := Lib.hid (HR_y.out.ext hbz)
   replace HW := Lib.hid (ext_trans HW.out hbz)
   clear c_m_0 c_m_1 c_m_2 c_m_3 c_m_4 c_m_5 c_m_6 c_m_7 c_m_8 c_m_9 c_m_10 c_a_0 c_a_1 c_b_0 c_b_1 c_y_0 c_y_1
   clear hbz
   show wpList _ _ _ _ _ _
   simp only [Act.put, zzp]
   obtain ⟨c_o_0, c_o_1, c_o_2, c_o_3, c_o_4⟩ := zs5 HR_o.out
   have f_o_0 := HR_o.out.fre 0
   have f_o_1 := HR_o.out.fre 1
   have f_o_2 := HR_o.out.fre 2
   have f_o_3 := HR_o.out.fre 3
   have f_o_4 := HR_o.out.fre 4
   go_wp2
   obtain ⟨w10', hX⟩ : ∃ Z9, Z9 = (((((w9'.setCell ⟨(w.heap.size + 1), 0, none⟩ (.int .i64 n)).setCell ⟨(w.heap.size + 1), 1, none⟩ (.string (showN rq))).setCell ⟨(w.heap.size + 1), 2, none⟩ (.string (showD rq))).setCell ⟨(w.heap.size + 1), 3, none⟩ (.string (showN vq))).setCell ⟨(w.heap.size + 1), 4, none⟩ (.string (showD vq))) := ⟨_, rfl⟩
   rw [← hX]
   have n_o : Hid (RH w10' (w.heap.size + 1) #[.int .i64 n, .string (showN rq), .string (showD rq), .string (showN vq), .string (showD vq)] 33) := by rw [hX]; exact Lib.hid ((((((HR_o.out).set 0 (.int .i64 n)).set 1 (.string (showN rq))).set 2 (.string (showD rq))).set 3 (.string (showN vq))).set 4 (.string (showD vq)))
   have n_m : Hid (RH w10' w.heap.size (mrA (n) q.r) 35) := by rw [hX]; exact Lib.hid (zzo (zzo (zzo (zzo (zzo (HR_m.out) (by omega)) (by omega)) (by omega)) (by omega)) (by omega))
   have n_a : Hid (BF w10' b_a #[.string (showN nq), .string (showD nq)]) := by rw [hX]; exact Lib.hid ((((((HR_a.out).other (p := ⟨(w.heap.size + 1), 0, none⟩) (show b_a ≠ (w.heap.size + 1) by omega) (.int .i64 n)).other (p := ⟨(w.heap.size + 1), 1, none⟩) (show b_a ≠ (w.heap.size + 1) by omega) (.string (showN rq))).other (p := ⟨(w.heap.size + 1), 2, none⟩) (show b_a ≠ (w.heap.size + 1) by omega) (.string (showD rq))).other (p := ⟨(w.heap.size + 1), 3, none⟩) (show b_a ≠ (w.heap.size + 1) by omega) (.string (showN vq))).other (p := ⟨(w.heap.size + 1), 4, none⟩) (show b_a ≠ (w.heap.size + 1) by omega) (.string (showD vq)))
   have n_b : Hid (BF w10' b_b #[.string (showN rq), .string (showD rq)]) := by rw [hX]; exact Lib.hid ((((((HR_b.out).other (p := ⟨(w.heap.size + 1), 0, none⟩) (show b_b ≠ (w.heap.size + 1) by omega) (.int .i64 n)).other (p := ⟨(w.heap.size + 1), 1, none⟩) (show b_b ≠ (w.heap.size + 1) by omega) (.string (showN rq))).other (p := ⟨(w.heap.size + 1), 2, none⟩) (show b_b ≠ (w.heap.size + 1) by omega) (.string (showD rq))).other (p := ⟨(w.heap.size + 1), 3, none⟩) (show b_b ≠ (w.heap.size + 1) by omega) (.string (showN vq))).other (p := ⟨(w.heap.size + 1), 4, none⟩) (show b_b ≠ (w.heap.size + 1) by omega) (.string (showD vq)))
   have n_y : Hid (RH w10' b_y #[.string (showN mq), .string (showD mq)] 24) := by rw [hX]; exact Lib.hid (zzo (zzo (zzo (zzo (zzo (HR_y.out) (by omega)) (by omega)) (by omega)) (by omega)) (by omega))
   have HK_ : ∀ p : Addr, p.block ≠ (w.heap.size + 1) → w10'.cell? p = w9'.cell? p := fun p hp => by rw [hX]; exact (cs_other hp).trans ((cs_other hp).trans ((cs_other hp).trans ((cs_other hp).trans (cs_other hp))))
   have nW : Hid (Below w.heap.size w w10') := by rw [hX]; exact Lib.hid (zzw (zzw (zzw (zzw (zzw (HW.out) (by omega)) (by omega)) (by omega)) (by omega)) (by omega))
   clear c_o_0 c_o_1 c_o_2 c_o_3 c_o_4 f_o_0 f_o_1 f_o_2 f_o_3 f_o_4
   clear hX HK_ HW HR_m HR_o HR_a HR_b HR_y 
   have HR_m := n_m; clear n_m
   have HR_o := n_o; clear n_o
   have HR_a := n_a; clear n_a
   have HR_b := n_b; clear n_b
   have HR_y := n_y; clear n_y
   have HW := nW; clear nW
   refine bodyPost_ret (v := .tuple #[.agg #[.int .i64 n, .string (showN rq), .string (showD rq), .string (showN vq), .string (showD vq)], .int .i64 0]) ?_ rfl ⟨by simp only [HP.out, rtN_0, rtD_0, nF_0, HQ9.out, HRES.out.1, HRES.out.2], HW.out⟩
   have hld := run_loadVar_row (P := Tryz.prog) _ _ _ 33 _ _ _ HR_o.out Tryz.underlying33 rfl (by kernel_rfl : (Tryz.prog.info? 33).map (·.size) = some 5)
   rw [results_cell_tmp rfl]
   simp [asAddr, Result.andThen, hld]
  ·have HP : Hid (quF n q.r = 14) := Lib.hid (by rw [HP0.out, if_pos (by rw [E_yq.out]; exact of_decide_eq_true HBQ.out)])
   have HNE : Hid ((14 : Int) ≠ 0) := Lib.hid (by decide)
   obtain ⟨c_o_0, c_o_1, c_o_2, c_o_3, c_o_4⟩ := zs5 HR_o.out
   have f_o_0 := HR_o.out.fre 0
   have f_o_1 := HR_o.out.fre 1
   have f_o_2 := HR_o.out.fre 2
   have f_o_3 := HR_o.out.fre 3
   have f_o_4 := HR_o.out.fre 4
   go_wp2
   obtain ⟨w4', hX⟩ : ∃ Z9, Z9 = (((((w3'.setCell ⟨(w.heap.size + 1), 0, none⟩ (.int .i64 0)).setCell ⟨(w.heap.size + 1), 1, none⟩ (.string ⟨#[]⟩)).setCell ⟨(w.heap.size + 1), 2, none⟩ (.string ⟨#[]⟩)).setCell ⟨(w.heap.size + 1), 3, none⟩ (.string ⟨#[]⟩)).setCell ⟨(w.heap.size + 1), 4, none⟩ (.string ⟨#[]⟩)) := ⟨_, rfl⟩
   rw [← hX]
   have n_o : Hid (RH w4' (w.heap.size + 1) #[.int .i64 0, .string ⟨#[]⟩, .string ⟨#[]⟩, .string ⟨#[]⟩, .string ⟨#[]⟩] 33) := by rw [hX]; exact Lib.hid ((((((HR_o.out).set 0 (.int .i64 0)).set 1 (.string ⟨#[]⟩)).set 2 (.string ⟨#[]⟩)).set 3 (.string ⟨#[]⟩)).set 4 (.string ⟨#[]⟩))
   have n_m : Hid (RH w4' w.heap.size (mrA (n) q.r) 35) := by rw [hX]; exact Lib.hid (zzo (zzo (zzo (zzo (zzo (HR_m.out) (by omega)) (by omega)) (by omega)) (by omega)) (by omega))
   have HK_ : ∀ p : Addr, p.block ≠ (w.heap.size + 1) → w4'.cell? p = w3'.cell? p := fun p hp => by rw [hX]; exact (cs_other hp).trans ((cs_other hp).trans ((cs_other hp).trans ((cs_other hp).trans (cs_other hp))))
   have nW : Hid (Below w.heap.size w w4') := by rw [hX]; exact Lib.hid (zzw (zzw (zzw (zzw (zzw (HW.out) (by omega)) (by omega)) (by omega)) (by omega)) (by omega))
   clear c_o_0 c_o_1 c_o_2 c_o_3 c_o_4 f_o_0 f_o_1 f_o_2 f_o_3 f_o_4
   clear hX HK_ HW HR_m HR_o 
   have HR_m := n_m; clear n_m
   have HR_o := n_o; clear n_o
   have HW := nW; clear nW
   refine bodyPost_ret (v := .tuple #[.agg #[.int .i64 0, .string ⟨#[]⟩, .string ⟨#[]⟩, .string ⟨#[]⟩, .string ⟨#[]⟩], .int .i64 14]) ?_ rfl ⟨by simp only [HP.out, rtN_no HNE.out, rtD_no HNE.out, nF_no HNE.out], HW.out⟩
   have hld := run_loadVar_row (P := Tryz.prog) _ _ _ 33 _ _ _ HR_o.out Tryz.underlying33 rfl (by kernel_rfl : (Tryz.prog.info? 33).map (·.size) = some 5)
   rw [results_cell_tmp rfl]
   simp [asAddr, Result.andThen, hld]
 ·have hne2 : (atF 2 n r != 0) = true := by simp [hz]
  have HNE := Lib.hid hz
  clear hz
  have HP : Hid (quF n r = atF 2 n r) := Lib.hid (by unfold quF; rw [if_pos HNE.out])
  obtain ⟨c_o_0, c_o_1, c_o_2, c_o_3, c_o_4⟩ := zs5 HR_o.out
  have f_o_0 := HR_o.out.fre 0
  have f_o_1 := HR_o.out.fre 1
  have f_o_2 := HR_o.out.fre 2
  have f_o_3 := HR_o.out.fre 3
  have f_o_4 := HR_o.out.fre 4
  go_wp2
  obtain ⟨w3', hX⟩ : ∃ Z9, Z9 = (((((w2'.setCell ⟨(w.heap.size + 1), 0, none⟩ (.int .i64 0)).setCell ⟨(w.heap.size + 1), 1, none⟩ (.string ⟨#[]⟩)).setCell ⟨(w.heap.size + 1), 2, none⟩ (.string ⟨#[]⟩)).setCell ⟨(w.heap.size + 1), 3, none⟩ (.string ⟨#[]⟩)).setCell ⟨(w.heap.size + 1), 4, none⟩ (.string ⟨#[]⟩)) := ⟨_, rfl⟩
  rw [← hX]
  have n_o : Hid (RH w3' (w.heap.size + 1) #[.int .i64 0, .string ⟨#[]⟩, .string ⟨#[]⟩, .string ⟨#[]⟩, .string ⟨#[]⟩] 33) := by rw [hX]; exact Lib.hid ((((((HR_o.out).set 0 (.int .i64 0)).set 1 (.string ⟨#[]⟩)).set 2 (.string ⟨#[]⟩)).set 3 (.string ⟨#[]⟩)).set 4 (.string ⟨#[]⟩))
  have n_m : Hid (RH w3' w.heap.size (mrA (n) r) 35) := by rw [hX]; exact Lib.hid (zzo (zzo (zzo (zzo (zzo (HR_m.out) (by omega)) (by omega)) (by omega)) (by omega)) (by omega))
  have HK_ : ∀ p : Addr, p.block ≠ (w.heap.size + 1) → w3'.cell? p = w2'.cell? p := fun p hp => by rw [hX]; exact (cs_other hp).trans ((cs_other hp).trans ((cs_other hp).trans ((cs_other hp).trans (cs_other hp))))
  have nW : Hid (Below w.heap.size w w3') := by rw [hX]; exact Lib.hid (zzw (zzw (zzw (zzw (zzw (HW.out) (by omega)) (by omega)) (by omega)) (by omega)) (by omega))
  clear c_o_0 c_o_1 c_o_2 c_o_3 c_o_4 f_o_0 f_o_1 f_o_2 f_o_3 f_o_4
  clear hX HK_ HW HR_m HR_o 
  have HR_m := n_m; clear n_m
  have HR_o := n_o; clear n_o
  have HW := nW; clear nW
  refine bodyPost_ret (v := .tuple #[.agg #[.int .i64 0, .string ⟨#[]⟩, .string ⟨#[]⟩, .string ⟨#[]⟩, .string ⟨#[]⟩], .int .i64 (atF 2 n r)]) ?_ rfl ⟨by simp only [HP.out, rtN_no HNE.out, rtD_no HNE.out, nF_no HNE.out], HW.out⟩
  have hld := run_loadVar_row (P := Tryz.prog) _ _ _ 33 _ _ _ HR_o.out Tryz.underlying33 rfl (by kernel_rfl : (Tryz.prog.info? 33).map (·.size) = some 5)
  rw [results_cell_tmp rfl]
  simp [asAddr, Result.andThen, hld]
end Nt
end Go.Proofs.YtlbnjgnbpiidaaaGreatDoor
