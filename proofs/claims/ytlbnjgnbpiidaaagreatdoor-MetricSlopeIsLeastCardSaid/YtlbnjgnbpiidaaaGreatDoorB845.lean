/- Slope and Quotient of package metric. Printed by gen_adj.py. -/
import Derived.Test.YtlbnjgnbpiidaaaGreatDoorB836
import Derived.Test.YtlbnjgnbpiidaaaGreatDoorB828
import Derived.Test.YtlbnjgnbpiidaaaGreatDoorB800
import Derived.Test.YtlbnjgnbpiidaaaGreatDoorB829
import Derived.Test.YtlbnjgnbpiidaaaGreatDoorB813
import Derived.Test.YtlbnjgnbpiidaaaGreatDoorB827
import Derived.Test.YtlbnjgnbpiidaaaGreatDoorProg
import Derived.Test.YtlbnjgnbpiidaaaGreatDoorB801
import Derived.Test.YtlbnjgnbpiidaaaGreatDoorB802
import Derived.Test.YtlbnjgnbpiidaaaGreatDoorB803
import Derived.Test.YtlbnjgnbpiidaaaGreatDoorB804
import Derived.Test.YtlbnjgnbpiidaaaGreatDoorB805
import Derived.Test.YtlbnjgnbpiidaaaGreatDoorB806
import Derived.Test.YtlbnjgnbpiidaaaGreatDoorB807
import Derived.Test.YtlbnjgnbpiidaaaGreatDoorB808
import Derived.Test.YtlbnjgnbpiidaaaGreatDoorB809
import Derived.Test.YtlbnjgnbpiidaaaGreatDoorB810
import Derived.Test.YtlbnjgnbpiidaaaGreatDoorB811
import Derived.Test.YtlbnjgnbpiidaaaGreatDoorB830
import Derived.Test.YtlbnjgnbpiidaaaGreatDoorB831
import Derived.Test.YtlbnjgnbpiidaaaGreatDoorB832
import Derived.Test.YtlbnjgnbpiidaaaGreatDoorB833
import Derived.Test.YtlbnjgnbpiidaaaGreatDoorB835
namespace Go.Proofs.YtlbnjgnbpiidaaaGreatDoor
open Go.RowKit
namespace Nm
open _root_.Go.Proofs.YtlbnjgnbpiidaaaGreatDoor.Nt (RH RH.cell RH.box RH.row RH.lt RH.new RH.ext RH.fre RH.set RH.other RH.row_other store_cells)

/-- the quotient of the sums, and its variance -/
def quR (q : Q5) : Rat := q.x / q.y
def quV (n : Int) (q : Q5) : Rat := ((spA n q - ((2 : Int) : Rat) * (q.x / q.y) * spC n q) + (q.x / q.y) * (q.x / q.y) * spB n q) / (((n - 1 : Int) : Rat) * ((n : Int) : Rat)) / ((q.y / (n : Rat)) * (q.y / (n : Rat)))
def quF (n : Int) (r : R5) : Int := if atF 2 n r ≠ 0 then atF 2 n r else if r.q.y = 0 then 14 else 0
set_option maxRecDepth 100000 in
set_option maxHeartbeats 16000000 in
theorem quotM_at (n : Int) (r : R5) (hok : r.ok) (w : World) : Calls Tryz.prog 10 #[.agg (mrA n r)] w (EsPost w (quF n r) n (quR r.q) (quV n r.q)) := by
 have HOK := Lib.hid hok
 clear hok
 go_enter Tryz.func10, Tryz.ntmps10
 go_upto_region 1 with (fail)
 refine wp_rows2 fun w1' hbz hR0 hR1 => ?_
 have HR_m : Hid (RH w1' w.heap.size (mrA (n) r) 35) := Lib.hid hR0
 have HR_o : Hid (RH w1' (w.heap.size + 1) #[.int .i64 0, .string ⟨#[]⟩, .string ⟨#[]⟩, .string ⟨#[]⟩, .string ⟨#[]⟩] 33) := Lib.hid hR1
 have HW := Lib.hid hbz
 clear hbz hR0 hR1
 go_wp2_with (first | (refine wpList_load_row rfl _ _ rfl w.heap.size rfl _ (mrA (n) r) _ _ HR_m.out Tryz.underlying35 rfl (mr_info _ _) ?_))
 refine (atLeast_at 2 n r HOK.out w1').mono ?_
 rintro e w2' ⟨k9, t9, rfl, hx9, hbz⟩
 replace HR_m := Lib.hid (HR_m.out.ext hbz)
 replace HR_o := Lib.hid (HR_o.out.ext hbz)
 replace HW := Lib.hid (ext_trans HW.out hbz)
 clear hbz
 have HRD : Hid (RdIf w2' (atF 2 n r) n r k9 t9) := Lib.hid hx9
 clear hx9
 have hsz : (smA (k9) t9).size = 16 := rfl
 have hsc := run_storeCells_new (P := Tryz.prog) w2' 59 #[.int .i64 0, .bool false, .slice none 0 0, .slice none 0 0, .bool false, .slice none 0 0, .slice none 0 0, .bool false, .slice none 0 0, .slice none 0 0, .bool false, .slice none 0 0, .slice none 0 0, .bool false, .slice none 0 0, .slice none 0 0] (smA (k9) t9) (sm_info _ _) rfl (sm_all _ _)
 go_upto_region 2 with (fail)
 clear hsc hsz
 refine wp_rows1 fun w3' hbz hR0 => ?_
 have lt_m_s : w.heap.size < w2'.heap.size := HR_m.out.lt
 have lt_o_s : (w.heap.size + 1) < w2'.heap.size := HR_o.out.lt
 have le_s : w.heap.size ≤ w2'.heap.size := HW.out.size
 replace HR_m := Lib.hid (HR_m.out.ext hbz)
 replace HR_o := Lib.hid (HR_o.out.ext hbz)
 replace HRD := Lib.hid (HRD.out.ext hbz)
 replace HW := Lib.hid (ext_trans HW.out hbz)
 clear hbz
 have HR_s : Hid (RH w3' w2'.heap.size (smA (k9) t9) 59) := Lib.hid hR0
 clear hR0
 generalize w2'.heap.size = b_s at *
 by_cases hz : atF 2 n r = 0
 ·have hne2 : (atF 2 n r != 0) = false := by simp [hz]
  have HZ := Lib.hid hz
  obtain rfl : n = k9 := (HRD.out hz).1.symm
  have HX : Hid (SX w3' t9 r.q) := Lib.hid ((HRD.out hz).2)
  clear HRD
  obtain ⟨_, hn0, hn1, hql⟩ := at_ql hz
  have HQL := Lib.hid hql
  have HNB := Lib.hid (And.intro hn0 hn1)
  clear hz hql
  have HP0 : Hid (quF n r = if r.q.y = 0 then 14 else 0) := Lib.hid (by unfold quF; rw [if_neg (fun h => h HZ.out)])
  obtain ⟨bz, hbz0⟩ : ∃ b, decide (r.q.y = 0) = b := ⟨_, rfl⟩
  have HBZ := Lib.hid hbz0
  clear hbz0
  obtain ⟨-, -, -, -, c_s_4, c_s_5, c_s_6, -, -, -, -, -, -, -, -, -⟩ := zs16 HR_s.out
  go_wp2_with fail
  refine (zero_is r.q.y bz (by rw [← HBZ.out, Bool.eq_iff_iff]; simp [Rat.num_eq_zero]) _ w3' HX.out.y).mono ?_
  rintro e w4' ⟨rfl, hbz⟩
  replace HR_m := Lib.hid (HR_m.out.ext hbz)
  replace HR_o := Lib.hid (HR_o.out.ext hbz)
  replace HR_s := Lib.hid (HR_s.out.ext hbz)
  replace HX := Lib.hid (HX.out.ext hbz)
  replace HW := Lib.hid (ext_trans HW.out hbz)
  clear c_s_4 c_s_5 c_s_6
  clear hbz
  cases bz
  ·have HYZ : Hid (r.q.y ≠ 0) := Lib.hid (of_decide_eq_false HBZ.out)
   have HP : Hid (quF n r = 0) := Lib.hid (by rw [HP0.out, if_neg HYZ.out])
   obtain ⟨m9, hm9⟩ : ∃ m, n - 1 = m := ⟨_, rfl⟩
   have hmw : IntKind.i64.wrap (n - 1) = m9 := (IntWalk.i64_in _ (by omega)).trans hm9
   have hmb : 1 ≤ m9 ∧ m9 ≤ 20000 := by omega
   have HM9 := Lib.hid hm9
   clear hm9
   obtain ⟨xq, hxq⟩ : ∃ z, r.q.x = z := ⟨_, rfl⟩
   obtain ⟨yq, hyq⟩ : ∃ z, r.q.y = z := ⟨_, rfl⟩
   have E_xq := Lib.hid hxq
   have E_yq := Lib.hid hyq
   have N_xq : Hid (Ln 100 0 xq) := Lib.hid (by rw [← hxq]; exact HQL.out.x)
   have N_yq : Hid (Ln 100 0 yq) := Lib.hid (by rw [← hyq]; exact HQL.out.y)
   replace HYZ : Hid (yq ≠ 0) := Lib.hid (by rw [← hyq]; exact HYZ.out)
   clear hxq hyq
   obtain ⟨rq, h9⟩ : ∃ z : Rat, xq / yq = z := ⟨_, rfl⟩
   have E_rq := Lib.hid h9
   have N_rq : Hid (Ln 100 100 rq) := Lib.hid (by rw [← h9]; exact (Ln.div N_xq.out N_yq.out HYZ.out).mono (by omega) (by omega))
   clear h9
   obtain ⟨aq, h9⟩ : ∃ z : Rat, spA n r.q = z := ⟨_, rfl⟩
   have E_aq := Lib.hid h9
   have N_aq : Hid (Ln 201 5 aq) := Lib.hid (by rw [← h9]; exact (HQL.out.spA (by omega) hn1).mono (by omega) (by omega))
   clear h9
   obtain ⟨bq, h9⟩ : ∃ z : Rat, spB n r.q = z := ⟨_, rfl⟩
   have E_bq := Lib.hid h9
   have N_bq : Hid (Ln 201 5 bq) := Lib.hid (by rw [← h9]; exact (HQL.out.spB (by omega) hn1).mono (by omega) (by omega))
   clear h9
   obtain ⟨cq, h9⟩ : ∃ z : Rat, spC n r.q = z := ⟨_, rfl⟩
   have E_cq := Lib.hid h9
   have N_cq : Hid (Ln 201 5 cq) := Lib.hid (by rw [← h9]; exact (HQL.out.spC (by omega) hn1).mono (by omega) (by omega))
   clear h9
   obtain ⟨two, h9⟩ : ∃ z : Rat, ((2 : Int) : Rat) = z := ⟨_, rfl⟩
   have E_two := Lib.hid h9
   have N_two : Hid (Ln 1 0 two) := Lib.hid (by rw [← h9]; exact (Ln.int (z := 2) (a := 1) (by decide)).mono (by omega) (by omega))
   clear h9
   obtain ⟨tr, h9⟩ : ∃ z : Rat, two * rq = z := ⟨_, rfl⟩
   have E_tr := Lib.hid h9
   have N_tr : Hid (Ln 101 100 tr) := Lib.hid (by rw [← h9]; exact (Ln.mul N_two.out N_rq.out).mono (by omega) (by omega))
   clear h9
   obtain ⟨tc, h9⟩ : ∃ z : Rat, tr * cq = z := ⟨_, rfl⟩
   have E_tc := Lib.hid h9
   have N_tc : Hid (Ln 302 105 tc) := Lib.hid (by rw [← h9]; exact (Ln.mul N_tr.out N_cq.out).mono (by omega) (by omega))
   clear h9
   obtain ⟨d1, h9⟩ : ∃ z : Rat, aq - tc = z := ⟨_, rfl⟩
   have E_d1 := Lib.hid h9
   have N_d1 : Hid (Ln 310 110 d1) := Lib.hid (by rw [← h9]; exact (Ln.sub N_aq.out N_tc.out).mono (by omega) (by omega))
   clear h9
   obtain ⟨rr, h9⟩ : ∃ z : Rat, rq * rq = z := ⟨_, rfl⟩
   have E_rr := Lib.hid h9
   have N_rr : Hid (Ln 200 200 rr) := Lib.hid (by rw [← h9]; exact (Ln.mul N_rq.out N_rq.out).mono (by omega) (by omega))
   clear h9
   obtain ⟨rb, h9⟩ : ∃ z : Rat, rr * bq = z := ⟨_, rfl⟩
   have E_rb := Lib.hid h9
   have N_rb : Hid (Ln 401 205 rb) := Lib.hid (by rw [← h9]; exact (Ln.mul N_rr.out N_bq.out).mono (by omega) (by omega))
   clear h9
   obtain ⟨re, h9⟩ : ∃ z : Rat, d1 + rb = z := ⟨_, rfl⟩
   have E_re := Lib.hid h9
   have N_re : Hid (Ln 520 315 re) := Lib.hid (by rw [← h9]; exact (Ln.add N_d1.out N_rb.out).mono (by omega) (by omega))
   clear h9
   obtain ⟨nq, hnq⟩ : ∃ z : Rat, ((n : Int) : Rat) = z := ⟨_, rfl⟩
   have HNQ := Lib.hid hnq
   have N_nq : Hid (Ln 5 0 nq) := Lib.hid (by rw [← hnq]; exact ln_n (by omega) hn1)
   have HNZ : Hid (nq ≠ 0) := Lib.hid (by rw [← hnq]; exact n_ne (by omega))
   obtain ⟨pq, hpq⟩ : ∃ z : Rat, ((m9 : Int) : Rat) = z := ⟨_, rfl⟩
   have HPQ := Lib.hid hpq
   have N_pq : Hid (Ln 5 0 pq) := Lib.hid (by rw [← hpq]; exact ln_n (by omega) (by omega))
   have HPZ : Hid (pq ≠ 0) := Lib.hid (by rw [← hpq]; exact n_ne (by omega))
   clear hnq hpq
   obtain ⟨nn, h9⟩ : ∃ z : Rat, pq * nq = z := ⟨_, rfl⟩
   have E_nn := Lib.hid h9
   have N_nn : Hid (Ln 10 0 nn) := Lib.hid (by rw [← h9]; exact (Ln.mul N_pq.out N_nq.out).mono (by omega) (by omega))
   clear h9
   have HNN : Hid (nn ≠ 0) := Lib.hid (by rw [← E_nn.out]; exact fun h => (Rat.mul_eq_zero.1 h).elim HPZ.out HNZ.out)
   have HNNQ : Hid (((m9 : Int) : Rat) * ((n : Int) : Rat) = nn) := Lib.hid (by rw [HPQ.out, HNQ.out]; exact E_nn.out)
   obtain ⟨wq, h9⟩ : ∃ z : Rat, re / nn = z := ⟨_, rfl⟩
   have E_wq := Lib.hid h9
   have N_wq : Hid (Ln 520 325 wq) := Lib.hid (by rw [← h9]; exact (Ln.div N_re.out N_nn.out HNN.out).mono (by omega) (by omega))
   clear h9
   obtain ⟨mq, h9⟩ : ∃ z : Rat, yq / nq = z := ⟨_, rfl⟩
   have E_mq := Lib.hid h9
   have N_mq : Hid (Ln 100 5 mq) := Lib.hid (by rw [← h9]; exact (Ln.div N_yq.out N_nq.out HNZ.out).mono (by omega) (by omega))
   clear h9
   have HMZ : Hid (mq ≠ 0) := Lib.hid (by
    have e := E_mq.out
    have h1 := HYZ.out
    have h2 := HNZ.out
    intro h
    rw [h] at e
    exact h1 (by grind))
   obtain ⟨mm, h9⟩ : ∃ z : Rat, mq * mq = z := ⟨_, rfl⟩
   have E_mm := Lib.hid h9
   have N_mm : Hid (Ln 200 10 mm) := Lib.hid (by rw [← h9]; exact (Ln.mul N_mq.out N_mq.out).mono (by omega) (by omega))
   clear h9
   have HMM : Hid (mm ≠ 0) := Lib.hid (by rw [← E_mm.out]; exact fun h => (Rat.mul_eq_zero.1 h).elim HMZ.out HMZ.out)
   obtain ⟨vq, h9⟩ : ∃ z : Rat, wq / mm = z := ⟨_, rfl⟩
   have E_vq := Lib.hid h9
   have N_vq : Hid (Ln 530 525 vq) := Lib.hid (by rw [← h9]; exact (Ln.div N_wq.out N_mm.out HMM.out).mono (by omega) (by omega))
   clear h9
   have HRES : Hid (quR r.q = rq ∧ quV n r.q = vq) := Lib.hid ⟨by unfold quR; rw [E_xq.out, E_yq.out, E_rq.out], by unfold quV; rw [E_xq.out, E_yq.out, E_rq.out, E_aq.out, E_bq.out, E_cq.out, E_two.out, E_tr.out, E_tc.out, E_d1.out, E_rr.out, E_rb.out, E_re.out, HM9.out, HPQ.out, HNQ.out, E_nn.out, E_wq.out, E_mq.out, E_mm.out, E_vq.out]⟩
   obtain ⟨c_s_0, c_s_1, c_s_2, c_s_3, c_s_4, c_s_5, c_s_6, -, -, -, -, -, -, -, -, -⟩ := zs16 HR_s.out
   go_wp2_with fail
   refine (mover_is r.q.x r.q.y rq (by rw [E_xq.out, E_yq.out]; exact E_rq.out) (by rw [E_yq.out]; exact HYZ.out) _ _ w4' HX.out.x HX.out.y (by rw [E_xq.out]; exact (N_xq.out.sm (by omega) (by omega))) (by rw [E_yq.out]; exact (N_yq.out.sm (by omega) (by omega)))).mono ?_
   rintro e w5' ⟨v9, rfl, hv9, hbz⟩
   obtain ⟨tk, rfl, hx9⟩ := hv9.y3
   clear hv9
   replace HR_m := Lib.hid (HR_m.out.ext hbz)
   replace HR_o := Lib.hid (HR_o.out.ext hbz)
   replace HR_s := Lib.hid (HR_s.out.ext hbz)
   replace HX := Lib.hid (HX.out.ext hbz)
   replace HW := Lib.hid (ext_trans HW.out hbz)
   clear c_s_0 c_s_1 c_s_2 c_s_3 c_s_4 c_s_5 c_s_6
   clear hbz
   have HXr : Hid (XR w5' (y3V tk) rq) := Lib.hid hx9
   clear hx9
   go_upto_region 7 with (fail)
   refine wp_rows1 fun w6' hbz hR0 => ?_
   have lt_m_r : w.heap.size < w5'.heap.size := HR_m.out.lt
   have lt_o_r : (w.heap.size + 1) < w5'.heap.size := HR_o.out.lt
   have lt_s_r : b_s < w5'.heap.size := HR_s.out.lt
   have le_r : w.heap.size ≤ w5'.heap.size := HW.out.size
   replace HR_m := Lib.hid (HR_m.out.ext hbz)
   replace HR_o := Lib.hid (HR_o.out.ext hbz)
   replace HR_s := Lib.hid (HR_s.out.ext hbz)
   replace HX := Lib.hid (HX.out.ext hbz)
   replace HXr := Lib.hid (HXr.out.ext hbz)
   replace HW := Lib.hid (ext_trans HW.out hbz)
   clear hbz
   have HR_r : Hid (RH w6' w5'.heap.size #[.bool tk.b, .slice tk.a1 tk.n1 tk.c1, .slice tk.a2 tk.n2 tk.c2] 52) := Lib.hid hR0
   clear hR0
   generalize w5'.heap.size = b_r at *
   go_wp2_with (first | (refine wpList_load_row rfl _ _ rfl b_s rfl _ (smA (n) t9) _ _ HR_s.out Tryz.underlying59 rfl (sm_info _ _) ?_))
   refine (spread_at n (by omega) hn1 t9 r.q w6' HX.out HQL.out).mono ?_
   rintro e w7' ⟨t1, t2, t3, rfl, hx1, hx2, hx3, hbz⟩
   replace HR_m := Lib.hid (HR_m.out.ext hbz)
   replace HR_o := Lib.hid (HR_o.out.ext hbz)
   replace HR_s := Lib.hid (HR_s.out.ext hbz)
   replace HR_r := Lib.hid (HR_r.out.ext hbz)
   replace HX := Lib.hid (HX.out.ext hbz)
   replace HXr := Lib.hid (HXr.out.ext hbz)
   replace HW := Lib.hid (ext_trans HW.out hbz)
   clear hbz
   have HXx : Hid (XR w7' (y3V t1) (spA n r.q)) := Lib.hid hx1
   clear hx1
   have HXy : Hid (XR w7' (y3V t2) (spB n r.q)) := Lib.hid hx2
   clear hx2
   have HXc : Hid (XR w7' (y3V t3) (spC n r.q)) := Lib.hid hx3
   clear hx3
   rw [E_aq.out] at HXx
   rw [E_bq.out] at HXy
   rw [E_cq.out] at HXc
   go_upto_region 8 with (fail)
   refine wp_rows3 fun w8' hbz hR0 hR1 hR2 => ?_
   have lt_m_x : w.heap.size < w7'.heap.size := HR_m.out.lt
   have lt_o_x : (w.heap.size + 1) < w7'.heap.size := HR_o.out.lt
   have lt_s_x : b_s < w7'.heap.size := HR_s.out.lt
   have lt_r_x : b_r < w7'.heap.size := HR_r.out.lt
   have le_x : w.heap.size ≤ w7'.heap.size := HW.out.size
   replace HR_m := Lib.hid (HR_m.out.ext hbz)
   replace HR_o := Lib.hid (HR_o.out.ext hbz)
   replace HR_s := Lib.hid (HR_s.out.ext hbz)
   replace HR_r := Lib.hid (HR_r.out.ext hbz)
   replace HX := Lib.hid (HX.out.ext hbz)
   replace HXr := Lib.hid (HXr.out.ext hbz)
   replace HXx := Lib.hid (HXx.out.ext hbz)
   replace HXy := Lib.hid (HXy.out.ext hbz)
   replace HXc := Lib.hid (HXc.out.ext hbz)
   replace HW := Lib.hid (ext_trans HW.out hbz)
   clear hbz
   have HR_x : Hid (RH w8' w7'.heap.size #[.bool t1.b, .slice t1.a1 t1.n1 t1.c1, .slice t1.a2 t1.n2 t1.c2] 52) := Lib.hid hR0
   have HR_y : Hid (RH w8' (w7'.heap.size + 1) #[.bool t2.b, .slice t2.a1 t2.n1 t2.c1, .slice t2.a2 t2.n2 t2.c2] 52) := Lib.hid hR1
   have HR_c : Hid (RH w8' (w7'.heap.size + 2) #[.bool t3.b, .slice t3.a1 t3.n1 t3.c1, .slice t3.a2 t3.n2 t3.c2] 52) := Lib.hid hR2
   clear hR0 hR1 hR2
   generalize w7'.heap.size = b_x at *
   obtain ⟨c_x_0, c_x_1, c_x_2⟩ := zs3 HR_x.out
   obtain ⟨c_y_0, c_y_1, c_y_2⟩ := zs3 HR_y.out
   obtain ⟨c_c_0, c_c_1, c_c_2⟩ := zs3 HR_c.out
   obtain ⟨c_r_0, c_r_1, c_r_2⟩ := zs3 HR_r.out
   refine Grow.wp_region_grow 14 [TP.eq (.agg #[.bool t1.b, .slice t1.a1 t1.n1 t1.c1, .slice t1.a2 t1.n2 t1.c2]), TP.xq two, TP.eq (.agg #[.bool tk.b, .slice tk.a1 tk.n1 tk.c1, .slice tk.a2 tk.n2 tk.c2]), TP.xq tr, TP.eq (.agg #[.bool t3.b, .slice t3.a1 t3.n1 t3.c1, .slice t3.a2 t3.n2 t3.c2]), TP.xq tc, TP.xq d1, TP.eq (.agg #[.bool tk.b, .slice tk.a1 tk.n1 tk.c1, .slice tk.a2 tk.n2 tk.c2]), TP.eq (.agg #[.bool tk.b, .slice tk.a1 tk.n1 tk.c1, .slice tk.a2 tk.n2 tk.c2]), TP.xq rr, TP.eq (.agg #[.bool t2.b, .slice t2.a1 t2.n1 t2.c1, .slice t2.a2 t2.n2 t2.c2]), TP.xq rb, TP.xq re, TP.row w8'.heap.size zeroX 52] [[], [], [], [1, 2], [], [3, 4], [0, 5], [], [], [7, 8], [], [9, 10], [6, 11], []] (by kernel_rfl) (by kernel_rfl) ⟨?o0q, ?o1q, ?o2q, ?o3q, ?o4q, ?o5q, ?o6q, ?o7q, ?o8q, ?o9q, ?o10q, ?o11q, ?o12q, ?o13q, trivial⟩ ?_
   case o0q | o2q | o4q | o7q | o8q | o10q =>
    intro w' hb
    have c_x_0' := zzc hb c_x_0
    have c_x_1' := zzc hb c_x_1
    have c_x_2' := zzc hb c_x_2
    have c_r_0' := zzc hb c_r_0
    have c_r_1' := zzc hb c_r_1
    have c_r_2' := zzc hb c_r_2
    have c_c_0' := zzc hb c_c_0
    have c_c_1' := zzc hb c_c_1
    have c_c_2' := zzc hb c_c_2
    have c_y_0' := zzc hb c_y_0
    have c_y_1' := zzc hb c_y_1
    have c_y_2' := zzc hb c_y_2
    show wpList _ _ _ _ _ _
    go_wp2
    exact ⟨rfl, Below.refl _ _, rfl⟩
   case o1q =>
    intro w' hb
    show wpList _ _ _ _ _ _
    go_wp2_with fail
    refine (mwhole_is 2 two E_two.out (by decide) (by decide) w').mono ?_
    rintro e wz ⟨vz, rfl, hxz, hbz⟩
    go_wp2
    exact ⟨hxz, hbz, rfl⟩
   case o3q =>
    intro w' hb v1 hv1 v2 hv2
    cases hv2
    have hv1' : XR w' v1 two := hv1
    clear hv1
    show wpList _ _ _ _ _ _
    simp only [Grow.dstOf, zzp, Act.put]
    go_wp2_with fail
    refine (xtimes_sm two rq tr E_tr.out _ _ w' hv1' (HXr.out.ext hb) (N_two.out.sm (by omega) (by omega)) (N_rq.out.sm (by omega) (by omega))).mono ?_
    rintro e wz ⟨vz, rfl, hxz, hbz⟩
    go_wp2
    exact ⟨hxz, hbz, rfl⟩
   case o5q =>
    intro w' hb v1 hv1 v2 hv2
    cases hv2
    have hv1' : XR w' v1 tr := hv1
    clear hv1
    show wpList _ _ _ _ _ _
    simp only [Grow.dstOf, zzp, Act.put]
    go_wp2_with fail
    refine (xtimes_sm tr cq tc E_tc.out _ _ w' hv1' (HXc.out.ext hb) (N_tr.out.sm (by omega) (by omega)) (N_cq.out.sm (by omega) (by omega))).mono ?_
    rintro e wz ⟨vz, rfl, hxz, hbz⟩
    go_wp2
    exact ⟨hxz, hbz, rfl⟩
   case o6q =>
    intro w' hb v1 hv1 v2 hv2
    cases hv1
    have hv2' : XR w' v2 tc := hv2
    clear hv2
    show wpList _ _ _ _ _ _
    simp only [Grow.dstOf, zzp, Act.put]
    go_wp2_with fail
    refine (mminus_is aq tc d1 E_d1.out _ _ w' (HXx.out.ext hb) hv2' (N_aq.out.sm (by omega) (by omega)) (N_tc.out.sm (by omega) (by omega))).mono ?_
    rintro e wz ⟨vz, rfl, hxz, hbz⟩
    go_wp2
    exact ⟨hxz, hbz, rfl⟩
   case o9q =>
    intro w' hb v1 hv1 v2 hv2
    cases hv1
    cases hv2
    show wpList _ _ _ _ _ _
    simp only [Grow.dstOf, zzp, Act.put]
    go_wp2_with fail
    refine (xtimes_sm rq rq rr E_rr.out _ _ w' (HXr.out.ext hb) (HXr.out.ext hb) (N_rq.out.sm (by omega) (by omega)) (N_rq.out.sm (by omega) (by omega))).mono ?_
    rintro e wz ⟨vz, rfl, hxz, hbz⟩
    go_wp2
    exact ⟨hxz, hbz, rfl⟩
   case o11q =>
    intro w' hb v1 hv1 v2 hv2
    cases hv2
    have hv1' : XR w' v1 rr := hv1
    clear hv1
    show wpList _ _ _ _ _ _
    simp only [Grow.dstOf, zzp, Act.put]
    go_wp2_with fail
    refine (xtimes_sm rr bq rb E_rb.out _ _ w' hv1' (HXy.out.ext hb) (N_rr.out.sm (by omega) (by omega)) (N_bq.out.sm (by omega) (by omega))).mono ?_
    rintro e wz ⟨vz, rfl, hxz, hbz⟩
    go_wp2
    exact ⟨hxz, hbz, rfl⟩
   case o12q =>
    intro w' hb v1 hv1 v2 hv2
    have hv1' : XR w' v1 d1 := hv1
    have hv2' : XR w' v2 rb := hv2
    clear hv1 hv2
    show wpList _ _ _ _ _ _
    simp only [Grow.dstOf, zzp, Act.put]
    go_wp2_with fail
    refine (xplus_sm d1 rb re E_re.out _ _ w' hv1' hv2' (N_d1.out.sm (by omega) (by omega)) (N_rb.out.sm (by omega) (by omega))).mono ?_
    rintro e wz ⟨vz, rfl, hxz, hbz⟩
    go_wp2
    exact ⟨hxz, hbz, rfl⟩
   case o13q =>
    intro w' hb
    show wpList _ _ _ _ _ _
    go_wp2
    exact ⟨⟨_, rfl, hb.size, RH.new _ _ _⟩, ext_alloc _ _, rfl⟩
   intro w9' hbz u0 hu0 u1 hu1 u2 hu2 u3 hu3 u4 hu4 u5 hu5 u6 hu6 u7 hu7 u8 hu8 u9 hu9 u10 hu10 u11 hu11 u12 hu12 u13 hu13
   have hv9 : XR w9' u12 re := hu12
   have hg9 : ∃ g, u13 = .pointer (some ⟨g, 0, none⟩) ∧ w8'.heap.size ≤ g ∧ RH w9' g zeroX 52 := hu13
   clear hu0 hu1 hu2 hu3 hu4 hu5 hu6 hu7 hu8 hu9 hu10 hu11 hu12 hu13
   obtain ⟨b_g, rfl, hgY, hRg⟩ := hg9
   have lt_m_g : w.heap.size < b_g := Nat.lt_of_lt_of_le HR_m.out.lt hgY
   have lt_o_g : (w.heap.size + 1) < b_g := Nat.lt_of_lt_of_le HR_o.out.lt hgY
   have lt_s_g : b_s < b_g := Nat.lt_of_lt_of_le HR_s.out.lt hgY
   have lt_r_g : b_r < b_g := Nat.lt_of_lt_of_le HR_r.out.lt hgY
   have lt_x_g : b_x < b_g := Nat.lt_of_lt_of_le HR_x.out.lt hgY
   have lt_y_g : (b_x + 1) < b_g := Nat.lt_of_lt_of_le HR_y.out.lt hgY
   have lt_c_g : (b_x + 2) < b_g := Nat.lt_of_lt_of_le HR_c.out.lt hgY
   have le_g : w.heap.size ≤ b_g := Nat.le_trans HW.out.size hgY
   clear hgY
   replace HR_m := Lib.hid (HR_m.out.ext hbz)
   replace HR_o := Lib.hid (HR_o.out.ext hbz)
   replace HR_s := Lib.hid (HR_s.out.ext hbz)
   replace HR_r := Lib.hid (HR_r.out.ext hbz)
   replace HR_x := Lib.hid (HR_x.out.ext hbz)
   replace HR_y := Lib.hid (HR_y.out.ext hbz)
   replace HR_c := Lib.hid (HR_c.out.ext hbz)
   replace HX := Lib.hid (HX.out.ext hbz)
   replace HXr := Lib.hid (HXr.out.ext hbz)
   replace HXx := Lib.hid (HXx.out.ext hbz)
   replace HXy := Lib.hid (HXy.out.ext hbz)
   replace HXc := Lib.hid (HXc.out.ext hbz)
   replace HW := Lib.hid (ext_trans HW.out hbz)
   clear c_x_0 c_x_1 c_x_2 c_y_0 c_y_1 c_y_2 c_c_0 c_c_1 c_c_2 c_r_0 c_r_1 c_r_2
   clear hbz
   obtain ⟨t4, rfl, hx9⟩ := hv9.y3
   clear hv9
   have HXg : Hid (XR w9' (y3V t4) re) := Lib.hid (hx9)
   clear hx9
   have HR_g : Hid (RH w9' b_g #[.bool false, .slice none 0 0, .slice none 0 0] 52) := Lib.hid hRg
   clear hRg
   show wpList _ _ _ _ _ _
   simp only [Act.put, zzp]
   obtain ⟨c_g_0, c_g_1, c_g_2⟩ := zs3 HR_g.out
   have f_g_0 := HR_g.out.fre 0
   have f_g_1 := HR_g.out.fre 1
   have f_g_2 := HR_g.out.fre 2
   go_upto_region 9 with (fail)
   obtain ⟨w10', hX⟩ : ∃ Z9, Z9 = (((w9'.setCell ⟨b_g, 0, none⟩ (.bool t4.b)).setCell ⟨b_g, 1, none⟩ (.slice t4.a1 t4.n1 t4.c1)).setCell ⟨b_g, 2, none⟩ (.slice t4.a2 t4.n2 t4.c2)) := ⟨_, rfl⟩
   rw [← hX]
   have n_g : Hid (RH w10' b_g #[.bool t4.b, .slice t4.a1 t4.n1 t4.c1, .slice t4.a2 t4.n2 t4.c2] 52) := by rw [hX]; exact Lib.hid ((((HR_g.out).set 0 (.bool t4.b)).set 1 (.slice t4.a1 t4.n1 t4.c1)).set 2 (.slice t4.a2 t4.n2 t4.c2))
   have n_m : Hid (RH w10' w.heap.size (mrA (n) r) 35) := by rw [hX]; exact Lib.hid (zzo (zzo (zzo (HR_m.out) (by omega)) (by omega)) (by omega))
   have n_o : Hid (RH w10' (w.heap.size + 1) #[.int .i64 0, .string ⟨#[]⟩, .string ⟨#[]⟩, .string ⟨#[]⟩, .string ⟨#[]⟩] 33) := by rw [hX]; exact Lib.hid (zzo (zzo (zzo (HR_o.out) (by omega)) (by omega)) (by omega))
   have n_s : Hid (RH w10' b_s (smA (n) t9) 59) := by rw [hX]; exact Lib.hid (zzo (zzo (zzo (HR_s.out) (by omega)) (by omega)) (by omega))
   have n_r : Hid (RH w10' b_r #[.bool tk.b, .slice tk.a1 tk.n1 tk.c1, .slice tk.a2 tk.n2 tk.c2] 52) := by rw [hX]; exact Lib.hid (zzo (zzo (zzo (HR_r.out) (by omega)) (by omega)) (by omega))
   have n_x : Hid (RH w10' b_x #[.bool t1.b, .slice t1.a1 t1.n1 t1.c1, .slice t1.a2 t1.n2 t1.c2] 52) := by rw [hX]; exact Lib.hid (zzo (zzo (zzo (HR_x.out) (by omega)) (by omega)) (by omega))
   have n_y : Hid (RH w10' (b_x + 1) #[.bool t2.b, .slice t2.a1 t2.n1 t2.c1, .slice t2.a2 t2.n2 t2.c2] 52) := by rw [hX]; exact Lib.hid (zzo (zzo (zzo (HR_y.out) (by omega)) (by omega)) (by omega))
   have n_c : Hid (RH w10' (b_x + 2) #[.bool t3.b, .slice t3.a1 t3.n1 t3.c1, .slice t3.a2 t3.n2 t3.c2] 52) := by rw [hX]; exact Lib.hid (zzo (zzo (zzo (HR_c.out) (by omega)) (by omega)) (by omega))
   have HK_ : ∀ p : Addr, p.block ≠ b_g → w10'.cell? p = w9'.cell? p := fun p hp => by rw [hX]; exact (cs_other hp).trans ((cs_other hp).trans (cs_other hp))
   have n_HX : Hid (SX w10' t9 r.q) := Lib.hid (HX.out.far HR_g.out.box (noW_all (by simp [isWord])) HK_)
   have n_HXr : Hid (XR w10' (y3V tk) rq) := Lib.hid (HXr.out.far HR_g.out.box (noW_all (by simp [isWord])) HK_)
   have n_HXx : Hid (XR w10' (y3V t1) aq) := Lib.hid (HXx.out.far HR_g.out.box (noW_all (by simp [isWord])) HK_)
   have n_HXy : Hid (XR w10' (y3V t2) bq) := Lib.hid (HXy.out.far HR_g.out.box (noW_all (by simp [isWord])) HK_)
   have n_HXc : Hid (XR w10' (y3V t3) cq) := Lib.hid (HXc.out.far HR_g.out.box (noW_all (by simp [isWord])) HK_)
   have n_HXg : Hid (XR w10' (y3V t4) re) := Lib.hid (HXg.out.far HR_g.out.box (noW_all (by simp [isWord])) HK_)
   have nW : Hid (Below w.heap.size w w10') := by rw [hX]; exact Lib.hid (zzw (zzw (zzw (HW.out) (by omega)) (by omega)) (by omega))
   clear c_g_0 c_g_1 c_g_2 f_g_0 f_g_1 f_g_2
   clear hX HK_ HW HR_m HR_o HR_s HR_r HR_x HR_y HR_c HR_g HX HXr HXx HXy HXc HXg
   have HR_m := n_m; clear n_m
   have HR_o := n_o; clear n_o
   have HR_s := n_s; clear n_s
   have HR_r := n_r; clear n_r
   have HR_x := n_x; clear n_x
   have HR_y := n_y; clear n_y
   have HR_c := n_c; clear n_c
   have HR_g := n_g; clear n_g
   have HX := n_HX; clear n_HX
   have HXr := n_HXr; clear n_HXr
   have HXx := n_HXx; clear n_HXx
   have HXy := n_HXy; clear n_HXy
   have HXc := n_HXc; clear n_HXc
   have HXg := n_HXg; clear n_HXg
   have HW := nW; clear nW
   clear HR_x
   clear HR_y
   clear HR_c
   clear HXx
   clear HXy
   clear HXc
   obtain ⟨c_s_0, c_s_1, c_s_2, c_s_3, c_s_4, c_s_5, c_s_6, -, -, -, -, -, -, -, -, -⟩ := zs16 HR_s.out
   refine Grow.wp_region_grow 7 [TP.eq (.pointer (some ⟨b_s, 4, none⟩)), TP.eq (.agg #[.bool t9.y.b, .slice t9.y.a1 t9.y.n1 t9.y.c1, .slice t9.y.a2 t9.y.n2 t9.y.c2]), TP.eq (.pointer (some ⟨b_s, 0, none⟩)), TP.eq (.int .i64 n), TP.xq nq, TP.xq mq, TP.row w10'.heap.size zeroX 52] [[], [0], [], [2], [3], [1, 4], []] (by kernel_rfl) (by kernel_rfl) ⟨?o0h, ?o1h, ?o2h, ?o3h, ?o4h, ?o5h, ?o6h, trivial⟩ ?_
   case o0h | o2h =>
    intro w' hb
    show wpList _ _ _ _ _ _
    go_wp2
    exact ⟨rfl, Below.refl _ _, rfl⟩
   case o1h =>
    intro w' hb v1 hv1
    cases hv1
    have c_s_4' := zzc hb c_s_4
    have c_s_5' := zzc hb c_s_5
    have c_s_6' := zzc hb c_s_6
    show wpList _ _ _ _ _ _
    simp only [Grow.dstOf, zzp, Act.put]
    go_wp2
    exact ⟨rfl, Below.refl _ _, rfl⟩
   case o3h =>
    intro w' hb v1 hv1
    cases hv1
    have c_s_0' := zzc hb c_s_0
    show wpList _ _ _ _ _ _
    simp only [Grow.dstOf, zzp, Act.put]
    go_wp2
    exact ⟨rfl, Below.refl _ _, rfl⟩
   case o4h =>
    intro w' hb v1 hv1
    cases hv1
    show wpList _ _ _ _ _ _
    simp only [Grow.dstOf, zzp, Act.put]
    go_wp2_with fail
    refine (mwhole_is n nq HNQ.out (by omega) (by omega) w').mono ?_
    rintro e wz ⟨vz, rfl, hxz, hbz⟩
    go_wp2
    exact ⟨hxz, hbz, rfl⟩
   case o5h =>
    intro w' hb v1 hv1 v2 hv2
    cases hv1
    have hv2' : XR w' v2 nq := hv2
    clear hv2
    show wpList _ _ _ _ _ _
    simp only [Grow.dstOf, zzp, Act.put]
    go_wp2_with fail
    refine (mover_is yq nq mq E_mq.out HNZ.out _ _ w' (by have h := HX.out.y; rw [E_yq.out] at h; exact h.ext hb) hv2' (N_yq.out.sm (by omega) (by omega)) (N_nq.out.sm (by omega) (by omega))).mono ?_
    rintro e wz ⟨vz, rfl, hxz, hbz⟩
    go_wp2
    exact ⟨hxz, hbz, rfl⟩
   case o6h =>
    intro w' hb
    show wpList _ _ _ _ _ _
    go_wp2
    exact ⟨⟨_, rfl, hb.size, RH.new _ _ _⟩, ext_alloc _ _, rfl⟩
   intro w11' hbz u0 hu0 u1 hu1 u2 hu2 u3 hu3 u4 hu4 u5 hu5 u6 hu6
   have hv9 : XR w11' u5 mq := hu5
   have hg9 : ∃ g, u6 = .pointer (some ⟨g, 0, none⟩) ∧ w10'.heap.size ≤ g ∧ RH w11' g zeroX 52 := hu6
   clear hu0 hu1 hu2 hu3 hu4 hu5 hu6
   obtain ⟨b_h, rfl, hgY, hRg⟩ := hg9
   have lt_m_h : w.heap.size < b_h := Nat.lt_of_lt_of_le HR_m.out.lt hgY
   have lt_o_h : (w.heap.size + 1) < b_h := Nat.lt_of_lt_of_le HR_o.out.lt hgY
   have lt_s_h : b_s < b_h := Nat.lt_of_lt_of_le HR_s.out.lt hgY
   have lt_r_h : b_r < b_h := Nat.lt_of_lt_of_le HR_r.out.lt hgY
   have lt_g_h : b_g < b_h := Nat.lt_of_lt_of_le HR_g.out.lt hgY
   have le_h : w.heap.size ≤ b_h := Nat.le_trans HW.out.size hgY
   clear hgY
   replace HR_m := Lib.hid (HR_m.out.ext hbz)
   replace HR_o := Lib.hid (HR_o.out.ext hbz)
   replace HR_s := Lib.hid (HR_s.out.ext hbz)
   replace HR_r := Lib.hid (HR_r.out.ext hbz)
   replace HR_g := Lib.hid (HR_g.out.ext hbz)
   replace HX := Lib.hid (HX.out.ext hbz)
   replace HXr := Lib.hid (HXr.out.ext hbz)
   replace HXg := Lib.hid (HXg.out.ext hbz)
   replace HW := Lib.hid (ext_trans HW.out hbz)
   clear c_s_0 c_s_1 c_s_2 c_s_3 c_s_4 c_s_5 c_s_6
   clear hbz
   obtain ⟨t5, rfl, hx9⟩ := hv9.y3
   clear hv9
   have HXh : Hid (XR w11' (y3V t5) mq) := Lib.hid (hx9)
   clear hx9
   have HR_h : Hid (RH w11' b_h #[.bool false, .slice none 0 0, .slice none 0 0] 52) := Lib.hid hRg
   clear hRg
   show wpList _ _ _ _ _ _
   simp only [Act.put, zzp]
   obtain ⟨c_h_0, c_h_1, c_h_2⟩ := zs3 HR_h.out
   have f_h_0 := HR_h.out.fre 0
   have f_h_1 := HR_h.out.fre 1
   have f_h_2 := HR_h.out.fre 2
   go_upto_region 10 with (fail)
   obtain ⟨w12', hX⟩ : ∃ Z9, Z9 = (((w11'.setCell ⟨b_h, 0, none⟩ (.bool t5.b)).setCell ⟨b_h, 1, none⟩ (.slice t5.a1 t5.n1 t5.c1)).setCell ⟨b_h, 2, none⟩ (.slice t5.a2 t5.n2 t5.c2)) := ⟨_, rfl⟩
   rw [← hX]
   have n_h : Hid (RH w12' b_h #[.bool t5.b, .slice t5.a1 t5.n1 t5.c1, .slice t5.a2 t5.n2 t5.c2] 52) := by rw [hX]; exact Lib.hid ((((HR_h.out).set 0 (.bool t5.b)).set 1 (.slice t5.a1 t5.n1 t5.c1)).set 2 (.slice t5.a2 t5.n2 t5.c2))
   have n_m : Hid (RH w12' w.heap.size (mrA (n) r) 35) := by rw [hX]; exact Lib.hid (zzo (zzo (zzo (HR_m.out) (by omega)) (by omega)) (by omega))
   have n_o : Hid (RH w12' (w.heap.size + 1) #[.int .i64 0, .string ⟨#[]⟩, .string ⟨#[]⟩, .string ⟨#[]⟩, .string ⟨#[]⟩] 33) := by rw [hX]; exact Lib.hid (zzo (zzo (zzo (HR_o.out) (by omega)) (by omega)) (by omega))
   have n_s : Hid (RH w12' b_s (smA (n) t9) 59) := by rw [hX]; exact Lib.hid (zzo (zzo (zzo (HR_s.out) (by omega)) (by omega)) (by omega))
   have n_r : Hid (RH w12' b_r #[.bool tk.b, .slice tk.a1 tk.n1 tk.c1, .slice tk.a2 tk.n2 tk.c2] 52) := by rw [hX]; exact Lib.hid (zzo (zzo (zzo (HR_r.out) (by omega)) (by omega)) (by omega))
   have n_g : Hid (RH w12' b_g #[.bool t4.b, .slice t4.a1 t4.n1 t4.c1, .slice t4.a2 t4.n2 t4.c2] 52) := by rw [hX]; exact Lib.hid (zzo (zzo (zzo (HR_g.out) (by omega)) (by omega)) (by omega))
   have HK_ : ∀ p : Addr, p.block ≠ b_h → w12'.cell? p = w11'.cell? p := fun p hp => by rw [hX]; exact (cs_other hp).trans ((cs_other hp).trans (cs_other hp))
   have n_HX : Hid (SX w12' t9 r.q) := Lib.hid (HX.out.far HR_h.out.box (noW_all (by simp [isWord])) HK_)
   have n_HXr : Hid (XR w12' (y3V tk) rq) := Lib.hid (HXr.out.far HR_h.out.box (noW_all (by simp [isWord])) HK_)
   have n_HXg : Hid (XR w12' (y3V t4) re) := Lib.hid (HXg.out.far HR_h.out.box (noW_all (by simp [isWord])) HK_)
   have n_HXh : Hid (XR w12' (y3V t5) mq) := Lib.hid (HXh.out.far HR_h.out.box (noW_all (by simp [isWord])) HK_)
   have nW : Hid (Below w.heap.size w w12') := by rw [hX]; exact Lib.hid (zzw (zzw (zzw (HW.out) (by omega)) (by omega)) (by omega))
   clear c_h_0 c_h_1 c_h_2 f_h_0 f_h_1 f_h_2
   clear hX HK_ HW HR_m HR_o HR_s HR_r HR_g HR_h HX HXr HXg HXh
   have HR_m := n_m; clear n_m
   have HR_o := n_o; clear n_o
   have HR_s := n_s; clear n_s
   have HR_r := n_r; clear n_r
   have HR_g := n_g; clear n_g
   have HR_h := n_h; clear n_h
   have HX := n_HX; clear n_HX
   have HXr := n_HXr; clear n_HXr
   have HXg := n_HXg; clear n_HXg
   have HXh := n_HXh; clear n_HXh
   have HW := nW; clear nW
   obtain ⟨c_s_0, -, -, -, -, -, -, -, -, -, -, -, -, -, -, -⟩ := zs16 HR_s.out
   obtain ⟨c_r_0, c_r_1, c_r_2⟩ := zs3 HR_r.out
   obtain ⟨c_g_0, c_g_1, c_g_2⟩ := zs3 HR_g.out
   obtain ⟨c_h_0, c_h_1, c_h_2⟩ := zs3 HR_h.out
   refine Grow.wp_region_grow 18 [TP.eq (.pointer (some ⟨b_s, 0, none⟩)), TP.eq (.int .i64 n), TP.eq (.agg #[.bool tk.b, .slice tk.a1 tk.n1 tk.c1, .slice tk.a2 tk.n2 tk.c2]), TP.eq (.agg #[.bool t4.b, .slice t4.a1 t4.n1 t4.c1, .slice t4.a2 t4.n2 t4.c2]), TP.eq (.pointer (some ⟨b_s, 0, none⟩)), TP.eq (.int .i64 n), TP.eq (.int .i64 m9), TP.eq (.pointer (some ⟨b_s, 0, none⟩)), TP.eq (.int .i64 n), TP.xq nn, TP.xq wq, TP.eq (.agg #[.bool t5.b, .slice t5.a1 t5.n1 t5.c1, .slice t5.a2 t5.n2 t5.c2]), TP.eq (.agg #[.bool t5.b, .slice t5.a1 t5.n1 t5.c1, .slice t5.a2 t5.n2 t5.c2]), TP.xq mm, TP.xq vq, TP.eq (.tuple #[.agg #[.int .i64 n, .string (showN rq), .string (showD rq), .string (showN vq), .string (showD vq)], .int .i64 0]), TP.eq (.agg #[.int .i64 n, .string (showN rq), .string (showD rq), .string (showN vq), .string (showD vq)]), TP.eq (.int .i64 0)] [[], [0], [], [], [], [4], [5], [], [7], [6, 8], [3, 9], [], [], [11, 12], [10, 13], [1, 2, 14], [15], [15]] (by kernel_rfl) (by kernel_rfl) ⟨?o0e, ?o1e, ?o2e, ?o3e, ?o4e, ?o5e, ?o6e, ?o7e, ?o8e, ?o9e, ?o10e, ?o11e, ?o12e, ?o13e, ?o14e, ?o15e, ?o16e, ?o17e, trivial⟩ ?_
   case o0e | o4e | o7e =>
    intro w' hb
    show wpList _ _ _ _ _ _
    go_wp2
    exact ⟨rfl, Below.refl _ _, rfl⟩
   case o1e =>
    intro w' hb v1 hv1
    cases hv1
    have c_s_0' := zzc hb c_s_0
    show wpList _ _ _ _ _ _
    simp only [Grow.dstOf, zzp, Act.put]
    go_wp2
    exact ⟨rfl, Below.refl _ _, rfl⟩
   case o2e | o3e | o11e | o12e =>
    intro w' hb
    have c_r_0' := zzc hb c_r_0
    have c_r_1' := zzc hb c_r_1
    have c_r_2' := zzc hb c_r_2
    have c_g_0' := zzc hb c_g_0
    have c_g_1' := zzc hb c_g_1
    have c_g_2' := zzc hb c_g_2
    have c_h_0' := zzc hb c_h_0
    have c_h_1' := zzc hb c_h_1
    have c_h_2' := zzc hb c_h_2
    show wpList _ _ _ _ _ _
    go_wp2
    exact ⟨rfl, Below.refl _ _, rfl⟩
   case o5e | o8e =>
    intro w' hb v1 hv1
    cases hv1
    have c_s_0' := zzc hb c_s_0
    show wpList _ _ _ _ _ _
    simp only [Grow.dstOf, zzp, Act.put]
    go_wp2
    exact ⟨rfl, Below.refl _ _, rfl⟩
   case o6e | o16e | o17e =>
    intro w' hb v1 hv1
    cases hv1
    show wpList _ _ _ _ _ _
    simp only [Grow.dstOf, zzp, Act.put]
    go_wp2
    exact ⟨rfl, Below.refl _ _, rfl⟩
   case o9e =>
    intro w' hb v1 hv1 v2 hv2
    cases hv1
    cases hv2
    show wpList _ _ _ _ _ _
    simp only [Grow.dstOf, zzp, Act.put]
    go_wp2_with fail
    refine (mtimes_is m9 n nn HNNQ.out (by omega) (by omega) (by omega) (by omega) w').mono ?_
    rintro e wz ⟨vz, rfl, hxz, hbz⟩
    go_wp2
    exact ⟨hxz, hbz, rfl⟩
   case o10e =>
    intro w' hb v1 hv1 v2 hv2
    cases hv1
    have hv2' : XR w' v2 nn := hv2
    clear hv2
    show wpList _ _ _ _ _ _
    simp only [Grow.dstOf, zzp, Act.put]
    go_wp2_with fail
    refine (mover_is re nn wq E_wq.out HNN.out _ _ w' (HXg.out.ext hb) hv2' (N_re.out.sm (by omega) (by omega)) (N_nn.out.sm (by omega) (by omega))).mono ?_
    rintro e wz ⟨vz, rfl, hxz, hbz⟩
    go_wp2
    exact ⟨hxz, hbz, rfl⟩
   case o13e =>
    intro w' hb v1 hv1 v2 hv2
    cases hv1
    cases hv2
    show wpList _ _ _ _ _ _
    simp only [Grow.dstOf, zzp, Act.put]
    go_wp2_with fail
    refine (xtimes_sm mq mq mm E_mm.out _ _ w' (HXh.out.ext hb) (HXh.out.ext hb) (N_mq.out.sm (by omega) (by omega)) (N_mq.out.sm (by omega) (by omega))).mono ?_
    rintro e wz ⟨vz, rfl, hxz, hbz⟩
    go_wp2
    exact ⟨hxz, hbz, rfl⟩
   case o14e =>
    intro w' hb v1 hv1 v2 hv2
    have hv1' : XR w' v1 wq := hv1
    have hv2' : XR w' v2 mm := hv2
    clear hv1 hv2
    show wpList _ _ _ _ _ _
    simp only [Grow.dstOf, zzp, Act.put]
    go_wp2_with fail
    refine (mover_is wq mm vq E_vq.out HMM.out _ _ w' hv1' hv2' (N_wq.out.sm (by omega) (by omega)) (N_mm.out.sm (by omega) (by omega))).mono ?_
    rintro e wz ⟨vz, rfl, hxz, hbz⟩
    go_wp2
    exact ⟨hxz, hbz, rfl⟩
   case o15e =>
    intro w' hb v1 hv1 v2 hv2 v3 hv3
    cases hv1
    cases hv2
    have hv3' : XR w' v3 vq := hv3
    clear hv3
    obtain ⟨tv, rfl, hxv⟩ := hv3'.y3
    show wpList _ _ _ _ _ _
    simp only [Grow.dstOf, zzp, Act.put]
    go_wp2_with fail
    refine (estimate_at n rq vq tk tv w' (HXr.out.ext hb) hxv ⟨⟨(N_rq.out.fits (by omega) (by omega)), (N_rq.out.sm (by omega) (by omega))⟩, (N_vq.out.fits (by omega) (by omega)), (N_vq.out.sm (by omega) (by omega))⟩).mono ?_
    rintro e wz ⟨rfl, hbz⟩
    go_wp2
    exact ⟨rfl, hbz, rfl⟩
   intro w13' hbz u0 hu0 u1 hu1 u2 hu2 u3 hu3 u4 hu4 u5 hu5 u6 hu6 u7 hu7 u8 hu8 u9 hu9 u10 hu10 u11 hu11 u12 hu12 u13 hu13 u14 hu14 u15 hu15 u16 hu16 u17 hu17
   obtain rfl : u16 = _ := hu16
   obtain rfl : u17 = _ := hu17
   clear hu0 hu1 hu2 hu3 hu4 hu5 hu6 hu7 hu8 hu9 hu10 hu11 hu12 hu13 hu14 hu15
   replace HR_m := Lib.hid (HR_m.out.ext hbz)
   replace HR_o := Lib.hid (HR_o.out.ext hbz)
   replace HR_s := Lib.hid (HR_s.out.ext hbz)
   replace HR_r := Lib.hid (HR_r.out.ext hbz)
   replace HR_g := Lib.hid (HR_g.out.ext hbz)
   replace HR_h := Lib.hid (HR_h.out.ext hbz)
   replace HX := Lib.hid (HX.out.ext hbz)
   replace HXr := Lib.hid (HXr.out.ext hbz)
   replace HXg := Lib.hid (HXg.out.ext hbz)
   replace HXh := Lib.hid (HXh.out.ext hbz)
   replace HW := Lib.hid (ext_trans HW.out hbz)
   clear c_s_0 c_r_0 c_r_1 c_r_2 c_g_0 c_g_1 c_g_2 c_h_0 c_h_1 c_h_2
   clear hbz
   show wpList _ _ _ _ _ _
   simp only [Act.put, zzp]
   obtain ⟨c_o_0, c_o_1, c_o_2, c_o_3, c_o_4⟩ := zs5 HR_o.out
   have f_o_0 := HR_o.out.fre 0
   have f_o_1 := HR_o.out.fre 1
   have f_o_2 := HR_o.out.fre 2
   have f_o_3 := HR_o.out.fre 3
   have f_o_4 := HR_o.out.fre 4
   go_wp2
   obtain ⟨w14', hX⟩ : ∃ Z9, Z9 = (((((w13'.setCell ⟨(w.heap.size + 1), 0, none⟩ (.int .i64 n)).setCell ⟨(w.heap.size + 1), 1, none⟩ (.string (showN rq))).setCell ⟨(w.heap.size + 1), 2, none⟩ (.string (showD rq))).setCell ⟨(w.heap.size + 1), 3, none⟩ (.string (showN vq))).setCell ⟨(w.heap.size + 1), 4, none⟩ (.string (showD vq))) := ⟨_, rfl⟩
   rw [← hX]
   have n_o : Hid (RH w14' (w.heap.size + 1) #[.int .i64 n, .string (showN rq), .string (showD rq), .string (showN vq), .string (showD vq)] 33) := by rw [hX]; exact Lib.hid ((((((HR_o.out).set 0 (.int .i64 n)).set 1 (.string (showN rq))).set 2 (.string (showD rq))).set 3 (.string (showN vq))).set 4 (.string (showD vq)))
   have n_m : Hid (RH w14' w.heap.size (mrA (n) r) 35) := by rw [hX]; exact Lib.hid (zzo (zzo (zzo (zzo (zzo (HR_m.out) (by omega)) (by omega)) (by omega)) (by omega)) (by omega))
   have n_s : Hid (RH w14' b_s (smA (n) t9) 59) := by rw [hX]; exact Lib.hid (zzo (zzo (zzo (zzo (zzo (HR_s.out) (by omega)) (by omega)) (by omega)) (by omega)) (by omega))
   have n_r : Hid (RH w14' b_r #[.bool tk.b, .slice tk.a1 tk.n1 tk.c1, .slice tk.a2 tk.n2 tk.c2] 52) := by rw [hX]; exact Lib.hid (zzo (zzo (zzo (zzo (zzo (HR_r.out) (by omega)) (by omega)) (by omega)) (by omega)) (by omega))
   have n_g : Hid (RH w14' b_g #[.bool t4.b, .slice t4.a1 t4.n1 t4.c1, .slice t4.a2 t4.n2 t4.c2] 52) := by rw [hX]; exact Lib.hid (zzo (zzo (zzo (zzo (zzo (HR_g.out) (by omega)) (by omega)) (by omega)) (by omega)) (by omega))
   have n_h : Hid (RH w14' b_h #[.bool t5.b, .slice t5.a1 t5.n1 t5.c1, .slice t5.a2 t5.n2 t5.c2] 52) := by rw [hX]; exact Lib.hid (zzo (zzo (zzo (zzo (zzo (HR_h.out) (by omega)) (by omega)) (by omega)) (by omega)) (by omega))
   have HK_ : ∀ p : Addr, p.block ≠ (w.heap.size + 1) → w14'.cell? p = w13'.cell? p := fun p hp => by rw [hX]; exact (cs_other hp).trans ((cs_other hp).trans ((cs_other hp).trans ((cs_other hp).trans (cs_other hp))))
   have n_HX : Hid (SX w14' t9 r.q) := Lib.hid (HX.out.far HR_o.out.box (noW_all (by simp [isWord])) HK_)
   have n_HXr : Hid (XR w14' (y3V tk) rq) := Lib.hid (HXr.out.far HR_o.out.box (noW_all (by simp [isWord])) HK_)
   have n_HXg : Hid (XR w14' (y3V t4) re) := Lib.hid (HXg.out.far HR_o.out.box (noW_all (by simp [isWord])) HK_)
   have n_HXh : Hid (XR w14' (y3V t5) mq) := Lib.hid (HXh.out.far HR_o.out.box (noW_all (by simp [isWord])) HK_)
   have nW : Hid (Below w.heap.size w w14') := by rw [hX]; exact Lib.hid (zzw (zzw (zzw (zzw (zzw (HW.out) (by omega)) (by omega)) (by omega)) (by omega)) (by omega))
   clear c_o_0 c_o_1 c_o_2 c_o_3 c_o_4 f_o_0 f_o_1 f_o_2 f_o_3 f_o_4
   clear hX HK_ HW HR_m HR_o HR_s HR_r HR_g HR_h HX HXr HXg HXh
   have HR_m := n_m; clear n_m
   have HR_o := n_o; clear n_o
   have HR_s := n_s; clear n_s
   have HR_r := n_r; clear n_r
   have HR_g := n_g; clear n_g
   have HR_h := n_h; clear n_h
   have HX := n_HX; clear n_HX
   have HXr := n_HXr; clear n_HXr
   have HXg := n_HXg; clear n_HXg
   have HXh := n_HXh; clear n_HXh
   have HW := nW; clear nW
   refine bodyPost_ret (v := .tuple #[.agg #[.int .i64 n, .string (showN rq), .string (showD rq), .string (showN vq), .string (showD vq)], .int .i64 0]) ?_ rfl ⟨by simp only [HP.out, rtN_0, rtD_0, nF_0, HRES.out.1, HRES.out.2], HW.out⟩
   have hld := run_loadVar_row (P := Tryz.prog) _ _ _ 33 _ _ _ HR_o.out Tryz.underlying33 rfl (by kernel_rfl : (Tryz.prog.info? 33).map (·.size) = some 5)
   rw [results_cell_tmp rfl]
   simp [asAddr, Result.andThen, hld]
  ·have HP : Hid (quF n r = 14) := Lib.hid (by rw [HP0.out, if_pos (of_decide_eq_true HBZ.out)])
   have HNE : Hid ((14 : Int) ≠ 0) := Lib.hid (by decide)
   obtain ⟨c_o_0, c_o_1, c_o_2, c_o_3, c_o_4⟩ := zs5 HR_o.out
   have f_o_0 := HR_o.out.fre 0
   have f_o_1 := HR_o.out.fre 1
   have f_o_2 := HR_o.out.fre 2
   have f_o_3 := HR_o.out.fre 3
   have f_o_4 := HR_o.out.fre 4
   go_wp2
   obtain ⟨w5', hX⟩ : ∃ Z9, Z9 = (((((w4'.setCell ⟨(w.heap.size + 1), 0, none⟩ (.int .i64 0)).setCell ⟨(w.heap.size + 1), 1, none⟩ (.string ⟨#[]⟩)).setCell ⟨(w.heap.size + 1), 2, none⟩ (.string ⟨#[]⟩)).setCell ⟨(w.heap.size + 1), 3, none⟩ (.string ⟨#[]⟩)).setCell ⟨(w.heap.size + 1), 4, none⟩ (.string ⟨#[]⟩)) := ⟨_, rfl⟩
   rw [← hX]
   have n_o : Hid (RH w5' (w.heap.size + 1) #[.int .i64 0, .string ⟨#[]⟩, .string ⟨#[]⟩, .string ⟨#[]⟩, .string ⟨#[]⟩] 33) := by rw [hX]; exact Lib.hid ((((((HR_o.out).set 0 (.int .i64 0)).set 1 (.string ⟨#[]⟩)).set 2 (.string ⟨#[]⟩)).set 3 (.string ⟨#[]⟩)).set 4 (.string ⟨#[]⟩))
   have n_m : Hid (RH w5' w.heap.size (mrA (n) r) 35) := by rw [hX]; exact Lib.hid (zzo (zzo (zzo (zzo (zzo (HR_m.out) (by omega)) (by omega)) (by omega)) (by omega)) (by omega))
   have n_s : Hid (RH w5' b_s (smA (n) t9) 59) := by rw [hX]; exact Lib.hid (zzo (zzo (zzo (zzo (zzo (HR_s.out) (by omega)) (by omega)) (by omega)) (by omega)) (by omega))
   have HK_ : ∀ p : Addr, p.block ≠ (w.heap.size + 1) → w5'.cell? p = w4'.cell? p := fun p hp => by rw [hX]; exact (cs_other hp).trans ((cs_other hp).trans ((cs_other hp).trans ((cs_other hp).trans (cs_other hp))))
   have n_HX : Hid (SX w5' t9 r.q) := Lib.hid (HX.out.far HR_o.out.box (noW_all (by simp [isWord])) HK_)
   have nW : Hid (Below w.heap.size w w5') := by rw [hX]; exact Lib.hid (zzw (zzw (zzw (zzw (zzw (HW.out) (by omega)) (by omega)) (by omega)) (by omega)) (by omega))
   clear c_o_0 c_o_1 c_o_2 c_o_3 c_o_4 f_o_0 f_o_1 f_o_2 f_o_3 f_o_4
   clear hX HK_ HW HR_m HR_o HR_s HX
   have HR_m := n_m; clear n_m
   have HR_o := n_o; clear n_o
   have HR_s := n_s; clear n_s
   have HX := n_HX; clear n_HX
   have HW := nW; clear nW
   refine bodyPost_ret (v := .tuple #[.agg #[.int .i64 0, .string ⟨#[]⟩, .string ⟨#[]⟩, .string ⟨#[]⟩, .string ⟨#[]⟩], .int .i64 14]) ?_ rfl ⟨by simp only [HP.out, rtN_no HNE.out, rtD_no HNE.out, nF_no HNE.out], HW.out⟩
   have hld := run_loadVar_row (P := Tryz.prog) _ _ _ 33 _ _ _ HR_o.out Tryz.underlying33 rfl (by kernel_rfl : (Tryz.prog.info? 33).map (·.size) = some 5)
   rw [results_cell_tmp rfl]
   simp [asAddr, Result.andThen, hld]
 ·have hne2 : (atF 2 n r != 0) = true := by simp [hz]
  have HNE := Lib.hid hz
  clear hz
  have HP : Hid (quF n r = atF 2 n r) := Lib.hid (by unfold quF; rw [if_pos HNE.out])
  obtain ⟨c_o_0, c_o_1, c_o_2, c_o_3, c_o_4⟩ := zs5 HR_o.out
  have f_o_0 := HR_o.out.fre 0
  have f_o_1 := HR_o.out.fre 1
  have f_o_2 := HR_o.out.fre 2
  have f_o_3 := HR_o.out.fre 3
  have f_o_4 := HR_o.out.fre 4
  go_wp2
  obtain ⟨w4', hX⟩ : ∃ Z9, Z9 = (((((w3'.setCell ⟨(w.heap.size + 1), 0, none⟩ (.int .i64 0)).setCell ⟨(w.heap.size + 1), 1, none⟩ (.string ⟨#[]⟩)).setCell ⟨(w.heap.size + 1), 2, none⟩ (.string ⟨#[]⟩)).setCell ⟨(w.heap.size + 1), 3, none⟩ (.string ⟨#[]⟩)).setCell ⟨(w.heap.size + 1), 4, none⟩ (.string ⟨#[]⟩)) := ⟨_, rfl⟩
  rw [← hX]
  have n_o : Hid (RH w4' (w.heap.size + 1) #[.int .i64 0, .string ⟨#[]⟩, .string ⟨#[]⟩, .string ⟨#[]⟩, .string ⟨#[]⟩] 33) := by rw [hX]; exact Lib.hid ((((((HR_o.out).set 0 (.int .i64 0)).set 1 (.string ⟨#[]⟩)).set 2 (.string ⟨#[]⟩)).set 3 (.string ⟨#[]⟩)).set 4 (.string ⟨#[]⟩))
  have n_m : Hid (RH w4' w.heap.size (mrA (n) r) 35) := by rw [hX]; exact Lib.hid (zzo (zzo (zzo (zzo (zzo (HR_m.out) (by omega)) (by omega)) (by omega)) (by omega)) (by omega))
  have n_s : Hid (RH w4' b_s (smA (k9) t9) 59) := by rw [hX]; exact Lib.hid (zzo (zzo (zzo (zzo (zzo (HR_s.out) (by omega)) (by omega)) (by omega)) (by omega)) (by omega))
  have HK_ : ∀ p : Addr, p.block ≠ (w.heap.size + 1) → w4'.cell? p = w3'.cell? p := fun p hp => by rw [hX]; exact (cs_other hp).trans ((cs_other hp).trans ((cs_other hp).trans ((cs_other hp).trans (cs_other hp))))
  have n_HRD : Hid (RdIf w4' (atF 2 n r) n r k9 t9) := Lib.hid (HRD.out.far HR_o.out.box (noW_all (by simp [isWord])) HK_)
  have nW : Hid (Below w.heap.size w w4') := by rw [hX]; exact Lib.hid (zzw (zzw (zzw (zzw (zzw (HW.out) (by omega)) (by omega)) (by omega)) (by omega)) (by omega))
  clear c_o_0 c_o_1 c_o_2 c_o_3 c_o_4 f_o_0 f_o_1 f_o_2 f_o_3 f_o_4
  clear hX HK_ HW HR_m HR_o HR_s HRD
  have HR_m := n_m; clear n_m
  have HR_o := n_o; clear n_o
  have HR_s := n_s; clear n_s
  have HRD := n_HRD; clear n_HRD
  have HW := nW; clear nW
  refine bodyPost_ret (v := .tuple #[.agg #[.int .i64 0, .string ⟨#[]⟩, .string ⟨#[]⟩, .string ⟨#[]⟩, .string ⟨#[]⟩], .int .i64 (atF 2 n r)]) ?_ rfl ⟨by simp only [HP.out, rtN_no HNE.out, rtD_no HNE.out, nF_no HNE.out], HW.out⟩
  have hld := run_loadVar_row (P := Tryz.prog) _ _ _ 33 _ _ _ HR_o.out Tryz.underlying33 rfl (by kernel_rfl : (Tryz.prog.info? 33).map (·.size) = some 5)
  rw [results_cell_tmp rfl]
  simp [asAddr, Result.andThen, hld]
end Nm
end Go.Proofs.YtlbnjgnbpiidaaaGreatDoor
