/- estimate, CheckMoments, Add, Mean of package metric. Printed by gen_momf.py. slices.Grow and slices.Concat at []api.Pair. -/
import Derived.Test.YtilolnjbpokdnaaBd21
import Derived.Test.YtilolnjbpokdnaaProg
import Derived.Test.YtilolnjbpokdnaaBd16
namespace Go.Proofs.Ytilolnjbpokdnaa
open Go.RowKit
namespace Nm
open _root_.Go.Proofs.Ytilolnjbpokdnaa.Nt (RH RH.cell RH.box RH.row RH.lt RH.new RH.ext RH.fre RH.set RH.other RH.row_other store_cells)
set_option maxRecDepth 100000 in
set_option maxHeartbeats 16000000 in
theorem addMom_at (n k : Int) (r s : R5) (hok : r.ok) (hok2 : s.ok) (w : World) : Calls Try.prog 7 #[.agg (mrA n r), .agg (mrA k s)] w (fun e w' => e = .returned (.tuple #[.agg (adA n k r s), .int .i64 (adF n k r s)]) ∧ Below w.heap.size w w') := by
 have HOK := Lib.hid (And.intro hok hok2)
 clear hok hok2
 go_enter Try.func7, Try.ntmps7
 go_upto_region 1 with (fail)
 refine wp_rows3 fun w1' hbz hR0 hR1 hR2 => ?_
 have HR_a : Hid (RH w1' w.heap.size (mrA (n) r) 27) := Lib.hid hR0
 have HR_b : Hid (RH w1' (w.heap.size + 1) (mrA (k) s) 27) := Lib.hid hR1
 have HR_o : Hid (RH w1' (w.heap.size + 2) (mrA (0) r5z) 27) := Lib.hid hR2
 have HW := Lib.hid hbz
 clear hbz hR0 hR1 hR2
 go_wp2_with (first | (refine wpList_load_row rfl _ _ rfl w.heap.size rfl _ (mrA (n) r) _ _ HR_a.out Try.underlying27 rfl (mr_info _ _) ?_))
 refine (read_at n r HOK.out.1 w1').mono ?_
 rintro e w2' ⟨k9, t9, rfl, hx9, hbz⟩
 replace HR_a := Lib.hid (HR_a.out.ext hbz)
 replace HR_b := Lib.hid (HR_b.out.ext hbz)
 replace HR_o := Lib.hid (HR_o.out.ext hbz)
 replace HW := Lib.hid (ext_trans HW.out hbz)
 clear hbz
 have HRD : Hid (RdIf w2' (momF n r) n r k9 t9) := Lib.hid hx9
 clear hx9
 have hsz : (smA (k9) t9).size = 16 := rfl
 have hsc := run_storeCells_new (P := Try.prog) w2' 45 #[.int .i64 0, .bool false, .slice none 0 0, .slice none 0 0, .bool false, .slice none 0 0, .slice none 0 0, .bool false, .slice none 0 0, .slice none 0 0, .bool false, .slice none 0 0, .slice none 0 0, .bool false, .slice none 0 0, .slice none 0 0] (smA (k9) t9) (sm_info _ _) rfl (sm_all _ _)
 go_upto_region 2 with (fail)
 clear hsc hsz
 refine wp_rows1 fun w3' hbz hR0 => ?_
 have lt_a_s : w.heap.size < w2'.heap.size := HR_a.out.lt
 have lt_b_s : (w.heap.size + 1) < w2'.heap.size := HR_b.out.lt
 have lt_o_s : (w.heap.size + 2) < w2'.heap.size := HR_o.out.lt
 have le_s : w.heap.size ≤ w2'.heap.size := HW.out.size
 replace HR_a := Lib.hid (HR_a.out.ext hbz)
 replace HR_b := Lib.hid (HR_b.out.ext hbz)
 replace HR_o := Lib.hid (HR_o.out.ext hbz)
 replace HRD := Lib.hid (HRD.out.ext hbz)
 replace HW := Lib.hid (ext_trans HW.out hbz)
 clear hbz
 have HR_s : Hid (RH w3' w2'.heap.size (smA (k9) t9) 45) := Lib.hid hR0
 clear hR0
 generalize w2'.heap.size = b_s at *
 by_cases hz : momF n r = 0
 ·have hne2 : (momF n r != 0) = false := by simp [hz]
  have HZ := Lib.hid hz
  obtain rfl : n = k9 := (HRD.out hz).1.symm
  have HXA : Hid (SX w3' t9 r.q) := Lib.hid ((HRD.out hz).2)
  clear HRD
  clear hz
  go_wp2_with (first | (refine wpList_load_row rfl _ _ rfl (w.heap.size + 1) rfl _ (mrA (k) s) _ _ HR_b.out Try.underlying27 rfl (mr_info _ _) ?_))
  refine (read_at k s HOK.out.2 w3').mono ?_
  rintro e w4' ⟨k8, t8, rfl, hx9, hbz⟩
  replace HR_a := Lib.hid (HR_a.out.ext hbz)
  replace HR_b := Lib.hid (HR_b.out.ext hbz)
  replace HR_o := Lib.hid (HR_o.out.ext hbz)
  replace HR_s := Lib.hid (HR_s.out.ext hbz)
  replace HXA := Lib.hid (HXA.out.ext hbz)
  replace HW := Lib.hid (ext_trans HW.out hbz)
  clear hbz
  have HRD : Hid (RdIf w4' (momF k s) k s k8 t8) := Lib.hid hx9
  clear hx9
  have hsz : (smA (k8) t8).size = 16 := rfl
  have hsc := run_storeCells_new (P := Try.prog) w4' 45 #[.int .i64 0, .bool false, .slice none 0 0, .slice none 0 0, .bool false, .slice none 0 0, .slice none 0 0, .bool false, .slice none 0 0, .slice none 0 0, .bool false, .slice none 0 0, .slice none 0 0, .bool false, .slice none 0 0, .slice none 0 0] (smA (k8) t8) (sm_info _ _) rfl (sm_all _ _)
  go_upto_region 5 with (fail)
  clear hsc hsz
  refine wp_rows1 fun w5' hbz hR0 => ?_
  have lt_a_u : w.heap.size < w4'.heap.size := HR_a.out.lt
  have lt_b_u : (w.heap.size + 1) < w4'.heap.size := HR_b.out.lt
  have lt_o_u : (w.heap.size + 2) < w4'.heap.size := HR_o.out.lt
  have lt_s_u : b_s < w4'.heap.size := HR_s.out.lt
  have le_u : w.heap.size ≤ w4'.heap.size := HW.out.size
  replace HR_a := Lib.hid (HR_a.out.ext hbz)
  replace HR_b := Lib.hid (HR_b.out.ext hbz)
  replace HR_o := Lib.hid (HR_o.out.ext hbz)
  replace HR_s := Lib.hid (HR_s.out.ext hbz)
  replace HXA := Lib.hid (HXA.out.ext hbz)
  replace HRD := Lib.hid (HRD.out.ext hbz)
  replace HW := Lib.hid (ext_trans HW.out hbz)
  clear hbz
  have HR_u : Hid (RH w5' w4'.heap.size (smA (k8) t8) 45) := Lib.hid hR0
  clear hR0
  generalize w4'.heap.size = b_u at *
  by_cases hz : momF k s = 0
  ·have hne3 : (momF k s != 0) = false := by simp [hz]
   have HZ2 := Lib.hid hz
   obtain rfl : k = k8 := (HRD.out hz).1.symm
   have HXB : Hid (SX w5' t8 s.q) := Lib.hid ((HRD.out hz).2)
   clear HRD
   clear hz
   obtain ⟨g1, g2, g3, -⟩ := mom_ql HZ.out
   obtain ⟨g4, g5, g6, -⟩ := mom_ql HZ2.out
   have HQ := Lib.hid (And.intro g3 g6)
   clear g3 g6
   have hwr : IntKind.i64.wrap (n + k) = n + k := IntWalk.i64_in _ (by omega)
   obtain ⟨c_s_0, -, -, -, -, -, -, -, -, -, -, -, -, -, -, -⟩ := zs16 HR_s.out
   obtain ⟨c_u_0, -, -, -, -, -, -, -, -, -, -, -, -, -, -, -⟩ := zs16 HR_u.out
   by_cases hl : 20000 < n + k
   ·have HP : Hid (adF n k r s = 2) := Lib.hid (by unfold adF; rw [if_neg (fun h => h HZ.out), if_neg (fun h => h HZ2.out), if_pos hl])
    have HNE : Hid ((2 : Int) ≠ 0) := Lib.hid (by decide)
    go_wp2_with (first | (refine wpList_store_row rfl _ _ _ rfl (w.heap.size + 2) (mrA (0) r5z) rfl rfl _ _ HR_o.out (mr_info _ _) rfl (mr_all _ _) ?_))
    obtain ⟨w6', hX⟩ : ∃ Z9, Z9 = w5'.setRow (w.heap.size + 2) (mrA (0) r5z) := ⟨_, rfl⟩
    rw [← hX]
    have n_o : Hid (RH w6' (w.heap.size + 2) (mrA (0) r5z) 27) := by rw [hX]; exact Lib.hid (HR_o.out.row _)
    have n_a : Hid (RH w6' w.heap.size (mrA (n) r) 27) := by rw [hX]; exact Lib.hid (HR_a.out.row_other (show w.heap.size ≠ (w.heap.size + 2) by omega) _)
    have n_b : Hid (RH w6' (w.heap.size + 1) (mrA (k) s) 27) := by rw [hX]; exact Lib.hid (HR_b.out.row_other (show (w.heap.size + 1) ≠ (w.heap.size + 2) by omega) _)
    have n_s : Hid (RH w6' b_s (smA (n) t9) 45) := by rw [hX]; exact Lib.hid (HR_s.out.row_other (show b_s ≠ (w.heap.size + 2) by omega) _)
    have n_u : Hid (RH w6' b_u (smA (k) t8) 45) := by rw [hX]; exact Lib.hid (HR_u.out.row_other (show b_u ≠ (w.heap.size + 2) by omega) _)
    have HK_ : ∀ p : Addr, p.block ≠ (w.heap.size + 2) → w6'.cell? p = w5'.cell? p := fun p hp => by rw [hX]; exact cell_setRow_other _ _ _ p hp
    have n_HXA : Hid (SX w6' t9 r.q) := Lib.hid (HXA.out.far HR_o.out.box (mr_nw _ _) HK_)
    have n_HXB : Hid (SX w6' t8 s.q) := Lib.hid (HXB.out.far HR_o.out.box (mr_nw _ _) HK_)
    have nW : Hid (Below w.heap.size w w6') := by rw [hX]; exact Lib.hid (below_setRow HW.out (show w.heap.size ≤ (w.heap.size + 2) by omega) _)
    clear c_s_0 c_u_0
    clear hX HK_ HW HR_a HR_b HR_o HR_s HR_u HXA HXB
    have HR_a := n_a; clear n_a
    have HR_b := n_b; clear n_b
    have HR_o := n_o; clear n_o
    have HR_s := n_s; clear n_s
    have HR_u := n_u; clear n_u
    have HXA := n_HXA; clear n_HXA
    have HXB := n_HXB; clear n_HXB
    have HW := nW; clear nW
    refine bodyPost_ret (v := .tuple #[.agg (mrA (0) r5z), .int .i64 2]) ?_ rfl ⟨by rw [ad_no HP.out HNE.out, HP.out], HW.out⟩
    have hld := run_loadVar_row (P := Try.prog) _ _ _ 27 _ _ _ HR_o.out Try.underlying27 rfl (mr_info _ _)
    rw [results_cell_tmp rfl]
    simp [asAddr, Result.andThen, hld]
   ·have HV := Lib.hid (ad_wr HZ.out HZ2.out (by omega : n + k ≤ 20000))
    have HL := Lib.hid (ql_add HQ.out.1 HQ.out.2)
    have HWR := Lib.hid hwr
    go_wp2_with (first | (refine wpList_load_row rfl _ _ rfl b_s rfl _ (smA (n) t9) _ _ HR_s.out Try.underlying45 rfl (sm_info _ _) ?_) | (refine wpList_load_row rfl _ _ rfl b_u rfl _ (smA (k) t8) _ _ HR_u.out Try.underlying45 rfl (sm_info _ _) ?_))
    refine (sumsAdd_at n k (n + k) HWR.out r.q s.q (q5a r.q s.q) ⟨rfl, rfl, rfl, rfl, rfl⟩ t9 t8 w5' HXA.out HXB.out HQ.out.1.qs HQ.out.2.qs).mono ?_
    rintro e w6' ⟨t7, rfl, hx7, hbz⟩
    replace HR_a := Lib.hid (HR_a.out.ext hbz)
    replace HR_b := Lib.hid (HR_b.out.ext hbz)
    replace HR_o := Lib.hid (HR_o.out.ext hbz)
    replace HR_s := Lib.hid (HR_s.out.ext hbz)
    replace HR_u := Lib.hid (HR_u.out.ext hbz)
    replace HXA := Lib.hid (HXA.out.ext hbz)
    replace HXB := Lib.hid (HXB.out.ext hbz)
    replace HW := Lib.hid (ext_trans HW.out hbz)
    clear c_s_0 c_u_0
    clear hbz
    have HXS : Hid (SX w6' t7 (q5a r.q s.q)) := Lib.hid hx7
    clear hx7
    clear hwr hl
    go_wp2_with fail
    refine (moments_at (n + k) t7 (q5a r.q s.q) w6' HXS.out ⟨HL.out.1.fits (by omega) (by omega), HL.out.2.1.fits (by omega) (by omega), HL.out.2.2.1.fits (by omega) (by omega), HL.out.2.2.2.1.fits (by omega) (by omega), HL.out.2.2.2.2.fits (by omega) (by omega)⟩ ⟨HL.out.1.sm (by omega) (by omega), HL.out.2.1.sm (by omega) (by omega), HL.out.2.2.1.sm (by omega) (by omega), HL.out.2.2.2.1.sm (by omega) (by omega), HL.out.2.2.2.2.sm (by omega) (by omega)⟩).mono ?_
    rintro e w7' ⟨rfl, hbz⟩
    replace HR_a := Lib.hid (HR_a.out.ext hbz)
    replace HR_b := Lib.hid (HR_b.out.ext hbz)
    replace HR_o := Lib.hid (HR_o.out.ext hbz)
    replace HR_s := Lib.hid (HR_s.out.ext hbz)
    replace HR_u := Lib.hid (HR_u.out.ext hbz)
    replace HXA := Lib.hid (HXA.out.ext hbz)
    replace HXB := Lib.hid (HXB.out.ext hbz)
    replace HXS := Lib.hid (HXS.out.ext hbz)
    replace HW := Lib.hid (ext_trans HW.out hbz)
    clear hbz
    rw [← HV.out.1, ← HV.out.2]
    obtain ⟨kr, hkr⟩ : ∃ z, adF n k r s = z := ⟨_, rfl⟩
    obtain ⟨nr, hnr⟩ : ∃ z, (if adF n k r s = 0 then n + k else 0) = z := ⟨_, rfl⟩
    obtain ⟨rr, hrr⟩ : ∃ z, (if adF n k r s = 0 then (q5a r.q s.q).r else r5z) = z := ⟨_, rfl⟩
    have HAD : Hid (adA n k r s = mrA nr rr ∧ adF n k r s = kr) := Lib.hid ⟨by unfold adA; rw [hnr, hrr], hkr⟩
    rw [HAD.out.1, HAD.out.2]
    clear hkr hnr hrr g1 g2 g4 g5
    have hsz : (mrA (nr) rr).size = 11 := rfl
    have hsc := store_cells (P := Try.prog) (ty := 27) (A := (mrA (nr) rr)) HR_o.out (mr_info _ _) rfl (mr_all _ _)
    go_wp2
    clear hsc hsz
    obtain ⟨w8', hX⟩ : ∃ Z9, Z9 = w7'.setRow (w.heap.size + 2) (mrA (nr) rr) := ⟨_, rfl⟩
    rw [← hX]
    have n_o : Hid (RH w8' (w.heap.size + 2) (mrA (nr) rr) 27) := by rw [hX]; exact Lib.hid (HR_o.out.row _)
    have n_a : Hid (RH w8' w.heap.size (mrA (n) r) 27) := by rw [hX]; exact Lib.hid (HR_a.out.row_other (show w.heap.size ≠ (w.heap.size + 2) by omega) _)
    have n_b : Hid (RH w8' (w.heap.size + 1) (mrA (k) s) 27) := by rw [hX]; exact Lib.hid (HR_b.out.row_other (show (w.heap.size + 1) ≠ (w.heap.size + 2) by omega) _)
    have n_s : Hid (RH w8' b_s (smA (n) t9) 45) := by rw [hX]; exact Lib.hid (HR_s.out.row_other (show b_s ≠ (w.heap.size + 2) by omega) _)
    have n_u : Hid (RH w8' b_u (smA (k) t8) 45) := by rw [hX]; exact Lib.hid (HR_u.out.row_other (show b_u ≠ (w.heap.size + 2) by omega) _)
    have HK_ : ∀ p : Addr, p.block ≠ (w.heap.size + 2) → w8'.cell? p = w7'.cell? p := fun p hp => by rw [hX]; exact cell_setRow_other _ _ _ p hp
    have n_HXA : Hid (SX w8' t9 r.q) := Lib.hid (HXA.out.far HR_o.out.box (mr_nw _ _) HK_)
    have n_HXB : Hid (SX w8' t8 s.q) := Lib.hid (HXB.out.far HR_o.out.box (mr_nw _ _) HK_)
    have n_HXS : Hid (SX w8' t7 (q5a r.q s.q)) := Lib.hid (HXS.out.far HR_o.out.box (mr_nw _ _) HK_)
    have nW : Hid (Below w.heap.size w w8') := by rw [hX]; exact Lib.hid (below_setRow HW.out (show w.heap.size ≤ (w.heap.size + 2) by omega) _)
    clear hX HK_ HW HR_a HR_b HR_o HR_s HR_u HXA HXB HXS
    have HR_a := n_a; clear n_a
    have HR_b := n_b; clear n_b
    have HR_o := n_o; clear n_o
    have HR_s := n_s; clear n_s
    have HR_u := n_u; clear n_u
    have HXA := n_HXA; clear n_HXA
    have HXB := n_HXB; clear n_HXB
    have HXS := n_HXS; clear n_HXS
    have HW := nW; clear nW
    refine bodyPost_ret (v := .tuple #[.agg (mrA (nr) rr), .int .i64 kr]) ?_ rfl ⟨by rw [HAD.out.1, HAD.out.2], HW.out⟩
    have hld := run_loadVar_row (P := Try.prog) _ _ _ 27 _ _ _ HR_o.out Try.underlying27 rfl (mr_info _ _)
    rw [results_cell_tmp rfl]
    simp [asAddr, Result.andThen, hld]
  ·have hne3 : (momF k s != 0) = true := by simp [hz]
   have HP : Hid (adF n k r s = momF k s) := Lib.hid (by unfold adF; rw [if_neg (fun h => h HZ.out), if_pos hz])
   have HNE := Lib.hid hz
   clear hz
   go_wp2_with (first | (refine wpList_store_row rfl _ _ _ rfl (w.heap.size + 2) (mrA (0) r5z) rfl rfl _ _ HR_o.out (mr_info _ _) rfl (mr_all _ _) ?_))
   obtain ⟨w6', hX⟩ : ∃ Z9, Z9 = w5'.setRow (w.heap.size + 2) (mrA (0) r5z) := ⟨_, rfl⟩
   rw [← hX]
   have n_o : Hid (RH w6' (w.heap.size + 2) (mrA (0) r5z) 27) := by rw [hX]; exact Lib.hid (HR_o.out.row _)
   have n_a : Hid (RH w6' w.heap.size (mrA (n) r) 27) := by rw [hX]; exact Lib.hid (HR_a.out.row_other (show w.heap.size ≠ (w.heap.size + 2) by omega) _)
   have n_b : Hid (RH w6' (w.heap.size + 1) (mrA (k) s) 27) := by rw [hX]; exact Lib.hid (HR_b.out.row_other (show (w.heap.size + 1) ≠ (w.heap.size + 2) by omega) _)
   have n_s : Hid (RH w6' b_s (smA (n) t9) 45) := by rw [hX]; exact Lib.hid (HR_s.out.row_other (show b_s ≠ (w.heap.size + 2) by omega) _)
   have n_u : Hid (RH w6' b_u (smA (k8) t8) 45) := by rw [hX]; exact Lib.hid (HR_u.out.row_other (show b_u ≠ (w.heap.size + 2) by omega) _)
   have HK_ : ∀ p : Addr, p.block ≠ (w.heap.size + 2) → w6'.cell? p = w5'.cell? p := fun p hp => by rw [hX]; exact cell_setRow_other _ _ _ p hp
   have n_HXA : Hid (SX w6' t9 r.q) := Lib.hid (HXA.out.far HR_o.out.box (mr_nw _ _) HK_)
   have n_HRD : Hid (RdIf w6' (momF k s) k s k8 t8) := Lib.hid (HRD.out.far HR_o.out.box (mr_nw _ _) HK_)
   have nW : Hid (Below w.heap.size w w6') := by rw [hX]; exact Lib.hid (below_setRow HW.out (show w.heap.size ≤ (w.heap.size + 2) by omega) _)
   clear hX HK_ HW HR_a HR_b HR_o HR_s HR_u HXA HRD
   have HR_a := n_a; clear n_a
   have HR_b := n_b; clear n_b
   have HR_o := n_o; clear n_o
   have HR_s := n_s; clear n_s
   have HR_u := n_u; clear n_u
   have HXA := n_HXA; clear n_HXA
   have HRD := n_HRD; clear n_HRD
   have HW := nW; clear nW
   refine bodyPost_ret (v := .tuple #[.agg (mrA (0) r5z), .int .i64 (momF k s)]) ?_ rfl ⟨by rw [ad_no HP.out HNE.out, HP.out], HW.out⟩
   have hld := run_loadVar_row (P := Try.prog) _ _ _ 27 _ _ _ HR_o.out Try.underlying27 rfl (mr_info _ _)
   rw [results_cell_tmp rfl]
   simp [asAddr, Result.andThen, hld]
 ·have hne2 : (momF n r != 0) = true := by simp [hz]
  have HP : Hid (adF n k r s = momF n r) := Lib.hid (by unfold adF; rw [if_pos hz])
  have HNE := Lib.hid hz
  clear hz
  go_wp2_with (first | (refine wpList_store_row rfl _ _ _ rfl (w.heap.size + 2) (mrA (0) r5z) rfl rfl _ _ HR_o.out (mr_info _ _) rfl (mr_all _ _) ?_))
  obtain ⟨w4', hX⟩ : ∃ Z9, Z9 = w3'.setRow (w.heap.size + 2) (mrA (0) r5z) := ⟨_, rfl⟩
  rw [← hX]
  have n_o : Hid (RH w4' (w.heap.size + 2) (mrA (0) r5z) 27) := by rw [hX]; exact Lib.hid (HR_o.out.row _)
  have n_a : Hid (RH w4' w.heap.size (mrA (n) r) 27) := by rw [hX]; exact Lib.hid (HR_a.out.row_other (show w.heap.size ≠ (w.heap.size + 2) by omega) _)
  have n_b : Hid (RH w4' (w.heap.size + 1) (mrA (k) s) 27) := by rw [hX]; exact Lib.hid (HR_b.out.row_other (show (w.heap.size + 1) ≠ (w.heap.size + 2) by omega) _)
  have n_s : Hid (RH w4' b_s (smA (k9) t9) 45) := by rw [hX]; exact Lib.hid (HR_s.out.row_other (show b_s ≠ (w.heap.size + 2) by omega) _)
  have HK_ : ∀ p : Addr, p.block ≠ (w.heap.size + 2) → w4'.cell? p = w3'.cell? p := fun p hp => by rw [hX]; exact cell_setRow_other _ _ _ p hp
  have n_HRD : Hid (RdIf w4' (momF n r) n r k9 t9) := Lib.hid (HRD.out.far HR_o.out.box (mr_nw _ _) HK_)
  have nW : Hid (Below w.heap.size w w4') := by rw [hX]; exact Lib.hid (below_setRow HW.out (show w.heap.size ≤ (w.heap.size + 2) by omega) _)
  clear hX HK_ HW HR_a HR_b HR_o HR_s HRD
  have HR_a := n_a; clear n_a
  have HR_b := n_b; clear n_b
  have HR_o := n_o; clear n_o
  have HR_s := n_s; clear n_s
  have HRD := n_HRD; clear n_HRD
  have HW := nW; clear nW
  refine bodyPost_ret (v := .tuple #[.agg (mrA (0) r5z), .int .i64 (momF n r)]) ?_ rfl ⟨by rw [ad_no HP.out HNE.out, HP.out], HW.out⟩
  have hld := run_loadVar_row (P := Try.prog) _ _ _ 27 _ _ _ HR_o.out Try.underlying27 rfl (mr_info _ _)
  rw [results_cell_tmp rfl]
  simp [asAddr, Result.andThen, hld]
end Nm
end Go.Proofs.Ytilolnjbpokdnaa
namespace Go.Proofs.Ytilolnjbpokdnaa
open Go.RowKit
namespace CCCatP
theorem e_bytes : Try.t33.bytes = 16 := by kernel_rfl
theorem e_info : (Try.prog.info? 33).map (fun i => (i.zero, i.size, i.bytes)) = some (some (.agg #[.int .i64 0, .int .i64 0]), 2, 16) := by kernel_rfl
def cells (l : List Nm.PX) : List Value := l.flatMap Nm.pxL
theorem cells_append (l m : List Nm.PX) : cells (l ++ m) = cells l ++ cells m := List.flatMap_append
theorem cells_length (l : List Nm.PX) : (cells l).length = l.length * 2 := flat_length (f := Nm.pxL) (sz := 2) (fun _ => rfl) l
theorem cells_one (l : List Nm.PX) : ∀ u ∈ cells l, u.oneCell' = true := by
  intro u hu
  simp only [cells, List.mem_flatMap] at hu
  obtain ⟨x, _, hx⟩ := hu
  simp only [Nm.pxL, List.mem_cons, List.not_mem_nil, or_false] at hx
  rcases hx with rfl | rfl <;> rfl
/-- What Grow(nil, n) leaves: a new array with room for n elements. -/
def GrowPost (w : World) (n : Nat) (e : Ending) (w' : World) : Prop :=
  ∃ cap, e = .returned (.slice (some ⟨w.heap.size, 0, none⟩) 0 cap) ∧ n ≤ cap ∧ w'.ownsRow w.heap.size 33 2 (.slice (some ⟨w.heap.size, 0, none⟩) 0 cap) 0 [] ∧ Below w.heap.size w w'
theorem nextcap (n : Nat) (h : 0 < n) : Builtin.nextslicecap n 0 = n := by unfold Builtin.nextslicecap; rw [if_pos (by omega)]
theorem grow_post (w : World) (n cap : Nat) (hn : n ≤ cap) (hm : cap ≤ maxLen) :
    GrowPost w n (.returned (.slice (some ⟨w.heap.size, 0, none⟩) 0 cap)) (w.alloc (Obj.cells (Builtin.zeroCells #[.int .i64 0, .int .i64 0] n ++ Builtin.zeroCells #[.int .i64 0, .int .i64 0] (cap - n)) 33)).drew := by
  refine ⟨cap, rfl, hn, ?_, by go_grown⟩
  exact World.ownsRow.drew (World.ownsRow_made w _ cap (Nat.le_refl _) hm (by simp [size_zeroCells]; omega))
set_option maxHeartbeats 1000000 in
set_option maxRecDepth 100000 in
theorem grow_some (n : Nat) (hn : 0 < n) (hn' : n ≤ 17592186044416) (w : World) :
    Calls Try.prog 15 #[.slice none 0 0, .int .i64 n] w (GrowPost w n) := by
  have hb := e_bytes
  have hx := nextcap n hn
  have hc1 := grownCap_ge w n 0 33
  have hc2 := grownCap_le_maxLen w n 0 33 (by unfold maxLen; omega)
  unfold grownCap at hc1 hc2
  go_enter Try.func15, Try.ntmps15
  go_wp2
  all_goals first | (exfalso; simp_all; omega) | skip
  go_ret
  exact grow_post w n _ hc1 hc2
theorem grow_none (w : World) :
    Calls Try.prog 15 #[.slice none 0 0, .int .i64 0] w fun e w' => e = .returned (.slice none 0 0) ∧ w = w' := by
  go_enter Try.func15, Try.ntmps15
  go_wp2
  go_ret
  exact ⟨rfl, rfl⟩
def tot (L : Nat → Nat) : Nat → Nat
  | 0 => 0
  | k + 1 => tot L k + L k
def cat {α : Type} (ls : Nat → List α) : Nat → List α
  | 0 => []
  | k + 1 => cat ls k ++ ls k
theorem tot_mono (L : Nat → Nat) {j k : Nat} (h : j ≤ k) : tot L j ≤ tot L k := by
  induction h with
  | refl => exact Nat.le_refl _
  | step _ ih => exact Nat.le_trans ih (Nat.le_add_right _ _)
theorem cat_length {α : Type} (ls : Nat → List α) (L : Nat → Nat) (n : Nat) (h : ∀ i, i < n → (ls i).length = L i) : (cat ls n).length = tot L n := by
  induction n with
  | zero => rfl
  | succ k ih => simp only [cat, tot, List.length_append]; rw [ih (fun i hi => h i (by omega)), h k (by omega)]
def CatPost (w : World) (l : List Nm.PX) (e : Ending) (w' : World) : Prop :=
  ∃ a cap, e = .returned (.slice a l.length cap) ∧ Sl w' (.slice a l.length cap) l.length (cells l) ∧ w'.ownsRow w.heap.size 33 2 (.slice a l.length cap) l.length (cells l) ∧ Below w.heap.size w w'
set_option maxHeartbeats 1000000 in
set_option maxRecDepth 100000 in
theorem cat_any (b o n cap : Nat) (A : Nat → Option Addr) (L C : Nat → Nat) (ls : Nat → List Nm.PX) (w : World) (hn : n ≤ 9223372036854775807)
    (hcell : ∀ i, i < n → w.cell? ⟨b, o + i, none⟩ = some (.slice (A i) (L i) (C i)))
    (hsl : ∀ i, i < n → Sl w (.slice (A i) (L i) (C i)) (L i) (cells (ls i))) (hlen : ∀ i, i < n → (ls i).length = L i)
    (htot : tot L n ≤ 17592186044416) :
    Calls Try.prog 6 #[.slice (some ⟨b, o, none⟩) n cap] w (CatPost w (cat ls n)) := by
  have HC := Lib.hid hcell
  have HS := Lib.hid hsl
  have HL := Lib.hid hlen
  have HB := Lib.hid e_info
  clear hcell hsl hlen
  go_enter Try.func6, Try.ntmps6
  go_wp2
  go_loop [3, 5, 11] (fun t _ i => ∃ k : Nat, k ≤ n ∧ i = .int .i64 k ∧ t = .int .i64 (tot L k)) (fun _ _ i => n - (intOf i).toNat)
  case atStart => exact ⟨0, by omega, rfl, rfl⟩
  case round =>
    obtain ⟨k, hk, rfl, rfl⟩ := hrel
    have hm := tot_mono L hk
    by_cases hlt : k < n
    · have hc := HC.out k hlt
      have hm2 := tot_mono L (show k + 1 ≤ n by omega)
      simp only [tot] at hm2
      go_wp2
      go_round
      case rel => exact ⟨k + 1, by omega, by go_num, by simp only [tot]; go_num⟩
      case measure => simp [intOf]; omega
    · have hkn : k = n := by omega
      subst hkn
      by_cases h0 : 0 < tot L k
      · go_wp2_with fail
        refine (grow_some _ h0 htot _).mono ?_
        rintro e w1 ⟨cap1, rfl, hcap, hown, hb1⟩
        go_wp2
        go_loopw [6, 8, 27] (fun v _ i wr => ∃ j : Nat, j ≤ k ∧ i = .int .i64 j ∧ v = .slice (some ⟨w.heap.size, 0, none⟩) (tot L j) cap1 ∧ wr.ownsRow w.heap.size 33 2 (.slice (some ⟨w.heap.size, 0, none⟩) (tot L j) cap1) (tot L j) (cells (cat ls j)) ∧ Below w.heap.size w wr) (fun _ _ i _ => k - (intOf i).toNat)
        case atStart => exact ⟨0, by omega, rfl, rfl, hown, hb1⟩
        case round =>
          obtain ⟨j, hj, rfl, rfl, hownj, hbj⟩ := hrel
          by_cases hjk : j < k
          · have hc := cell_later hbj (HC.out j hjk)
            have hs := (HS.out j hjk).ext hbj
            have hlj := HL.out j hjk
            have hm2 := tot_mono L (show j + 1 ≤ k by omega)
            simp only [tot] at hm2
            have HLJ := Lib.hid hlj
            clear hlj
            go_wp2_with (at_builtin; refine wpList_append_spare_sl rfl _ _ 22 rfl w.heap.size 33 Try.underlying22 HB.out rfl hownj rfl hs ?c1 (cells_one _) ?c2 ?_; rotate_left 2; intro w2 hown2 hg2)
            case c1 => rw [cells_length, HLJ.out]
            case c2 => omega
            rw [← cells_append] at hown2
            have hb2 := hbj.grown hg2 hbj.size (fun k e => by cases e; exact Nat.le_refl _)
            go_wp2
            go_roundw
            case rel => exact ⟨j + 1, by omega, by go_num, rfl, hown2, hb2⟩
            case measure => simp [intOf]; omega
          · have hjk' : j = k := by omega
            subst hjk'
            have hcl := cat_length ls L j HL.out
            have HCL := Lib.hid hcl
            clear hcl
            go_wp2
            go_ret
            exact ⟨_, _, by rw [HCL.out]; rfl, by rw [HCL.out]; exact Sl.ofOwn hownj, by rw [HCL.out]; exact hownj, hbj⟩
      · have h00 : tot L k = 0 := by omega
        have HT := Lib.hid h00
        have ht0 : ((tot L k : Nat) : Int) = 0 := by omega
        clear h00
        rw [ht0]
        go_wp2_with fail
        refine (grow_none _).mono ?_
        rintro e w1 ⟨rfl, rfl⟩
        go_wp2
        go_loopw [6, 8, 27] (fun v _ i wr => ∃ j : Nat, j ≤ k ∧ i = .int .i64 j ∧ v = .slice none 0 0 ∧ Below w.heap.size w wr) (fun _ _ i _ => k - (intOf i).toNat)
        case atStart => exact ⟨0, by omega, rfl, rfl, Below.refl _ _⟩
        case round =>
          obtain ⟨j, hj, rfl, rfl, hbj⟩ := hrel
          by_cases hjk : j < k
          · have hc := cell_later hbj (HC.out j hjk)
            have hs := (HS.out j hjk).ext hbj
            have hlj := HL.out j hjk
            have hm2 := tot_mono L (show j + 1 ≤ k by omega)
            simp only [tot] at hm2
            have hL0 : L j = 0 := by have := HT.out; omega
            rw [hL0] at hc hs hlj
            have hl0 : ls j = [] := List.length_eq_zero_iff.1 hlj
            rw [hl0] at hs
            clear hlj hl0 hm2 hL0 ht0
            go_wp2_with (at_builtin; refine wpList_append_sl rfl _ _ 22 rfl w.heap.size 33 Try.underlying22 HB.out rfl (by decide) rfl (World.ownsRow_nil _ _ _ _) rfl hs rfl (by simp [cells]) (by decide) (by decide) hbj.size ?_; intro v2 w2 hown2 hg2 hv2)
            obtain rfl := hv2.2 ⟨rfl, rfl⟩
            have hb2 := hbj.grown hg2 hbj.size (fun k e => by cases e)
            go_wp2
            go_roundw
            case rel => exact ⟨j + 1, by omega, by go_num, rfl, hb2⟩
            case measure => simp [intOf]; omega
          · have hjk' : j = k := by omega
            subst hjk'
            have hcl := cat_length ls L j HL.out
            have hcn : cat ls j = [] := List.length_eq_zero_iff.1 (by rw [hcl]; exact HT.out)
            have HCN := Lib.hid hcn
            clear hcl hcn
            go_wp2
            go_ret
            exact ⟨none, 0, by rw [HCN.out]; rfl, by rw [HCN.out]; exact Sl.nil _, by rw [HCN.out]; exact World.ownsRow_nil _ _ _ _, hbj⟩
def pick2 {α : Type} (x y : α) : Nat → α
  | 0 => x
  | _ => y
theorem forall2 {p : Nat → Prop} (h0 : p 0) (h1 : p 1) : ∀ i, i < 2 → p i := by
  intro i hi
  obtain rfl | rfl : i = 0 ∨ i = 1 := by omega
  · exact h0
  · exact h1
theorem cat_two (b cap : Nat) (a0 a1 : Option Addr) (n0 n1 c0 c1 : Nat) (l0 l1 : List Nm.PX) (w : World)
    (h0 : w.cell? ⟨b, 0, none⟩ = some (.slice a0 n0 c0)) (h1 : w.cell? ⟨b, 1, none⟩ = some (.slice a1 n1 c1))
    (s0 : Sl w (.slice a0 n0 c0) n0 (cells l0)) (s1 : Sl w (.slice a1 n1 c1) n1 (cells l1))
    (e0 : l0.length = n0) (e1 : l1.length = n1) (ht : n0 + n1 ≤ 17592186044416) :
    Calls Try.prog 6 #[.slice (some ⟨b, 0, none⟩) 2 cap] w (CatPost w (l0 ++ l1)) := by
  have := cat_any b 0 2 cap (pick2 a0 a1) (pick2 n0 n1) (pick2 c0 c1) (pick2 l0 l1) w (by omega)
    (forall2 (p := fun i => w.cell? ⟨b, 0 + i, none⟩ = some (.slice (pick2 a0 a1 i) (pick2 n0 n1 i) (pick2 c0 c1 i))) h0 h1) (forall2 (p := fun i => Sl w (.slice (pick2 a0 a1 i) (pick2 n0 n1 i) (pick2 c0 c1 i)) (pick2 n0 n1 i) (cells (pick2 l0 l1 i))) s0 s1) (forall2 (p := fun i => (pick2 l0 l1 i).length = pick2 n0 n1 i) e0 e1) (by simp only [tot, pick2]; omega)
  simpa [cat, pick2] using this
def CatFrom (w : World) (l : List Nm.PX) (e : Ending) (w' : World) : Prop :=
  ∃ a cap, e = .returned (.slice a l.length cap) ∧ Sl w' (.slice a l.length cap) l.length (cells l) ∧ w'.ownsRow w.heap.size 33 2 (.slice a l.length cap) l.length (cells l) ∧ Below w.heap.size w w'
theorem own_up {w : World} {base base' n : Nat} {v : Value} {xs : List Value} (h : w.ownsRow base' 33 2 v n xs) (hb : base ≤ base') : w.ownsRow base 33 2 v n xs := by
  obtain ⟨h1, h2 | ⟨g, cap, cur, h3, h4, h5⟩⟩ := h
  · exact ⟨h1, .inl h2⟩
  · exact ⟨h1, .inr ⟨g, cap, cur, h3, Nat.le_trans hb h4, h5⟩⟩
theorem cat_new' (w : World) (a0 a1 : Option Addr) (c0 c1 : Nat) (l0 l1 : List Nm.PX) (s0 : Sl w (.slice a0 l0.length c0) l0.length (cells l0)) (s1 : Sl w (.slice a1 l1.length c1) l1.length (cells l1)) (ht : l0.length + l1.length ≤ 17592186044416) :
    Calls Try.prog 6 #[.slice (some ⟨w.heap.size, 0, none⟩) 2 2] (w.alloc (.cells #[.slice a0 l0.length c0, .slice a1 l1.length c1] 22)) (CatFrom w (l0 ++ l1)) := by
  have hb : Below w.heap.size w (w.alloc (.cells #[.slice a0 l0.length c0, .slice a1 l1.length c1] 22)) := by go_grown
  refine (cat_two _ _ a0 a1 _ _ c0 c1 l0 l1 _ (by simp) (by simp) (s0.ext hb) (s1.ext hb) rfl rfl ht).mono ?_
  rintro e w' ⟨a, cap, rfl, h1, h2, h3⟩
  exact ⟨a, cap, rfl, h1, own_up h2 (by simp), ext_trans hb h3⟩
end CCCatP
end Go.Proofs.Ytilolnjbpokdnaa
