/- estimate, CheckMoments, Add, Mean of package metric. Printed by gen_momf.py. -/
import Derived.Test.YtilolnjbpokdnaaGreatDoorMomQ
namespace Go.Proofs.YtilolnjbpokdnaaGreatDoor
open Go.RowKit
namespace Nm
open _root_.Go.Proofs.YtilolnjbpokdnaaGreatDoor.Nt (RH RH.cell RH.box RH.row RH.lt RH.new RH.ext RH.fre RH.set RH.other RH.row_other store_cells)
set_option maxRecDepth 100000 in
set_option maxHeartbeats 16000000 in
theorem estimate_at (n : Int) (m v : Rat) (tm tv : Y3) (w : World) (hx : XR w (y3V tm) m) (hy : XR w (y3V tv) v) (hf : (Fits m ∧ Sm m) ∧ Fits v ∧ Sm v) : Calls Tryz.prog 78 #[.int .i64 n, .agg #[.bool tm.b, .slice tm.a1 tm.n1 tm.c1, .slice tm.a2 tm.n2 tm.c2], .agg #[.bool tv.b, .slice tv.a1 tv.n1 tv.c1, .slice tv.a2 tv.n2 tv.c2]] w (fun e w' => e = .returned (.tuple #[.agg #[.int .i64 n, .string (showN m), .string (showD m), .string (showN v), .string (showD v)], .int .i64 0]) ∧ Below w.heap.size w w') := by
 have HA0 := Lib.hid hx
 have HB0 := Lib.hid hy
 have HF := Lib.hid hf
 clear hx hy hf
 go_enter Tryz.func78, Tryz.ntmps78
 go_upto_region 1 with (fail)
 refine wp_rows3 fun w1' hbz hR0 hR1 hR2 => ?_
 have HR_a : Hid (RH w1' w.heap.size #[.bool tm.b, .slice tm.a1 tm.n1 tm.c1, .slice tm.a2 tm.n2 tm.c2] 93) := Lib.hid hR0
 have HR_b : Hid (RH w1' (w.heap.size + 1) #[.bool tv.b, .slice tv.a1 tv.n1 tv.c1, .slice tv.a2 tv.n2 tv.c2] 93) := Lib.hid hR1
 have HR_o : Hid (RH w1' (w.heap.size + 2) #[.int .i64 0, .string ⟨#[]⟩, .string ⟨#[]⟩, .string ⟨#[]⟩, .string ⟨#[]⟩] 55) := Lib.hid hR2
 have HW := Lib.hid hbz
 clear hbz hR0 hR1 hR2
 have HXA : Hid (XR w1' (y3V tm) m) := Lib.hid (HA0.out.ext HW.out)
 have HXB : Hid (XR w1' (y3V tv) v) := Lib.hid (HB0.out.ext HW.out)
 clear HA0 HB0
 obtain ⟨c_a_0, c_a_1, c_a_2⟩ := zs3 HR_a.out
 obtain ⟨c_b_0, c_b_1, c_b_2⟩ := zs3 HR_b.out
 go_wp2_with fail
 refine (ratios2_at m v tm tv w1' HXA.out HXB.out HF.out).mono ?_
 rintro e w2' ⟨pa, pc, rfl, hs9, hbz⟩
 replace HR_a := Lib.hid (HR_a.out.ext hbz)
 replace HR_b := Lib.hid (HR_b.out.ext hbz)
 replace HR_o := Lib.hid (HR_o.out.ext hbz)
 replace HXA := Lib.hid (HXA.out.ext hbz)
 replace HXB := Lib.hid (HXB.out.ext hbz)
 replace HW := Lib.hid (ext_trans HW.out hbz)
 clear c_a_0 c_a_1 c_a_2 c_b_0 c_b_1 c_b_2
 clear hbz
 have HSL : Hid (Sl w2' (.slice pa 2 pc) 2 ([m, v].flatMap rtC)) := Lib.hid hs9
 clear hs9
 clear HXA
 clear HXB
 clear HR_a
 clear HR_b
 obtain ⟨pb0, po0, hp0, hc0⟩ := HSL.out.elem (l := [m, v]) (k := 0) (x := m) (f := rtC) (fun _ => rfl) (by omega : 0 < 2) rfl
 subst hp0
 have e00 : w2'.cell? ⟨pb0, po0, none⟩ = some (.string (showN m)) := hc0 0 _ rfl
 have e01 : w2'.cell? ⟨pb0, po0 + 1, none⟩ = some (.string (showD m)) := hc0 1 _ rfl
 clear hc0
 obtain ⟨pb1, po1, hp1, hc1⟩ := HSL.out.elem (l := [m, v]) (k := 1) (x := v) (f := rtC) (fun _ => rfl) (by omega : 0 < 2) rfl
 obtain ⟨rfl, rfl⟩ : pb0 = pb1 ∧ po0 = po1 := by cases hp1; exact ⟨rfl, rfl⟩
 clear hp1
 have e10 : w2'.cell? ⟨pb0, po0 + 2, none⟩ = some (.string (showN v)) := hc1 0 _ rfl
 have e11 : w2'.cell? ⟨pb0, po0 + 2 + 1, none⟩ = some (.string (showD v)) := hc1 1 _ rfl
 clear hc1
 go_upto_region 4 with (fail)
 refine Grow.wp_region_grow 8 [TP.eq (.int .i64 n), TP.eq (.slice (some ⟨pb0, po0, none⟩) 2 pc), TP.eq (.pointer (some ⟨pb0, po0, none⟩)), TP.eq (.agg #[.string (showN m), .string (showD m)]), TP.eq (.slice (some ⟨pb0, po0, none⟩) 2 pc), TP.eq (.pointer (some ⟨pb0, po0 + 2, none⟩)), TP.eq (.agg #[.string (showN v), .string (showD v)]), TP.eq (.agg #[.int .i64 n, .string (showN m), .string (showD m), .string (showN v), .string (showD v)])] [[], [], [1], [2], [], [4], [5], [0, 3, 6]] (by kernel_rfl) (by kernel_rfl) ⟨?o0e, ?o1e, ?o2e, ?o3e, ?o4e, ?o5e, ?o6e, ?o7e, trivial⟩ ?_
 case o0e | o1e | o4e =>
  intro w' hb
  show wpList _ _ _ _ _ _
  go_wp2
  exact ⟨rfl, Below.refl _ _, rfl⟩
 case o2e | o5e =>
  intro w' hb v1 hv1
  obtain rfl : v1 = _ := hv1
  show wpList _ _ _ _ _ _
  simp only [Grow.dstOf, zz1, zz2, zz3, zz4, Act.put, zz5, zz6, zz7]
  go_wp2
  exact ⟨rfl, Below.refl _ _, rfl⟩
 case o3e | o6e =>
  intro w' hb v1 hv1
  obtain rfl : v1 = _ := hv1
  have e00' := zzc hb e00
  have e01' := zzc hb e01
  have e10' := zzc hb e10
  have e11' := zzc hb e11
  show wpList _ _ _ _ _ _
  simp only [Grow.dstOf, zz1, zz2, zz3, zz4, Act.put, zz5, zz6, zz7]
  go_wp2
  exact ⟨rfl, Below.refl _ _, rfl⟩
 case o7e =>
  intro w' hb v1 hv1 v2 hv2 v3 hv3
  obtain rfl : v1 = _ := hv1
  obtain rfl : v2 = _ := hv2
  obtain rfl : v3 = _ := hv3
  show wpList _ _ _ _ _ _
  simp only [Grow.dstOf, zz1, zz2, zz3, zz4, Act.put, zz5, zz6, zz7]
  go_wp2
  exact ⟨rfl, Below.refl _ _, rfl⟩
 intro w3' hbz u0 hu0 u1 hu1 u2 hu2 u3 hu3 u4 hu4 u5 hu5 u6 hu6 u7 hu7
 obtain rfl : u7 = _ := hu7
 clear hu0 hu1 hu2 hu3 hu4 hu5 hu6
 replace HR_o := Lib.hid (HR_o.out.ext hbz)
 replace HSL := Lib.hid (HSL.out.ext hbz)
 replace HW := Lib.hid (ext_trans HW.out hbz)
 clear hbz
 clear HSL
 clear e00 e01 e10 e11
 show wpList _ _ _ _ _ _
 simp only [Act.put, zz5, zz6, zz7]
 obtain ⟨c_o_0, c_o_1, c_o_2, c_o_3, c_o_4⟩ := zs5 HR_o.out
 have f_o_0 := HR_o.out.fre 0
 have f_o_1 := HR_o.out.fre 1
 have f_o_2 := HR_o.out.fre 2
 have f_o_3 := HR_o.out.fre 3
 have f_o_4 := HR_o.out.fre 4
 go_wp2
 obtain ⟨w4', hX⟩ : ∃ Z9, Z9 = (((((w3'.setCell ⟨(w.heap.size + 2), 0, none⟩ (.int .i64 n)).setCell ⟨(w.heap.size + 2), 1, none⟩ (.string (showN m))).setCell ⟨(w.heap.size + 2), 2, none⟩ (.string (showD m))).setCell ⟨(w.heap.size + 2), 3, none⟩ (.string (showN v))).setCell ⟨(w.heap.size + 2), 4, none⟩ (.string (showD v))) := ⟨_, rfl⟩
 rw [← hX]
 have n_o : Hid (RH w4' (w.heap.size + 2) #[.int .i64 n, .string (showN m), .string (showD m), .string (showN v), .string (showD v)] 55) := by rw [hX]; exact Lib.hid ((((((HR_o.out).set 0 (.int .i64 n)).set 1 (.string (showN m))).set 2 (.string (showD m))).set 3 (.string (showN v))).set 4 (.string (showD v)))
 have HK_ : ∀ p : Addr, p.block ≠ (w.heap.size + 2) → w4'.cell? p = w3'.cell? p := fun p hp => by rw [hX]; exact (cs_other hp).trans ((cs_other hp).trans ((cs_other hp).trans ((cs_other hp).trans (cs_other hp))))
 have nW : Hid (Below w.heap.size w w4') := by rw [hX]; exact Lib.hid (zzw (zzw (zzw (zzw (zzw (HW.out) (by omega)) (by omega)) (by omega)) (by omega)) (by omega))
 clear c_o_0 c_o_1 c_o_2 c_o_3 c_o_4 f_o_0 f_o_1 f_o_2 f_o_3 f_o_4
 clear hX HK_ HW HR_o 
 have HR_o := n_o; clear n_o
 have HW := nW; clear nW
 refine bodyPost_ret (v := .tuple #[.agg #[.int .i64 n, .string (showN m), .string (showD m), .string (showN v), .string (showD v)], .int .i64 0]) ?_ rfl ⟨rfl, HW.out⟩
 have hld := run_loadVar_row (P := Tryz.prog) _ _ _ 55 _ _ _ HR_o.out Tryz.underlying55 rfl (by kernel_rfl : (Tryz.prog.info? 55).map (·.size) = some 5)
 rw [results_cell_tmp rfl]
 simp [asAddr, Result.andThen, hld]
set_option maxRecDepth 100000 in
set_option maxHeartbeats 16000000 in
theorem checkMom_at (n : Int) (r : R5) (hok : r.ok) (w : World) : Calls Tryz.prog 30 #[.agg (mrA n r)] w (FPost w (momF n r)) := by
 have HOK := Lib.hid hok
 clear hok
 go_enter Tryz.func30, Tryz.ntmps30
 go_upto_region 1 with (fail)
 refine wp_rows1 fun w1' hbz hR0 => ?_
 have HR_m : Hid (RH w1' w.heap.size (mrA (n) r) 47) := Lib.hid hR0
 have HW := Lib.hid hbz
 clear hbz hR0
 go_wp2_with (first | (refine wpList_load_row rfl _ _ rfl w.heap.size rfl _ (mrA (n) r) _ _ HR_m.out Tryz.underlying47 rfl (mr_info _ _) ?_))
 refine (read_at n r HOK.out w1').mono ?_
 rintro e w2' ⟨k9, t9, rfl, _, hbz⟩
 replace HR_m := Lib.hid (HR_m.out.ext hbz)
 replace HW := Lib.hid (ext_trans HW.out hbz)
 clear hbz
 have hsz : (smA (k9) t9).size = 16 := rfl
 have hsc := run_storeCells_new (P := Tryz.prog) w2' 110 #[.int .i64 0, .bool false, .slice none 0 0, .slice none 0 0, .bool false, .slice none 0 0, .slice none 0 0, .bool false, .slice none 0 0, .slice none 0 0, .bool false, .slice none 0 0, .slice none 0 0, .bool false, .slice none 0 0, .slice none 0 0] (smA (k9) t9) (sm_info _ _) rfl (sm_all _ _)
 go_upto_region 2 with (fail)
 clear hsc hsz
 refine wp_rows1 fun w3' hbz hR0 => ?_
 have lt_m_s : w.heap.size < w2'.heap.size := HR_m.out.lt
 have le_s : w.heap.size ≤ w2'.heap.size := HW.out.size
 replace HR_m := Lib.hid (HR_m.out.ext hbz)
 replace HW := Lib.hid (ext_trans HW.out hbz)
 clear hbz
 have HR_s : Hid (RH w3' w2'.heap.size (smA (k9) t9) 110) := Lib.hid hR0
 clear hR0
 generalize w2'.heap.size = b_s at *
 go_wp2
 exact bodyPost_ret (v := .int .i64 (momF n r)) (by simp [results, Tryz.results30, go_sem]) rfl ⟨rfl, HW.out⟩
set_option maxRecDepth 100000 in
set_option maxHeartbeats 16000000 in
theorem addMom_at (n k : Int) (r s : R5) (hok : r.ok) (hok2 : s.ok) (w : World) : Calls Tryz.prog 28 #[.agg (mrA n r), .agg (mrA k s)] w (fun e w' => e = .returned (.tuple #[.agg (adA n k r s), .int .i64 (adF n k r s)]) ∧ Below w.heap.size w w') := by
 have HOK := Lib.hid (And.intro hok hok2)
 clear hok hok2
 go_enter Tryz.func28, Tryz.ntmps28
 go_upto_region 1 with (fail)
 refine wp_rows3 fun w1' hbz hR0 hR1 hR2 => ?_
 have HR_a : Hid (RH w1' w.heap.size (mrA (n) r) 47) := Lib.hid hR0
 have HR_b : Hid (RH w1' (w.heap.size + 1) (mrA (k) s) 47) := Lib.hid hR1
 have HR_o : Hid (RH w1' (w.heap.size + 2) (mrA (0) r5z) 47) := Lib.hid hR2
 have HW := Lib.hid hbz
 clear hbz hR0 hR1 hR2
 go_wp2_with (first | (refine wpList_load_row rfl _ _ rfl w.heap.size rfl _ (mrA (n) r) _ _ HR_a.out Tryz.underlying47 rfl (mr_info _ _) ?_))
 refine (read_at n r HOK.out.1 w1').mono ?_
 rintro e w2' ⟨k9, t9, rfl, hx9, hbz⟩
 replace HR_a := Lib.hid (HR_a.out.ext hbz)
 replace HR_b := Lib.hid (HR_b.out.ext hbz)
 replace HR_o := Lib.hid (HR_o.out.ext hbz)
 replace HW := Lib.hid (ext_trans HW.out hbz)
 clear hbz
 have HRD : Hid (RdIf w2' (momF n r) n r k9 t9) := Lib.hid hx9
 clear hx9
 have hsz : (smA (k9) t9).size = 16 := rfl
 have hsc := run_storeCells_new (P := Tryz.prog) w2' 110 #[.int .i64 0, .bool false, .slice none 0 0, .slice none 0 0, .bool false, .slice none 0 0, .slice none 0 0, .bool false, .slice none 0 0, .slice none 0 0, .bool false, .slice none 0 0, .slice none 0 0, .bool false, .slice none 0 0, .slice none 0 0] (smA (k9) t9) (sm_info _ _) rfl (sm_all _ _)
 go_upto_region 2 with (fail)
 clear hsc hsz
 refine wp_rows1 fun w3' hbz hR0 => ?_
 have lt_a_s : w.heap.size < w2'.heap.size := HR_a.out.lt
 have lt_b_s : (w.heap.size + 1) < w2'.heap.size := HR_b.out.lt
 have lt_o_s : (w.heap.size + 2) < w2'.heap.size := HR_o.out.lt
 have le_s : w.heap.size ≤ w2'.heap.size := HW.out.size
 replace HR_a := Lib.hid (HR_a.out.ext hbz)
 replace HR_b := Lib.hid (HR_b.out.ext hbz)
 replace HR_o := Lib.hid (HR_o.out.ext hbz)
 replace HRD := Lib.hid (HRD.out.ext hbz)
 replace HW := Lib.hid (ext_trans HW.out hbz)
 clear hbz
 have HR_s : Hid (RH w3' w2'.heap.size (smA (k9) t9) 110) := Lib.hid hR0
 clear hR0
 generalize w2'.heap.size = b_s at *
 by_cases hz : momF n r = 0
 ·have hne2 : (momF n r != 0) = false := by simp [hz]
  have HZ := Lib.hid hz
  obtain rfl : n = k9 := (HRD.out hz).1.symm
  have HXA : Hid (SX w3' t9 r.q) := Lib.hid ((HRD.out hz).2)
  clear HRD
  clear hz
  go_wp2_with (first | (refine wpList_load_row rfl _ _ rfl (w.heap.size + 1) rfl _ (mrA (k) s) _ _ HR_b.out Tryz.underlying47 rfl (mr_info _ _) ?_))
  refine (read_at k s HOK.out.2 w3').mono ?_
  rintro e w4' ⟨k8, t8, rfl, hx9, hbz⟩
  replace HR_a := Lib.hid (HR_a.out.ext hbz)
  replace HR_b := Lib.hid (HR_b.out.ext hbz)
  replace HR_o := Lib.hid (HR_o.out.ext hbz)
  replace HR_s := Lib.hid (HR_s.out.ext hbz)
  replace HXA := Lib.hid (HXA.out.ext hbz)
  replace HW := Lib.hid (ext_trans HW.out hbz)
  clear hbz
  have HRD : Hid (RdIf w4' (momF k s) k s k8 t8) := Lib.hid hx9
  clear hx9
  have hsz : (smA (k8) t8).size = 16 := rfl
  have hsc := run_storeCells_new (P := Tryz.prog) w4' 110 #[.int .i64 0, .bool false, .slice none 0 0, .slice none 0 0, .bool false, .slice none 0 0, .slice none 0 0, .bool false, .slice none 0 0, .slice none 0 0, .bool false, .slice none 0 0, .slice none 0 0, .bool false, .slice none 0 0, .slice none 0 0] (smA (k8) t8) (sm_info _ _) rfl (sm_all _ _)
  go_upto_region 5 with (fail)
  clear hsc hsz
  refine wp_rows1 fun w5' hbz hR0 => ?_
  have lt_a_u : w.heap.size < w4'.heap.size := HR_a.out.lt
  have lt_b_u : (w.heap.size + 1) < w4'.heap.size := HR_b.out.lt
  have lt_o_u : (w.heap.size + 2) < w4'.heap.size := HR_o.out.lt
  have lt_s_u : b_s < w4'.heap.size := HR_s.out.lt
  have le_u : w.heap.size ≤ w4'.heap.size := HW.out.size
  replace HR_a := Lib.hid (HR_a.out.ext hbz)
  replace HR_b := Lib.hid (HR_b.out.ext hbz)
  replace HR_o := Lib.hid (HR_o.out.ext hbz)
  replace HR_s := Lib.hid (HR_s.out.ext hbz)
  replace HXA := Lib.hid (HXA.out.ext hbz)
  replace HRD := Lib.hid (HRD.out.ext hbz)
  replace HW := Lib.hid (ext_trans HW.out hbz)
  clear hbz
  have HR_u : Hid (RH w5' w4'.heap.size (smA (k8) t8) 110) := Lib.hid hR0
  clear hR0
  generalize w4'.heap.size = b_u at *
  by_cases hz : momF k s = 0
  ·have hne3 : (momF k s != 0) = false := by simp [hz]
   have HZ2 := Lib.hid hz
   obtain rfl : k = k8 := (HRD.out hz).1.symm
   have HXB : Hid (SX w5' t8 s.q) := Lib.hid ((HRD.out hz).2)
   clear HRD
   clear hz
   obtain ⟨g1, g2, g3, -⟩ := mom_ql HZ.out
   obtain ⟨g4, g5, g6, -⟩ := mom_ql HZ2.out
   have HQ := Lib.hid (And.intro g3 g6)
   clear g3 g6
   have hwr : IntKind.i64.wrap (n + k) = n + k := IntWalk.i64_in _ (by omega)
   obtain ⟨c_s_0, -, -, -, -, -, -, -, -, -, -, -, -, -, -, -⟩ := zs16 HR_s.out
   obtain ⟨c_u_0, -, -, -, -, -, -, -, -, -, -, -, -, -, -, -⟩ := zs16 HR_u.out
   by_cases hl : 20000 < n + k
   ·have HP : Hid (adF n k r s = 2) := Lib.hid (by unfold adF; rw [if_neg (fun h => h HZ.out), if_neg (fun h => h HZ2.out), if_pos hl])
    have HNE : Hid ((2 : Int) ≠ 0) := Lib.hid (by decide)
    go_wp2_with (first | (refine wpList_store_row rfl _ _ _ rfl (w.heap.size + 2) (mrA (0) r5z) rfl rfl _ _ HR_o.out (mr_info _ _) rfl (mr_all _ _) ?_))
    obtain ⟨w6', hX⟩ : ∃ Z9, Z9 = w5'.setRow (w.heap.size + 2) (mrA (0) r5z) := ⟨_, rfl⟩
    rw [← hX]
    have n_o : Hid (RH w6' (w.heap.size + 2) (mrA (0) r5z) 47) := by rw [hX]; exact Lib.hid (HR_o.out.row _)
    have n_a : Hid (RH w6' w.heap.size (mrA (n) r) 47) := by rw [hX]; exact Lib.hid (HR_a.out.row_other (show w.heap.size ≠ (w.heap.size + 2) by omega) _)
    have n_b : Hid (RH w6' (w.heap.size + 1) (mrA (k) s) 47) := by rw [hX]; exact Lib.hid (HR_b.out.row_other (show (w.heap.size + 1) ≠ (w.heap.size + 2) by omega) _)
    have n_s : Hid (RH w6' b_s (smA (n) t9) 110) := by rw [hX]; exact Lib.hid (HR_s.out.row_other (show b_s ≠ (w.heap.size + 2) by omega) _)
    have n_u : Hid (RH w6' b_u (smA (k) t8) 110) := by rw [hX]; exact Lib.hid (HR_u.out.row_other (show b_u ≠ (w.heap.size + 2) by omega) _)
    have HK_ : ∀ p : Addr, p.block ≠ (w.heap.size + 2) → w6'.cell? p = w5'.cell? p := fun p hp => by rw [hX]; exact cell_setRow_other _ _ _ p hp
    have n_HXA : Hid (SX w6' t9 r.q) := Lib.hid (HXA.out.far HR_o.out.box (mr_nw _ _) HK_)
    have n_HXB : Hid (SX w6' t8 s.q) := Lib.hid (HXB.out.far HR_o.out.box (mr_nw _ _) HK_)
    have nW : Hid (Below w.heap.size w w6') := by rw [hX]; exact Lib.hid (below_setRow HW.out (show w.heap.size ≤ (w.heap.size + 2) by omega) _)
    clear c_s_0 c_u_0
    clear hX HK_ HW HR_a HR_b HR_o HR_s HR_u HXA HXB
    have HR_a := n_a; clear n_a
    have HR_b := n_b; clear n_b
    have HR_o := n_o; clear n_o
    have HR_s := n_s; clear n_s
    have HR_u := n_u; clear n_u
    have HXA := n_HXA; clear n_HXA
    have HXB := n_HXB; clear n_HXB
    have HW := nW; clear nW
    refine bodyPost_ret (v := .tuple #[.agg (mrA (0) r5z), .int .i64 2]) ?_ rfl ⟨by rw [ad_no HP.out HNE.out, HP.out], HW.out⟩
    have hld := run_loadVar_row (P := Tryz.prog) _ _ _ 47 _ _ _ HR_o.out Tryz.underlying47 rfl (mr_info _ _)
    rw [results_cell_tmp rfl]
    simp [asAddr, Result.andThen, hld]
   ·have HV := Lib.hid (ad_wr HZ.out HZ2.out (by omega : n + k ≤ 20000))
    have HL := Lib.hid (ql_add HQ.out.1 HQ.out.2)
    have HWR := Lib.hid hwr
    go_wp2_with (first | (refine wpList_load_row rfl _ _ rfl b_s rfl _ (smA (n) t9) _ _ HR_s.out Tryz.underlying110 rfl (sm_info _ _) ?_) | (refine wpList_load_row rfl _ _ rfl b_u rfl _ (smA (k) t8) _ _ HR_u.out Tryz.underlying110 rfl (sm_info _ _) ?_))
    refine (sumsAdd_at n k (n + k) HWR.out r.q s.q (q5a r.q s.q) ⟨rfl, rfl, rfl, rfl, rfl⟩ t9 t8 w5' HXA.out HXB.out HQ.out.1.qs HQ.out.2.qs).mono ?_
    rintro e w6' ⟨t7, rfl, hx7, hbz⟩
    replace HR_a := Lib.hid (HR_a.out.ext hbz)
    replace HR_b := Lib.hid (HR_b.out.ext hbz)
    replace HR_o := Lib.hid (HR_o.out.ext hbz)
    replace HR_s := Lib.hid (HR_s.out.ext hbz)
    replace HR_u := Lib.hid (HR_u.out.ext hbz)
    replace HXA := Lib.hid (HXA.out.ext hbz)
    replace HXB := Lib.hid (HXB.out.ext hbz)
    replace HW := Lib.hid (ext_trans HW.out hbz)
    clear c_s_0 c_u_0
    clear hbz
    have HXS : Hid (SX w6' t7 (q5a r.q s.q)) := Lib.hid hx7
    clear hx7
    clear hwr hl
    go_wp2_with fail
    refine (moments_at (n + k) t7 (q5a r.q s.q) w6' HXS.out ⟨HL.out.1.fits (by omega) (by omega), HL.out.2.1.fits (by omega) (by omega), HL.out.2.2.1.fits (by omega) (by omega), HL.out.2.2.2.1.fits (by omega) (by omega), HL.out.2.2.2.2.fits (by omega) (by omega)⟩ ⟨HL.out.1.sm (by omega) (by omega), HL.out.2.1.sm (by omega) (by omega), HL.out.2.2.1.sm (by omega) (by omega), HL.out.2.2.2.1.sm (by omega) (by omega), HL.out.2.2.2.2.sm (by omega) (by omega)⟩).mono ?_
    rintro e w7' ⟨rfl, hbz⟩
    replace HR_a := Lib.hid (HR_a.out.ext hbz)
    replace HR_b := Lib.hid (HR_b.out.ext hbz)
    replace HR_o := Lib.hid (HR_o.out.ext hbz)
    replace HR_s := Lib.hid (HR_s.out.ext hbz)
    replace HR_u := Lib.hid (HR_u.out.ext hbz)
    replace HXA := Lib.hid (HXA.out.ext hbz)
    replace HXB := Lib.hid (HXB.out.ext hbz)
    replace HXS := Lib.hid (HXS.out.ext hbz)
    replace HW := Lib.hid (ext_trans HW.out hbz)
    clear hbz
    rw [← HV.out.1, ← HV.out.2]
    obtain ⟨kr, hkr⟩ : ∃ z, adF n k r s = z := ⟨_, rfl⟩
    obtain ⟨nr, hnr⟩ : ∃ z, (if adF n k r s = 0 then n + k else 0) = z := ⟨_, rfl⟩
    obtain ⟨rr, hrr⟩ : ∃ z, (if adF n k r s = 0 then (q5a r.q s.q).r else r5z) = z := ⟨_, rfl⟩
    have HAD : Hid (adA n k r s = mrA nr rr ∧ adF n k r s = kr) := Lib.hid ⟨by unfold adA; rw [hnr, hrr], hkr⟩
    rw [HAD.out.1, HAD.out.2]
    clear hkr hnr hrr g1 g2 g4 g5
    have hsz : (mrA (nr) rr).size = 11 := rfl
    have hsc := store_cells (P := Tryz.prog) (ty := 47) (A := (mrA (nr) rr)) HR_o.out (mr_info _ _) rfl (mr_all _ _)
    go_wp2
    clear hsc hsz
    obtain ⟨w8', hX⟩ : ∃ Z9, Z9 = w7'.setRow (w.heap.size + 2) (mrA (nr) rr) := ⟨_, rfl⟩
    rw [← hX]
    have n_o : Hid (RH w8' (w.heap.size + 2) (mrA (nr) rr) 47) := by rw [hX]; exact Lib.hid (HR_o.out.row _)
    have n_a : Hid (RH w8' w.heap.size (mrA (n) r) 47) := by rw [hX]; exact Lib.hid (HR_a.out.row_other (show w.heap.size ≠ (w.heap.size + 2) by omega) _)
    have n_b : Hid (RH w8' (w.heap.size + 1) (mrA (k) s) 47) := by rw [hX]; exact Lib.hid (HR_b.out.row_other (show (w.heap.size + 1) ≠ (w.heap.size + 2) by omega) _)
    have n_s : Hid (RH w8' b_s (smA (n) t9) 110) := by rw [hX]; exact Lib.hid (HR_s.out.row_other (show b_s ≠ (w.heap.size + 2) by omega) _)
    have n_u : Hid (RH w8' b_u (smA (k) t8) 110) := by rw [hX]; exact Lib.hid (HR_u.out.row_other (show b_u ≠ (w.heap.size + 2) by omega) _)
    have HK_ : ∀ p : Addr, p.block ≠ (w.heap.size + 2) → w8'.cell? p = w7'.cell? p := fun p hp => by rw [hX]; exact cell_setRow_other _ _ _ p hp
    have n_HXA : Hid (SX w8' t9 r.q) := Lib.hid (HXA.out.far HR_o.out.box (mr_nw _ _) HK_)
    have n_HXB : Hid (SX w8' t8 s.q) := Lib.hid (HXB.out.far HR_o.out.box (mr_nw _ _) HK_)
    have n_HXS : Hid (SX w8' t7 (q5a r.q s.q)) := Lib.hid (HXS.out.far HR_o.out.box (mr_nw _ _) HK_)
    have nW : Hid (Below w.heap.size w w8') := by rw [hX]; exact Lib.hid (below_setRow HW.out (show w.heap.size ≤ (w.heap.size + 2) by omega) _)
    clear hX HK_ HW HR_a HR_b HR_o HR_s HR_u HXA HXB HXS
    have HR_a := n_a; clear n_a
    have HR_b := n_b; clear n_b
    have HR_o := n_o; clear n_o
    have HR_s := n_s; clear n_s
    have HR_u := n_u; clear n_u
    have HXA := n_HXA; clear n_HXA
    have HXB := n_HXB; clear n_HXB
    have HXS := n_HXS; clear n_HXS
    have HW := nW; clear nW
    refine bodyPost_ret (v := .tuple #[.agg (mrA (nr) rr), .int .i64 kr]) ?_ rfl ⟨by rw [HAD.out.1, HAD.out.2], HW.out⟩
    have hld := run_loadVar_row (P := Tryz.prog) _ _ _ 47 _ _ _ HR_o.out Tryz.underlying47 rfl (mr_info _ _)
    rw [results_cell_tmp rfl]
    simp [asAddr, Result.andThen, hld]
  ·have hne3 : (momF k s != 0) = true := by simp [hz]
   have HP : Hid (adF n k r s = momF k s) := Lib.hid (by unfold adF; rw [if_neg (fun h => h HZ.out), if_pos hz])
   have HNE := Lib.hid hz
   clear hz
   go_wp2_with (first | (refine wpList_store_row rfl _ _ _ rfl (w.heap.size + 2) (mrA (0) r5z) rfl rfl _ _ HR_o.out (mr_info _ _) rfl (mr_all _ _) ?_))
   obtain ⟨w6', hX⟩ : ∃ Z9, Z9 = w5'.setRow (w.heap.size + 2) (mrA (0) r5z) := ⟨_, rfl⟩
   rw [← hX]
   have n_o : Hid (RH w6' (w.heap.size + 2) (mrA (0) r5z) 47) := by rw [hX]; exact Lib.hid (HR_o.out.row _)
   have n_a : Hid (RH w6' w.heap.size (mrA (n) r) 47) := by rw [hX]; exact Lib.hid (HR_a.out.row_other (show w.heap.size ≠ (w.heap.size + 2) by omega) _)
   have n_b : Hid (RH w6' (w.heap.size + 1) (mrA (k) s) 47) := by rw [hX]; exact Lib.hid (HR_b.out.row_other (show (w.heap.size + 1) ≠ (w.heap.size + 2) by omega) _)
   have n_s : Hid (RH w6' b_s (smA (n) t9) 110) := by rw [hX]; exact Lib.hid (HR_s.out.row_other (show b_s ≠ (w.heap.size + 2) by omega) _)
   have n_u : Hid (RH w6' b_u (smA (k8) t8) 110) := by rw [hX]; exact Lib.hid (HR_u.out.row_other (show b_u ≠ (w.heap.size + 2) by omega) _)
   have HK_ : ∀ p : Addr, p.block ≠ (w.heap.size + 2) → w6'.cell? p = w5'.cell? p := fun p hp => by rw [hX]; exact cell_setRow_other _ _ _ p hp
   have n_HXA : Hid (SX w6' t9 r.q) := Lib.hid (HXA.out.far HR_o.out.box (mr_nw _ _) HK_)
   have n_HRD : Hid (RdIf w6' (momF k s) k s k8 t8) := Lib.hid (HRD.out.far HR_o.out.box (mr_nw _ _) HK_)
   have nW : Hid (Below w.heap.size w w6') := by rw [hX]; exact Lib.hid (below_setRow HW.out (show w.heap.size ≤ (w.heap.size + 2) by omega) _)
   clear hX HK_ HW HR_a HR_b HR_o HR_s HR_u HXA HRD
   have HR_a := n_a; clear n_a
   have HR_b := n_b; clear n_b
   have HR_o := n_o; clear n_o
   have HR_s := n_s; clear n_s
   have HR_u := n_u; clear n_u
   have HXA := n_HXA; clear n_HXA
   have HRD := n_HRD; clear n_HRD
   have HW := nW; clear nW
   refine bodyPost_ret (v := .tuple #[.agg (mrA (0) r5z), .int .i64 (momF k s)]) ?_ rfl ⟨by rw [ad_no HP.out HNE.out, HP.out], HW.out⟩
   have hld := run_loadVar_row (P := Tryz.prog) _ _ _ 47 _ _ _ HR_o.out Tryz.underlying47 rfl (mr_info _ _)
   rw [results_cell_tmp rfl]
   simp [asAddr, Result.andThen, hld]
 ·have hne2 : (momF n r != 0) = true := by simp [hz]
  have HP : Hid (adF n k r s = momF n r) := Lib.hid (by unfold adF; rw [if_pos hz])
  have HNE := Lib.hid hz
  clear hz
  go_wp2_with (first | (refine wpList_store_row rfl _ _ _ rfl (w.heap.size + 2) (mrA (0) r5z) rfl rfl _ _ HR_o.out (mr_info _ _) rfl (mr_all _ _) ?_))
  obtain ⟨w4', hX⟩ : ∃ Z9, Z9 = w3'.setRow (w.heap.size + 2) (mrA (0) r5z) := ⟨_, rfl⟩
  rw [← hX]
  have n_o : Hid (RH w4' (w.heap.size + 2) (mrA (0) r5z) 47) := by rw [hX]; exact Lib.hid (HR_o.out.row _)
  have n_a : Hid (RH w4' w.heap.size (mrA (n) r) 47) := by rw [hX]; exact Lib.hid (HR_a.out.row_other (show w.heap.size ≠ (w.heap.size + 2) by omega) _)
  have n_b : Hid (RH w4' (w.heap.size + 1) (mrA (k) s) 47) := by rw [hX]; exact Lib.hid (HR_b.out.row_other (show (w.heap.size + 1) ≠ (w.heap.size + 2) by omega) _)
  have n_s : Hid (RH w4' b_s (smA (k9) t9) 110) := by rw [hX]; exact Lib.hid (HR_s.out.row_other (show b_s ≠ (w.heap.size + 2) by omega) _)
  have HK_ : ∀ p : Addr, p.block ≠ (w.heap.size + 2) → w4'.cell? p = w3'.cell? p := fun p hp => by rw [hX]; exact cell_setRow_other _ _ _ p hp
  have n_HRD : Hid (RdIf w4' (momF n r) n r k9 t9) := Lib.hid (HRD.out.far HR_o.out.box (mr_nw _ _) HK_)
  have nW : Hid (Below w.heap.size w w4') := by rw [hX]; exact Lib.hid (below_setRow HW.out (show w.heap.size ≤ (w.heap.size + 2) by omega) _)
  clear hX HK_ HW HR_a HR_b HR_o HR_s HRD
  have HR_a := n_a; clear n_a
  have HR_b := n_b; clear n_b
  have HR_o := n_o; clear n_o
  have HR_s := n_s; clear n_s
  have HRD := n_HRD; clear n_HRD
  have HW := nW; clear nW
  refine bodyPost_ret (v := .tuple #[.agg (mrA (0) r5z), .int .i64 (momF n r)]) ?_ rfl ⟨by rw [ad_no HP.out HNE.out, HP.out], HW.out⟩
  have hld := run_loadVar_row (P := Tryz.prog) _ _ _ 47 _ _ _ HR_o.out Tryz.underlying47 rfl (mr_info _ _)
  rw [results_cell_tmp rfl]
  simp [asAddr, Result.andThen, hld]
set_option maxRecDepth 100000 in
set_option maxHeartbeats 16000000 in
theorem mean_at (n : Int) (r : R5) (hok : r.ok) (w : World) : Calls Tryz.prog 32 #[.agg (mrA n r)] w (RqPost w (atF 1 n r) (meQ n r.q)) := by
 have HOK := Lib.hid hok
 clear hok
 go_enter Tryz.func32, Tryz.ntmps32
 go_upto_region 1 with (fail)
 refine wp_rows2 fun w1' hbz hR0 hR1 => ?_
 have HR_m : Hid (RH w1' w.heap.size (mrA (n) r) 47) := Lib.hid hR0
 have HR_o : Hid (RH w1' (w.heap.size + 1) #[.string ⟨#[]⟩, .string ⟨#[]⟩] 23) := Lib.hid hR1
 have HW := Lib.hid hbz
 clear hbz hR0 hR1
 go_wp2_with (first | (refine wpList_load_row rfl _ _ rfl w.heap.size rfl _ (mrA (n) r) _ _ HR_m.out Tryz.underlying47 rfl (mr_info _ _) ?_))
 refine (atLeast_at 1 n r HOK.out w1').mono ?_
 rintro e w2' ⟨k9, t9, rfl, hx9, hbz⟩
 replace HR_m := Lib.hid (HR_m.out.ext hbz)
 replace HR_o := Lib.hid (HR_o.out.ext hbz)
 replace HW := Lib.hid (ext_trans HW.out hbz)
 clear hbz
 have HRD : Hid (RdIf w2' (atF 1 n r) n r k9 t9) := Lib.hid hx9
 clear hx9
 have hsz : (smA (k9) t9).size = 16 := rfl
 have hsc := run_storeCells_new (P := Tryz.prog) w2' 110 #[.int .i64 0, .bool false, .slice none 0 0, .slice none 0 0, .bool false, .slice none 0 0, .slice none 0 0, .bool false, .slice none 0 0, .slice none 0 0, .bool false, .slice none 0 0, .slice none 0 0, .bool false, .slice none 0 0, .slice none 0 0] (smA (k9) t9) (sm_info _ _) rfl (sm_all _ _)
 go_upto_region 2 with (fail)
 clear hsc hsz
 refine wp_rows1 fun w3' hbz hR0 => ?_
 have lt_m_s : w.heap.size < w2'.heap.size := HR_m.out.lt
 have lt_o_s : (w.heap.size + 1) < w2'.heap.size := HR_o.out.lt
 have le_s : w.heap.size ≤ w2'.heap.size := HW.out.size
 replace HR_m := Lib.hid (HR_m.out.ext hbz)
 replace HR_o := Lib.hid (HR_o.out.ext hbz)
 replace HRD := Lib.hid (HRD.out.ext hbz)
 replace HW := Lib.hid (ext_trans HW.out hbz)
 clear hbz
 have HR_s : Hid (RH w3' w2'.heap.size (smA (k9) t9) 110) := Lib.hid hR0
 clear hR0
 generalize w2'.heap.size = b_s at *
 by_cases hz : atF 1 n r = 0
 ·have hne2 : (atF 1 n r != 0) = false := by simp [hz]
  have HZ := Lib.hid hz
  obtain rfl : n = k9 := (HRD.out hz).1.symm
  have HX : Hid (SX w3' t9 r.q) := Lib.hid ((HRD.out hz).2)
  clear HRD
  obtain ⟨_, hn0, hn1, hql⟩ := at_ql hz
  have HQL := Lib.hid hql
  have HNB := Lib.hid (And.intro hn0 hn1)
  clear hz hql
  obtain ⟨nq, hnq⟩ : ∃ z : Rat, ((n : Int) : Rat) = z := ⟨_, rfl⟩
  have HNQ := Lib.hid hnq
  have HNL : Hid (Sm nq ∧ nq ≠ 0) := Lib.hid (by rw [← hnq]; exact ⟨(ln_n (by omega) hn1).sm (by omega) (by omega), n_ne (by omega)⟩)
  obtain ⟨mq, hmq⟩ : ∃ z : Rat, r.q.x / nq = z := ⟨_, rfl⟩
  have HMQ := Lib.hid hmq
  have HMM : Hid (meQ n r.q = mq) := Lib.hid (by unfold meQ; rw [hnq, hmq])
  have HMF : Hid (Fits mq ∧ Sm mq) := Lib.hid (by
   have h := HQL.out.me hn0 hn1
   rw [HMM.out] at h
   exact ⟨h.fits (by omega) (by omega), h.sm (by omega) (by omega)⟩)
  clear hnq hmq
  obtain ⟨c_s_0, c_s_1, c_s_2, c_s_3, -, -, -, -, -, -, -, -, -, -, -, -⟩ := zs16 HR_s.out
  go_upto_region 4 with (fail)
  refine Grow.wp_region_grow 9 [TP.eq (.pointer (some ⟨b_s, 1, none⟩)), TP.eq (.agg #[.bool t9.x.b, .slice t9.x.a1 t9.x.n1 t9.x.c1, .slice t9.x.a2 t9.x.n2 t9.x.c2]), TP.eq (.pointer (some ⟨b_s, 0, none⟩)), TP.eq (.int .i64 n), TP.xq nq, TP.xq mq, TP.eq (.tuple #[.agg #[.string (showN mq), .string (showD mq)], .int .i64 0]), TP.eq (.agg #[.string (showN mq), .string (showD mq)]), TP.eq (.int .i64 0)] [[], [0], [], [2], [3], [1, 4], [5], [6], [6]] (by kernel_rfl) (by kernel_rfl) ⟨?o0m, ?o1m, ?o2m, ?o3m, ?o4m, ?o5m, ?o6m, ?o7m, ?o8m, trivial⟩ ?_
  case o0m | o2m =>
   intro w' hb
   show wpList _ _ _ _ _ _
   go_wp2
   exact ⟨rfl, Below.refl _ _, rfl⟩
  case o1m =>
   intro w' hb v1 hv1
   obtain rfl : v1 = _ := hv1
   have c_s_1' := zzc hb c_s_1
   have c_s_2' := zzc hb c_s_2
   have c_s_3' := zzc hb c_s_3
   show wpList _ _ _ _ _ _
   simp only [Grow.dstOf, zz1, zz3, zz4, Act.put, zz5, zz6, zz7]
   go_wp2
   exact ⟨rfl, Below.refl _ _, rfl⟩
  case o3m =>
   intro w' hb v1 hv1
   obtain rfl : v1 = _ := hv1
   have c_s_0' := zzc hb c_s_0
   show wpList _ _ _ _ _ _
   simp only [Grow.dstOf, zz1, zz2, zz3, zz4, Act.put, zz5, zz6, zz7]
   go_wp2
   exact ⟨rfl, Below.refl _ _, rfl⟩
  case o4m =>
   intro w' hb v1 hv1
   obtain rfl : v1 = _ := hv1
   show wpList _ _ _ _ _ _
   simp only [Grow.dstOf, zz1, zz2, zz3, zz4, Act.put, zz5, zz6, zz7]
   go_wp2_with fail
   refine (mwhole_is n nq HNQ.out (by omega) (by omega) w').mono ?_
   rintro e wz ⟨vz, rfl, hxz, hbz⟩
   go_wp2
   exact ⟨hxz, hbz, rfl⟩
  case o5m =>
   intro w' hb v1 hv1 v2 hv2
   obtain rfl : v1 = _ := hv1
   have hv2' : XR w' v2 nq := hv2
   clear hv2
   show wpList _ _ _ _ _ _
   simp only [Grow.dstOf, zz1, zz2, zz3, zz4, Act.put, zz5, zz6, zz7]
   go_wp2_with fail
   refine (mover_is r.q.x nq mq HMQ.out HNL.out.2 _ _ w' (HX.out.x.ext hb) hv2' HQL.out.qs.x HNL.out.1).mono ?_
   rintro e wz ⟨vz, rfl, hxz, hbz⟩
   go_wp2
   exact ⟨hxz, hbz, rfl⟩
  case o6m =>
   intro w' hb v1 hv1
   have hv1' : XR w' v1 mq := hv1
   clear hv1
   show wpList _ _ _ _ _ _
   simp only [Grow.dstOf, zz1, zz2, zz3, zz4, Act.put, zz5, zz6, zz7]
   go_wp2_with fail
   refine (ratio_is mq HMF.out.1 HMF.out.2 _ w' hv1').mono ?_
   rintro e wz ⟨rfl, hbz⟩
   go_wp2
   exact ⟨rfl, hbz, rfl⟩
  case o7m | o8m =>
   intro w' hb v1 hv1
   obtain rfl : v1 = _ := hv1
   show wpList _ _ _ _ _ _
   simp only [Grow.dstOf, zz1, zz2, zz3, zz4, Act.put, zz5, zz6, zz7]
   go_wp2
   exact ⟨rfl, Below.refl _ _, rfl⟩
  intro w4' hbz u0 hu0 u1 hu1 u2 hu2 u3 hu3 u4 hu4 u5 hu5 u6 hu6 u7 hu7 u8 hu8
  obtain rfl : u7 = _ := hu7
  obtain rfl : u8 = _ := hu8
  clear hu0 hu1 hu2 hu3 hu4 hu5 hu6
  replace HR_m := Lib.hid (HR_m.out.ext hbz)
  replace HR_o := Lib.hid (HR_o.out.ext hbz)
  replace HR_s := Lib.hid (HR_s.out.ext hbz)
  replace HX := Lib.hid (HX.out.ext hbz)
  replace HW := Lib.hid (ext_trans HW.out hbz)
  clear c_s_0 c_s_1 c_s_2 c_s_3
  clear hbz
  show wpList _ _ _ _ _ _
  simp only [Act.put, zz5, zz6, zz7]
  obtain ⟨c_o_0, c_o_1⟩ := zs2 HR_o.out
  have f_o_0 := HR_o.out.fre 0
  have f_o_1 := HR_o.out.fre 1
  go_wp2
  obtain ⟨w5', hX⟩ : ∃ Z9, Z9 = ((w4'.setCell ⟨(w.heap.size + 1), 0, none⟩ (.string (showN mq))).setCell ⟨(w.heap.size + 1), 1, none⟩ (.string (showD mq))) := ⟨_, rfl⟩
  rw [← hX]
  have n_o : Hid (RH w5' (w.heap.size + 1) #[.string (showN mq), .string (showD mq)] 23) := by rw [hX]; exact Lib.hid (((HR_o.out).set 0 (.string (showN mq))).set 1 (.string (showD mq)))
  have n_m : Hid (RH w5' w.heap.size (mrA (n) r) 47) := by rw [hX]; exact Lib.hid (zzo (zzo (HR_m.out) (by omega)) (by omega))
  have n_s : Hid (RH w5' b_s (smA (n) t9) 110) := by rw [hX]; exact Lib.hid (zzo (zzo (HR_s.out) (by omega)) (by omega))
  have HK_ : ∀ p : Addr, p.block ≠ (w.heap.size + 1) → w5'.cell? p = w4'.cell? p := fun p hp => by rw [hX]; exact (cs_other hp).trans (cs_other hp)
  have n_HX : Hid (SX w5' t9 r.q) := Lib.hid (HX.out.far HR_o.out.box (noW_all (by simp [isWord])) HK_)
  have nW : Hid (Below w.heap.size w w5') := by rw [hX]; exact Lib.hid (zzw (zzw (HW.out) (by omega)) (by omega))
  clear c_o_0 c_o_1 f_o_0 f_o_1
  clear hX HK_ HW HR_m HR_o HR_s HX
  have HR_m := n_m; clear n_m
  have HR_o := n_o; clear n_o
  have HR_s := n_s; clear n_s
  have HX := n_HX; clear n_HX
  have HW := nW; clear nW
  refine bodyPost_ret (v := .tuple #[.agg #[.string (showN mq), .string (showD mq)], .int .i64 0]) ?_ rfl ⟨by simp only [HZ.out, rtN_0, rtD_0, HMM.out], HW.out⟩
  have hld := run_loadVar_row (P := Tryz.prog) _ _ _ 23 _ _ _ HR_o.out Tryz.underlying23 rfl (by kernel_rfl : (Tryz.prog.info? 23).map (·.size) = some 2)
  rw [results_cell_tmp rfl]
  simp [asAddr, Result.andThen, hld]
 ·have hne2 : (atF 1 n r != 0) = true := by simp [hz]
  have HNE := Lib.hid hz
  clear hz
  obtain ⟨c_o_0, c_o_1⟩ := zs2 HR_o.out
  have f_o_0 := HR_o.out.fre 0
  have f_o_1 := HR_o.out.fre 1
  go_wp2
  obtain ⟨w4', hX⟩ : ∃ Z9, Z9 = ((w3'.setCell ⟨(w.heap.size + 1), 0, none⟩ (.string ⟨#[]⟩)).setCell ⟨(w.heap.size + 1), 1, none⟩ (.string ⟨#[]⟩)) := ⟨_, rfl⟩
  rw [← hX]
  have n_o : Hid (RH w4' (w.heap.size + 1) #[.string ⟨#[]⟩, .string ⟨#[]⟩] 23) := by rw [hX]; exact Lib.hid (((HR_o.out).set 0 (.string ⟨#[]⟩)).set 1 (.string ⟨#[]⟩))
  have n_m : Hid (RH w4' w.heap.size (mrA (n) r) 47) := by rw [hX]; exact Lib.hid (zzo (zzo (HR_m.out) (by omega)) (by omega))
  have n_s : Hid (RH w4' b_s (smA (k9) t9) 110) := by rw [hX]; exact Lib.hid (zzo (zzo (HR_s.out) (by omega)) (by omega))
  have HK_ : ∀ p : Addr, p.block ≠ (w.heap.size + 1) → w4'.cell? p = w3'.cell? p := fun p hp => by rw [hX]; exact (cs_other hp).trans (cs_other hp)
  have n_HRD : Hid (RdIf w4' (atF 1 n r) n r k9 t9) := Lib.hid (HRD.out.far HR_o.out.box (noW_all (by simp [isWord])) HK_)
  have nW : Hid (Below w.heap.size w w4') := by rw [hX]; exact Lib.hid (zzw (zzw (HW.out) (by omega)) (by omega))
  clear c_o_0 c_o_1 f_o_0 f_o_1
  clear hX HK_ HW HR_m HR_o HR_s HRD
  have HR_m := n_m; clear n_m
  have HR_o := n_o; clear n_o
  have HR_s := n_s; clear n_s
  have HRD := n_HRD; clear n_HRD
  have HW := nW; clear nW
  refine bodyPost_ret (v := .tuple #[.agg #[.string ⟨#[]⟩, .string ⟨#[]⟩], .int .i64 (atF 1 n r)]) ?_ rfl ⟨by simp only [rtN_no HNE.out, rtD_no HNE.out], HW.out⟩
  have hld := run_loadVar_row (P := Tryz.prog) _ _ _ 23 _ _ _ HR_o.out Tryz.underlying23 rfl (by kernel_rfl : (Tryz.prog.info? 23).map (·.size) = some 2)
  rw [results_cell_tmp rfl]
  simp [asAddr, Result.andThen, hld]
end Nm
end Go.Proofs.YtilolnjbpokdnaaGreatDoor
