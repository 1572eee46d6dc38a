/- none, add, moments of package metric. Printed by gen_mom.py. -/
import Derived.Test.YtilolnjbpokdnaaBd17
import Derived.Test.YtilolnjbpokdnaaBd13
import Derived.Deep.MidRow
namespace Go.Proofs.Ytilolnjbpokdnaa
open Go.RowKit
namespace Nm
open _root_.Go.Proofs.Ytilolnjbpokdnaa.Nt (RH RH.cell RH.box RH.row RH.lt RH.new RH.ext RH.fre RH.set RH.other RH.row_other store_cells)
set_option maxRecDepth 100000 in
set_option maxHeartbeats 16000000 in
theorem none_at (z : Rat) (hz : ((0 : Int) : Rat) = z) (w : World) : Calls Try.prog 10 #[] w (SmPost w 0 ⟨z, z, z, z, z⟩) := by
 have HZQ := Lib.hid hz
 clear hz
 go_enter Try.func10, Try.ntmps10
 go_upto_region 1 with (fail)
 refine wp_rows1 fun w1' hbz hR0 => ?_
 have HR_o : Hid (RH w1' w.heap.size (smA (0) y5z) 45) := Lib.hid hR0
 have HW := Lib.hid hbz
 clear hbz hR0
 go_wp2_with fail
 refine (mwhole_is 0 z HZQ.out (by decide) (by decide) w1').mono ?_
 rintro e w2' ⟨v1, rfl, hv1, hbz⟩
 obtain ⟨t0, rfl, hx0⟩ := hv1.y3
 clear hv1
 replace HR_o := Lib.hid (HR_o.out.ext hbz)
 replace HW := Lib.hid (ext_trans HW.out hbz)
 clear hbz
 have HX0 : Hid (XR w2' (y3V t0) z) := Lib.hid hx0
 clear hx0
 go_wp2_with fail
 refine (mwhole_is 0 z HZQ.out (by decide) (by decide) w2').mono ?_
 rintro e w3' ⟨v1, rfl, hv1, hbz⟩
 obtain ⟨t1, rfl, hx1⟩ := hv1.y3
 clear hv1
 replace HR_o := Lib.hid (HR_o.out.ext hbz)
 replace HX0 := Lib.hid (HX0.out.ext hbz)
 replace HW := Lib.hid (ext_trans HW.out hbz)
 clear hbz
 have HX1 : Hid (XR w3' (y3V t1) z) := Lib.hid hx1
 clear hx1
 go_wp2_with fail
 refine (mwhole_is 0 z HZQ.out (by decide) (by decide) w3').mono ?_
 rintro e w4' ⟨v1, rfl, hv1, hbz⟩
 obtain ⟨t2, rfl, hx2⟩ := hv1.y3
 clear hv1
 replace HR_o := Lib.hid (HR_o.out.ext hbz)
 replace HX0 := Lib.hid (HX0.out.ext hbz)
 replace HX1 := Lib.hid (HX1.out.ext hbz)
 replace HW := Lib.hid (ext_trans HW.out hbz)
 clear hbz
 have HX2 : Hid (XR w4' (y3V t2) z) := Lib.hid hx2
 clear hx2
 go_wp2_with fail
 refine (mwhole_is 0 z HZQ.out (by decide) (by decide) w4').mono ?_
 rintro e w5' ⟨v1, rfl, hv1, hbz⟩
 obtain ⟨t3, rfl, hx3⟩ := hv1.y3
 clear hv1
 replace HR_o := Lib.hid (HR_o.out.ext hbz)
 replace HX0 := Lib.hid (HX0.out.ext hbz)
 replace HX1 := Lib.hid (HX1.out.ext hbz)
 replace HX2 := Lib.hid (HX2.out.ext hbz)
 replace HW := Lib.hid (ext_trans HW.out hbz)
 clear hbz
 have HX3 : Hid (XR w5' (y3V t3) z) := Lib.hid hx3
 clear hx3
 go_wp2_with fail
 refine (mwhole_is 0 z HZQ.out (by decide) (by decide) w5').mono ?_
 rintro e w6' ⟨v1, rfl, hv1, hbz⟩
 obtain ⟨t4, rfl, hx4⟩ := hv1.y3
 clear hv1
 replace HR_o := Lib.hid (HR_o.out.ext hbz)
 replace HX0 := Lib.hid (HX0.out.ext hbz)
 replace HX1 := Lib.hid (HX1.out.ext hbz)
 replace HX2 := Lib.hid (HX2.out.ext hbz)
 replace HX3 := Lib.hid (HX3.out.ext hbz)
 replace HW := Lib.hid (ext_trans HW.out hbz)
 clear hbz
 have HX4 : Hid (XR w6' (y3V t4) z) := Lib.hid hx4
 clear hx4
 go_wp2_with (first | (refine wpList_store_row rfl _ _ _ rfl w.heap.size (smA (0) ⟨t0, t1, t2, t3, t4⟩) rfl rfl _ _ HR_o.out (sm_info _ _) rfl (sm_all _ _) ?_))
 obtain ⟨w7', hX⟩ : ∃ Z9, Z9 = w6'.setRow w.heap.size (smA (0) ⟨t0, t1, t2, t3, t4⟩) := ⟨_, rfl⟩
 rw [← hX]
 have n_o : Hid (RH w7' w.heap.size (smA (0) ⟨t0, t1, t2, t3, t4⟩) 45) := by rw [hX]; exact Lib.hid (HR_o.out.row _)
 have HK_ : ∀ p : Addr, p.block ≠ w.heap.size → w7'.cell? p = w6'.cell? p := fun p hp => by rw [hX]; exact cell_setRow_other _ _ _ p hp
 have n_HX0 : Hid (XR w7' (y3V t0) z) := Lib.hid (HX0.out.far HR_o.out.box (sm_nw _ _) HK_)
 have n_HX1 : Hid (XR w7' (y3V t1) z) := Lib.hid (HX1.out.far HR_o.out.box (sm_nw _ _) HK_)
 have n_HX2 : Hid (XR w7' (y3V t2) z) := Lib.hid (HX2.out.far HR_o.out.box (sm_nw _ _) HK_)
 have n_HX3 : Hid (XR w7' (y3V t3) z) := Lib.hid (HX3.out.far HR_o.out.box (sm_nw _ _) HK_)
 have n_HX4 : Hid (XR w7' (y3V t4) z) := Lib.hid (HX4.out.far HR_o.out.box (sm_nw _ _) HK_)
 have nW : Hid (Below w.heap.size w w7') := by rw [hX]; exact Lib.hid (below_setRow HW.out (show w.heap.size ≤ w.heap.size by omega) _)
 clear hX HK_ HW HR_o HX0 HX1 HX2 HX3 HX4
 have HR_o := n_o; clear n_o
 have HX0 := n_HX0; clear n_HX0
 have HX1 := n_HX1; clear n_HX1
 have HX2 := n_HX2; clear n_HX2
 have HX3 := n_HX3; clear n_HX3
 have HX4 := n_HX4; clear n_HX4
 have HW := nW; clear nW
 exact bodyPost_ret (v := .agg (smA (0) ⟨t0, t1, t2, t3, t4⟩)) (results_cell_row rfl _ _ _ _ _ _ _ rfl HR_o.out Try.underlying45 rfl (sm_info _ _)) rfl ⟨_, rfl, ⟨HX0.out, HX1.out, HX2.out, HX3.out, HX4.out⟩, HW.out⟩
set_option maxRecDepth 100000 in
set_option maxHeartbeats 16000000 in
theorem sumsAdd_at (n k s : Int) (hs : IntKind.i64.wrap (n + k) = s) (p q r : Q5) (hr : p.x + q.x = r.x ∧ p.y + q.y = r.y ∧ p.xx + q.xx = r.xx ∧ p.yy + q.yy = r.yy ∧ p.xy + q.xy = r.xy) (t u : Y5) (w : World) (hx : SX w t p) (hy : SX w u q) (sp : QS p) (sq : QS q) : Calls Try.prog 17 #[.agg (smA n t), .agg (smA k u)] w (SmPost w s r) := by
 have HS0 := Lib.hid hs
 have HP := Lib.hid hr
 have HSP := Lib.hid sp
 have HSQ := Lib.hid sq
 have HA0 := Lib.hid hx
 have HB0 := Lib.hid hy
 have hs' := hs
 clear hs hr sp sq hx hy
 go_enter Try.func17, Try.ntmps17
 go_upto_region 1 with (fail)
 refine wp_rows3 fun w1' hbz hR0 hR1 hR2 => ?_
 have HR_a : Hid (RH w1' w.heap.size (smA (n) t) 45) := Lib.hid hR0
 have HR_b : Hid (RH w1' (w.heap.size + 1) (smA (k) u) 45) := Lib.hid hR1
 have HR_o : Hid (RH w1' (w.heap.size + 2) (smA (0) y5z) 45) := Lib.hid hR2
 have HW := Lib.hid hbz
 clear hbz hR0 hR1 hR2
 have HXa : Hid (SX w1' t p) := Lib.hid (HA0.out.ext HW.out)
 have HXb : Hid (SX w1' u q) := Lib.hid (HB0.out.ext HW.out)
 clear HA0 HB0
 obtain ⟨c_a_0, c_a_1, c_a_2, c_a_3, c_a_4, c_a_5, c_a_6, c_a_7, c_a_8, c_a_9, c_a_10, c_a_11, c_a_12, c_a_13, c_a_14, c_a_15⟩ := zs16 HR_a.out
 obtain ⟨c_b_0, c_b_1, c_b_2, c_b_3, c_b_4, c_b_5, c_b_6, c_b_7, c_b_8, c_b_9, c_b_10, c_b_11, c_b_12, c_b_13, c_b_14, c_b_15⟩ := zs16 HR_b.out
 refine Grow.wp_region_grow 31 [TP.eq (.pointer (some ⟨w.heap.size, 0, none⟩)), TP.eq (.int .i64 n), TP.eq (.pointer (some ⟨(w.heap.size + 1), 0, none⟩)), TP.eq (.int .i64 k), TP.eq (.int .i64 s), TP.eq (.pointer (some ⟨w.heap.size, 1, none⟩)), TP.eq (.agg #[.bool t.x.b, .slice t.x.a1 t.x.n1 t.x.c1, .slice t.x.a2 t.x.n2 t.x.c2]), TP.eq (.pointer (some ⟨(w.heap.size + 1), 1, none⟩)), TP.eq (.agg #[.bool u.x.b, .slice u.x.a1 u.x.n1 u.x.c1, .slice u.x.a2 u.x.n2 u.x.c2]), TP.xq r.x, TP.eq (.pointer (some ⟨w.heap.size, 4, none⟩)), TP.eq (.agg #[.bool t.y.b, .slice t.y.a1 t.y.n1 t.y.c1, .slice t.y.a2 t.y.n2 t.y.c2]), TP.eq (.pointer (some ⟨(w.heap.size + 1), 4, none⟩)), TP.eq (.agg #[.bool u.y.b, .slice u.y.a1 u.y.n1 u.y.c1, .slice u.y.a2 u.y.n2 u.y.c2]), TP.xq r.y, TP.eq (.pointer (some ⟨w.heap.size, 7, none⟩)), TP.eq (.agg #[.bool t.xx.b, .slice t.xx.a1 t.xx.n1 t.xx.c1, .slice t.xx.a2 t.xx.n2 t.xx.c2]), TP.eq (.pointer (some ⟨(w.heap.size + 1), 7, none⟩)), TP.eq (.agg #[.bool u.xx.b, .slice u.xx.a1 u.xx.n1 u.xx.c1, .slice u.xx.a2 u.xx.n2 u.xx.c2]), TP.xq r.xx, TP.eq (.pointer (some ⟨w.heap.size, 10, none⟩)), TP.eq (.agg #[.bool t.yy.b, .slice t.yy.a1 t.yy.n1 t.yy.c1, .slice t.yy.a2 t.yy.n2 t.yy.c2]), TP.eq (.pointer (some ⟨(w.heap.size + 1), 10, none⟩)), TP.eq (.agg #[.bool u.yy.b, .slice u.yy.a1 u.yy.n1 u.yy.c1, .slice u.yy.a2 u.yy.n2 u.yy.c2]), TP.xq r.yy, TP.eq (.pointer (some ⟨w.heap.size, 13, none⟩)), TP.eq (.agg #[.bool t.xy.b, .slice t.xy.a1 t.xy.n1 t.xy.c1, .slice t.xy.a2 t.xy.n2 t.xy.c2]), TP.eq (.pointer (some ⟨(w.heap.size + 1), 13, none⟩)), TP.eq (.agg #[.bool u.xy.b, .slice u.xy.a1 u.xy.n1 u.xy.c1, .slice u.xy.a2 u.xy.n2 u.xy.c2]), TP.xq r.xy, TP.sm s r] [[], [0], [], [2], [1, 3], [], [5], [], [7], [6, 8], [], [10], [], [12], [11, 13], [], [15], [], [17], [16, 18], [], [20], [], [22], [21, 23], [], [25], [], [27], [26, 28], [4, 9, 14, 19, 24, 29]] (by kernel_rfl) (by kernel_rfl) ⟨?o0a, ?o1a, ?o2a, ?o3a, ?o4a, ?o5a, ?o6a, ?o7a, ?o8a, ?o9a, ?o10a, ?o11a, ?o12a, ?o13a, ?o14a, ?o15a, ?o16a, ?o17a, ?o18a, ?o19a, ?o20a, ?o21a, ?o22a, ?o23a, ?o24a, ?o25a, ?o26a, ?o27a, ?o28a, ?o29a, ?o30a, trivial⟩ ?_
 case o0a | o2a | o5a | o7a | o10a | o12a | o15a | o17a | o20a | o22a | o25a | o27a =>
  intro w' hb
  show wpList _ _ _ _ _ _
  go_wp2
  exact ⟨rfl, Below.refl _ _, rfl⟩
 case o1a =>
  intro w' hb v1 hv1
  obtain rfl : v1 = _ := hv1
  have c_a_0' := zzc hb c_a_0
  show wpList _ _ _ _ _ _
  simp only [Grow.dstOf, zz1, zz3, zz4, Act.put, zz5, zz6, zz7]
  go_wp2
  exact ⟨rfl, Below.refl _ _, rfl⟩
 case o3a | o6a | o8a | o11a | o13a | o16a | o18a | o21a | o23a | o26a | o28a =>
  intro w' hb v1 hv1
  obtain rfl : v1 = _ := hv1
  have c_b_0' := zzc hb c_b_0
  have c_a_1' := zzc hb c_a_1
  have c_a_2' := zzc hb c_a_2
  have c_a_3' := zzc hb c_a_3
  have c_b_1' := zzc hb c_b_1
  have c_b_2' := zzc hb c_b_2
  have c_b_3' := zzc hb c_b_3
  have c_a_4' := zzc hb c_a_4
  have c_a_5' := zzc hb c_a_5
  have c_a_6' := zzc hb c_a_6
  have c_b_4' := zzc hb c_b_4
  have c_b_5' := zzc hb c_b_5
  have c_b_6' := zzc hb c_b_6
  have c_a_7' := zzc hb c_a_7
  have c_a_8' := zzc hb c_a_8
  have c_a_9' := zzc hb c_a_9
  have c_b_7' := zzc hb c_b_7
  have c_b_8' := zzc hb c_b_8
  have c_b_9' := zzc hb c_b_9
  have c_a_10' := zzc hb c_a_10
  have c_a_11' := zzc hb c_a_11
  have c_a_12' := zzc hb c_a_12
  have c_b_10' := zzc hb c_b_10
  have c_b_11' := zzc hb c_b_11
  have c_b_12' := zzc hb c_b_12
  have c_a_13' := zzc hb c_a_13
  have c_a_14' := zzc hb c_a_14
  have c_a_15' := zzc hb c_a_15
  have c_b_13' := zzc hb c_b_13
  have c_b_14' := zzc hb c_b_14
  have c_b_15' := zzc hb c_b_15
  show wpList _ _ _ _ _ _
  simp only [Grow.dstOf, zz1, zz2, zz3, zz4, Act.put, zz5, zz6, zz7]
  go_wp2
  exact ⟨rfl, Below.refl _ _, rfl⟩
 case o4a =>
  intro w' hb v1 hv1 v2 hv2
  obtain rfl : v1 = _ := hv1
  obtain rfl : v2 = _ := hv2
  show wpList _ _ _ _ _ _
  simp only [Grow.dstOf, zz1, zz2, zz3, zz4, Act.put, zz5, zz6, zz7]
  go_wp2
  exact ⟨rfl, Below.refl _ _, rfl⟩
 case o9a =>
  intro w' hb v1 hv1 v2 hv2
  obtain rfl : v1 = _ := hv1
  obtain rfl : v2 = _ := hv2
  show wpList _ _ _ _ _ _
  simp only [Grow.dstOf, zz1, zz2, zz3, zz4, Act.put, zz5, zz6, zz7]
  go_wp2_with fail
  refine (xplus_sm p.x q.x r.x HP.out.1 _ _ w' (HXa.out.x.ext hb) (HXb.out.x.ext hb) HSP.out.x HSQ.out.x).mono ?_
  rintro e wz ⟨vz, rfl, hxz, hbz⟩
  go_wp2
  exact ⟨hxz, hbz, rfl⟩
 case o14a =>
  intro w' hb v1 hv1 v2 hv2
  obtain rfl : v1 = _ := hv1
  obtain rfl : v2 = _ := hv2
  show wpList _ _ _ _ _ _
  simp only [Grow.dstOf, zz1, zz2, zz3, zz4, Act.put, zz5, zz6, zz7]
  go_wp2_with fail
  refine (xplus_sm p.y q.y r.y HP.out.2.1 _ _ w' (HXa.out.y.ext hb) (HXb.out.y.ext hb) HSP.out.y HSQ.out.y).mono ?_
  rintro e wz ⟨vz, rfl, hxz, hbz⟩
  go_wp2
  exact ⟨hxz, hbz, rfl⟩
 case o19a =>
  intro w' hb v1 hv1 v2 hv2
  obtain rfl : v1 = _ := hv1
  obtain rfl : v2 = _ := hv2
  show wpList _ _ _ _ _ _
  simp only [Grow.dstOf, zz1, zz2, zz3, zz4, Act.put, zz5, zz6, zz7]
  go_wp2_with fail
  refine (xplus_sm p.xx q.xx r.xx HP.out.2.2.1 _ _ w' (HXa.out.xx.ext hb) (HXb.out.xx.ext hb) HSP.out.xx HSQ.out.xx).mono ?_
  rintro e wz ⟨vz, rfl, hxz, hbz⟩
  go_wp2
  exact ⟨hxz, hbz, rfl⟩
 case o24a =>
  intro w' hb v1 hv1 v2 hv2
  obtain rfl : v1 = _ := hv1
  obtain rfl : v2 = _ := hv2
  show wpList _ _ _ _ _ _
  simp only [Grow.dstOf, zz1, zz2, zz3, zz4, Act.put, zz5, zz6, zz7]
  go_wp2_with fail
  refine (xplus_sm p.yy q.yy r.yy HP.out.2.2.2.1 _ _ w' (HXa.out.yy.ext hb) (HXb.out.yy.ext hb) HSP.out.yy HSQ.out.yy).mono ?_
  rintro e wz ⟨vz, rfl, hxz, hbz⟩
  go_wp2
  exact ⟨hxz, hbz, rfl⟩
 case o29a =>
  intro w' hb v1 hv1 v2 hv2
  obtain rfl : v1 = _ := hv1
  obtain rfl : v2 = _ := hv2
  show wpList _ _ _ _ _ _
  simp only [Grow.dstOf, zz1, zz2, zz3, zz4, Act.put, zz5, zz6, zz7]
  go_wp2_with fail
  refine (xplus_sm p.xy q.xy r.xy HP.out.2.2.2.2 _ _ w' (HXa.out.xy.ext hb) (HXb.out.xy.ext hb) HSP.out.xy HSQ.out.xy).mono ?_
  rintro e wz ⟨vz, rfl, hxz, hbz⟩
  go_wp2
  exact ⟨hxz, hbz, rfl⟩
 case o30a =>
  intro w' hb v1 hv1 v2 hv2 v3 hv3 v4 hv4 v5 hv5 v6 hv6
  obtain rfl : v1 = _ := hv1
  have hv2' : XR w' v2 r.x := hv2
  clear hv2
  obtain ⟨t0, rfl, hx0⟩ := hv2'.y3
  have hv3' : XR w' v3 r.y := hv3
  clear hv3
  obtain ⟨t1, rfl, hx1⟩ := hv3'.y3
  have hv4' : XR w' v4 r.xx := hv4
  clear hv4
  obtain ⟨t2, rfl, hx2⟩ := hv4'.y3
  have hv5' : XR w' v5 r.yy := hv5
  clear hv5
  obtain ⟨t3, rfl, hx3⟩ := hv5'.y3
  have hv6' : XR w' v6 r.xy := hv6
  clear hv6
  obtain ⟨t4, rfl, hx4⟩ := hv6'.y3
  show wpList _ _ _ _ _ _
  simp only [Grow.dstOf, zz1, zz2, zz3, zz4, Act.put, zz5, zz6, zz7]
  go_wp2
  exact ⟨⟨⟨t0, t1, t2, t3, t4⟩, rfl, ⟨hx0, hx1, hx2, hx3, hx4⟩⟩, Below.refl _ _, rfl⟩
 intro w2' hbz u0 hu0 u1 hu1 u2 hu2 u3 hu3 u4 hu4 u5 hu5 u6 hu6 u7 hu7 u8 hu8 u9 hu9 u10 hu10 u11 hu11 u12 hu12 u13 hu13 u14 hu14 u15 hu15 u16 hu16 u17 hu17 u18 hu18 u19 hu19 u20 hu20 u21 hu21 u22 hu22 u23 hu23 u24 hu24 u25 hu25 u26 hu26 u27 hu27 u28 hu28 u29 hu29 u30 hu30
 clear hu0 hu1 hu2 hu3 hu4 hu5 hu6 hu7 hu8 hu9 hu10 hu11 hu12 hu13 hu14 hu15 hu16 hu17 hu18 hu19 hu20 hu21 hu22 hu23 hu24 hu25 hu26 hu27 hu28 hu29
 replace HR_a := Lib.hid (HR_a.out.ext hbz)
 replace HR_b := Lib.hid (HR_b.out.ext hbz)
 replace HR_o := Lib.hid (HR_o.out.ext hbz)
 replace HXa := Lib.hid (HXa.out.ext hbz)
 replace HXb := Lib.hid (HXb.out.ext hbz)
 replace HW := Lib.hid (ext_trans HW.out hbz)
 clear c_a_0 c_a_1 c_a_2 c_a_3 c_a_4 c_a_5 c_a_6 c_a_7 c_a_8 c_a_9 c_a_10 c_a_11 c_a_12 c_a_13 c_a_14 c_a_15 c_b_0 c_b_1 c_b_2 c_b_3 c_b_4 c_b_5 c_b_6 c_b_7 c_b_8 c_b_9 c_b_10 c_b_11 c_b_12 c_b_13 c_b_14 c_b_15
 clear hbz
 have h30 : ∃ t : Y5, u30 = .agg (smA s t) ∧ SX w2' t r := hu30
 clear hu30
 obtain ⟨t9, rfl, hx9⟩ := h30
 have HX9 : Hid (SX w2' t9 r) := Lib.hid (hx9)
 clear hx9
 show wpList _ _ _ _ _ _
 simp only [Act.put, zz5, zz6, zz7]
 have hsz : (smA (s) t9).size = 16 := rfl
 have hsc := store_cells (P := Try.prog) (ty := 45) (A := (smA (s) t9)) HR_o.out (sm_info _ _) rfl (sm_all _ _)
 go_wp2
 clear hsc hsz
 obtain ⟨w3', hX⟩ : ∃ Z9, Z9 = w2'.setRow (w.heap.size + 2) (smA (s) t9) := ⟨_, rfl⟩
 rw [← hX]
 have n_o : Hid (RH w3' (w.heap.size + 2) (smA (s) t9) 45) := by rw [hX]; exact Lib.hid (HR_o.out.row _)
 have n_a : Hid (RH w3' w.heap.size (smA (n) t) 45) := by rw [hX]; exact Lib.hid (HR_a.out.row_other (show w.heap.size ≠ (w.heap.size + 2) by omega) _)
 have n_b : Hid (RH w3' (w.heap.size + 1) (smA (k) u) 45) := by rw [hX]; exact Lib.hid (HR_b.out.row_other (show (w.heap.size + 1) ≠ (w.heap.size + 2) by omega) _)
 have HK_ : ∀ p : Addr, p.block ≠ (w.heap.size + 2) → w3'.cell? p = w2'.cell? p := fun p hp => by rw [hX]; exact cell_setRow_other _ _ _ p hp
 have n_HXa : Hid (SX w3' t p) := Lib.hid (HXa.out.far HR_o.out.box (sm_nw _ _) HK_)
 have n_HXb : Hid (SX w3' u q) := Lib.hid (HXb.out.far HR_o.out.box (sm_nw _ _) HK_)
 have n_HX9 : Hid (SX w3' t9 r) := Lib.hid (HX9.out.far HR_o.out.box (sm_nw _ _) HK_)
 have nW : Hid (Below w.heap.size w w3') := by rw [hX]; exact Lib.hid (below_setRow HW.out (show w.heap.size ≤ (w.heap.size + 2) by omega) _)
 clear hX HK_ HW HR_a HR_b HR_o HXa HXb HX9
 have HR_a := n_a; clear n_a
 have HR_b := n_b; clear n_b
 have HR_o := n_o; clear n_o
 have HXa := n_HXa; clear n_HXa
 have HXb := n_HXb; clear n_HXb
 have HX9 := n_HX9; clear n_HX9
 have HW := nW; clear nW
 exact bodyPost_ret (v := .agg (smA (s) t9)) (results_cell_row rfl _ _ _ _ _ _ _ rfl HR_o.out Try.underlying45 rfl (sm_info _ _)) rfl ⟨_, rfl, HX9.out, HW.out⟩
set_option maxRecDepth 100000 in
set_option maxHeartbeats 16000000 in
theorem moments_at (n : Int) (t : Y5) (q : Q5) (w : World) (hx : SX w t q) (hf : QF q) (hs : QS q) : Calls Try.prog 14 #[.agg (smA n t)] w (fun e w' => e = .returned (.tuple #[.agg (wrA n q), .int .i64 (wrF q)]) ∧ Below w.heap.size w w') := by
 have HX0 := Lib.hid hx
 have HQF := Lib.hid hf
 have HQS := Lib.hid hs
 clear hx hf hs
 go_enter Try.func14, Try.ntmps14
 go_upto_region 1 with (fail)
 refine wp_rows2 fun w1' hbz hR0 hR1 => ?_
 have HR_s : Hid (RH w1' w.heap.size (smA (n) t) 45) := Lib.hid hR0
 have HR_o : Hid (RH w1' (w.heap.size + 1) (mrA (0) r5z) 27) := Lib.hid hR1
 have HW := Lib.hid hbz
 clear hbz hR0 hR1
 have HX : Hid (SX w1' t q) := Lib.hid (HX0.out.ext HW.out)
 clear HX0
 obtain ⟨c_s_0, -, -, -, -, -, -, -, -, -, -, -, -, -, -, -⟩ := zs16 HR_s.out
 go_upto_region 2 with (fail)
 refine wp_rows1 fun w2' hbz hR0 => ?_
 have lt_s_m : w.heap.size < w1'.heap.size := HR_s.out.lt
 have lt_o_m : (w.heap.size + 1) < w1'.heap.size := HR_o.out.lt
 have le_m : w.heap.size ≤ w1'.heap.size := HW.out.size
 replace HR_s := Lib.hid (HR_s.out.ext hbz)
 replace HR_o := Lib.hid (HR_o.out.ext hbz)
 replace HX := Lib.hid (HX.out.ext hbz)
 replace HW := Lib.hid (ext_trans HW.out hbz)
 clear c_s_0
 clear hbz
 have HR_m : Hid (RH w2' w1'.heap.size (mrA (n) r5z) 27) := Lib.hid hR0
 clear hR0
 generalize w1'.heap.size = b_m at *
 obtain ⟨c_s_0, c_s_1, c_s_2, c_s_3, c_s_4, c_s_5, c_s_6, c_s_7, c_s_8, c_s_9, c_s_10, c_s_11, c_s_12, c_s_13, c_s_14, c_s_15⟩ := zs16 HR_s.out
 go_upto_region 3 with (fail)
 refine wp_rows1 fun w3' hbz hR0 => ?_
 have lt_s_e : w.heap.size < w2'.heap.size := HR_s.out.lt
 have lt_o_e : (w.heap.size + 1) < w2'.heap.size := HR_o.out.lt
 have lt_m_e : b_m < w2'.heap.size := HR_m.out.lt
 have le_e : w.heap.size ≤ w2'.heap.size := HW.out.size
 replace HR_s := Lib.hid (HR_s.out.ext hbz)
 replace HR_o := Lib.hid (HR_o.out.ext hbz)
 replace HR_m := Lib.hid (HR_m.out.ext hbz)
 replace HX := Lib.hid (HX.out.ext hbz)
 replace HW := Lib.hid (ext_trans HW.out hbz)
 clear c_s_0 c_s_1 c_s_2 c_s_3 c_s_4 c_s_5 c_s_6 c_s_7 c_s_8 c_s_9 c_s_10 c_s_11 c_s_12 c_s_13 c_s_14 c_s_15
 clear hbz
 have HR_e : Hid (RH w3' w2'.heap.size (eA b_m t) 62) := Lib.hid hR0
 clear hR0
 generalize w2'.heap.size = b_e at *
 replace HR_m : Hid (RH w3' b_m (mrA n (r5k q 0)) 27) := HR_m
 go_wp2
 go_loopw [8, 34] (fun _ i wr => ∃ k : Nat, k ≤ 5 ∧ i = .int .i64 (k : Int) ∧ Hid (lgK q k = false) ∧ (RH wr w.heap.size (smA (n) t) 45) ∧ (RH wr (w.heap.size + 1) (mrA (0) r5z) 27) ∧ (RH wr b_m (mrA (n) (r5k q k)) 27) ∧ (RH wr b_e (eA b_m t) 62) ∧ (SX wr t q) ∧ (Below w.heap.size w wr)) (fun _ i _ => 5 - (intOf i).toNat)
 case atStart => exact ⟨0, by omega, rfl, Lib.hid rfl, HR_s.out, HR_o.out, HR_m.out, HR_e.out, HX.out, HW.out⟩
 case round =>
  obtain ⟨k, hk, rfl, HK, q_HR_s, q_HR_o, q_HR_m, q_HR_e, q_HX, q_HW⟩ := hrel
  clear HR_s HR_o HR_m HR_e HX HW
  have HR_s := Lib.hid q_HR_s
  have HR_o := Lib.hid q_HR_o
  have HR_m := Lib.hid q_HR_m
  have HR_e := Lib.hid q_HR_e
  have HX := Lib.hid q_HX
  have HW := Lib.hid q_HW
  clear q_HR_s q_HR_o q_HR_m q_HR_e q_HX q_HW
  generalize hX : wr = X at *
  clear hX
  by_cases hlt : k < 5
  ·have hk0 : (0 : Int) ≤ (k : Int) := Int.natCast_nonneg _
   have hk1 : (k : Int) < 5 := by omega
   have hk3 : (k : Int).toNat = k := by omega
   obtain ⟨h0, h1, h2, h3⟩ := eA_at (b := b_m) (t := t) hlt
   obtain ⟨qk, hqk⟩ : ∃ z, fq q k = z := ⟨_, rfl⟩
   obtain ⟨tk, htk⟩ : ∃ z, fy t k = z := ⟨_, rfl⟩
   rw [htk] at h1 h2 h3
   have HXK : Hid (XR X (y3V tk) qk) := Lib.hid (by have h := HX.out.at k; rw [hqk, htk] at h; exact h)
   have HFK : Hid (Fits qk ∧ Sm qk) := Lib.hid (by rw [← hqk]; exact ⟨HQF.out.at k, HQS.out.at k⟩)
   obtain ⟨ok, hok⟩ : ∃ z, 1 + 2 * k = z := ⟨_, rfl⟩
   rw [hok] at h0
   have HMS : Hid (((mrA n (r5k q k)).setIfInBounds ok (.string (showN qk))).setIfInBounds (ok + 1) (.string (showD qk)) = mrA n (r5k q (k + 1))) := Lib.hid (by rw [← hok, ← hqk]; exact r5k_step hlt)
   have HMA : Hid ((mrA n (r5k q k))[ok]? = some (.string ⟨#[]⟩) ∧ (mrA n (r5k q k))[ok + 1]? = some (.string ⟨#[]⟩)) := Lib.hid (by rw [← hok]; exact r5k_at hlt)
   have HLB : Hid (lgB (fq q k) = decide (100 < (cutS (showN qk)).size)) := Lib.hid (by rw [hqk]; rfl)
   have e0 := (HR_e.out.cell (k * 4)).trans h0
   have e1 := (HR_e.out.cell (k * 4 + 1)).trans h1
   have e2 := (HR_e.out.cell (k * 4 + 2)).trans h2
   have e3 := (HR_e.out.cell (k * 4 + 3)).trans h3
   clear h0 h1 h2 h3 hqk htk hok
   go_upto_region 5 with (fail)
   refine wp_rows1 fun w4' hbz hR0 => ?_
   have lt_s_p : w.heap.size < X.heap.size := HR_s.out.lt
   have lt_o_p : (w.heap.size + 1) < X.heap.size := HR_o.out.lt
   have lt_m_p : b_m < X.heap.size := HR_m.out.lt
   have lt_e_p : b_e < X.heap.size := HR_e.out.lt
   have le_p : w.heap.size ≤ X.heap.size := HW.out.size
   replace HR_s := Lib.hid (HR_s.out.ext hbz)
   replace HR_o := Lib.hid (HR_o.out.ext hbz)
   replace HR_m := Lib.hid (HR_m.out.ext hbz)
   replace HR_e := Lib.hid (HR_e.out.ext hbz)
   replace HX := Lib.hid (HX.out.ext hbz)
   replace HXK := Lib.hid (HXK.out.ext hbz)
   replace HW := Lib.hid (ext_trans HW.out hbz)
   clear e0 e1 e2 e3
   clear hbz
   have HR_p : Hid (RH w4' X.heap.size #[.pointer (some ⟨b_m, ok, none⟩), .bool tk.b, .slice tk.a1 tk.n1 tk.c1, .slice tk.a2 tk.n2 tk.c2] 62) := Lib.hid hR0
   clear hR0
   generalize X.heap.size = b_p at *
   obtain ⟨c_p_0, c_p_1, c_p_2, c_p_3⟩ := zs4 HR_p.out
   go_wp2_with fail
   refine (ratio_at qk _ w4' HXK.out (by have := HFK.out.2.1; omega) (by have := HFK.out.2.2; omega)).mono ?_
   rintro e w5' ⟨rfl, hbz⟩
   rw [(out_fits HFK.out.1).1, (out_fits HFK.out.1).2.1, (out_fits HFK.out.1).2.2]
   replace HR_s := Lib.hid (HR_s.out.ext hbz)
   replace HR_o := Lib.hid (HR_o.out.ext hbz)
   replace HR_m := Lib.hid (HR_m.out.ext hbz)
   replace HR_e := Lib.hid (HR_e.out.ext hbz)
   replace HR_p := Lib.hid (HR_p.out.ext hbz)
   replace HX := Lib.hid (HX.out.ext hbz)
   replace HXK := Lib.hid (HXK.out.ext hbz)
   replace HW := Lib.hid (ext_trans HW.out hbz)
   clear c_p_0 c_p_1 c_p_2 c_p_3
   clear hbz
   go_upto_region 6 with (fail)
   refine wp_rows1 fun w6' hbz hR0 => ?_
   have lt_s_r : w.heap.size < w5'.heap.size := HR_s.out.lt
   have lt_o_r : (w.heap.size + 1) < w5'.heap.size := HR_o.out.lt
   have lt_m_r : b_m < w5'.heap.size := HR_m.out.lt
   have lt_e_r : b_e < w5'.heap.size := HR_e.out.lt
   have lt_p_r : b_p < w5'.heap.size := HR_p.out.lt
   have le_r : w.heap.size ≤ w5'.heap.size := HW.out.size
   replace HR_s := Lib.hid (HR_s.out.ext hbz)
   replace HR_o := Lib.hid (HR_o.out.ext hbz)
   replace HR_m := Lib.hid (HR_m.out.ext hbz)
   replace HR_e := Lib.hid (HR_e.out.ext hbz)
   replace HR_p := Lib.hid (HR_p.out.ext hbz)
   replace HX := Lib.hid (HX.out.ext hbz)
   replace HXK := Lib.hid (HXK.out.ext hbz)
   replace HW := Lib.hid (ext_trans HW.out hbz)
   clear hbz
   have HR_r : Hid (RH w6' w5'.heap.size #[.string (showN qk), .string (showD qk)] 25) := Lib.hid hR0
   clear hR0
   generalize w5'.heap.size = b_r at *
   obtain ⟨c_r_0, c_r_1⟩ := zs2 HR_r.out
   go_wp2_with fail
   refine (trimPrefix_at (showN qk) (show_size HFK.out.1).1 w6').mono ?_
   rintro e w7' ⟨rfl, hw9⟩
   have hbz : Below w6'.heap.size w6' w7' := by rw [← hw9]; exact Below.refl _ _
   clear hw9
   replace HR_s := Lib.hid (HR_s.out.ext hbz)
   replace HR_o := Lib.hid (HR_o.out.ext hbz)
   replace HR_m := Lib.hid (HR_m.out.ext hbz)
   replace HR_e := Lib.hid (HR_e.out.ext hbz)
   replace HR_p := Lib.hid (HR_p.out.ext hbz)
   replace HR_r := Lib.hid (HR_r.out.ext hbz)
   replace HX := Lib.hid (HX.out.ext hbz)
   replace HXK := Lib.hid (HXK.out.ext hbz)
   replace HW := Lib.hid (ext_trans HW.out hbz)
   clear c_r_0 c_r_1
   clear hbz
   have hcz := cutS_size (showN qk)
   have hcy := (show_size HFK.out.1).1
   unfold maxLen at hcy
   obtain ⟨sz, hsz9⟩ : ∃ z, (cutS (showN qk)).size = z := ⟨_, rfl⟩
   rw [hsz9] at hcz HLB
   have HSZ := Lib.hid hsz9
   by_cases hl : 100 < sz
   ·have HV : Hid (lgL q = true) := Lib.hid (lgK_more hlt (by rw [HLB.out]; exact decide_eq_true hl))
    have hl2 : (100 : Int) < ((cutS (showN qk)).size : Int) := by rw [hsz9]; omega
    clear hsz9
    go_wp2_with (first | (refine wpList_store_row rfl _ _ _ rfl (w.heap.size + 1) (mrA (0) r5z) rfl rfl _ _ HR_o.out (mr_info _ _) rfl (mr_all _ _) ?_))
    obtain ⟨w8', hX⟩ : ∃ Z9, Z9 = w7'.setRow (w.heap.size + 1) (mrA (0) r5z) := ⟨_, rfl⟩
    rw [← hX]
    have n_o : Hid (RH w8' (w.heap.size + 1) (mrA (0) r5z) 27) := by rw [hX]; exact Lib.hid (HR_o.out.row _)
    have n_s : Hid (RH w8' w.heap.size (smA (n) t) 45) := by rw [hX]; exact Lib.hid (HR_s.out.row_other (show w.heap.size ≠ (w.heap.size + 1) by omega) _)
    have n_m : Hid (RH w8' b_m (mrA (n) (r5k q k)) 27) := by rw [hX]; exact Lib.hid (HR_m.out.row_other (show b_m ≠ (w.heap.size + 1) by omega) _)
    have n_e : Hid (RH w8' b_e (eA b_m t) 62) := by rw [hX]; exact Lib.hid (HR_e.out.row_other (show b_e ≠ (w.heap.size + 1) by omega) _)
    have n_p : Hid (RH w8' b_p #[.pointer (some ⟨b_m, ok, none⟩), .bool tk.b, .slice tk.a1 tk.n1 tk.c1, .slice tk.a2 tk.n2 tk.c2] 62) := by rw [hX]; exact Lib.hid (HR_p.out.row_other (show b_p ≠ (w.heap.size + 1) by omega) _)
    have n_r : Hid (RH w8' b_r #[.string (showN qk), .string (showD qk)] 25) := by rw [hX]; exact Lib.hid (HR_r.out.row_other (show b_r ≠ (w.heap.size + 1) by omega) _)
    have HK_ : ∀ p : Addr, p.block ≠ (w.heap.size + 1) → w8'.cell? p = w7'.cell? p := fun p hp => by rw [hX]; exact cell_setRow_other _ _ _ p hp
    have n_HX : Hid (SX w8' t q) := Lib.hid (HX.out.far HR_o.out.box (mr_nw _ _) HK_)
    have n_HXK : Hid (XR w8' (y3V tk) qk) := Lib.hid (HXK.out.far HR_o.out.box (mr_nw _ _) HK_)
    have nW : Hid (Below w.heap.size w w8') := by rw [hX]; exact Lib.hid (below_setRow HW.out (show w.heap.size ≤ (w.heap.size + 1) by omega) _)
    clear hX HK_ HW HR_s HR_o HR_m HR_e HR_p HR_r HX HXK
    have HR_s := n_s; clear n_s
    have HR_o := n_o; clear n_o
    have HR_m := n_m; clear n_m
    have HR_e := n_e; clear n_e
    have HR_p := n_p; clear n_p
    have HR_r := n_r; clear n_r
    have HX := n_HX; clear n_HX
    have HXK := n_HXK; clear n_HXK
    have HW := nW; clear nW
    refine bodyPost_ret (v := .tuple #[.agg (mrA (0) r5z), .int .i64 2]) ?_ rfl ⟨by unfold wrA wrF; rw [HV.out]; rfl, HW.out⟩
    have hld := run_loadVar_row (P := Try.prog) _ _ _ 27 _ _ _ HR_o.out Try.underlying27 rfl (mr_info _ _)
    rw [results_cell_tmp rfl]
    simp [asAddr, Result.andThen, hld]
   ·have HN : Hid (lgK q (k + 1) = false) := Lib.hid (by rw [lgK_step hlt, HK.out, HLB.out, decide_eq_false hl]; rfl)
    have hl2 : ¬ (100 : Int) < ((cutS (showN qk)).size : Int) := by rw [hsz9]; omega
    clear hsz9
    obtain ⟨c_p_0, -, -, -⟩ := zs4 HR_p.out
    obtain ⟨c_r_0, c_r_1⟩ := zs2 HR_r.out
    have r0 := (HR_m.out.cell ok).trans HMA.out.1
    have r1 := (HR_m.out.cell (ok + 1)).trans HMA.out.2
    have f0 := HR_m.out.fre ok
    have f1 := HR_m.out.fre (ok + 1)
    go_upto_region 9 with (fail)
    obtain ⟨w8', hX⟩ : ∃ Z9, Z9 = ((w7'.setCell ⟨b_m, ok, none⟩ (.string (showN qk))).setCell ⟨b_m, (ok + 1), none⟩ (.string (showD qk))) := ⟨_, rfl⟩
    rw [← hX]
    have n_m : Hid (RH w8' b_m (mrA (n) (r5k q (k + 1))) 27) := by rw [hX, ← HMS.out]; exact Lib.hid (((HR_m.out).set ok (.string (showN qk))).set (ok + 1) (.string (showD qk)))
    have n_s : Hid (RH w8' w.heap.size (smA (n) t) 45) := by rw [hX]; exact Lib.hid (zzo (zzo (HR_s.out) (by omega)) (by omega))
    have n_o : Hid (RH w8' (w.heap.size + 1) (mrA (0) r5z) 27) := by rw [hX]; exact Lib.hid (zzo (zzo (HR_o.out) (by omega)) (by omega))
    have n_e : Hid (RH w8' b_e (eA b_m t) 62) := by rw [hX]; exact Lib.hid (zzo (zzo (HR_e.out) (by omega)) (by omega))
    have n_p : Hid (RH w8' b_p #[.pointer (some ⟨b_m, ok, none⟩), .bool tk.b, .slice tk.a1 tk.n1 tk.c1, .slice tk.a2 tk.n2 tk.c2] 62) := by rw [hX]; exact Lib.hid (zzo (zzo (HR_p.out) (by omega)) (by omega))
    have n_r : Hid (RH w8' b_r #[.string (showN qk), .string (showD qk)] 25) := by rw [hX]; exact Lib.hid (zzo (zzo (HR_r.out) (by omega)) (by omega))
    have HK_ : ∀ p : Addr, p.block ≠ b_m → w8'.cell? p = w7'.cell? p := fun p hp => by rw [hX]; exact (cs_other hp).trans (cs_other hp)
    have n_HX : Hid (SX w8' t q) := Lib.hid (HX.out.far HR_m.out.box (mr_nw _ _) HK_)
    have n_HXK : Hid (XR w8' (y3V tk) qk) := Lib.hid (HXK.out.far HR_m.out.box (mr_nw _ _) HK_)
    have nW : Hid (Below w.heap.size w w8') := by rw [hX]; exact Lib.hid (zzw (zzw (HW.out) (by omega)) (by omega))
    clear c_p_0 c_r_0 c_r_1 r0 r1 f0 f1
    clear hX HK_ HW HR_s HR_o HR_m HR_e HR_p HR_r HX HXK
    have HR_s := n_s; clear n_s
    have HR_o := n_o; clear n_o
    have HR_m := n_m; clear n_m
    have HR_e := n_e; clear n_e
    have HR_p := n_p; clear n_p
    have HR_r := n_r; clear n_r
    have HX := n_HX; clear n_HX
    have HXK := n_HXK; clear n_HXK
    have HW := nW; clear nW
    go_wp2
    go_roundw
    case rel => exact ⟨k + 1, by omega, by go_num, HN, HR_s.out, HR_o.out, HR_m.out, HR_e.out, HX.out, HW.out⟩
    case measure => simp [intOf]; omega
  ·obtain rfl : k = 5 := by omega
   have HV : Hid (lgL q = false) := HK
   replace HR_m : Hid (RH X b_m (mrA n q.r) 27) := HR_m
   go_wp2_with (first | (refine wpList_load_row rfl _ _ rfl b_m rfl _ (mrA (n) q.r) _ _ HR_m.out Try.underlying27 rfl (mr_info _ _) ?_) | (refine wpList_store_row rfl _ _ _ rfl (w.heap.size + 1) (mrA (n) q.r) rfl rfl _ _ HR_o.out (mr_info _ _) rfl (mr_all _ _) ?_))
   obtain ⟨w4', hX⟩ : ∃ Z9, Z9 = X.setRow (w.heap.size + 1) (mrA (n) q.r) := ⟨_, rfl⟩
   rw [← hX]
   have n_o : Hid (RH w4' (w.heap.size + 1) (mrA (n) q.r) 27) := by rw [hX]; exact Lib.hid (HR_o.out.row _)
   have n_s : Hid (RH w4' w.heap.size (smA (n) t) 45) := by rw [hX]; exact Lib.hid (HR_s.out.row_other (show w.heap.size ≠ (w.heap.size + 1) by omega) _)
   have n_m : Hid (RH w4' b_m (mrA (n) q.r) 27) := by rw [hX]; exact Lib.hid (HR_m.out.row_other (show b_m ≠ (w.heap.size + 1) by omega) _)
   have n_e : Hid (RH w4' b_e (eA b_m t) 62) := by rw [hX]; exact Lib.hid (HR_e.out.row_other (show b_e ≠ (w.heap.size + 1) by omega) _)
   have HK_ : ∀ p : Addr, p.block ≠ (w.heap.size + 1) → w4'.cell? p = X.cell? p := fun p hp => by rw [hX]; exact cell_setRow_other _ _ _ p hp
   have n_HX : Hid (SX w4' t q) := Lib.hid (HX.out.far HR_o.out.box (mr_nw _ _) HK_)
   have nW : Hid (Below w.heap.size w w4') := by rw [hX]; exact Lib.hid (below_setRow HW.out (show w.heap.size ≤ (w.heap.size + 1) by omega) _)
   clear hX HK_ HW HR_s HR_o HR_m HR_e HX
   have HR_s := n_s; clear n_s
   have HR_o := n_o; clear n_o
   have HR_m := n_m; clear n_m
   have HR_e := n_e; clear n_e
   have HX := n_HX; clear n_HX
   have HW := nW; clear nW
   refine bodyPost_ret (v := .tuple #[.agg (mrA (n) q.r), .int .i64 0]) ?_ rfl ⟨by unfold wrA wrF; rw [HV.out]; rfl, HW.out⟩
   have hld := run_loadVar_row (P := Try.prog) _ _ _ 27 _ _ _ HR_o.out Try.underlying27 rfl (mr_info _ _)
   rw [results_cell_tmp rfl]
   simp [asAddr, Result.andThen, hld]
end Nm
end Go.Proofs.Ytilolnjbpokdnaa
