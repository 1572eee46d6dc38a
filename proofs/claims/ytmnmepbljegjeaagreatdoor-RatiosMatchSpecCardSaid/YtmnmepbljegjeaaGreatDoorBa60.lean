/- The walk of the law of ratios: for all ratios and numbers it returns true, where the table of strconv lies. Printed by gen_lawrms.py. -/
import Derived.Test.YtmnmepbljegjeaaGreatDoorBa58
import Derived.Test.YtmnmepbljegjeaaGreatDoorBa27
import Derived.Test.YtmnmepbljegjeaaGreatDoorBa26
import Derived.Test.YtmnmepbljegjeaaGreatDoorBa59
import Derived.Test.YtmnmepbljegjeaaGreatDoorBa19
namespace Go.Proofs.YtmnmepbljegjeaaGreatDoor.lawRms
open Go.RowKit _root_.Go.Proofs.YtmnmepbljegjeaaGreatDoor.Nm
open _root_.Go.Proofs.YtmnmepbljegjeaaGreatDoor.Nt (Tab Tab.ext refCheck_at refRatioOf_at refSum_at refProduct_at refInverse_at refOrder_at refDecimal_at CPost boxn_cell boxn_other)
set_option maxRecDepth 100000 in
set_option maxHeartbeats 16000000 in
theorem walk (n1 d1 n2 d2 : ByteArray) (h1 : n1.size ≤ maxLen) (h2 : d1.size ≤ maxLen) (h3 : n2.size ≤ maxLen) (h4 : d2.size ≤ maxLen) (u v p : Int) (u1 : -9223372036854775808 ≤ u) (u2 : u ≤ 9223372036854775807) (v1 : -9223372036854775808 ≤ v) (v2 : v ≤ 9223372036854775807) (w : World) (ht : Tab w) :
    Calls Tryz.prog 3 #[.agg #[.string n1, .string d1], .agg #[.string n2, .string d2], .int .i64 u, .int .i64 v, .int .i64 p] w fun e w' => e = .returned (.bool true) ∧ Below w.heap.size w w' := by
  obtain ⟨qn, hqn⟩ : ∃ z, quoN u v = z := ⟨_, rfl⟩
  obtain ⟨qd, hqd⟩ : ∃ z, quoD u v = z := ⟨_, rfl⟩
  obtain ⟨qf, hqf⟩ : ∃ z, quoF u v = z := ⟨_, rfl⟩
  have H_qn := Lib.hid (And.intro hqn (And.intro hqd hqf))
  clear hqn hqd hqf
  obtain ⟨sn, hsn⟩ : ∃ z, opN (· + ·) n1 d1 n2 d2 = z := ⟨_, rfl⟩
  obtain ⟨sd, hsd⟩ : ∃ z, opD (· + ·) n1 d1 n2 d2 = z := ⟨_, rfl⟩
  obtain ⟨sf, hsf⟩ : ∃ z, opF (· + ·) n1 d1 n2 d2 = z := ⟨_, rfl⟩
  have H_sn := Lib.hid (And.intro hsn (And.intro hsd hsf))
  clear hsn hsd hsf
  obtain ⟨pn, hpn⟩ : ∃ z, opN (· * ·) n1 d1 n2 d2 = z := ⟨_, rfl⟩
  obtain ⟨pd, hpd⟩ : ∃ z, opD (· * ·) n1 d1 n2 d2 = z := ⟨_, rfl⟩
  obtain ⟨pf, hpf⟩ : ∃ z, opF (· * ·) n1 d1 n2 d2 = z := ⟨_, rfl⟩
  have H_pn := Lib.hid (And.intro hpn (And.intro hpd hpf))
  clear hpn hpd hpf
  obtain ⟨vn, hvn⟩ : ∃ z, iN n1 d1 = z := ⟨_, rfl⟩
  obtain ⟨vd, hvd⟩ : ∃ z, iD n1 d1 = z := ⟨_, rfl⟩
  obtain ⟨vf, hvf⟩ : ∃ z, iF n1 d1 = z := ⟨_, rfl⟩
  have H_vn := Lib.hid (And.intro hvn (And.intro hvd hvf))
  clear hvn hvd hvf
  obtain ⟨ov, hov⟩ : ∃ z, ordV n1 d1 n2 d2 = z := ⟨_, rfl⟩
  obtain ⟨bf, hbf⟩ : ∃ z, bF n1 d1 n2 d2 = z := ⟨_, rfl⟩
  have H_ov := Lib.hid (And.intro hov hbf)
  clear hov hbf
  obtain ⟨ms, hms⟩ : ∃ z, dcmS n1 d1 p = z := ⟨_, rfl⟩
  obtain ⟨mf, hmf⟩ : ∃ z, dcmF n1 d1 p = z := ⟨_, rfl⟩
  have H_ms := Lib.hid (And.intro hms hmf)
  clear hms hmf
  obtain ⟨cf, hcf⟩ : ∃ z, rF n1 d1 = z := ⟨_, rfl⟩
  have H_cf := Lib.hid hcf
  clear hcf
  have HSZ := Lib.hid (And.intro (And.intro h1 h2) (And.intro h3 h4))
  have HUV := Lib.hid (And.intro (And.intro u1 u2) (And.intro v1 v2))
  clear h1 h2 h3 h4 u1 u2 v1 v2
  go_enter Tryz.func3, Tryz.ntmps3
  have HT0 := Lib.hid ht
  clear ht
  go_upto_region 1 with (fail)
  refine wp_box2 fun w1' hsz hbW hA0 hA1 => ?_
  clear hsz
  have HB_a := Lib.hid hA0
  have HB_b := Lib.hid hA1
  have HW := Lib.hid hbW
  clear hbW hA0 hA1
  go_wp2_with fail
  refine (ratioOf_at u v HUV.out.1.1 HUV.out.1.2 HUV.out.2.1 HUV.out.2.2 w1').mono ?_
  rintro e w2' ⟨rfl, hbz⟩
  rw [H_qn.out.1, H_qn.out.2.1, H_qn.out.2.2]
  replace HB_a := Lib.hid (HB_a.out.ext hbz)
  replace HB_b := Lib.hid (HB_b.out.ext hbz)
  replace HW := Lib.hid (ext_trans HW.out hbz)
  clear hbz
  go_upto_region 2 with (fail)
  refine wp_box1r fun w3' hsz hbz hC hF => ?_
  clear hsz
  have lt_a_x : w.heap.size < w2'.heap.size := HB_a.out.1
  have lt_b_x : (w.heap.size + 1) < w2'.heap.size := HB_b.out.1
  have le_x : w.heap.size ≤ w2'.heap.size := HW.out.size
  replace HB_a := Lib.hid (HB_a.out.ext hbz)
  replace HB_b := Lib.hid (HB_b.out.ext hbz)
  replace HW := Lib.hid (ext_trans HW.out hbz)
  clear hbz
  have HB_x := Lib.hid hC
  have HF_x := Lib.hid hF
  clear hC hF
  generalize w2'.heap.size = b_x at *
  go_wp2_with fail
  refine (refRatioOf_at u v HUV.out.1.1 HUV.out.1.2 HUV.out.2.1 HUV.out.2.2 w3' (HT0.out.ext HW.out)).mono ?_
  rintro e w4' ⟨rfl, hbz⟩
  rw [H_qn.out.1, H_qn.out.2.1, H_qn.out.2.2]
  replace HB_a := Lib.hid (HB_a.out.ext hbz)
  replace HB_b := Lib.hid (HB_b.out.ext hbz)
  replace HF_x := Lib.hid (HF_x.out.ext HB_x.out hbz)
  replace HB_x := Lib.hid (HB_x.out.ext hbz)
  replace HW := Lib.hid (ext_trans HW.out hbz)
  clear hbz
  go_upto_region 3 with (fail)
  refine wp_box1r fun w5' hsz hbz hC hF => ?_
  clear hsz
  have lt_a_y : w.heap.size < w4'.heap.size := HB_a.out.1
  have lt_b_y : (w.heap.size + 1) < w4'.heap.size := HB_b.out.1
  have lt_x_y : b_x < w4'.heap.size := HB_x.out.1
  have le_y : w.heap.size ≤ w4'.heap.size := HW.out.size
  replace HB_a := Lib.hid (HB_a.out.ext hbz)
  replace HB_b := Lib.hid (HB_b.out.ext hbz)
  replace HF_x := Lib.hid (HF_x.out.ext HB_x.out hbz)
  replace HB_x := Lib.hid (HB_x.out.ext hbz)
  replace HW := Lib.hid (ext_trans HW.out hbz)
  clear hbz
  have HB_y := Lib.hid hC
  have HF_y := Lib.hid hF
  clear hC hF
  generalize w4'.heap.size = b_y at *
  have c_a_0 : w5'.cell? ⟨w.heap.size, 0, none⟩ = some (.string n1) := HB_a.out.2 0
  have c_a_1 : w5'.cell? ⟨w.heap.size, 1, none⟩ = some (.string d1) := HB_a.out.2 1
  have c_x_0 : w5'.cell? ⟨b_x, 0, none⟩ = some (.string qn) := HB_x.out.2 0
  have c_x_1 : w5'.cell? ⟨b_x, 1, none⟩ = some (.string qd) := HB_x.out.2 1
  have c_y_0 : w5'.cell? ⟨b_y, 0, none⟩ = some (.string qn) := HB_y.out.2 0
  have c_y_1 : w5'.cell? ⟨b_y, 1, none⟩ = some (.string qd) := HB_y.out.2 1
  skip
  refine Grow.wp_region_grow 14 [TP.eq (.agg #[.string n1, .string d1]), TP.eq (.int .i64 cf), TP.eq (.agg #[.string n1, .string d1]), TP.eq (.int .i64 cf), TP.eq (.bool false), TP.eq (.bool false), TP.eq (.agg #[.string qn, .string qd]), TP.eq (.agg #[.string qn, .string qd]), TP.eq (.bool false), TP.eq (.bool false), TP.eq (.bool false), TP.eq (.int .i64 qf), TP.eq (.int .i64 qf), TP.eq (.bool false)] [[], [0], [], [2], [1, 3], [4], [5], [5], [5, 6, 7], [5, 8], [9], [10], [10], [10, 11, 12]] (by kernel_rfl) (by kernel_rfl) ⟨?o0rm, ?o1rm, ?o2rm, ?o3rm, ?o4rm, ?o5rm, ?o6rm, ?o7rm, ?o8rm, ?o9rm, ?o10rm, ?o11rm, ?o12rm, ?o13rm, trivial⟩ ?_
  case o0rm =>
    intro w' hb
    have c_a_0' : w'.cell? ⟨w.heap.size, 0, none⟩ = some (.string n1) := (hb.cell (World.block_lt_of_cell? _ _ c_a_0)).trans c_a_0
    have c_a_1' : w'.cell? ⟨w.heap.size, 1, none⟩ = some (.string d1) := (hb.cell (World.block_lt_of_cell? _ _ c_a_1)).trans c_a_1
    show wpList _ _ _ _ _ _
    go_wp2
    exact ⟨rfl, Below.refl _ _, rfl⟩
  case o1rm =>
    intro w' hb v1 hv1
    obtain rfl : v1 = _ := hv1
    show wpList _ _ _ _ _ _
    simp only [Grow.dstOf, List.getElem?_toArray, List.getElem?_cons_zero, Option.bind_some, Act.put, List.setIfInBounds_toArray, List.set_cons_succ, List.set_cons_zero]
    go_wp2_with fail
    refine (checkRatio_at n1 d1 HSZ.out.1.1 HSZ.out.1.2 w').mono ?_
    rw [H_cf.out]
    rintro e wz ⟨rfl, hbz⟩
    go_wp2
    exact ⟨rfl, hbz, rfl⟩
  case o2rm =>
    intro w' hb
    have c_a_0' : w'.cell? ⟨w.heap.size, 0, none⟩ = some (.string n1) := (hb.cell (World.block_lt_of_cell? _ _ c_a_0)).trans c_a_0
    have c_a_1' : w'.cell? ⟨w.heap.size, 1, none⟩ = some (.string d1) := (hb.cell (World.block_lt_of_cell? _ _ c_a_1)).trans c_a_1
    show wpList _ _ _ _ _ _
    go_wp2
    exact ⟨rfl, Below.refl _ _, rfl⟩
  case o3rm =>
    intro w' hb v1 hv1
    obtain rfl : v1 = _ := hv1
    show wpList _ _ _ _ _ _
    simp only [Grow.dstOf, List.getElem?_toArray, List.getElem?_cons_succ, List.getElem?_cons_zero, Option.bind_some, Act.put, List.setIfInBounds_toArray, List.set_cons_succ, List.set_cons_zero]
    go_wp2_with fail
    refine (refCheck_at n1 d1 HSZ.out.1.1 HSZ.out.1.2 w' (HT0.out.ext (ext_trans HW.out hb))).mono ?_
    rw [H_cf.out]
    rintro e wz ⟨rfl, hbz⟩
    go_wp2
    exact ⟨rfl, hbz, rfl⟩
  case o4rm =>
    intro w' hb v1 hv1 v2 hv2
    obtain rfl : v1 = _ := hv1
    obtain rfl : v2 = _ := hv2
    show wpList _ _ _ _ _ _
    simp only [Grow.dstOf, List.getElem?_toArray, List.getElem?_cons_succ, List.getElem?_cons_zero, Option.bind_some, Act.put, List.setIfInBounds_toArray, List.set_cons_succ, List.set_cons_zero]
    go_wp2
    exact ⟨rfl, Below.refl _ _, rfl⟩
  case o5rm =>
    intro w' hb v1 hv1
    obtain rfl : v1 = _ := hv1
    show wpList _ _ _ _ _ _
    simp only [Grow.dstOf, List.getElem?_toArray, List.getElem?_cons_succ, List.getElem?_cons_zero, Option.bind_some, Act.put, List.setIfInBounds_toArray, List.set_cons_succ, List.set_cons_zero]
    go_wp2
    exact ⟨rfl, Below.refl _ _, rfl⟩
  case o6rm =>
    intro w' hb v1 hv1
    obtain rfl : v1 = _ := hv1
    have c_x_0' : w'.cell? ⟨b_x, 0, none⟩ = some (.string qn) := (hb.cell (World.block_lt_of_cell? _ _ c_x_0)).trans c_x_0
    have c_x_1' : w'.cell? ⟨b_x, 1, none⟩ = some (.string qd) := (hb.cell (World.block_lt_of_cell? _ _ c_x_1)).trans c_x_1
    show wpList _ _ _ _ _ _
    simp only [Grow.dstOf, List.getElem?_toArray, List.getElem?_cons_succ, List.getElem?_cons_zero, Option.bind_some, Act.put, List.setIfInBounds_toArray, List.set_cons_succ, List.set_cons_zero]
    go_wp2
    exact ⟨rfl, Below.refl _ _, rfl⟩
  case o7rm =>
    intro w' hb v1 hv1
    obtain rfl : v1 = _ := hv1
    have c_y_0' : w'.cell? ⟨b_y, 0, none⟩ = some (.string qn) := (hb.cell (World.block_lt_of_cell? _ _ c_y_0)).trans c_y_0
    have c_y_1' : w'.cell? ⟨b_y, 1, none⟩ = some (.string qd) := (hb.cell (World.block_lt_of_cell? _ _ c_y_1)).trans c_y_1
    show wpList _ _ _ _ _ _
    simp only [Grow.dstOf, List.getElem?_toArray, List.getElem?_cons_succ, List.getElem?_cons_zero, Option.bind_some, Act.put, List.setIfInBounds_toArray, List.set_cons_succ, List.set_cons_zero]
    go_wp2
    exact ⟨rfl, Below.refl _ _, rfl⟩
  case o8rm =>
    intro w' hb v1 hv1 v2 hv2 v3 hv3
    obtain rfl : v1 = _ := hv1
    obtain rfl : v2 = _ := hv2
    obtain rfl : v3 = _ := hv3
    show wpList _ _ _ _ _ _
    simp only [Grow.dstOf, List.getElem?_toArray, List.getElem?_cons_succ, List.getElem?_cons_zero, Option.bind_some, Act.put, List.setIfInBounds_toArray, List.set_cons_succ, List.set_cons_zero]
    go_wp2
    exact ⟨rfl, Below.refl _ _, rfl⟩
  case o9rm =>
    intro w' hb v1 hv1 v2 hv2
    obtain rfl : v1 = _ := hv1
    obtain rfl : v2 = _ := hv2
    show wpList _ _ _ _ _ _
    simp only [Grow.dstOf, List.getElem?_toArray, List.getElem?_cons_succ, List.getElem?_cons_zero, Option.bind_some, Act.put, List.setIfInBounds_toArray, List.set_cons_succ, List.set_cons_zero]
    go_wp2
    exact ⟨rfl, Below.refl _ _, rfl⟩
  case o10rm =>
    intro w' hb v1 hv1
    obtain rfl : v1 = _ := hv1
    show wpList _ _ _ _ _ _
    simp only [Grow.dstOf, List.getElem?_toArray, List.getElem?_cons_succ, List.getElem?_cons_zero, Option.bind_some, Act.put, List.setIfInBounds_toArray, List.set_cons_succ, List.set_cons_zero]
    go_wp2
    exact ⟨rfl, Below.refl _ _, rfl⟩
  case o11rm =>
    intro w' hb v1 hv1
    obtain rfl : v1 = _ := hv1
    show wpList _ _ _ _ _ _
    simp only [Grow.dstOf, List.getElem?_toArray, List.getElem?_cons_succ, List.getElem?_cons_zero, Option.bind_some, Act.put, List.setIfInBounds_toArray, List.set_cons_succ, List.set_cons_zero]
    go_wp2
    exact ⟨rfl, Below.refl _ _, rfl⟩
  case o12rm =>
    intro w' hb v1 hv1
    obtain rfl : v1 = _ := hv1
    show wpList _ _ _ _ _ _
    simp only [Grow.dstOf, List.getElem?_toArray, List.getElem?_cons_succ, List.getElem?_cons_zero, Option.bind_some, Act.put, List.setIfInBounds_toArray, List.set_cons_succ, List.set_cons_zero]
    go_wp2
    exact ⟨rfl, Below.refl _ _, rfl⟩
  case o13rm =>
    intro w' hb v1 hv1 v2 hv2 v3 hv3
    obtain rfl : v1 = _ := hv1
    obtain rfl : v2 = _ := hv2
    obtain rfl : v3 = _ := hv3
    show wpList _ _ _ _ _ _
    simp only [Grow.dstOf, List.getElem?_toArray, List.getElem?_cons_succ, List.getElem?_cons_zero, Option.bind_some, Act.put, List.setIfInBounds_toArray, List.set_cons_succ, List.set_cons_zero]
    go_wp2
    exact ⟨rfl, Below.refl _ _, rfl⟩
  intro w6' hbz u0 hu0 u1 hu1 u2 hu2 u3 hu3 u4 hu4 u5 hu5 u6 hu6 u7 hu7 u8 hu8 u9 hu9 u10 hu10 u11 hu11 u12 hu12 u13 hu13
  obtain rfl : u0 = _ := hu0
  obtain rfl : u1 = _ := hu1
  obtain rfl : u2 = _ := hu2
  obtain rfl : u3 = _ := hu3
  obtain rfl : u4 = _ := hu4
  obtain rfl : u5 = _ := hu5
  obtain rfl : u6 = _ := hu6
  obtain rfl : u7 = _ := hu7
  obtain rfl : u8 = _ := hu8
  obtain rfl : u9 = _ := hu9
  obtain rfl : u10 = _ := hu10
  obtain rfl : u11 = _ := hu11
  obtain rfl : u12 = _ := hu12
  obtain rfl : u13 = _ := hu13
  replace HB_a := Lib.hid (HB_a.out.ext hbz)
  replace HB_b := Lib.hid (HB_b.out.ext hbz)
  replace HF_x := Lib.hid (HF_x.out.ext HB_x.out hbz)
  replace HB_x := Lib.hid (HB_x.out.ext hbz)
  replace HF_y := Lib.hid (HF_y.out.ext HB_y.out hbz)
  replace HB_y := Lib.hid (HB_y.out.ext hbz)
  replace HW := Lib.hid (ext_trans HW.out hbz)
  clear c_a_0 c_a_1 c_x_0 c_x_1 c_y_0 c_y_1
  clear hbz
  show wpList _ _ _ _ _ _
  simp only [Act.put, List.setIfInBounds_toArray, List.set_cons_succ, List.set_cons_zero]
  have c_a_0 : w6'.cell? ⟨w.heap.size, 0, none⟩ = some (.string n1) := HB_a.out.2 0
  have c_a_1 : w6'.cell? ⟨w.heap.size, 1, none⟩ = some (.string d1) := HB_a.out.2 1
  have c_b_0 : w6'.cell? ⟨(w.heap.size + 1), 0, none⟩ = some (.string n2) := HB_b.out.2 0
  have c_b_1 : w6'.cell? ⟨(w.heap.size + 1), 1, none⟩ = some (.string d2) := HB_b.out.2 1
  go_wp2_with fail
  refine (sum_at n1 d1 n2 d2 HSZ.out.1.1 HSZ.out.1.2 HSZ.out.2.1 HSZ.out.2.2 w6').mono ?_
  rintro e w7' ⟨rfl, hbz⟩
  rw [H_sn.out.1, H_sn.out.2.1, H_sn.out.2.2]
  replace HB_a := Lib.hid (HB_a.out.ext hbz)
  replace HB_b := Lib.hid (HB_b.out.ext hbz)
  replace HF_x := Lib.hid (HF_x.out.ext HB_x.out hbz)
  replace HB_x := Lib.hid (HB_x.out.ext hbz)
  replace HF_y := Lib.hid (HF_y.out.ext HB_y.out hbz)
  replace HB_y := Lib.hid (HB_y.out.ext hbz)
  replace HW := Lib.hid (ext_trans HW.out hbz)
  clear c_a_0 c_a_1 c_b_0 c_b_1
  clear hbz
  have c_x_0 : w7'.cell? ⟨b_x, 0, none⟩ = some (.string qn) := HB_x.out.2 0
  have c_x_1 : w7'.cell? ⟨b_x, 1, none⟩ = some (.string qd) := HB_x.out.2 1
  have f_x_0 := HF_x.out 0
  have f_x_1 := HF_x.out 1
  go_upto_region 6 with (fail)
  obtain ⟨w8', hX⟩ : ∃ X, X = ((w7'.setCell ⟨b_x, 0, none⟩ (.string sn)).setCell ⟨b_x, 1, none⟩ (.string sd)) := ⟨_, rfl⟩
  rw [← hX]
  have nB_a : Hid (Box w8' w.heap.size #[.string n1, .string d1]) := by rw [hX]; exact Lib.hid (boxn_other (boxn_other (HB_a.out) (Nat.ne_of_lt lt_a_x) 0 (.string sn)) (Nat.ne_of_lt lt_a_x) 1 (.string sd))
  have nB_b : Hid (Box w8' (w.heap.size + 1) #[.string n2, .string d2]) := by rw [hX]; exact Lib.hid (boxn_other (boxn_other (HB_b.out) (Nat.ne_of_lt lt_b_x) 0 (.string sn)) (Nat.ne_of_lt lt_b_x) 1 (.string sd))
  have nB_x : Hid (Box w8' b_x #[.string sn, .string sd]) := by rw [hX]; exact Lib.hid (boxn_cell (boxn_cell (HB_x.out) (j := 0) (by simp) (.string sn)) (j := 1) (by simp) (.string sd))
  have nF_x : Hid (Fre w8' b_x) := by rw [hX]; exact Lib.hid (fun j => by simp only [World.frozen?_setCell]; exact HF_x.out j)
  have nB_y : Hid (Box w8' b_y #[.string qn, .string qd]) := by rw [hX]; exact Lib.hid (boxn_other (boxn_other (HB_y.out) (Nat.ne_of_gt lt_x_y) 0 (.string sn)) (Nat.ne_of_gt lt_x_y) 1 (.string sd))
  have nF_y : Hid (Fre w8' b_y) := by rw [hX]; exact Lib.hid (fun j => by simp only [World.frozen?_setCell]; exact HF_y.out j)
  have nW : Hid (Below w.heap.size w w8') := by rw [hX]; exact Lib.hid (((HW.out).setCell (p := ⟨b_x, 0, none⟩) le_x (.string sn)).setCell (p := ⟨b_x, 1, none⟩) le_x (.string sd))
  clear c_x_0 c_x_1 f_x_0 f_x_1
  clear hX HB_a HB_b HB_x HF_x HB_y HF_y HW
  have HB_a := nB_a
  have HB_b := nB_b
  have HB_x := nB_x; have HF_x := nF_x
  have HB_y := nB_y; have HF_y := nF_y
  have HW := nW
  clear nW nB_a nB_b nB_x nF_x nB_y nF_y
  have c_a_0 : w8'.cell? ⟨w.heap.size, 0, none⟩ = some (.string n1) := HB_a.out.2 0
  have c_a_1 : w8'.cell? ⟨w.heap.size, 1, none⟩ = some (.string d1) := HB_a.out.2 1
  have c_b_0 : w8'.cell? ⟨(w.heap.size + 1), 0, none⟩ = some (.string n2) := HB_b.out.2 0
  have c_b_1 : w8'.cell? ⟨(w.heap.size + 1), 1, none⟩ = some (.string d2) := HB_b.out.2 1
  go_wp2_with fail
  refine (refSum_at n1 d1 n2 d2 HSZ.out.1.1 HSZ.out.1.2 HSZ.out.2.1 HSZ.out.2.2 w8' (HT0.out.ext HW.out)).mono ?_
  rintro e w9' ⟨rfl, hbz⟩
  rw [H_sn.out.1, H_sn.out.2.1, H_sn.out.2.2]
  replace HB_a := Lib.hid (HB_a.out.ext hbz)
  replace HB_b := Lib.hid (HB_b.out.ext hbz)
  replace HF_x := Lib.hid (HF_x.out.ext HB_x.out hbz)
  replace HB_x := Lib.hid (HB_x.out.ext hbz)
  replace HF_y := Lib.hid (HF_y.out.ext HB_y.out hbz)
  replace HB_y := Lib.hid (HB_y.out.ext hbz)
  replace HW := Lib.hid (ext_trans HW.out hbz)
  clear c_a_0 c_a_1 c_b_0 c_b_1
  clear hbz
  have c_y_0 : w9'.cell? ⟨b_y, 0, none⟩ = some (.string qn) := HB_y.out.2 0
  have c_y_1 : w9'.cell? ⟨b_y, 1, none⟩ = some (.string qd) := HB_y.out.2 1
  have f_y_0 := HF_y.out 0
  have f_y_1 := HF_y.out 1
  go_upto_region 7 with (fail)
  obtain ⟨w10', hX⟩ : ∃ X, X = ((w9'.setCell ⟨b_y, 0, none⟩ (.string sn)).setCell ⟨b_y, 1, none⟩ (.string sd)) := ⟨_, rfl⟩
  rw [← hX]
  have nB_a : Hid (Box w10' w.heap.size #[.string n1, .string d1]) := by rw [hX]; exact Lib.hid (boxn_other (boxn_other (HB_a.out) (Nat.ne_of_lt lt_a_y) 0 (.string sn)) (Nat.ne_of_lt lt_a_y) 1 (.string sd))
  have nB_b : Hid (Box w10' (w.heap.size + 1) #[.string n2, .string d2]) := by rw [hX]; exact Lib.hid (boxn_other (boxn_other (HB_b.out) (Nat.ne_of_lt lt_b_y) 0 (.string sn)) (Nat.ne_of_lt lt_b_y) 1 (.string sd))
  have nB_x : Hid (Box w10' b_x #[.string sn, .string sd]) := by rw [hX]; exact Lib.hid (boxn_other (boxn_other (HB_x.out) (Nat.ne_of_lt lt_x_y) 0 (.string sn)) (Nat.ne_of_lt lt_x_y) 1 (.string sd))
  have nF_x : Hid (Fre w10' b_x) := by rw [hX]; exact Lib.hid (fun j => by simp only [World.frozen?_setCell]; exact HF_x.out j)
  have nB_y : Hid (Box w10' b_y #[.string sn, .string sd]) := by rw [hX]; exact Lib.hid (boxn_cell (boxn_cell (HB_y.out) (j := 0) (by simp) (.string sn)) (j := 1) (by simp) (.string sd))
  have nF_y : Hid (Fre w10' b_y) := by rw [hX]; exact Lib.hid (fun j => by simp only [World.frozen?_setCell]; exact HF_y.out j)
  have nW : Hid (Below w.heap.size w w10') := by rw [hX]; exact Lib.hid (((HW.out).setCell (p := ⟨b_y, 0, none⟩) le_y (.string sn)).setCell (p := ⟨b_y, 1, none⟩) le_y (.string sd))
  clear c_y_0 c_y_1 f_y_0 f_y_1
  clear hX HB_a HB_b HB_x HF_x HB_y HF_y HW
  have HB_a := nB_a
  have HB_b := nB_b
  have HB_x := nB_x; have HF_x := nF_x
  have HB_y := nB_y; have HF_y := nF_y
  have HW := nW
  clear nW nB_a nB_b nB_x nF_x nB_y nF_y
  have c_x_0 : w10'.cell? ⟨b_x, 0, none⟩ = some (.string sn) := HB_x.out.2 0
  have c_x_1 : w10'.cell? ⟨b_x, 1, none⟩ = some (.string sd) := HB_x.out.2 1
  have c_y_0 : w10'.cell? ⟨b_y, 0, none⟩ = some (.string sn) := HB_y.out.2 0
  have c_y_1 : w10'.cell? ⟨b_y, 1, none⟩ = some (.string sd) := HB_y.out.2 1
  go_upto_region 9 with (fail)
  clear c_x_0 c_x_1 c_y_0 c_y_1
  have c_a_0 : w10'.cell? ⟨w.heap.size, 0, none⟩ = some (.string n1) := HB_a.out.2 0
  have c_a_1 : w10'.cell? ⟨w.heap.size, 1, none⟩ = some (.string d1) := HB_a.out.2 1
  have c_b_0 : w10'.cell? ⟨(w.heap.size + 1), 0, none⟩ = some (.string n2) := HB_b.out.2 0
  have c_b_1 : w10'.cell? ⟨(w.heap.size + 1), 1, none⟩ = some (.string d2) := HB_b.out.2 1
  go_wp2_with fail
  refine (product_at n1 d1 n2 d2 HSZ.out.1.1 HSZ.out.1.2 HSZ.out.2.1 HSZ.out.2.2 w10').mono ?_
  rintro e w11' ⟨rfl, hbz⟩
  rw [H_pn.out.1, H_pn.out.2.1, H_pn.out.2.2]
  replace HB_a := Lib.hid (HB_a.out.ext hbz)
  replace HB_b := Lib.hid (HB_b.out.ext hbz)
  replace HF_x := Lib.hid (HF_x.out.ext HB_x.out hbz)
  replace HB_x := Lib.hid (HB_x.out.ext hbz)
  replace HF_y := Lib.hid (HF_y.out.ext HB_y.out hbz)
  replace HB_y := Lib.hid (HB_y.out.ext hbz)
  replace HW := Lib.hid (ext_trans HW.out hbz)
  clear c_a_0 c_a_1 c_b_0 c_b_1
  clear hbz
  have c_x_0 : w11'.cell? ⟨b_x, 0, none⟩ = some (.string sn) := HB_x.out.2 0
  have c_x_1 : w11'.cell? ⟨b_x, 1, none⟩ = some (.string sd) := HB_x.out.2 1
  have f_x_0 := HF_x.out 0
  have f_x_1 := HF_x.out 1
  go_upto_region 10 with (fail)
  obtain ⟨w12', hX⟩ : ∃ X, X = ((w11'.setCell ⟨b_x, 0, none⟩ (.string pn)).setCell ⟨b_x, 1, none⟩ (.string pd)) := ⟨_, rfl⟩
  rw [← hX]
  have nB_a : Hid (Box w12' w.heap.size #[.string n1, .string d1]) := by rw [hX]; exact Lib.hid (boxn_other (boxn_other (HB_a.out) (Nat.ne_of_lt lt_a_x) 0 (.string pn)) (Nat.ne_of_lt lt_a_x) 1 (.string pd))
  have nB_b : Hid (Box w12' (w.heap.size + 1) #[.string n2, .string d2]) := by rw [hX]; exact Lib.hid (boxn_other (boxn_other (HB_b.out) (Nat.ne_of_lt lt_b_x) 0 (.string pn)) (Nat.ne_of_lt lt_b_x) 1 (.string pd))
  have nB_x : Hid (Box w12' b_x #[.string pn, .string pd]) := by rw [hX]; exact Lib.hid (boxn_cell (boxn_cell (HB_x.out) (j := 0) (by simp) (.string pn)) (j := 1) (by simp) (.string pd))
  have nF_x : Hid (Fre w12' b_x) := by rw [hX]; exact Lib.hid (fun j => by simp only [World.frozen?_setCell]; exact HF_x.out j)
  have nB_y : Hid (Box w12' b_y #[.string sn, .string sd]) := by rw [hX]; exact Lib.hid (boxn_other (boxn_other (HB_y.out) (Nat.ne_of_gt lt_x_y) 0 (.string pn)) (Nat.ne_of_gt lt_x_y) 1 (.string pd))
  have nF_y : Hid (Fre w12' b_y) := by rw [hX]; exact Lib.hid (fun j => by simp only [World.frozen?_setCell]; exact HF_y.out j)
  have nW : Hid (Below w.heap.size w w12') := by rw [hX]; exact Lib.hid (((HW.out).setCell (p := ⟨b_x, 0, none⟩) le_x (.string pn)).setCell (p := ⟨b_x, 1, none⟩) le_x (.string pd))
  clear c_x_0 c_x_1 f_x_0 f_x_1
  clear hX HB_a HB_b HB_x HF_x HB_y HF_y HW
  have HB_a := nB_a
  have HB_b := nB_b
  have HB_x := nB_x; have HF_x := nF_x
  have HB_y := nB_y; have HF_y := nF_y
  have HW := nW
  clear nW nB_a nB_b nB_x nF_x nB_y nF_y
  have c_a_0 : w12'.cell? ⟨w.heap.size, 0, none⟩ = some (.string n1) := HB_a.out.2 0
  have c_a_1 : w12'.cell? ⟨w.heap.size, 1, none⟩ = some (.string d1) := HB_a.out.2 1
  have c_b_0 : w12'.cell? ⟨(w.heap.size + 1), 0, none⟩ = some (.string n2) := HB_b.out.2 0
  have c_b_1 : w12'.cell? ⟨(w.heap.size + 1), 1, none⟩ = some (.string d2) := HB_b.out.2 1
  go_wp2_with fail
  refine (refProduct_at n1 d1 n2 d2 HSZ.out.1.1 HSZ.out.1.2 HSZ.out.2.1 HSZ.out.2.2 w12' (HT0.out.ext HW.out)).mono ?_
  rintro e w13' ⟨rfl, hbz⟩
  rw [H_pn.out.1, H_pn.out.2.1, H_pn.out.2.2]
  replace HB_a := Lib.hid (HB_a.out.ext hbz)
  replace HB_b := Lib.hid (HB_b.out.ext hbz)
  replace HF_x := Lib.hid (HF_x.out.ext HB_x.out hbz)
  replace HB_x := Lib.hid (HB_x.out.ext hbz)
  replace HF_y := Lib.hid (HF_y.out.ext HB_y.out hbz)
  replace HB_y := Lib.hid (HB_y.out.ext hbz)
  replace HW := Lib.hid (ext_trans HW.out hbz)
  clear c_a_0 c_a_1 c_b_0 c_b_1
  clear hbz
  have c_y_0 : w13'.cell? ⟨b_y, 0, none⟩ = some (.string sn) := HB_y.out.2 0
  have c_y_1 : w13'.cell? ⟨b_y, 1, none⟩ = some (.string sd) := HB_y.out.2 1
  have f_y_0 := HF_y.out 0
  have f_y_1 := HF_y.out 1
  go_upto_region 11 with (fail)
  obtain ⟨w14', hX⟩ : ∃ X, X = ((w13'.setCell ⟨b_y, 0, none⟩ (.string pn)).setCell ⟨b_y, 1, none⟩ (.string pd)) := ⟨_, rfl⟩
  rw [← hX]
  have nB_a : Hid (Box w14' w.heap.size #[.string n1, .string d1]) := by rw [hX]; exact Lib.hid (boxn_other (boxn_other (HB_a.out) (Nat.ne_of_lt lt_a_y) 0 (.string pn)) (Nat.ne_of_lt lt_a_y) 1 (.string pd))
  have nB_b : Hid (Box w14' (w.heap.size + 1) #[.string n2, .string d2]) := by rw [hX]; exact Lib.hid (boxn_other (boxn_other (HB_b.out) (Nat.ne_of_lt lt_b_y) 0 (.string pn)) (Nat.ne_of_lt lt_b_y) 1 (.string pd))
  have nB_x : Hid (Box w14' b_x #[.string pn, .string pd]) := by rw [hX]; exact Lib.hid (boxn_other (boxn_other (HB_x.out) (Nat.ne_of_lt lt_x_y) 0 (.string pn)) (Nat.ne_of_lt lt_x_y) 1 (.string pd))
  have nF_x : Hid (Fre w14' b_x) := by rw [hX]; exact Lib.hid (fun j => by simp only [World.frozen?_setCell]; exact HF_x.out j)
  have nB_y : Hid (Box w14' b_y #[.string pn, .string pd]) := by rw [hX]; exact Lib.hid (boxn_cell (boxn_cell (HB_y.out) (j := 0) (by simp) (.string pn)) (j := 1) (by simp) (.string pd))
  have nF_y : Hid (Fre w14' b_y) := by rw [hX]; exact Lib.hid (fun j => by simp only [World.frozen?_setCell]; exact HF_y.out j)
  have nW : Hid (Below w.heap.size w w14') := by rw [hX]; exact Lib.hid (((HW.out).setCell (p := ⟨b_y, 0, none⟩) le_y (.string pn)).setCell (p := ⟨b_y, 1, none⟩) le_y (.string pd))
  clear c_y_0 c_y_1 f_y_0 f_y_1
  clear hX HB_a HB_b HB_x HF_x HB_y HF_y HW
  have HB_a := nB_a
  have HB_b := nB_b
  have HB_x := nB_x; have HF_x := nF_x
  have HB_y := nB_y; have HF_y := nF_y
  have HW := nW
  clear nW nB_a nB_b nB_x nF_x nB_y nF_y
  have c_x_0 : w14'.cell? ⟨b_x, 0, none⟩ = some (.string pn) := HB_x.out.2 0
  have c_x_1 : w14'.cell? ⟨b_x, 1, none⟩ = some (.string pd) := HB_x.out.2 1
  have c_y_0 : w14'.cell? ⟨b_y, 0, none⟩ = some (.string pn) := HB_y.out.2 0
  have c_y_1 : w14'.cell? ⟨b_y, 1, none⟩ = some (.string pd) := HB_y.out.2 1
  go_upto_region 13 with (fail)
  clear c_x_0 c_x_1 c_y_0 c_y_1
  have c_a_0 : w14'.cell? ⟨w.heap.size, 0, none⟩ = some (.string n1) := HB_a.out.2 0
  have c_a_1 : w14'.cell? ⟨w.heap.size, 1, none⟩ = some (.string d1) := HB_a.out.2 1
  go_wp2_with fail
  refine (inverse_at n1 d1 HSZ.out.1.1 HSZ.out.1.2 w14').mono ?_
  rintro e w15' ⟨rfl, hbz⟩
  rw [H_vn.out.1, H_vn.out.2.1, H_vn.out.2.2]
  replace HB_a := Lib.hid (HB_a.out.ext hbz)
  replace HB_b := Lib.hid (HB_b.out.ext hbz)
  replace HF_x := Lib.hid (HF_x.out.ext HB_x.out hbz)
  replace HB_x := Lib.hid (HB_x.out.ext hbz)
  replace HF_y := Lib.hid (HF_y.out.ext HB_y.out hbz)
  replace HB_y := Lib.hid (HB_y.out.ext hbz)
  replace HW := Lib.hid (ext_trans HW.out hbz)
  clear c_a_0 c_a_1
  clear hbz
  have c_x_0 : w15'.cell? ⟨b_x, 0, none⟩ = some (.string pn) := HB_x.out.2 0
  have c_x_1 : w15'.cell? ⟨b_x, 1, none⟩ = some (.string pd) := HB_x.out.2 1
  have f_x_0 := HF_x.out 0
  have f_x_1 := HF_x.out 1
  go_upto_region 14 with (fail)
  obtain ⟨w16', hX⟩ : ∃ X, X = ((w15'.setCell ⟨b_x, 0, none⟩ (.string vn)).setCell ⟨b_x, 1, none⟩ (.string vd)) := ⟨_, rfl⟩
  rw [← hX]
  have nB_a : Hid (Box w16' w.heap.size #[.string n1, .string d1]) := by rw [hX]; exact Lib.hid (boxn_other (boxn_other (HB_a.out) (Nat.ne_of_lt lt_a_x) 0 (.string vn)) (Nat.ne_of_lt lt_a_x) 1 (.string vd))
  have nB_b : Hid (Box w16' (w.heap.size + 1) #[.string n2, .string d2]) := by rw [hX]; exact Lib.hid (boxn_other (boxn_other (HB_b.out) (Nat.ne_of_lt lt_b_x) 0 (.string vn)) (Nat.ne_of_lt lt_b_x) 1 (.string vd))
  have nB_x : Hid (Box w16' b_x #[.string vn, .string vd]) := by rw [hX]; exact Lib.hid (boxn_cell (boxn_cell (HB_x.out) (j := 0) (by simp) (.string vn)) (j := 1) (by simp) (.string vd))
  have nF_x : Hid (Fre w16' b_x) := by rw [hX]; exact Lib.hid (fun j => by simp only [World.frozen?_setCell]; exact HF_x.out j)
  have nB_y : Hid (Box w16' b_y #[.string pn, .string pd]) := by rw [hX]; exact Lib.hid (boxn_other (boxn_other (HB_y.out) (Nat.ne_of_gt lt_x_y) 0 (.string vn)) (Nat.ne_of_gt lt_x_y) 1 (.string vd))
  have nF_y : Hid (Fre w16' b_y) := by rw [hX]; exact Lib.hid (fun j => by simp only [World.frozen?_setCell]; exact HF_y.out j)
  have nW : Hid (Below w.heap.size w w16') := by rw [hX]; exact Lib.hid (((HW.out).setCell (p := ⟨b_x, 0, none⟩) le_x (.string vn)).setCell (p := ⟨b_x, 1, none⟩) le_x (.string vd))
  clear c_x_0 c_x_1 f_x_0 f_x_1
  clear hX HB_a HB_b HB_x HF_x HB_y HF_y HW
  have HB_a := nB_a
  have HB_b := nB_b
  have HB_x := nB_x; have HF_x := nF_x
  have HB_y := nB_y; have HF_y := nF_y
  have HW := nW
  clear nW nB_a nB_b nB_x nF_x nB_y nF_y
  have c_a_0 : w16'.cell? ⟨w.heap.size, 0, none⟩ = some (.string n1) := HB_a.out.2 0
  have c_a_1 : w16'.cell? ⟨w.heap.size, 1, none⟩ = some (.string d1) := HB_a.out.2 1
  go_wp2_with fail
  refine (refInverse_at n1 d1 HSZ.out.1.1 HSZ.out.1.2 w16' (HT0.out.ext HW.out)).mono ?_
  rintro e w17' ⟨rfl, hbz⟩
  rw [H_vn.out.1, H_vn.out.2.1, H_vn.out.2.2]
  replace HB_a := Lib.hid (HB_a.out.ext hbz)
  replace HB_b := Lib.hid (HB_b.out.ext hbz)
  replace HF_x := Lib.hid (HF_x.out.ext HB_x.out hbz)
  replace HB_x := Lib.hid (HB_x.out.ext hbz)
  replace HF_y := Lib.hid (HF_y.out.ext HB_y.out hbz)
  replace HB_y := Lib.hid (HB_y.out.ext hbz)
  replace HW := Lib.hid (ext_trans HW.out hbz)
  clear c_a_0 c_a_1
  clear hbz
  have c_y_0 : w17'.cell? ⟨b_y, 0, none⟩ = some (.string pn) := HB_y.out.2 0
  have c_y_1 : w17'.cell? ⟨b_y, 1, none⟩ = some (.string pd) := HB_y.out.2 1
  have f_y_0 := HF_y.out 0
  have f_y_1 := HF_y.out 1
  go_upto_region 15 with (fail)
  obtain ⟨w18', hX⟩ : ∃ X, X = ((w17'.setCell ⟨b_y, 0, none⟩ (.string vn)).setCell ⟨b_y, 1, none⟩ (.string vd)) := ⟨_, rfl⟩
  rw [← hX]
  have nB_a : Hid (Box w18' w.heap.size #[.string n1, .string d1]) := by rw [hX]; exact Lib.hid (boxn_other (boxn_other (HB_a.out) (Nat.ne_of_lt lt_a_y) 0 (.string vn)) (Nat.ne_of_lt lt_a_y) 1 (.string vd))
  have nB_b : Hid (Box w18' (w.heap.size + 1) #[.string n2, .string d2]) := by rw [hX]; exact Lib.hid (boxn_other (boxn_other (HB_b.out) (Nat.ne_of_lt lt_b_y) 0 (.string vn)) (Nat.ne_of_lt lt_b_y) 1 (.string vd))
  have nB_x : Hid (Box w18' b_x #[.string vn, .string vd]) := by rw [hX]; exact Lib.hid (boxn_other (boxn_other (HB_x.out) (Nat.ne_of_lt lt_x_y) 0 (.string vn)) (Nat.ne_of_lt lt_x_y) 1 (.string vd))
  have nF_x : Hid (Fre w18' b_x) := by rw [hX]; exact Lib.hid (fun j => by simp only [World.frozen?_setCell]; exact HF_x.out j)
  have nB_y : Hid (Box w18' b_y #[.string vn, .string vd]) := by rw [hX]; exact Lib.hid (boxn_cell (boxn_cell (HB_y.out) (j := 0) (by simp) (.string vn)) (j := 1) (by simp) (.string vd))
  have nF_y : Hid (Fre w18' b_y) := by rw [hX]; exact Lib.hid (fun j => by simp only [World.frozen?_setCell]; exact HF_y.out j)
  have nW : Hid (Below w.heap.size w w18') := by rw [hX]; exact Lib.hid (((HW.out).setCell (p := ⟨b_y, 0, none⟩) le_y (.string vn)).setCell (p := ⟨b_y, 1, none⟩) le_y (.string vd))
  clear c_y_0 c_y_1 f_y_0 f_y_1
  clear hX HB_a HB_b HB_x HF_x HB_y HF_y HW
  have HB_a := nB_a
  have HB_b := nB_b
  have HB_x := nB_x; have HF_x := nF_x
  have HB_y := nB_y; have HF_y := nF_y
  have HW := nW
  clear nW nB_a nB_b nB_x nF_x nB_y nF_y
  have c_x_0 : w18'.cell? ⟨b_x, 0, none⟩ = some (.string vn) := HB_x.out.2 0
  have c_x_1 : w18'.cell? ⟨b_x, 1, none⟩ = some (.string vd) := HB_x.out.2 1
  have c_y_0 : w18'.cell? ⟨b_y, 0, none⟩ = some (.string vn) := HB_y.out.2 0
  have c_y_1 : w18'.cell? ⟨b_y, 1, none⟩ = some (.string vd) := HB_y.out.2 1
  go_upto_region 17 with (fail)
  clear c_x_0 c_x_1 c_y_0 c_y_1
  have c_a_0 : w18'.cell? ⟨w.heap.size, 0, none⟩ = some (.string n1) := HB_a.out.2 0
  have c_a_1 : w18'.cell? ⟨w.heap.size, 1, none⟩ = some (.string d1) := HB_a.out.2 1
  have c_b_0 : w18'.cell? ⟨(w.heap.size + 1), 0, none⟩ = some (.string n2) := HB_b.out.2 0
  have c_b_1 : w18'.cell? ⟨(w.heap.size + 1), 1, none⟩ = some (.string d2) := HB_b.out.2 1
  go_wp2_with fail
  refine (order_at n1 d1 n2 d2 HSZ.out.1.1 HSZ.out.1.2 HSZ.out.2.1 HSZ.out.2.2 w18').mono ?_
  rintro e w19' ⟨rfl, hbz⟩
  rw [H_ov.out.1, H_ov.out.2]
  replace HB_a := Lib.hid (HB_a.out.ext hbz)
  replace HB_b := Lib.hid (HB_b.out.ext hbz)
  replace HF_x := Lib.hid (HF_x.out.ext HB_x.out hbz)
  replace HB_x := Lib.hid (HB_x.out.ext hbz)
  replace HF_y := Lib.hid (HF_y.out.ext HB_y.out hbz)
  replace HB_y := Lib.hid (HB_y.out.ext hbz)
  replace HW := Lib.hid (ext_trans HW.out hbz)
  clear c_a_0 c_a_1 c_b_0 c_b_1
  clear hbz
  have c_a_0 : w19'.cell? ⟨w.heap.size, 0, none⟩ = some (.string n1) := HB_a.out.2 0
  have c_a_1 : w19'.cell? ⟨w.heap.size, 1, none⟩ = some (.string d1) := HB_a.out.2 1
  have c_b_0 : w19'.cell? ⟨(w.heap.size + 1), 0, none⟩ = some (.string n2) := HB_b.out.2 0
  have c_b_1 : w19'.cell? ⟨(w.heap.size + 1), 1, none⟩ = some (.string d2) := HB_b.out.2 1
  go_wp2_with fail
  refine (refOrder_at n1 d1 n2 d2 HSZ.out.1.1 HSZ.out.1.2 HSZ.out.2.1 HSZ.out.2.2 w19' (HT0.out.ext HW.out)).mono ?_
  rintro e w20' ⟨rfl, hbz⟩
  rw [H_ov.out.1, H_ov.out.2]
  replace HB_a := Lib.hid (HB_a.out.ext hbz)
  replace HB_b := Lib.hid (HB_b.out.ext hbz)
  replace HF_x := Lib.hid (HF_x.out.ext HB_x.out hbz)
  replace HB_x := Lib.hid (HB_x.out.ext hbz)
  replace HF_y := Lib.hid (HF_y.out.ext HB_y.out hbz)
  replace HB_y := Lib.hid (HB_y.out.ext hbz)
  replace HW := Lib.hid (ext_trans HW.out hbz)
  clear c_a_0 c_a_1 c_b_0 c_b_1
  clear hbz
  have c_a_0 : w20'.cell? ⟨w.heap.size, 0, none⟩ = some (.string n1) := HB_a.out.2 0
  have c_a_1 : w20'.cell? ⟨w.heap.size, 1, none⟩ = some (.string d1) := HB_a.out.2 1
  go_wp2_with fail
  refine (decimal_at n1 d1 HSZ.out.1.1 HSZ.out.1.2 p w20').mono ?_
  rintro e w21' ⟨rfl, hbz⟩
  rw [H_ms.out.1, H_ms.out.2]
  replace HB_a := Lib.hid (HB_a.out.ext hbz)
  replace HB_b := Lib.hid (HB_b.out.ext hbz)
  replace HF_x := Lib.hid (HF_x.out.ext HB_x.out hbz)
  replace HB_x := Lib.hid (HB_x.out.ext hbz)
  replace HF_y := Lib.hid (HF_y.out.ext HB_y.out hbz)
  replace HB_y := Lib.hid (HB_y.out.ext hbz)
  replace HW := Lib.hid (ext_trans HW.out hbz)
  clear c_a_0 c_a_1
  clear hbz
  have c_a_0 : w21'.cell? ⟨w.heap.size, 0, none⟩ = some (.string n1) := HB_a.out.2 0
  have c_a_1 : w21'.cell? ⟨w.heap.size, 1, none⟩ = some (.string d1) := HB_a.out.2 1
  go_wp2_with fail
  refine (refDecimal_at n1 d1 HSZ.out.1.1 HSZ.out.1.2 p w21' (HT0.out.ext HW.out)).mono ?_
  rintro e w22' ⟨rfl, hbz⟩
  rw [H_ms.out.1, H_ms.out.2]
  replace HB_a := Lib.hid (HB_a.out.ext hbz)
  replace HB_b := Lib.hid (HB_b.out.ext hbz)
  replace HF_x := Lib.hid (HF_x.out.ext HB_x.out hbz)
  replace HB_x := Lib.hid (HB_x.out.ext hbz)
  replace HF_y := Lib.hid (HF_y.out.ext HB_y.out hbz)
  replace HB_y := Lib.hid (HB_y.out.ext hbz)
  replace HW := Lib.hid (ext_trans HW.out hbz)
  clear c_a_0 c_a_1
  clear hbz
  go_wp2
  go_ret
  exact ⟨by simp, HW.out⟩
end Go.Proofs.YtmnmepbljegjeaaGreatDoor.lawRms
